/- Texts of this seat, laid together: LimbB, LimbC. Each opens with its own remark, which says what it proves, and under which conditions. -/
import Derived.Test.YtannhpadoooedaaDoorG02
/- limb: Mul. -/
namespace Go.Proofs.YtannhpadoooedaaDoor
open Num
open Go.ChangeShapes Go.WideShapes Go.ChangeAt Go.RowKit
set_option linter.unusedVariables false
set_option linter.unusedSimpArgs false
namespace Num
theorem val_set {l : List Nat} {k : Nat} (x : Nat) (hk : k < l.length) : val (l.set k x) + l.getD k 0 * BB ^ k = val l + x * BB ^ k := by
  induction l generalizing k with
  | nil => simp at hk
  | cons y l ih =>
    cases k with
    | zero => simp [val]; omega
    | succ k =>
      have := ih (k := k) (by simpa using hk)
      simp only [List.set_cons_succ, val, List.getD_cons_succ, Nat.pow_succ]
      have e := congrArg (BB * ·) this
      simp only [Nat.mul_add] at e
      have c1 : ∀ z : Nat, z * (BB ^ k * BB) = BB * (z * BB ^ k) := fun z => by rw [← Nat.mul_assoc, Nat.mul_comm]
      rw [c1, c1]
      omega
theorem limbs_set {l : List Nat} {k x : Nat} (h : Limbs l) (hx : x < BB) : Limbs (l.set k x) := by
  intro y hy
  rcases List.mem_or_eq_of_mem_set hy with h1 | rfl
  · exact h y h1
  · exact hx
theorem limb_get {l : List Nat} (h : Limbs l) (k : Nat) : l.getD k 0 < BB := by
  by_cases hk : k < l.length
  · simp only [List.getD_eq_getElem?_getD, List.getElem?_eq_getElem hk, Option.getD_some]; exact h _ (List.getElem_mem hk)
  · simp [hk, BB_pos, Nat.le_of_not_lt hk]
theorem val_take_succ {l : List Nat} {k : Nat} (hk : k < l.length) : val (l.take (k + 1)) = val (l.take k) + l.getD k 0 * BB ^ k := by
  rw [List.take_succ_eq_append_getElem hk, val_append]
  simp [val, hk, Nat.min_eq_left (Nat.le_of_lt hk), Nat.mul_comm]
/-- a step of the inner loop does not leave 64 bits -/
theorem step_lt {x y o c : Nat} (hx : x < BB) (hy : y < BB) (ho : o < BB) (hc : c < BB) : c + (x * y + o) < BB * BB := by
  have h1 : x * y ≤ (BB - 1) * (BB - 1) := Nat.mul_le_mul (by omega) (by omega)
  have h2 : (BB - 1) * (BB - 1) + (BB - 1) + (BB - 1) + 1 = BB * BB := by unfold BB; rfl
  omega
theorem w64 {x : Nat} (h : x < BB * BB) : IntKind.u64.wrap (x : Int) = (x : Int) := by
  have e : BB * BB = 18446744073709551616 := by unfold BB; rfl
  rw [e] at h
  simp only [IntKind.wrap, IntKind.bits, IntKind.signed]
  simp
  omega
theorem BB_sq (x : Nat) (h : x < BB) : x < BB * BB := by
  have e : BB * BB = 18446744073709551616 := by unfold BB; rfl
  unfold BB at *
  omega
end Num

set_option maxRecDepth 100000 in
set_option maxHeartbeats 2000000 in
theorem limbMul_c (a b : Option Addr) (ca cb : Nat) (l m : List Nat) (w : World) (ha : U32 w a ca l) (hb : U32 w b cb m) (h1 : l.length ≤ 1099511627776) (h2 : m.length ≤ 1099511627776) :
    Calls Tryd.prog 119 #[.slice a l.length ca, .slice b m.length cb] w fun e w' => (∃ a' n L, e = .returned (.slice a' n n) ∧ n = L.length ∧ U32 w' a' n L ∧ Nrm L ∧ val L = val l * val m) ∧ Below w.heap.size w w' := by
  have hmk := mk32 (l.length + m.length) (by omega)
  have ec : ((l.length + m.length : Nat) : Int) = (l.length : Int) + (m.length : Int) := by omega
  rw [ec] at hmk
  clear ec
  go_enter Tryd.func119, Tryd.ntmps119
  go_wp2
  clear hmk
  go_loopw [19] (fun x wr => ∃ (i : Nat) (O : List Nat), i ≤ l.length ∧ x = .int .i64 i ∧ Blk wr w.heap.size O ∧ O.length = l.length + m.length ∧ Limbs O ∧ (∀ j, i + m.length ≤ j → O.getD j 0 = 0) ∧ val O = val (l.take i) * val m ∧ Below w.heap.size w wr) (fun x _ => l.length - (intOf x).toNat)
  case atStart => exact ⟨0, List.replicate (l.length + m.length) 0, by omega, rfl, blk_new w _, by simp, (fun y hy => by simp at hy; rw [hy.2]; exact BB_pos), (fun j hj => by simp [List.getElem?_replicate]; split <;> rfl), by simp [val, val_zeros], bal (Below.refl _ _) _⟩
  case round =>
    obtain ⟨i, O, hi, rfl, hO, hOl, hOL, hO0, hV, hB⟩ := hrel
    by_cases hlt : i < l.length
    · rcases ha.2.2.2 with hl0 | ⟨ba, oa, rfl, hca⟩
      · subst hl0; simp at hlt
      have c0 := bkeep hB (hca i hlt)
      have hx := limb_get ha.2.2.1 i
      have HX := Lib.hid (val_take_succ hlt)
      generalize l.getD i 0 = x at *
      have HOl := Lib.hid hOl
      have HV := Lib.hid hV
      clear hOl hV
      go_wp2
      go_loopw [8, 26] (fun cv y wi => ∃ (k c : Nat) (Q : List Nat), k ≤ m.length ∧ y = .int .i64 k ∧ cv = .int .u64 c ∧ c < BB ∧ Blk wi w.heap.size Q ∧ Hid (Q.length = l.length + m.length) ∧ Limbs Q ∧ (∀ j, i + k ≤ j → Q.getD j 0 = O.getD j 0) ∧ Hid (val Q + c * BB ^ (i + k) = val O + x * val (m.take k) * BB ^ i) ∧ Below w.heap.size w wi) (fun _ y _ => m.length - (intOf y).toNat)
      case atStart => exact ⟨0, 0, O, by omega, rfl, rfl, BB_pos, hO, HOl, hOL, (fun _ _ => rfl), Lib.hid (by simp [val]), hB⟩
      case round =>
        rename World => wi
        obtain ⟨k, c, Q, hk, rfl, rfl, hcB, hQ, hQl, hQL, hQO, hQV, hB⟩ := hrel
        by_cases hkm : k < m.length
        · rcases hb.2.2.2 with hm0 | ⟨bb, ob, rfl, hcb⟩
          · subst hm0; simp at hkm
          have d0 := bkeep hB (hcb k hkm)
          have hy := limb_get hb.2.2.1 k
          have HY := Lib.hid (val_take_succ hkm)
          generalize m.getD k 0 = y at *
          have hql := hQl.out
          have q0 := hQ.cell (i + k) (by omega)
          have qf := hQ.frozen (i + k)
          have ho := limb_get hQL (i + k)
          have HSet := Lib.hid (val_set (l := Q) (k := i + k) ((c + (x * y + Q.getD (i + k) 0)) % BB) (by omega))
          generalize hoo : Q.getD (i + k) 0 = o at *
          have HO' := Lib.hid hoo
          clear hoo
          have hs := step_lt hx hy ho hcB
          have HS := Lib.hid hs
          clear hs
          have hql' : (i : Int) + (k : Int) < (l.length : Int) + (m.length : Int) := by omega
          have e1 := w64 (BB_sq x hx)
          have e2 := w64 (BB_sq y hy)
          have e3 := w64 (BB_sq o ho)
          have e4 : IntKind.u64.wrap ((x : Int) * (y : Int)) = (x : Int) * (y : Int) := by rw [← Int.natCast_mul]; exact w64 (by have := HS.out; omega)
          have e5 : IntKind.u64.wrap ((x : Int) * (y : Int) + (o : Int)) = ((x * y + o : Nat) : Int) := by rw [← Int.natCast_mul, ← Int.natCast_add]; exact w64 (by have := HS.out; omega)
          have e6 : IntKind.u64.wrap ((c : Int) + ((x * y + o : Nat) : Int)) = ((c + (x * y + o) : Nat) : Int) := by rw [← Int.natCast_add]; exact w64 (by have := HS.out; omega)
          have HT := Lib.hid (Nat.div_add_mod (c + (x * y + o)) BB)
          generalize hq : x * y + o = q at e5 e6 HT HSet HS
          generalize ht : c + q = t at e6 HT HSet HS
          have HTT := Lib.hid ht
          have HQQ := Lib.hid hq
          clear ht hq
          have qb := hQ.set (i + k) (t % BB)
          have ql := limbs_set hQL (k := i + k) (Nat.mod_lt t BB_pos)
          have eqb : ((t % BB : Nat) : Int) = (t : Int) % 4294967296 := by unfold BB; omega
          rw [eqb] at qb
          have bs := bset hB (p := ⟨w.heap.size, i + k, none⟩) (Nat.le_refl _) (.int .u32 ((t : Int) % 4294967296))
          go_wp2
          refine ⟨⟨k + 1, t / BB, Q.set (i + k) (t % BB), by omega, rfl, by unfold BB; simp, ?_, qb, Lib.hid (by simpa using hql), ql, ?_, Lib.hid ?_, bs⟩, by simp [intOf] <;> omega⟩
          · have := HS.out
            exact Nat.div_lt_of_lt_mul this
          · intro j hj
            rw [← hQO j (by omega)]
            simp [List.getD_eq_getElem?_getD, List.getElem?_set_ne (by omega : i + k ≠ j)]
          · have a1 := HSet.out
            have a2 := hQV.out
            have a3 := HT.out
            have a4 := HTT.out
            have a5 := HQQ.out
            rw [HY.out]
            have p1 : BB ^ (i + (k + 1)) = BB * BB ^ (i + k) := by rw [← Nat.add_assoc, Nat.pow_succ, Nat.mul_comm]
            have p2 : BB ^ (i + k) = BB ^ i * BB ^ k := Nat.pow_add _ _ _
            rw [p1]
            have a6 : t * BB ^ (i + k) = BB * (t / BB) * BB ^ (i + k) + t % BB * BB ^ (i + k) := by rw [← Nat.add_mul, a3]
            have a7 : t * BB ^ (i + k) = c * BB ^ (i + k) + x * y * BB ^ (i + k) + o * BB ^ (i + k) := by rw [← a4, ← a5]; simp only [Nat.add_mul]; omega
            have a8 : x * (val (List.take k m) + y * BB ^ k) * BB ^ i = x * val (List.take k m) * BB ^ i + x * y * BB ^ (i + k) := by
              rw [p2, Nat.mul_add, Nat.add_mul]; congr 1; ac_rfl
            have a9 : t / BB * (BB * BB ^ (i + k)) = BB * (t / BB) * BB ^ (i + k) := by ac_rfl
            rw [a8, a9]
            omega
        · obtain rfl : k = m.length := by omega
          have hql := hQl.out
          have HE := Lib.hid ((hQO (i + m.length) (by omega)).trans (hO0 (i + m.length) (by omega)))
          have qf := hQ.frozen (i + m.length)
          have HSet := Lib.hid (val_set (l := Q) (k := i + m.length) c (by omega))
          have q0 := hQ.cell (i + m.length) (by omega)
          have qb := hQ.set (i + m.length) c
          have ql := limbs_set hQL (k := i + m.length) hcB
          have ec : (c : Int) % 4294967296 = c := by unfold BB at hcB; omega
          have hql' : (i : Int) + (m.length : Int) < (l.length : Int) + (m.length : Int) := by omega
          have bs := bset hB (p := ⟨w.heap.size, i + m.length, none⟩) (Nat.le_refl _) (.int .u32 (c : Int))
          go_wp2
          refine ⟨⟨i + 1, Q.set (i + m.length) c, by omega, rfl, qb, by simpa using hql, ql, ?_, ?_, bs⟩, by simp [intOf] <;> omega⟩
          · intro j hj
            have e1 := hQO j (by omega)
            have e2 := hO0 j (by omega)
            refine Eq.trans ?_ (e1.trans e2)
            simp [List.getD_eq_getElem?_getD, List.getElem?_set_ne (by omega : i + m.length ≠ j)]
          · have a1 := HSet.out
            have a2 := hQV.out
            have a3 := HE.out
            have a4 := HV.out
            rw [HX.out, Nat.add_mul, ← a4]
            rw [a3] at a1
            rw [List.take_length] at a2
            have a5 : x * BB ^ i * val m = x * val m * BB ^ i := by ac_rfl
            rw [a5]
            omega
    · obtain rfl : i = l.length := by omega
      have hu := hO.u32 hOL (by unfold maxLen; omega)
      have tc := trim_c _ _ _ _ hu
      have HT := Lib.hid (val_trim O)
      have HN := trim_nrm O
      have hu2 := hu.trim
      generalize trimL O = T at *
      rw [hOl] at tc
      clear hOl
      go_wp2_with fail
      refine tc.mono ?_
      rintro e w1 ⟨rfl, rfl⟩
      clear tc
      go_wp2
      go_ret
      exact ⟨⟨_, _, T, rfl, rfl, hu2, HN, by rw [HT.out, hV, List.take_length]⟩, hB⟩
end Go.Proofs.YtannhpadoooedaaDoor
/- limb: Cmp. -/
namespace Go.Proofs.YtannhpadoooedaaDoor
open Num
open Go.ChangeShapes Go.WideShapes Go.ChangeAt Go.RowKit
set_option linter.unusedVariables false
set_option linter.unusedSimpArgs false
namespace Num
/-- less, like, more -/
def cmpN (x y : Nat) : Int := if x < y then -1 else if x = y then 0 else 1
theorem cmpN_lt {x y : Nat} (h : x < y) : cmpN x y = -1 := by unfold cmpN; rw [if_pos h]
theorem cmpN_eq {x y : Nat} (h : x = y) : cmpN x y = 0 := by unfold cmpN; rw [if_neg (by omega), if_pos h]
theorem cmpN_gt {x y : Nat} (h : y < x) : cmpN x y = 1 := by unfold cmpN; rw [if_neg (by omega), if_neg (by omega)]
theorem val_split {l : List Nat} {k : Nat} (hk : k < l.length) : val l = val (l.take k) + BB ^ k * (l.getD k 0 + BB * val (l.drop (k + 1))) := by
  have e : l = l.take k ++ (l.getD k 0 :: l.drop (k + 1)) := by
    conv => lhs; rw [← List.take_append_drop k l, List.drop_eq_getElem_cons hk]
    simp [hk]
  conv => lhs; rw [e, val_append]
  simp only [val, List.length_take, Nat.min_eq_left (Nat.le_of_lt hk)]
theorem limbs_take {l : List Nat} (h : Limbs l) (k : Nat) : Limbs (l.take k) := fun x hx => h x (List.mem_of_mem_take hx)
theorem val_lt_of_top {l m : List Nat} {k : Nat} (hk : k < l.length) (hm : k < m.length) (hl : Limbs l) (hd : l.drop (k + 1) = m.drop (k + 1)) (h : l.getD k 0 < m.getD k 0) : val l < val m := by
  rw [val_split hk, val_split hm, hd]
  have h1 := val_lt (limbs_take hl k)
  rw [List.length_take, Nat.min_eq_left (Nat.le_of_lt hk)] at h1
  have h2 : BB ^ k * (l.getD k 0 + BB * val (m.drop (k + 1)) + 1) ≤ BB ^ k * (m.getD k 0 + BB * val (m.drop (k + 1))) := Nat.mul_le_mul_left _ (by omega)
  rw [Nat.mul_add _ _ 1] at h2
  omega
theorem val_lt_of_len {l m : List Nat} (hl : Limbs l) (nm : Nrm m) (h : l.length < m.length) : val l < val m := by
  have h1 := val_lt hl
  have h2 := nrm_val_pos nm (by intro e; subst e; simp at h)
  have h3 : BB ^ l.length ≤ BB ^ (m.length - 1) := Nat.pow_le_pow_right BB_pos (by omega)
  omega
theorem drop_step {l m : List Nat} {k : Nat} (hk : k < l.length) (hm : k < m.length) (hd : l.drop (k + 1) = m.drop (k + 1)) (h : l.getD k 0 = m.getD k 0) : l.drop k = m.drop k := by
  rw [List.drop_eq_getElem_cons hk, List.drop_eq_getElem_cons hm, hd]
  simp [hk, hm] at h
  rw [h]
end Num

set_option maxRecDepth 100000 in
set_option maxHeartbeats 1000000 in
theorem limbCmp_c (a b : Option Addr) (ca cb : Nat) (l m : List Nat) (w : World) (ha : U32 w a ca l) (hb : U32 w b cb m) :
    Calls Tryd.prog 36 #[.slice a l.length ca, .slice b m.length cb] w fun e w' => e = .returned (.int .i64 (cmpN (val l) (val m))) ∧ Below w.heap.size w w' := by
  have tca := trim_c a ca l w ha
  have tcb := trim_c b cb m w hb
  have ha2 := ha.trim
  have hb2 := hb.trim
  have na := trim_nrm l
  have nb := trim_nrm m
  rw [← val_trim l, ← val_trim m]
  generalize trimL l = L at *
  generalize trimL m = M at *
  go_enter Tryd.func36, Tryd.ntmps36
  go_wp2_with fail
  refine tca.mono ?_
  rintro e w1 ⟨rfl, rfl⟩
  clear tca
  go_wp2_with fail
  refine tcb.mono ?_
  rintro e w1 ⟨rfl, rfl⟩
  clear tcb
  obtain ⟨_, hLm, hL, hLc⟩ := ha2
  obtain ⟨_, hMm, hM, hMc⟩ := hb2
  unfold maxLen at hLm hMm
  rcases Nat.lt_trichotomy L.length M.length with hlt | heq | hgt
  · go_wp2
    go_ret
    exact ⟨by rw [cmpN_lt (val_lt_of_len hL nb hlt)]; rfl, Below.refl _ _⟩
  · clear na nb
    have hc1 : ¬ (L.length < M.length) := by omega
    have hc2 : ¬ (M.length < L.length) := by omega
    have HQ := Lib.hid heq
    clear heq
    generalize hM' : M.length = n at *
    have HM := Lib.hid hM'
    clear hM'
    go_wp2
    go_loopw [5] (fun x wr => ∃ k : Nat, k ≤ n ∧ x = .int .i64 ((k : Int) - 1) ∧ L.drop k = M.drop k ∧ Below w.heap.size w wr) (fun x _ => (intOf x + 1).toNat)
    case atStart =>
      refine ⟨n, Nat.le_refl _, ?_, ?_, Below.refl _ _⟩
      · rw [HQ.out]
      · rw [List.drop_eq_nil_of_le (by have := HQ.out; omega), List.drop_eq_nil_of_le (by have := HM.out; omega)]
    case round =>
      obtain ⟨k, hk, rfl, hd, hB⟩ := hrel
      have HD := Lib.hid hd
      clear hd
      cases k with
      | zero =>
        go_wp2
        go_ret
        have e : L = M := by simpa using HD.out
        exact ⟨by rw [cmpN_eq (by rw [e])]; rfl, hB⟩
      | succ j =>
        have hjL : j < L.length := by have := HQ.out; omega
        have hjM : j < M.length := by have := HM.out; omega
        rcases hLc with rfl | ⟨ba, oa, rfl, hca⟩
        · simp at hjL
        rcases hMc with rfl | ⟨bb, ob, rfl, hcb⟩
        · simp at hjM
        have cj := bkeep hB (hca j hjL)
        have dj := bkeep hB (hcb j hjM)
        have HLt := Lib.hid (fun h => val_lt_of_top hjL hjM hL HD.out h)
        have HGt := Lib.hid (fun h => val_lt_of_top hjM hjL hM HD.out.symm h)
        have HEq := Lib.hid (fun h => drop_step hjL hjM HD.out h)
        have hjn : (j : Int) < (L.length : Int) := by omega
        generalize L.getD j 0 = x at *
        generalize M.getD j 0 = y at *
        rcases Nat.lt_trichotomy x y with h1 | h1 | h1
        · have h1' : (x : Int) < (y : Int) := by omega
          go_wp2
          go_quiet (fail)
          go_wp2
          go_ret
          exact ⟨by rw [cmpN_lt (HLt.out h1)]; rfl, by repeat (first | exact hB | refine below_drewN ?_ _)⟩
        · subst h1
          go_wp2
          go_quiet (fail)
          go_wp2
          go_quiet (fail)
          go_wp2
          exact ⟨⟨j, by omega, rfl, HEq.out (by trivial), by repeat (first | exact hB | refine below_drewN ?_ _)⟩, by simp [intOf] <;> omega⟩
        · have h1' : ¬ ((x : Int) < (y : Int)) := by omega
          have h1'' : ((y : Int) < (x : Int)) := by omega
          go_wp2
          go_quiet (fail)
          go_wp2
          go_quiet (fail)
          go_wp2
          go_ret
          exact ⟨by rw [cmpN_gt (HGt.out h1)]; rfl, by repeat (first | exact hB | refine below_drewN ?_ _)⟩
  · have hc1 : ¬ (L.length < M.length) := by omega
    go_wp2
    go_ret
    exact ⟨by rw [cmpN_gt (val_lt_of_len hM na hgt)]; rfl, Below.refl _ _⟩
end Go.Proofs.YtannhpadoooedaaDoor
