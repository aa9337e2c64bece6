/- Texts of this seat, laid together: LimbB, LimbC, NumB, IntA, IntB, IntC, IntD, PrgB, PrgC, PrgD, PrgE, PrgF. Each opens with its own remark, which says what it proves, and under which conditions. -/
import Derived.Test.YtbmaffijncapiaaGreatDoorD01
import Derived.Shelf.Small.Bits
import Derived.Laws.AppendOwn
import Derived.Deep.RegionWith
set_option linter.unusedVariables false
set_option linter.unusedSimpArgs false
/- limb: Mul. -/
namespace Go.Proofs.YtbmaffijncapiaaGreatDoor
open Num
open Go.ChangeShapes Go.WideShapes Go.ChangeAt Go.RowKit
set_option linter.unusedVariables false
set_option linter.unusedSimpArgs false
namespace Num
theorem val_set {l : List Nat} {k : Nat} (x : Nat) (hk : k < l.length) : val (l.set k x) + l.getD k 0 * BB ^ k = val l + x * BB ^ k := by
  induction l generalizing k with
  | nil => simp at hk
  | cons y l ih =>
    cases k with
    | zero => simp [val]; omega
    | succ k =>
      have := ih (k := k) (by simpa using hk)
      simp only [List.set_cons_succ, val, List.getD_cons_succ, Nat.pow_succ]
      have e := congrArg (BB * ·) this
      simp only [Nat.mul_add] at e
      have c1 : ∀ z : Nat, z * (BB ^ k * BB) = BB * (z * BB ^ k) := fun z => by rw [← Nat.mul_assoc, Nat.mul_comm]
      rw [c1, c1]
      omega
theorem limbs_set {l : List Nat} {k x : Nat} (h : Limbs l) (hx : x < BB) : Limbs (l.set k x) := by
  intro y hy
  rcases List.mem_or_eq_of_mem_set hy with h1 | rfl
  · exact h y h1
  · exact hx
theorem limb_get {l : List Nat} (h : Limbs l) (k : Nat) : l.getD k 0 < BB := by
  by_cases hk : k < l.length
  · simp only [List.getD_eq_getElem?_getD, List.getElem?_eq_getElem hk, Option.getD_some]; exact h _ (List.getElem_mem hk)
  · simp [hk, BB_pos, Nat.le_of_not_lt hk]
theorem val_take_succ {l : List Nat} {k : Nat} (hk : k < l.length) : val (l.take (k + 1)) = val (l.take k) + l.getD k 0 * BB ^ k := by
  rw [List.take_succ_eq_append_getElem hk, val_append]
  simp [val, hk, Nat.min_eq_left (Nat.le_of_lt hk), Nat.mul_comm]
theorem step_lt {x y o c : Nat} (hx : x < BB) (hy : y < BB) (ho : o < BB) (hc : c < BB) : c + (x * y + o) < BB * BB := by
  have h1 : x * y ≤ (BB - 1) * (BB - 1) := Nat.mul_le_mul (by omega) (by omega)
  have h2 : (BB - 1) * (BB - 1) + (BB - 1) + (BB - 1) + 1 = BB * BB := by unfold BB; rfl
  omega
theorem w64 {x : Nat} (h : x < BB * BB) : IntKind.u64.wrap (x : Int) = (x : Int) := by
  have e : BB * BB = 18446744073709551616 := by unfold BB; rfl
  rw [e] at h
  simp only [IntKind.wrap, IntKind.bits, IntKind.signed]
  simp
  omega
theorem BB_sq (x : Nat) (h : x < BB) : x < BB * BB := by
  have e : BB * BB = 18446744073709551616 := by unfold BB; rfl
  unfold BB at *
  omega
end Num

set_option maxRecDepth 100000 in
set_option maxHeartbeats 2000000 in
theorem limbMul_c (a b : Option Addr) (ca cb : Nat) (l m : List Nat) (w : World) (ha : U32 w a ca l) (hb : U32 w b cb m) (h1 : l.length ≤ 1099511627776) (h2 : m.length ≤ 1099511627776) :
    Calls Tryz.prog 140 #[.slice a l.length ca, .slice b m.length cb] w fun e w' => (∃ a' n L, e = .returned (.slice a' n n) ∧ n = L.length ∧ U32 w' a' n L ∧ Nrm L ∧ val L = val l * val m) ∧ Below w.heap.size w w' := by
  have hmk := mk32 (l.length + m.length) (by omega)
  have ec : ((l.length + m.length : Nat) : Int) = (l.length : Int) + (m.length : Int) := by omega
  rw [ec] at hmk
  clear ec
  go_enter Tryz.func140, Tryz.ntmps140
  go_wp2
  clear hmk
  go_loopw [19] (fun x wr => ∃ (i : Nat) (O : List Nat), i ≤ l.length ∧ x = .int .i64 i ∧ Blk wr w.heap.size O ∧ O.length = l.length + m.length ∧ Limbs O ∧ (∀ j, i + m.length ≤ j → O.getD j 0 = 0) ∧ val O = val (l.take i) * val m ∧ Below w.heap.size w wr) (fun x _ => l.length - (intOf x).toNat)
  case atStart => exact ⟨0, List.replicate (l.length + m.length) 0, by omega, rfl, blk_new w _, by simp, (fun y hy => by simp at hy; rw [hy.2]; exact BB_pos), (fun j hj => by simp [List.getElem?_replicate]; split <;> rfl), by simp [val, val_zeros], bal (Below.refl _ _) _⟩
  case round =>
    obtain ⟨i, O, hi, rfl, hO, hOl, hOL, hO0, hV, hB⟩ := hrel
    by_cases hlt : i < l.length
    · rcases ha.2.2.2 with hl0 | ⟨ba, oa, rfl, hca⟩
      · subst hl0; simp at hlt
      have c0 := bkeep hB (hca i hlt)
      have hx := limb_get ha.2.2.1 i
      have HX := Lib.hid (val_take_succ hlt)
      generalize l.getD i 0 = x at *
      have HOl := Lib.hid hOl
      have HV := Lib.hid hV
      clear hOl hV
      go_wp2
      go_loopw [8, 26] (fun cv y wi => ∃ (k c : Nat) (Q : List Nat), k ≤ m.length ∧ y = .int .i64 k ∧ cv = .int .u64 c ∧ c < BB ∧ Blk wi w.heap.size Q ∧ Hid (Q.length = l.length + m.length) ∧ Limbs Q ∧ (∀ j, i + k ≤ j → Q.getD j 0 = O.getD j 0) ∧ Hid (val Q + c * BB ^ (i + k) = val O + x * val (m.take k) * BB ^ i) ∧ Below w.heap.size w wi) (fun _ y _ => m.length - (intOf y).toNat)
      case atStart => exact ⟨0, 0, O, by omega, rfl, rfl, BB_pos, hO, HOl, hOL, (fun _ _ => rfl), Lib.hid (by simp [val]), hB⟩
      case round =>
        rename World => wi
        obtain ⟨k, c, Q, hk, rfl, rfl, hcB, hQ, hQl, hQL, hQO, hQV, hB⟩ := hrel
        by_cases hkm : k < m.length
        · rcases hb.2.2.2 with hm0 | ⟨bb, ob, rfl, hcb⟩
          · subst hm0; simp at hkm
          have d0 := bkeep hB (hcb k hkm)
          have hy := limb_get hb.2.2.1 k
          have HY := Lib.hid (val_take_succ hkm)
          generalize m.getD k 0 = y at *
          have hql := hQl.out
          have q0 := hQ.cell (i + k) (by omega)
          have qf := hQ.frozen (i + k)
          have ho := limb_get hQL (i + k)
          have HSet := Lib.hid (val_set (l := Q) (k := i + k) ((c + (x * y + Q.getD (i + k) 0)) % BB) (by omega))
          generalize hoo : Q.getD (i + k) 0 = o at *
          have HO' := Lib.hid hoo
          clear hoo
          have hs := step_lt hx hy ho hcB
          have HS := Lib.hid hs
          clear hs
          have hql' : (i : Int) + (k : Int) < (l.length : Int) + (m.length : Int) := by omega
          have e1 := w64 (BB_sq x hx)
          have e2 := w64 (BB_sq y hy)
          have e3 := w64 (BB_sq o ho)
          have e4 : IntKind.u64.wrap ((x : Int) * (y : Int)) = (x : Int) * (y : Int) := by rw [← Int.natCast_mul]; exact w64 (by have := HS.out; omega)
          have e5 : IntKind.u64.wrap ((x : Int) * (y : Int) + (o : Int)) = ((x * y + o : Nat) : Int) := by rw [← Int.natCast_mul, ← Int.natCast_add]; exact w64 (by have := HS.out; omega)
          have e6 : IntKind.u64.wrap ((c : Int) + ((x * y + o : Nat) : Int)) = ((c + (x * y + o) : Nat) : Int) := by rw [← Int.natCast_add]; exact w64 (by have := HS.out; omega)
          have HT := Lib.hid (Nat.div_add_mod (c + (x * y + o)) BB)
          generalize hq : x * y + o = q at e5 e6 HT HSet HS
          generalize ht : c + q = t at e6 HT HSet HS
          have HTT := Lib.hid ht
          have HQQ := Lib.hid hq
          clear ht hq
          have qb := hQ.set (i + k) (t % BB)
          have ql := limbs_set hQL (k := i + k) (Nat.mod_lt t BB_pos)
          have eqb : ((t % BB : Nat) : Int) = (t : Int) % 4294967296 := by unfold BB; omega
          rw [eqb] at qb
          have bs := bset hB (p := ⟨w.heap.size, i + k, none⟩) (Nat.le_refl _) (.int .u32 ((t : Int) % 4294967296))
          go_wp2
          refine ⟨⟨k + 1, t / BB, Q.set (i + k) (t % BB), by omega, rfl, by unfold BB; simp, ?_, qb, Lib.hid (by simpa using hql), ql, ?_, Lib.hid ?_, bs⟩, by simp [intOf] <;> omega⟩
          · have := HS.out
            exact Nat.div_lt_of_lt_mul this
          · intro j hj
            rw [← hQO j (by omega)]
            simp [List.getD_eq_getElem?_getD, List.getElem?_set_ne (by omega : i + k ≠ j)]
          · have a1 := HSet.out
            have a2 := hQV.out
            have a3 := HT.out
            have a4 := HTT.out
            have a5 := HQQ.out
            rw [HY.out]
            have p1 : BB ^ (i + (k + 1)) = BB * BB ^ (i + k) := by rw [← Nat.add_assoc, Nat.pow_succ, Nat.mul_comm]
            have p2 : BB ^ (i + k) = BB ^ i * BB ^ k := Nat.pow_add _ _ _
            rw [p1]
            have a6 : t * BB ^ (i + k) = BB * (t / BB) * BB ^ (i + k) + t % BB * BB ^ (i + k) := by rw [← Nat.add_mul, a3]
            have a7 : t * BB ^ (i + k) = c * BB ^ (i + k) + x * y * BB ^ (i + k) + o * BB ^ (i + k) := by rw [← a4, ← a5]; simp only [Nat.add_mul]; omega
            have a8 : x * (val (List.take k m) + y * BB ^ k) * BB ^ i = x * val (List.take k m) * BB ^ i + x * y * BB ^ (i + k) := by
              rw [p2, Nat.mul_add, Nat.add_mul]; congr 1; ac_rfl
            have a9 : t / BB * (BB * BB ^ (i + k)) = BB * (t / BB) * BB ^ (i + k) := by ac_rfl
            rw [a8, a9]
            omega
        · obtain rfl : k = m.length := by omega
          have hql := hQl.out
          have HE := Lib.hid ((hQO (i + m.length) (by omega)).trans (hO0 (i + m.length) (by omega)))
          have qf := hQ.frozen (i + m.length)
          have HSet := Lib.hid (val_set (l := Q) (k := i + m.length) c (by omega))
          have q0 := hQ.cell (i + m.length) (by omega)
          have qb := hQ.set (i + m.length) c
          have ql := limbs_set hQL (k := i + m.length) hcB
          have ec : (c : Int) % 4294967296 = c := by unfold BB at hcB; omega
          have hql' : (i : Int) + (m.length : Int) < (l.length : Int) + (m.length : Int) := by omega
          have bs := bset hB (p := ⟨w.heap.size, i + m.length, none⟩) (Nat.le_refl _) (.int .u32 (c : Int))
          go_wp2
          refine ⟨⟨i + 1, Q.set (i + m.length) c, by omega, rfl, qb, by simpa using hql, ql, ?_, ?_, bs⟩, by simp [intOf] <;> omega⟩
          · intro j hj
            have e1 := hQO j (by omega)
            have e2 := hO0 j (by omega)
            refine Eq.trans ?_ (e1.trans e2)
            simp [List.getD_eq_getElem?_getD, List.getElem?_set_ne (by omega : i + m.length ≠ j)]
          · have a1 := HSet.out
            have a2 := hQV.out
            have a3 := HE.out
            have a4 := HV.out
            rw [HX.out, Nat.add_mul, ← a4]
            rw [a3] at a1
            rw [List.take_length] at a2
            have a5 : x * BB ^ i * val m = x * val m * BB ^ i := by ac_rfl
            rw [a5]
            omega
    · obtain rfl : i = l.length := by omega
      have hu := hO.u32 hOL (by unfold maxLen; omega)
      have tc := trim_c _ _ _ _ hu
      have HT := Lib.hid (val_trim O)
      have HN := trim_nrm O
      have hu2 := hu.trim
      generalize trimL O = T at *
      rw [hOl] at tc
      clear hOl
      go_wp2_with fail
      refine tc.mono ?_
      rintro e w1 ⟨rfl, rfl⟩
      clear tc
      go_wp2
      go_ret
      exact ⟨⟨_, _, T, rfl, rfl, hu2, HN, by rw [HT.out, hV, List.take_length]⟩, hB⟩
end Go.Proofs.YtbmaffijncapiaaGreatDoor

/- limb: Cmp. -/
namespace Go.Proofs.YtbmaffijncapiaaGreatDoor
open Num
open Go.ChangeShapes Go.WideShapes Go.ChangeAt Go.RowKit
set_option linter.unusedVariables false
set_option linter.unusedSimpArgs false
namespace Num
def cmpN (x y : Nat) : Int := if x < y then -1 else if x = y then 0 else 1
theorem cmpN_lt {x y : Nat} (h : x < y) : cmpN x y = -1 := by unfold cmpN; rw [if_pos h]
theorem cmpN_eq {x y : Nat} (h : x = y) : cmpN x y = 0 := by unfold cmpN; rw [if_neg (by omega), if_pos h]
theorem cmpN_gt {x y : Nat} (h : y < x) : cmpN x y = 1 := by unfold cmpN; rw [if_neg (by omega), if_neg (by omega)]
theorem val_split {l : List Nat} {k : Nat} (hk : k < l.length) : val l = val (l.take k) + BB ^ k * (l.getD k 0 + BB * val (l.drop (k + 1))) := by
  have e : l = l.take k ++ (l.getD k 0 :: l.drop (k + 1)) := by
    conv => lhs; rw [← List.take_append_drop k l, List.drop_eq_getElem_cons hk]
    simp [hk]
  conv => lhs; rw [e, val_append]
  simp only [val, List.length_take, Nat.min_eq_left (Nat.le_of_lt hk)]
theorem limbs_take {l : List Nat} (h : Limbs l) (k : Nat) : Limbs (l.take k) := fun x hx => h x (List.mem_of_mem_take hx)
theorem val_lt_of_top {l m : List Nat} {k : Nat} (hk : k < l.length) (hm : k < m.length) (hl : Limbs l) (hd : l.drop (k + 1) = m.drop (k + 1)) (h : l.getD k 0 < m.getD k 0) : val l < val m := by
  rw [val_split hk, val_split hm, hd]
  have h1 := val_lt (limbs_take hl k)
  rw [List.length_take, Nat.min_eq_left (Nat.le_of_lt hk)] at h1
  have h2 : BB ^ k * (l.getD k 0 + BB * val (m.drop (k + 1)) + 1) ≤ BB ^ k * (m.getD k 0 + BB * val (m.drop (k + 1))) := Nat.mul_le_mul_left _ (by omega)
  rw [Nat.mul_add _ _ 1] at h2
  omega
theorem val_lt_of_len {l m : List Nat} (hl : Limbs l) (nm : Nrm m) (h : l.length < m.length) : val l < val m := by
  have h1 := val_lt hl
  have h2 := nrm_val_pos nm (by intro e; subst e; simp at h)
  have h3 : BB ^ l.length ≤ BB ^ (m.length - 1) := Nat.pow_le_pow_right BB_pos (by omega)
  omega
theorem drop_step {l m : List Nat} {k : Nat} (hk : k < l.length) (hm : k < m.length) (hd : l.drop (k + 1) = m.drop (k + 1)) (h : l.getD k 0 = m.getD k 0) : l.drop k = m.drop k := by
  rw [List.drop_eq_getElem_cons hk, List.drop_eq_getElem_cons hm, hd]
  simp [hk, hm] at h
  rw [h]
end Num

set_option maxRecDepth 100000 in
set_option maxHeartbeats 1000000 in
theorem limbCmp_c (a b : Option Addr) (ca cb : Nat) (l m : List Nat) (w : World) (ha : U32 w a ca l) (hb : U32 w b cb m) :
    Calls Tryz.prog 124 #[.slice a l.length ca, .slice b m.length cb] w fun e w' => e = .returned (.int .i64 (cmpN (val l) (val m))) ∧ Below w.heap.size w w' := by
  have tca := trim_c a ca l w ha
  have tcb := trim_c b cb m w hb
  have ha2 := ha.trim
  have hb2 := hb.trim
  have na := trim_nrm l
  have nb := trim_nrm m
  rw [← val_trim l, ← val_trim m]
  generalize trimL l = L at *
  generalize trimL m = M at *
  go_enter Tryz.func124, Tryz.ntmps124
  go_wp2_with fail
  refine tca.mono ?_
  rintro e w1 ⟨rfl, rfl⟩
  clear tca
  go_wp2_with fail
  refine tcb.mono ?_
  rintro e w1 ⟨rfl, rfl⟩
  clear tcb
  obtain ⟨_, hLm, hL, hLc⟩ := ha2
  obtain ⟨_, hMm, hM, hMc⟩ := hb2
  unfold maxLen at hLm hMm
  rcases Nat.lt_trichotomy L.length M.length with hlt | heq | hgt
  · go_wp2
    go_ret
    exact ⟨by rw [cmpN_lt (val_lt_of_len hL nb hlt)]; rfl, Below.refl _ _⟩
  · clear na nb
    have hc1 : ¬ (L.length < M.length) := by omega
    have hc2 : ¬ (M.length < L.length) := by omega
    have HQ := Lib.hid heq
    clear heq
    generalize hM' : M.length = n at *
    have HM := Lib.hid hM'
    clear hM'
    go_wp2
    go_loopw [5] (fun x wr => ∃ k : Nat, k ≤ n ∧ x = .int .i64 ((k : Int) - 1) ∧ L.drop k = M.drop k ∧ Below w.heap.size w wr) (fun x _ => (intOf x + 1).toNat)
    case atStart =>
      refine ⟨n, Nat.le_refl _, ?_, ?_, Below.refl _ _⟩
      · rw [HQ.out]
      · rw [List.drop_eq_nil_of_le (by have := HQ.out; omega), List.drop_eq_nil_of_le (by have := HM.out; omega)]
    case round =>
      obtain ⟨k, hk, rfl, hd, hB⟩ := hrel
      have HD := Lib.hid hd
      clear hd
      cases k with
      | zero =>
        go_wp2
        go_ret
        have e : L = M := by simpa using HD.out
        exact ⟨by rw [cmpN_eq (by rw [e])]; rfl, hB⟩
      | succ j =>
        have hjL : j < L.length := by have := HQ.out; omega
        have hjM : j < M.length := by have := HM.out; omega
        rcases hLc with rfl | ⟨ba, oa, rfl, hca⟩
        · simp at hjL
        rcases hMc with rfl | ⟨bb, ob, rfl, hcb⟩
        · simp at hjM
        have cj := bkeep hB (hca j hjL)
        have dj := bkeep hB (hcb j hjM)
        have HLt := Lib.hid (fun h => val_lt_of_top hjL hjM hL HD.out h)
        have HGt := Lib.hid (fun h => val_lt_of_top hjM hjL hM HD.out.symm h)
        have HEq := Lib.hid (fun h => drop_step hjL hjM HD.out h)
        have hjn : (j : Int) < (L.length : Int) := by omega
        generalize L.getD j 0 = x at *
        generalize M.getD j 0 = y at *
        rcases Nat.lt_trichotomy x y with h1 | h1 | h1
        · have h1' : (x : Int) < (y : Int) := by omega
          go_wp2
          go_quiet (fail)
          go_wp2
          go_ret
          exact ⟨by rw [cmpN_lt (HLt.out h1)]; rfl, by repeat (first | exact hB | refine below_drewN ?_ _)⟩
        · subst h1
          go_wp2
          go_quiet (fail)
          go_wp2
          go_quiet (fail)
          go_wp2
          exact ⟨⟨j, by omega, rfl, HEq.out (by trivial), by repeat (first | exact hB | refine below_drewN ?_ _)⟩, by simp [intOf] <;> omega⟩
        · have h1' : ¬ ((x : Int) < (y : Int)) := by omega
          have h1'' : ((y : Int) < (x : Int)) := by omega
          go_wp2
          go_quiet (fail)
          go_wp2
          go_quiet (fail)
          go_wp2
          go_ret
          exact ⟨by rw [cmpN_gt (HGt.out h1)]; rfl, by repeat (first | exact hB | refine below_drewN ?_ _)⟩
  · have hc1 : ¬ (L.length < M.length) := by omega
    go_wp2
    go_ret
    exact ⟨by rw [cmpN_gt (val_lt_of_len hM na hgt)]; rfl, Below.refl _ _⟩
end Go.Proofs.YtbmaffijncapiaaGreatDoor

/- Plain laws: how many binary digits. -/
namespace Go.Proofs.YtbmaffijncapiaaGreatDoor
open Num
set_option linter.unusedVariables false
namespace Num
def bitN (v : Nat) : Nat := if v = 0 then 0 else v.log2 + 1
theorem bitN_half {x : Nat} (h : x ≠ 0) : bitN x = 1 + bitN (x / 2) := by
  unfold bitN
  rw [if_neg h, Nat.log2_def]
  by_cases h2 : 2 ≤ x
  · rw [if_pos h2, if_neg (by omega)]; omega
  · rw [if_neg h2, if_pos (by omega)]
theorem bitLen_eq (x : Nat) (h : x < 2 ^ 64) : Lib.bitLen x = bitN x := by
  induction x using Nat.strongRecOn with
  | ind x ih =>
    by_cases h0 : x = 0
    · subst h0; rfl
    · rw [Lib.bitLen_half x h0 h, bitN_half h0, ih (x / 2) (by omega) (by omega)]
theorem BB_pow (n : Nat) : BB ^ n = 2 ^ (32 * n) := by
  rw [Nat.pow_mul]; rfl
theorem bitN_snoc {l : List Nat} {x : Nat} (hl : Limbs l) (hx : x ≠ 0) : bitN (val (l ++ [x])) = 32 * l.length + bitN x := by
  have h1 := val_lt hl
  rw [val_append]
  simp only [val, Nat.mul_zero, Nat.add_zero]
  rw [BB_pow] at *
  have hp : 0 < 2 ^ (32 * l.length) := Nat.pow_pos (by omega)
  have h2 : 2 ^ (32 * l.length) * 1 ≤ 2 ^ (32 * l.length) * x := Nat.mul_le_mul_left _ (by omega)
  unfold bitN
  rw [if_neg (by omega), if_neg hx]
  have e : (val l + 2 ^ (32 * l.length) * x).log2 = 32 * l.length + x.log2 := by
    rw [Nat.log2_eq_iff (by omega)]
    have k1 := Nat.log2_self_le hx
    have k2 := @Nat.lt_log2_self x
    constructor
    · rw [Nat.pow_add]
      have := Nat.mul_le_mul_left (2 ^ (32 * l.length)) k1
      omega
    · rw [Nat.add_assoc, Nat.pow_add]
      have := Nat.mul_le_mul_left (2 ^ (32 * l.length)) (show x + 1 ≤ 2 ^ (x.log2 + 1) from k2)
      rw [Nat.mul_add] at this
      omega
  omega
theorem bitN_nrm {l : List Nat} {k : Nat} (hl : Limbs l) (hn : Nrm l) (hk : l.length = k + 1) : bitN (val l) = 32 * k + bitN (l.getD k 0) := by
  obtain ⟨m, x, rfl⟩ : ∃ m x, l = m ++ [x] := ⟨l.dropLast, l.getLast (by intro e; subst e; simp at hk), (List.dropLast_concat_getLast _).symm⟩
  simp at hk
  have hx := hn (by simp)
  simp at hx
  rw [bitN_snoc (fun y hy => hl y (by simp [hy])) hx, hk]
  congr 2
  simp [← hk]
theorem val_nil_iff {l : List Nat} (hn : Nrm l) : val l = 0 ↔ l = [] := by
  constructor
  · intro h
    by_cases h0 : l = []
    · exact h0
    · have := nrm_val_pos hn h0
      have : 0 < BB ^ (l.length - 1) := Nat.pow_pos BB_pos
      omega
  · rintro rfl; rfl
end Num
end Go.Proofs.YtbmaffijncapiaaGreatDoor

/- integer: numbers as values; made, Make, Of. -/
namespace Go.Proofs.YtbmaffijncapiaaGreatDoor
open Num
open Go.ChangeShapes Go.WideShapes Go.ChangeAt Go.RowKit
set_option linter.unusedVariables false
set_option linter.unusedSimpArgs false
namespace Num
def sg (neg : Bool) (n : Nat) : Int := if neg then -(n : Int) else n
theorem sg_zero (neg : Bool) : sg neg 0 = 0 := by cases neg <;> rfl
theorem sg_abs (neg : Bool) (n : Nat) : (sg neg n).natAbs = n := by cases neg <;> simp [sg]
theorem sg_mul (a b : Bool) (m n : Nat) : sg (a != b) (m * n) = sg a m * sg b n := by
  cases a <;> cases b <;> simp [sg, Int.mul_neg, Int.neg_mul]
def Bd (k : Nat) (z : Int) : Prop := z.natAbs < 2 ^ k
theorem Bd.mul {k m : Nat} {x y : Int} (hx : Bd k x) (hy : Bd m y) : Bd (k + m) (x * y) := by
  unfold Bd at *
  rw [Int.natAbs_mul, Nat.pow_add]
  exact Nat.mul_lt_mul'' hx hy
theorem Bd.mono {k m : Nat} {x : Int} (hx : Bd k x) (h : k ≤ m) : Bd m x := Nat.lt_of_lt_of_le hx (Nat.pow_le_pow_right (by omega) h)
theorem bd_len {l : List Nat} {k : Nat} (hn : Nrm l) (h : val l < 2 ^ k) (hk : k ≤ 17179869184) : l.length ≤ 536870913 := by
  by_cases h0 : l = []
  · subst h0; simp
  · have h1 := nrm_val_pos hn h0
    rw [BB_pow] at h1
    have h2 : 32 * (l.length - 1) < k := (Nat.pow_lt_pow_iff_right (a := 2) (by omega)).1 (Nat.lt_of_le_of_lt h1 h)
    omega
end Num
def iv (neg : Bool) (a : Option Addr) (n cap : Nat) : Value := .agg #[.bool neg, .slice a n cap]
def IsInt (w : World) (v : Value) (z : Int) : Prop := ∃ neg a cap l, v = iv neg a (List.length l) cap ∧ U32 w a cap l ∧ Nrm l ∧ (neg = true → l ≠ []) ∧ z = sg neg (val l)
theorem IsInt.keep {w w' : World} {v : Value} {z : Int} (h : IsInt w v z) (hb : Below w.heap.size w w') : IsInt w' v z := by
  obtain ⟨neg, a, cap, l, h1, h2, h3, h4, h5⟩ := h
  exact ⟨neg, a, cap, l, h1, h2.keep hb, h3, h4, h5⟩
theorem addr_ne {b o b' o' : Nat} {s s' : Option Nat} (h : b ≠ b') : (⟨b, o, s⟩ : Addr) ≠ ⟨b', o', s'⟩ := fun e => h (congrArg Addr.block e)
theorem U32.put {w : World} {a : Option Addr} {cap : Nat} {l : List Nat} {p : Addr} {v : Value} (h : U32 w a cap l) (hp : w.cell? p = some v) (hv : ∀ n, v ≠ .int .u32 n) (u : Value) : U32 (w.setCell p u) a cap l := by
  refine ⟨h.1, h.2.1, h.2.2.1, ?_⟩
  rcases h.2.2.2 with h0 | ⟨b, off, h1, h2⟩
  · exact .inl h0
  · refine .inr ⟨b, off, h1, fun k hk => cell_far (h2 k hk) ?_ u, by rw [typ_set]; exact h2.ty⟩
    intro e
    rw [e, h2 k hk] at hp
    exact hv _ (Option.some.inj hp).symm
theorem IsInt.put {w : World} {x : Value} {z : Int} {p : Addr} {v : Value} (h : IsInt w x z) (hp : w.cell? p = some v) (hv : ∀ n, v ≠ .int .u32 n) (u : Value) : IsInt (w.setCell p u) x z := by
  obtain ⟨neg, a, cap, l, h1, h2, h3, h4, h5⟩ := h
  exact ⟨neg, a, cap, l, h1, h2.put hp hv u, h3, h4, h5⟩
theorem IsInt.put2 {w : World} {x : Value} {z : Int} {g : Nat} {b : Bool} {a : Option Addr} {n c : Nat} (h : IsInt w x z) (r0 : w.cell? ⟨g, 0, none⟩ = some (.bool b)) (r1 : w.cell? ⟨g, 1, none⟩ = some (.slice a n c)) (u v : Value) : IsInt ((w.setCell ⟨g, 0, none⟩ u).setCell ⟨g, 1, none⟩ v) x z :=
  (h.put r0 (fun _ e => by cases e) u).put (cell_far r1 (by simp) u) (fun _ e => by cases e) v

set_option maxRecDepth 100000 in
set_option maxHeartbeats 1000000 in
theorem made_c (neg : Bool) (a : Option Addr) (ca : Nat) (l : List Nat) (w : World) (ha : U32 w a ca l) (hn : Nrm l) :
    Calls Tryz.prog 122 #[.bool neg, .slice a l.length ca] w fun e w' => (∃ v, e = .returned v ∧ IsInt w' v (sg neg (val l))) ∧ Below w.heap.size w w' := by
  have key : Calls Tryz.prog 122 #[.bool neg, .slice a l.length ca] w fun e w' => e = .returned (iv (neg && decide (0 < l.length)) a l.length ca) ∧ Below w.heap.size w w' := by
    clear ha hn
    generalize hk : l.length = k
    clear hk
    cases neg with
    | false =>
      go_enter Tryz.func122, Tryz.ntmps122
      go_wp2
      refine bodyPost_ret (v := iv false a k ca) (by simp [iv, results, Tryz.results122, go_sem, *]) rfl ⟨rfl, ?_⟩
      repeat (first | exact Below.refl _ _ | exact Below.refl _ _ | refine Below.drew ?_ | refine below_drewN ?_ _ | refine bset ?_ (by simp <;> omega) _ | refine bal ?_ _)
    | true =>
      by_cases hk : 0 < k
      · have e : (0 : Int) < (k : Int) := by omega
        go_enter Tryz.func122, Tryz.ntmps122
        go_wp2
        refine bodyPost_ret (v := iv true a k ca) (by simp [iv, results, Tryz.results122, go_sem, *]) rfl ⟨by simp [hk], ?_⟩
        repeat (first | exact Below.refl _ _ | exact Below.refl _ _ | refine Below.drew ?_ | refine below_drewN ?_ _ | refine bset ?_ (by simp <;> omega) _ | refine bal ?_ _)
      · obtain rfl : k = 0 := by omega
        go_enter Tryz.func122, Tryz.ntmps122
        go_wp2
        refine bodyPost_ret (v := iv false a 0 ca) (by simp [iv, results, Tryz.results122, go_sem, *]) rfl ⟨by simp, ?_⟩
        repeat (first | exact Below.refl _ _ | exact Below.refl _ _ | refine Below.drew ?_ | refine below_drewN ?_ _ | refine bset ?_ (by simp <;> omega) _ | refine bal ?_ _)
  refine key.mono ?_
  rintro e w1 ⟨rfl, hB⟩
  refine ⟨⟨_, rfl, _, a, ca, l, rfl, ha.keep hB, hn, ?_, ?_⟩, hB⟩
  · intro h; simp at h; intro e; subst e; simp at h
  · by_cases h0 : l = []
    · subst h0; simp [sg, val]
    · have : 0 < l.length := List.length_pos_iff.2 h0
      simp [this, sg, h0]
end Go.Proofs.YtbmaffijncapiaaGreatDoor

/- integer: Make, Of. -/
namespace Go.Proofs.YtbmaffijncapiaaGreatDoor
open Num
open Go.ChangeShapes Go.WideShapes Go.ChangeAt Go.RowKit
set_option linter.unusedVariables false
set_option linter.unusedSimpArgs false

set_option maxRecDepth 100000 in
set_option maxHeartbeats 1000000 in
theorem make_c (neg : Bool) (a : Option Addr) (ca : Nat) (l : List Nat) (w : World) (ha : U32 w a ca l) (h1 : l.length ≤ 1099511627776) :
    Calls Tryz.prog 131 #[.bool neg, .slice a l.length ca] w fun e w' => (∃ v, e = .returned v ∧ IsInt w' v (sg neg (val l))) ∧ Below w.heap.size w w' := by
  have nc := fun w h => limbNorm_c a ca l w h h1
  have mc := fun a1 ca1 w h => made_c neg a1 ca1 (trimL l) w h (trim_nrm l)
  rw [val_trim] at mc
  generalize trimL l = L at *
  go_enter Tryz.func131, Tryz.ntmps131
  go_wp2_with fail
  refine (nc _ (ha.keep (bal (Below.refl _ _) _))).mono ?_
  rintro e w1 ⟨⟨a1, rfl, hu⟩, hb1⟩
  have r0 : w1.cell? ⟨w.heap.size, 0, none⟩ = some (.bool false) := bkc hb1
  have zr0 := cell_lt r0
  have r0f : w1.frozen? ⟨w.heap.size, 0, none⟩ = false := bkcf (v := .bool false) hb1
  have r1 : w1.cell? ⟨w.heap.size, 1, none⟩ = some (.slice none 0 0) := bkc hb1
  have r1f : w1.frozen? ⟨w.heap.size, 1, none⟩ = false := bkcf (v := .slice none 0 0) hb1
  have hB : Below w.heap.size w w1 := bthen (by repeat (first|exact bzR _ _|exact hB|refine bzD ?_|refine bzN ?_|refine bzS ?_|refine bzA ?_)) hb1
  have hz : w.heap.size ≤ w1.heap.size := hB.size
  clear nc
  go_wp2_with fail
  refine (mc _ _ _ hu).mono ?_
  rintro e w2 ⟨⟨v, rfl, hi⟩, hb2⟩
  have r0 : w2.cell? ⟨w.heap.size, 0, none⟩ = some (.bool false) := bkc hb2
  have zr0 := cell_lt r0
  have r0f : w2.frozen? ⟨w.heap.size, 0, none⟩ = false := bkcf (v := .bool false) hb2
  have r1 : w2.cell? ⟨w.heap.size, 1, none⟩ = some (.slice none 0 0) := bkc hb2
  have r1f : w2.frozen? ⟨w.heap.size, 1, none⟩ = false := bkcf (v := .slice none 0 0) hb2
  have hB : Below w.heap.size w w2 := bthen (by repeat (first|exact bzR _ _|exact hB|refine bzD ?_|refine bzN ?_|refine bzS ?_|refine bzA ?_)) hb2
  have hz : w.heap.size ≤ w2.heap.size := hB.size
  have HI := Lib.hid hi
  have HI2 := Lib.hid (hi.put2 r0 r1)
  obtain ⟨n2, a2, c2, l2, rfl, _, _, _, _⟩ := hi
  clear mc
  unfold iv at *
  go_wp2
  refine bodyPost_ret (v := .agg #[.bool n2, .slice a2 l2.length c2]) (by simp [results, Tryz.results131, go_sem, *]) rfl ⟨⟨_, rfl, HI2.out _ _⟩, ?_⟩
  repeat (first|exact bzR _ _|exact hB|refine bzD ?_|refine bzN ?_|refine bzS ?_|refine bzA ?_)

theorem u32_pair (w : World) (x y : Nat) (hx : x < BB) (hy : y < BB) (g : Nat) (hg : g = w.heap.size) : U32 (w.alloc (.cells #[.int .u32 (x : Int), .int .u32 (y : Int)] 177)) (some ⟨g, 0, none⟩) 2 [x, y] := by
  refine ⟨by simp, by unfold maxLen; omega, ?_, .inr ⟨g, 0, rfl, ?_, by subst hg; unfold typOf; rw [(MapKept.heap_alloc w _).1]⟩⟩
  · intro z hz; simp at hz; rcases hz with rfl | rfl <;> assumption
  · intro k hk
    rw [Nat.zero_add]
    match k, hk with
    | 0, _ => exact cell_new hg rfl
    | 1, _ => exact cell_new hg rfl
theorem val_pair (m : Nat) : val [m % BB, m / BB] = m := by
  simp only [val, Nat.mul_zero, Nat.add_zero]
  have := Nat.div_add_mod m BB
  omega

set_option maxRecDepth 100000 in
set_option maxHeartbeats 1000000 in
theorem of_c (n : Int) (w : World) (h1 : -9223372036854775808 ≤ n) (h2 : n ≤ 9223372036854775807) :
    Calls Tryz.prog 45 #[.int .i64 n] w fun e w' => (∃ v, e = .returned v ∧ IsInt w' v n) ∧ Below w.heap.size w w' := by
  obtain ⟨m, hm⟩ : ∃ m : Nat, m = n.natAbs := ⟨_, rfl⟩
  have hmB : m / BB < BB := by unfold BB; omega
  have mk := fun neg a w ha => make_c neg a 2 [m % BB, m / BB] w ha (by simp)
  rw [val_pair] at mk
  have up := fun w => u32_pair w (m % BB) (m / BB) (Nat.mod_lt _ BB_pos) hmB
  have i1 : (m : Int) % 4294967296 = ((m % BB : Nat) : Int) := by unfold BB; omega
  have i2 : (m : Int) / 4294967296 = ((m / BB : Nat) : Int) := by unfold BB; omega
  have i3 : ((m / BB : Nat) : Int) % 4294967296 = ((m / BB : Nat) : Int) := by unfold BB at *; omega
  generalize m % BB = x at *
  generalize m / BB = y at *
  by_cases h0 : n < 0
  · have e1 : IntKind.u64.wrap (-IntKind.u64.wrap n) = (m : Int) := by
      simp only [IntKind.wrap, IntKind.bits, IntKind.signed]
      simp
      omega
    have HS := Lib.hid (show sg true m = n by simp [sg]; omega)
    clear hm
    go_enter Tryz.func45, Tryz.ntmps45
    go_wp2_with fail
    refine (mk _ _ _ (up _ _ (by simp))).mono ?_
    rintro e w1 ⟨⟨v, rfl, hi⟩, hb1⟩
    have r0 : w1.cell? ⟨w.heap.size, 0, none⟩ = some (.bool false) := bkc hb1
    have zr0 := cell_lt r0
    have r0f : w1.frozen? ⟨w.heap.size, 0, none⟩ = false := bkcf (v := .bool false) hb1
    have r1 : w1.cell? ⟨w.heap.size, 1, none⟩ = some (.slice none 0 0) := bkc hb1
    have r1f : w1.frozen? ⟨w.heap.size, 1, none⟩ = false := bkcf (v := .slice none 0 0) hb1
    have hB : Below w.heap.size w w1 := bthen (by repeat (first|exact bzR _ _|exact hB|refine bzD ?_|refine bzN ?_|refine bzS ?_|refine bzA ?_)) hb1
    have hz : w.heap.size ≤ w1.heap.size := hB.size
    rw [HS.out] at hi
    have HI := Lib.hid hi
    have HI2 := Lib.hid (hi.put2 r0 r1)
    obtain ⟨n2, a2, c2, l2, rfl, _, _, _, _⟩ := hi
    clear mk up
    unfold iv at *
    go_wp2
    refine bodyPost_ret (v := .agg #[.bool n2, .slice a2 l2.length c2]) (by simp [results, Tryz.results45, go_sem, *]) rfl ⟨⟨_, rfl, HI2.out _ _⟩, ?_⟩
    repeat (first|exact bzR _ _|exact hB|refine bzD ?_|refine bzN ?_|refine bzS ?_|refine bzA ?_)
  · obtain rfl : n = m := by omega
    have HS := Lib.hid (show sg false m = m by simp [sg])
    clear hm
    go_enter Tryz.func45, Tryz.ntmps45
    go_wp2_with fail
    refine (mk _ _ _ (up _ _ (by simp))).mono ?_
    rintro e w1 ⟨⟨v, rfl, hi⟩, hb1⟩
    have r0 : w1.cell? ⟨w.heap.size, 0, none⟩ = some (.bool false) := bkc hb1
    have zr0 := cell_lt r0
    have r0f : w1.frozen? ⟨w.heap.size, 0, none⟩ = false := bkcf (v := .bool false) hb1
    have r1 : w1.cell? ⟨w.heap.size, 1, none⟩ = some (.slice none 0 0) := bkc hb1
    have r1f : w1.frozen? ⟨w.heap.size, 1, none⟩ = false := bkcf (v := .slice none 0 0) hb1
    have hB : Below w.heap.size w w1 := bthen (by repeat (first|exact bzR _ _|exact hB|refine bzD ?_|refine bzN ?_|refine bzS ?_|refine bzA ?_)) hb1
    have hz : w.heap.size ≤ w1.heap.size := hB.size
    rw [HS.out] at hi
    have HI := Lib.hid hi
    have HI2 := Lib.hid (hi.put2 r0 r1)
    obtain ⟨n2, a2, c2, l2, rfl, _, _, _, _⟩ := hi
    clear mk up
    unfold iv at *
    go_wp2
    refine bodyPost_ret (v := .agg #[.bool n2, .slice a2 l2.length c2]) (by simp [results, Tryz.results45, go_sem, *]) rfl ⟨⟨_, rfl, HI2.out _ _⟩, ?_⟩
    repeat (first|exact bzR _ _|exact hB|refine bzD ?_|refine bzN ?_|refine bzS ?_|refine bzA ?_)
end Go.Proofs.YtbmaffijncapiaaGreatDoor

/- integer: Mul, Times. -/
namespace Go.Proofs.YtbmaffijncapiaaGreatDoor
open Num
open Go.ChangeShapes Go.WideShapes Go.ChangeAt Go.RowKit
set_option linter.unusedVariables false
set_option linter.unusedSimpArgs false

theorem sg_bd {neg : Bool} {n k : Nat} (h : Bd k (sg neg n)) : n < 2 ^ k := by
  unfold Bd at h; rwa [sg_abs] at h

set_option maxRecDepth 100000 in
set_option maxHeartbeats 2000000 in
theorem mul_c (vx vy : Value) (x y : Int) (k m : Nat) (w : World) (hx : IsInt w vx x) (hy : IsInt w vy y) (bx : Bd k x) (by' : Bd m y) (hk : k ≤ 17179869184) (hm : m ≤ 17179869184) :
    Calls Tryz.prog 51 #[vx, vy] w fun e w' => (∃ v, e = .returned v ∧ IsInt w' v (x * y)) ∧ Below w.heap.size w w' := by
  obtain ⟨n1, a1, c1, l1, rfl, u1, g1, s1, rfl⟩ := hx
  obtain ⟨n2, a2, c2, l2, rfl, u2, g2, s2, rfl⟩ := hy
  have k1 := bd_len g1 (sg_bd bx) hk
  have k2 := bd_len g2 (sg_bd by') hm
  have mc := fun w h1 h2 => limbMul_c a1 a2 c1 c2 l1 l2 w h1 h2 (by omega) (by omega)
  have dc := fun a L w h hn => made_c (n1 != n2) a (List.length L) L w h hn
  rw [← sg_mul]
  clear bx by' g1 g2 s1 s2 k1 k2
  unfold iv
  have hB0 := Below.refl w.heap.size w
  go_enter Tryz.func51, Tryz.ntmps51
  go_wp2_with fail
  go_region_held3 (fun w' => w'.cell? ⟨w.heap.size, 0, none⟩ = some (.bool n1) ∧ w'.cell? ⟨w.heap.size, 1, none⟩ = some (.slice a1 l1.length c1) ∧ w'.cell? ⟨w.heap.size + 1, 0, none⟩ = some (.bool n2) ∧ w'.cell? ⟨w.heap.size + 1, 1, none⟩ = some (.slice a2 l2.length c2)) (repeat' (first | assumption | apply And.intro | exact cell_new (by simp) rfl | refine cell_alloc ?_ _ | refine cell_drew ?_ | refine cell_far ?_ (addr_ne (by omega)) _))
    (first | (go_at_call 140; refine (mc _ (u1.keep (by repeat (first|exact bzR _ _|exact hB0|refine bzD ?_|refine bzN ?_|refine bzS ?_|refine bzA ?_))) (u2.keep (by repeat (first|exact bzR _ _|exact hB0|refine bzD ?_|refine bzN ?_|refine bzS ?_|refine bzA ?_)))).mono ?_; rintro e w3 ⟨⟨a3, k3, L, rfl, rfl, hu, hn, hv⟩, hb3⟩; have x0 : w3.cell? ⟨w.heap.size, 0, none⟩ = some (.bool n1) := bkc hb3; have zx0 := cell_lt x0; have x1 : w3.cell? ⟨w.heap.size, 1, none⟩ = some (.slice a1 l1.length c1) := bkc hb3; have y0 : w3.cell? ⟨w.heap.size + 1, 0, none⟩ = some (.bool n2) := bkc hb3; have zy0 := cell_lt y0; have y1 : w3.cell? ⟨w.heap.size + 1, 1, none⟩ = some (.slice a2 l2.length c2) := bkc hb3; have r0 : w3.cell? ⟨w.heap.size + 2, 0, none⟩ = some (.bool false) := bkc hb3; have zr0 := cell_lt r0; have r0f : w3.frozen? ⟨w.heap.size + 2, 0, none⟩ = false := bkcf (v := .bool false) hb3; have r1 : w3.cell? ⟨w.heap.size + 2, 1, none⟩ = some (.slice none 0 0) := bkc hb3; have r1f : w3.frozen? ⟨w.heap.size + 2, 1, none⟩ = false := bkcf (v := .slice none 0 0) hb3; have hB : Below w.heap.size w w3 := bthen (by repeat (first|exact bzR _ _|exact hB|refine bzD ?_|refine bzN ?_|refine bzS ?_|refine bzA ?_)) hb3; have hz : w.heap.size ≤ w3.heap.size := hB.size) | (go_at_call 122; refine (dc _ _ _ hu hn).mono ?_; rintro e w4 ⟨⟨v, rfl, hi⟩, hb4⟩; have x0 : w4.cell? ⟨w.heap.size, 0, none⟩ = some (.bool n1) := bkc hb4; have zx0 := cell_lt x0; have x1 : w4.cell? ⟨w.heap.size, 1, none⟩ = some (.slice a1 l1.length c1) := bkc hb4; have y0 : w4.cell? ⟨w.heap.size + 1, 0, none⟩ = some (.bool n2) := bkc hb4; have zy0 := cell_lt y0; have y1 : w4.cell? ⟨w.heap.size + 1, 1, none⟩ = some (.slice a2 l2.length c2) := bkc hb4; have r0 : w4.cell? ⟨w.heap.size + 2, 0, none⟩ = some (.bool false) := bkc hb4; have zr0 := cell_lt r0; have r0f : w4.frozen? ⟨w.heap.size + 2, 0, none⟩ = false := bkcf (v := .bool false) hb4; have r1 : w4.cell? ⟨w.heap.size + 2, 1, none⟩ = some (.slice none 0 0) := bkc hb4; have r1f : w4.frozen? ⟨w.heap.size + 2, 1, none⟩ = false := bkcf (v := .slice none 0 0) hb4; have hB : Below w.heap.size w w4 := bthen (by repeat (first|exact bzR _ _|exact hB|refine bzD ?_|refine bzN ?_|refine bzS ?_|refine bzA ?_)) hb4; have hz : w.heap.size ≤ w4.heap.size := hB.size; rw [hv] at hi; have HI := Lib.hid hi; have HI2 := Lib.hid (hi.put2 r0 r1); obtain ⟨n4, a4, c4, l4, rfl, _, _, _, _⟩ := hi; unfold iv at *))
  go_wp2
  refine bodyPost_ret (v := .agg #[.bool n4, .slice a4 l4.length c4]) (by simp [results, Tryz.results51, go_sem, *]) rfl ⟨⟨_, rfl, HI2.out _ _⟩, ?_⟩
  repeat (first|exact bzR _ _|exact hB|refine bzD ?_|refine bzN ?_|refine bzS ?_|refine bzA ?_)
end Go.Proofs.YtbmaffijncapiaaGreatDoor

/- integer: Times, Sign, Bits. -/
namespace Go.Proofs.YtbmaffijncapiaaGreatDoor
open Num
open Go.ChangeShapes Go.WideShapes Go.ChangeAt Go.RowKit
set_option linter.unusedVariables false
set_option linter.unusedSimpArgs false

set_option maxRecDepth 100000 in
set_option maxHeartbeats 2000000 in
theorem times_c (vx : Value) (x c : Int) (k : Nat) (w : World) (hx : IsInt w vx x) (bx : Bd k x) (hk : k ≤ 17179869184) (h1 : -9223372036854775808 ≤ c) (h2 : c ≤ 9223372036854775807) :
    Calls Tryz.prog 185 #[vx, .int .i64 c] w fun e w' => (∃ v, e = .returned v ∧ IsInt w' v (x * c)) ∧ Below w.heap.size w w' := by
  have oc := fun w => of_c c w h1 h2
  have mc := fun vx vy w hx hy => mul_c vx vy x c k 64 w hx hy bx (by unfold Bd; omega) hk (by omega)
  have HX := Lib.hid hx
  obtain ⟨n1, a1, c1, l1, rfl, _, _, _, _⟩ := hx
  clear bx
  unfold iv at *
  have hB0 := Below.refl w.heap.size w
  go_enter Tryz.func185, Tryz.ntmps185
  go_wp2_with fail
  go_region_held3 (fun w' => w'.cell? ⟨w.heap.size, 0, none⟩ = some (.bool n1) ∧ w'.cell? ⟨w.heap.size, 1, none⟩ = some (.slice a1 l1.length c1)) (repeat' (first | assumption | apply And.intro | exact cell_new (by simp) rfl | refine cell_alloc ?_ _ | refine cell_drew ?_ | refine cell_far ?_ (addr_ne (by omega)) _))
    (first | (go_at_call 45; refine (oc _).mono ?_; rintro e w3 ⟨⟨v3, rfl, hi3⟩, hb3⟩; have x0 : w3.cell? ⟨w.heap.size, 0, none⟩ = some (.bool n1) := bkc hb3; have zx0 := cell_lt x0; have x1 : w3.cell? ⟨w.heap.size, 1, none⟩ = some (.slice a1 l1.length c1) := bkc hb3; have r0 : w3.cell? ⟨w.heap.size + 1, 0, none⟩ = some (.bool false) := bkc hb3; have zr0 := cell_lt r0; have r0f : w3.frozen? ⟨w.heap.size + 1, 0, none⟩ = false := bkcf (v := .bool false) hb3; have r1 : w3.cell? ⟨w.heap.size + 1, 1, none⟩ = some (.slice none 0 0) := bkc hb3; have r1f : w3.frozen? ⟨w.heap.size + 1, 1, none⟩ = false := bkcf (v := .slice none 0 0) hb3; have hB : Below w.heap.size w w3 := bthen (by repeat (first|exact bzR _ _|exact hB|refine bzD ?_|refine bzN ?_|refine bzS ?_|refine bzA ?_)) hb3; have hz : w.heap.size ≤ w3.heap.size := hB.size; have HI3 := Lib.hid hi3; have HB3 := Lib.hid hB; obtain ⟨n3, a3, c3, l3, rfl, _, _, _, _⟩ := hi3; unfold iv at *) | (go_at_call 51; refine (mc _ _ _ (HX.out.keep HB3.out) HI3.out).mono ?_; rintro e w4 ⟨⟨v, rfl, hi⟩, hb4⟩; have x0 : w4.cell? ⟨w.heap.size, 0, none⟩ = some (.bool n1) := bkc hb4; have zx0 := cell_lt x0; have x1 : w4.cell? ⟨w.heap.size, 1, none⟩ = some (.slice a1 l1.length c1) := bkc hb4; have r0 : w4.cell? ⟨w.heap.size + 1, 0, none⟩ = some (.bool false) := bkc hb4; have zr0 := cell_lt r0; have r0f : w4.frozen? ⟨w.heap.size + 1, 0, none⟩ = false := bkcf (v := .bool false) hb4; have r1 : w4.cell? ⟨w.heap.size + 1, 1, none⟩ = some (.slice none 0 0) := bkc hb4; have r1f : w4.frozen? ⟨w.heap.size + 1, 1, none⟩ = false := bkcf (v := .slice none 0 0) hb4; have hB : Below w.heap.size w w4 := bthen (by repeat (first|exact bzR _ _|exact hB|refine bzD ?_|refine bzN ?_|refine bzS ?_|refine bzA ?_)) hb4; have hz : w.heap.size ≤ w4.heap.size := hB.size; have HI := Lib.hid hi; have HI2 := Lib.hid (hi.put2 r0 r1); obtain ⟨n4, a4, c4, l4, rfl, _, _, _, _⟩ := hi; unfold iv at *))
  go_wp2
  refine bodyPost_ret (v := .agg #[.bool n4, .slice a4 l4.length c4]) (by simp [results, Tryz.results185, go_sem, *]) rfl ⟨⟨_, rfl, HI2.out _ _⟩, ?_⟩
  repeat (first|exact bzR _ _|exact hB|refine bzD ?_|refine bzN ?_|refine bzS ?_|refine bzA ?_)

theorem sg_sign {neg : Bool} {l : List Nat} (hn : Nrm l) (hs : neg = true → l ≠ []) : (sg neg (val l)).sign = if l.length = 0 then 0 else if neg then -1 else 1 := by
  by_cases h0 : l = []
  · subst h0; cases neg <;> simp [sg, val]
  · have h1 : 0 < val l := Nat.pos_of_ne_zero (fun e => h0 ((val_nil_iff hn).1 e))
    have h2 : l.length ≠ 0 := by simpa using h0
    rw [if_neg h2]
    cases neg with
    | true => simp only [sg, if_true]; rw [Int.sign_neg, Int.sign_eq_one_of_pos (by omega)]
    | false => simp only [sg]; exact Int.sign_eq_one_of_pos (by simp; omega)

set_option maxRecDepth 100000 in
set_option maxHeartbeats 1000000 in
theorem sign_c (vx : Value) (x : Int) (w : World) (hx : IsInt w vx x) :
    Calls Tryz.prog 25 #[vx] w fun e w' => e = .returned (.int .i64 x.sign) ∧ Below w.heap.size w w' := by
  obtain ⟨n1, a1, c1, l1, rfl, u1, g1, s1, rfl⟩ := hx
  have HS := Lib.hid (sg_sign g1 s1)
  generalize (sg n1 (val l1)).sign = z at *
  clear g1 s1 u1
  unfold iv
  generalize hk : l1.length = k at *
  clear hk
  have hB0 := Below.refl w.heap.size w
  cases k with
  | zero =>
    go_enter Tryz.func25, Tryz.ntmps25
    go_wp2
    go_ret
    refine ⟨by rw [HS.out]; rfl, ?_⟩
    repeat (first|exact bzR _ _|exact hB0|refine bzD ?_|refine bzN ?_|refine bzS ?_|refine bzA ?_)
  | succ k =>
    cases n1 with
    | true =>
      go_enter Tryz.func25, Tryz.ntmps25
      go_wp2
      go_ret
      refine ⟨by rw [HS.out]; rfl, ?_⟩
      repeat (first|exact bzR _ _|exact hB0|refine bzD ?_|refine bzN ?_|refine bzS ?_|refine bzA ?_)
    | false =>
      go_enter Tryz.func25, Tryz.ntmps25
      go_wp2
      go_ret
      refine ⟨by rw [HS.out]; rfl, ?_⟩
      repeat (first|exact bzR _ _|exact hB0|refine bzD ?_|refine bzN ?_|refine bzS ?_|refine bzA ?_)
end Go.Proofs.YtbmaffijncapiaaGreatDoor

/- prog: may. -/
namespace Go.Proofs.YtbmaffijncapiaaGreatDoor
open Go.ChangeShapes Go.WideShapes Go.ChangeAt Go.RowKit
set_option linter.unusedVariables false
set_option linter.unusedSimpArgs false
end Go.Proofs.YtbmaffijncapiaaGreatDoor

/- prog: Check. -/
namespace Go.Proofs.YtbmaffijncapiaaGreatDoor
open Go.ChangeShapes Go.WideShapes Go.ChangeAt Go.RowKit
set_option linter.unusedVariables false
set_option linter.unusedSimpArgs false
end Go.Proofs.YtbmaffijncapiaaGreatDoor

/- slices.Clone at []int. -/
namespace Go.Proofs.YtbmaffijncapiaaGreatDoor
open Go.ChangeShapes Go.WideShapes Go.ChangeAt Go.RowKit
set_option linter.unusedVariables false
set_option linter.unusedSimpArgs false
end Go.Proofs.YtbmaffijncapiaaGreatDoor

/- slices.Clone at []Instr. -/
namespace Go.Proofs.YtbmaffijncapiaaGreatDoor
open Go.ChangeShapes Go.WideShapes Go.ChangeAt Go.RowKit
set_option linter.unusedVariables false
set_option linter.unusedSimpArgs false
def Ins.cel (i : Ins) : List Value := [.int .i64 i.op, .int .i64 i.to, .int .i64 i.a, .int .i64 i.b, .int .i64 i.c]
end Go.Proofs.YtbmaffijncapiaaGreatDoor

/- prog: Copy. -/
namespace Go.Proofs.YtbmaffijncapiaaGreatDoor
open Go.ChangeShapes Go.WideShapes Go.ChangeAt Go.RowKit
set_option linter.unusedVariables false
set_option linter.unusedSimpArgs false
section
variable {w w0 : World} {a : Option Addr} {cap B C : Nat} {t : TypeId}
end
end Go.Proofs.YtbmaffijncapiaaGreatDoor

