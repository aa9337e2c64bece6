/- Texts of this seat, laid together: NumS, LimbE, LimbF, LimbG. Each opens with its own remark, which says what it proves, and under which conditions. -/
import Derived.Test.YtbmaffijncapiaaGreatDoorL02
import Derived.Laws.BitsAllLaws
set_option linter.unusedVariables false
set_option linter.unusedSimpArgs false
/- Plain laws: sums, differences, small quotients, shifts of numbers as lists of limbs. -/
namespace Go.Proofs.YtbmaffijncapiaaGreatDoor.Num

theorem val_set0 {l : List Nat} {k : Nat} (x : Nat) (hk : k < l.length) (h0 : l.getD k 0 = 0) : val (l.set k x) = val l + x * BB ^ k := by
  have := val_set x hk
  rw [h0] at this
  omega
theorem take_over {l : List Nat} {k : Nat} (hk : l.length ≤ k) : val (l.take (k + 1)) = val (l.take k) := by
  rw [List.take_of_length_le hk, List.take_of_length_le (by omega)]
theorem getD_set_ne {l : List Nat} {i j x : Nat} (h : i ≠ j) : (l.set i x).getD j 0 = l.getD j 0 := by
  simp [List.getD_eq_getElem?_getD, List.getElem?_set_ne h]
theorem add_step {O A B : List Nat} {i c t : Nat} (hO : i < O.length) (h0 : O.getD i 0 = 0) (hA : i < A.length) (ht : t = c + A.getD i 0 + B.getD i 0)
    (h : val O + c * BB ^ i = val (A.take i) + val (B.take i)) : val (O.set i (t % BB)) + t / BB * BB ^ (i + 1) = val (A.take (i + 1)) + val (B.take (i + 1)) := by
  have hB : val (B.take (i + 1)) = val (B.take i) + B.getD i 0 * BB ^ i := by
    by_cases hb : i < B.length
    · exact val_take_succ hb
    · rw [take_over (by omega)]; simp [hb]
  rw [val_set0 _ hO h0, val_take_succ hA, hB]
  have e : t * BB ^ i = t / BB * BB ^ (i + 1) + t % BB * BB ^ i := by
    conv => lhs; rw [← Nat.div_add_mod t BB, Nat.add_mul]
    rw [Nat.pow_succ]
    congr 1
    ac_rfl
  have e2 : t * BB ^ i = c * BB ^ i + A.getD i 0 * BB ^ i + B.getD i 0 * BB ^ i := by rw [ht]; simp only [Nat.add_mul]
  omega
theorem sub_step {O A B : List Nat} {i br r br' : Nat} (hO : i < O.length) (h0 : O.getD i 0 = 0) (hA : i < A.length) (hr : r + (br + B.getD i 0) = A.getD i 0 + br' * BB)
    (h : val O + val (B.take i) = val (A.take i) - 0 + br * BB ^ i) : val (O.set i r) + val (B.take (i + 1)) = val (A.take (i + 1)) - 0 + br' * BB ^ (i + 1) := by
  have hB : val (B.take (i + 1)) = val (B.take i) + B.getD i 0 * BB ^ i := by
    by_cases hb : i < B.length
    · exact val_take_succ hb
    · rw [take_over (by omega)]; simp [hb]
  rw [val_set0 _ hO h0, val_take_succ hA, hB]
  have e := congrArg (· * BB ^ i) hr
  simp only [Nat.add_mul] at e
  have e2 : br' * BB * BB ^ i = br' * BB ^ (i + 1) := by rw [Nat.pow_succ]; ac_rfl
  omega
theorem sub_end {A B : List Nat} {V br : Nat} (hA : Limbs A) (hle : val B ≤ val A) (h : V + val (B.take A.length) = val (A.take A.length) - 0 + br * BB ^ A.length) (hV : V < BB ^ A.length) : V + val B = val A := by
  rw [List.take_length] at h
  have hlt := val_lt hA
  have hsplit : val B = val (B.take A.length) + BB ^ A.length * val (B.drop A.length) := by
    by_cases hb : A.length ≤ B.length
    · conv => lhs; rw [← List.take_append_drop A.length B, val_append]
      rw [List.length_take, Nat.min_eq_left hb]
    · rw [List.take_of_length_le (by omega), List.drop_eq_nil_of_le (by omega)]; simp [val]
  have hd : val (B.drop A.length) = 0 := by
    apply Nat.eq_zero_of_not_pos
    intro hp
    have : BB ^ A.length * 1 ≤ BB ^ A.length * val (B.drop A.length) := Nat.mul_le_mul_left _ hp
    omega
  rw [hd] at hsplit
  simp at hsplit
  rw [hsplit]
  cases br with
  | zero => omega
  | succ n =>
    exfalso
    have : BB ^ A.length * 1 ≤ BB ^ A.length * (n + 1) := Nat.mul_le_mul_left _ (by omega)
    rw [Nat.mul_comm] at h
    have e : (n + 1) * BB ^ A.length = BB ^ A.length * (n + 1) := Nat.mul_comm _ _
    omega
theorem div_step {O A : List Nat} {j c rest : Nat} (hO : j < O.length) (h0 : O.getD j 0 = 0) (hA : j < A.length)
    (h : val O * c + rest * BB ^ (j + 1) + val (A.take (j + 1)) = val A) :
    val (O.set j ((rest * BB + A.getD j 0) / c)) * c + (rest * BB + A.getD j 0) % c * BB ^ j + val (A.take j) = val A := by
  rw [val_set0 _ hO h0, ← h, val_take_succ hA, Nat.add_mul]
  have e : (rest * BB + A.getD j 0) * BB ^ j = (rest * BB + A.getD j 0) / c * BB ^ j * c + (rest * BB + A.getD j 0) % c * BB ^ j := by
    conv => lhs; rw [← Nat.div_add_mod (rest * BB + A.getD j 0) c, Nat.add_mul]
    congr 1
    ac_rfl
  have e2 : (rest * BB + A.getD j 0) * BB ^ j = rest * BB ^ (j + 1) + A.getD j 0 * BB ^ j := by rw [Nat.add_mul, Nat.pow_succ, Nat.mul_assoc, Nat.mul_comm BB (BB ^ j)]
  omega
theorem div_lt {rest x c : Nat} (hr : rest < c) (hx : x < BB) : (rest * BB + x) / c < BB := by
  apply Nat.div_lt_of_lt_mul
  have : (rest + 1) * BB ≤ c * BB := Nat.mul_le_mul_right _ hr
  rw [Nat.add_mul] at this
  omega
theorem shl_step {O A : List Nat} {i m p x : Nat} (hO : i + m + 1 < O.length) (h0 : O.getD (i + m + 1) 0 = 0) (hA : i < A.length) (hx : x = A.getD i 0)
    (h : val O = val (A.take i) * (p * BB ^ m)) : val ((O.set (i + m) (O.getD (i + m) 0 + x * p % BB)).set (i + m + 1) (x * p / BB)) = val (A.take (i + 1)) * (p * BB ^ m) := by
  have h1 : (O.set (i + m) (O.getD (i + m) 0 + x * p % BB)).getD (i + m + 1) 0 = 0 := by rw [getD_set_ne (by omega), h0]
  rw [val_set0 _ (by simpa using hO) h1]
  have h2 := val_set (l := O) (k := i + m) (O.getD (i + m) 0 + x * p % BB) (by omega)
  rw [Nat.add_mul (O.getD (i + m) 0)] at h2
  rw [val_take_succ hA, ← hx, Nat.add_mul, ← h]
  have e : x * p * BB ^ (i + m) = x * p / BB * BB ^ (i + m + 1) + x * p % BB * BB ^ (i + m) := by
    conv => lhs; rw [← Nat.div_add_mod (x * p) BB, Nat.add_mul]
    rw [Nat.pow_succ]
    congr 1
    ac_rfl
  have e2 : x * BB ^ i * (p * BB ^ m) = x * p * BB ^ (i + m) := by rw [Nat.pow_add]; ac_rfl
  omega
theorem or_low {x k o : Nat} (ho : o < 2 ^ k) (hk : k ≤ 32) : (x * 2 ^ k % BB) ||| o = o + x * 2 ^ k % BB := by
  have e : BB = 2 ^ k * 2 ^ (32 - k) := by rw [← Nat.pow_add, Nat.add_sub_cancel' hk]; rfl
  have e2 : x * 2 ^ k % BB = 2 ^ k * (x % 2 ^ (32 - k)) := by rw [e, Nat.mul_comm x, Nat.mul_mod_mul_left]
  rw [e2, ← Nat.two_pow_add_eq_or_of_lt ho]
  omega
theorem shl_hi {x k : Nat} (hx : x < BB) : x * 2 ^ k / BB < 2 ^ k := by
  apply Nat.div_lt_of_lt_mul
  rw [Nat.mul_comm BB, Nat.mul_comm]
  exact Nat.mul_lt_mul_of_pos_left hx (Nat.pow_pos (by omega))
theorem shl_lo {x k o : Nat} (ho : o < 2 ^ k) (hk : k ≤ 32) : o + x * 2 ^ k % BB < BB := by
  have e : BB = 2 ^ k * 2 ^ (32 - k) := by rw [← Nat.pow_add, Nat.add_sub_cancel' hk]; rfl
  have e2 : x * 2 ^ k % BB = 2 ^ k * (x % 2 ^ (32 - k)) := by rw [e, Nat.mul_comm x, Nat.mul_mod_mul_left]
  rw [e2, e]
  have h1 : x % 2 ^ (32 - k) < 2 ^ (32 - k) := Nat.mod_lt _ (Nat.pow_pos (by omega))
  have h2 : 2 ^ k * (x % 2 ^ (32 - k) + 1) ≤ 2 ^ k * 2 ^ (32 - k) := Nat.mul_le_mul_left _ h1
  rw [Nat.mul_add] at h2
  omega
def shrL (k : Nat) : List Nat → List Nat
  | [] => []
  | x :: l => (x + l.getD 0 0 * BB) / 2 ^ k % BB :: shrL k l
theorem shrL_len (k : Nat) (l : List Nat) : (shrL k l).length = l.length := by
  induction l with
  | nil => rfl
  | cons x l ih => simp [shrL, ih]
theorem shrL_get (k : Nat) (l : List Nat) (i : Nat) (hi : i < l.length) : (shrL k l).getD i 0 = (l.getD i 0 + l.getD (i + 1) 0 * BB) / 2 ^ k % BB := by
  induction l generalizing i with
  | nil => simp at hi
  | cons x l ih =>
    cases i with
    | zero => rw [shrL, List.getD_cons_zero, List.getD_cons_zero, List.getD_cons_succ]
    | succ i => rw [shrL, List.getD_cons_succ, List.getD_cons_succ, List.getD_cons_succ]; exact ih i (by simpa using hi)
theorem shrL_limbs (k : Nat) (l : List Nat) : Limbs (shrL k l) := by
  induction l with
  | nil => intro x hx; cases hx
  | cons x l ih =>
    intro y hy
    rcases List.mem_cons.1 hy with rfl | h
    · exact Nat.mod_lt _ BB_pos
    · exact ih y h
theorem shr_arith {B b K x V y : Nat} (e : B = b * K) (hp : 0 < b) (hx : x < B) (hmod : V % b = y % b) : (x + y * B) / b % B + B * (V / b) = (x + B * V) / b := by
  have h1 : (x + B * V) / b = x / b + K * V := by rw [e, Nat.mul_assoc, Nat.add_mul_div_left _ _ hp]
  have h2 : (x + y * B) / b = x / b + K * y := by rw [e, show y * (b * K) = b * (K * y) from by ac_rfl, Nat.add_mul_div_left _ _ hp]
  rw [h1, h2]
  have hxb : x / b < K := Nat.div_lt_of_lt_mul (by rw [← e]; exact hx)
  have key : ∀ z, (x / b + K * z) % B = x / b + K * (z % b) := fun z => by
    have e3 : K * z = B * (z / b) + K * (z % b) := by
      conv => lhs; rw [← Nat.div_add_mod z b, Nat.mul_add]
      rw [e]
      congr 1
      ac_rfl
    rw [e3, show x / b + (B * (z / b) + K * (z % b)) = x / b + K * (z % b) + B * (z / b) from by omega, Nat.add_mul_mod_self_left]
    apply Nat.mod_eq_of_lt
    have h5 : z % b + 1 ≤ b := Nat.mod_lt _ hp
    have h6 : K * (z % b + 1) ≤ K * b := Nat.mul_le_mul_left _ h5
    rw [Nat.mul_add] at h6
    rw [e, Nat.mul_comm b K]
    omega
  rw [key, ← hmod]
  have e4 : K * V = B * (V / b) + K * (V % b) := by
    conv => lhs; rw [← Nat.div_add_mod V b, Nat.mul_add]
    rw [e]
    congr 1
    ac_rfl
  omega
theorem BB_split {k : Nat} (hk : k ≤ 32) : BB = 2 ^ k * 2 ^ (32 - k) := by rw [← Nat.pow_add, Nat.add_sub_cancel' hk]; rfl
theorem val_mod (k : Nat) (hk : k ≤ 32) (l : List Nat) : val l % 2 ^ k = l.getD 0 0 % 2 ^ k := by
  cases l with
  | nil => rfl
  | cons y l =>
    rw [val, BB_split hk, Nat.mul_assoc, Nat.add_mul_mod_self_left]
    rfl
theorem shrL_val (k : Nat) (hk : k < 32) (l : List Nat) (hl : Limbs l) : val (shrL k l) = val l / 2 ^ k := by
  induction l with
  | nil => simp [shrL, val]
  | cons x l ih =>
    have hx := hl x (by simp)
    have ih := ih (fun y hy => hl y (by simp [hy]))
    rw [shrL, val, val, ih]
    exact shr_arith (BB_split (by omega)) (Nat.pow_pos (by omega)) hx (val_mod k (by omega) l)
theorem val_drop {l : List Nat} {m : Nat} (hl : Limbs l) (hm : m ≤ l.length) : val (l.drop m) = val l / BB ^ m := by
  have h : val l = val (l.take m) + BB ^ m * val (l.drop m) := by
    conv => lhs; rw [← List.take_append_drop m l, val_append]
    rw [List.length_take, Nat.min_eq_left hm]
  have h2 := val_lt (limbs_take hl m)
  rw [List.length_take, Nat.min_eq_left hm] at h2
  rw [h, Nat.add_mul_div_left _ _ (Nat.pow_pos BB_pos), Nat.div_eq_of_lt h2, Nat.zero_add]
end Go.Proofs.YtbmaffijncapiaaGreatDoor.Num

/- limb: Add, Sub. -/
namespace Go.Proofs.YtbmaffijncapiaaGreatDoor
open Num
open Go.ChangeShapes Go.WideShapes Go.ChangeAt Go.RowKit
set_option linter.unusedVariables false
set_option linter.unusedSimpArgs false
def NewL (w' : World) (u : Value) (v : Nat) : Prop := ∃ a n L, u = .slice a n n ∧ n = List.length L ∧ U32 w' a n L ∧ Nrm L ∧ val L = v


set_option maxRecDepth 100000 in
set_option maxHeartbeats 4000000 in
theorem limbAdd_c (a b : Option Addr) (ca cb : Nat) (l m : List Nat) (w : World) (ha : U32 w a ca l) (hb : U32 w b cb m) (h1 : l.length ≤ 1099511627776) (h2 : m.length ≤ 1099511627776) :
    Calls Tryz.prog 123 #[.slice a l.length ca, .slice b m.length cb] w fun e w' => (∃ u, e = .returned u ∧ NewL w' u (val l + val m)) ∧ Below w.heap.size w w' := by
  by_cases hll : l.length < m.length
  ·
    have hmk := mk32 (m.length + 1) (by omega)
    have ec : ((m.length + 1 : Nat) : Int) = (m.length : Int) + 1 := by omega
    rw [ec] at hmk
    clear ec
    go_enter Tryz.func123, Tryz.ntmps123
    go_wp2
    clear hmk
    go_loopw [6, 22] (fun cv x wr => ∃ (i c : Nat) (O : List Nat), i ≤ m.length ∧ x = .int .i64 i ∧ cv = .int .u64 c ∧ c ≤ 1 ∧ Blk wr w.heap.size O ∧ Hid (O.length = m.length + 1) ∧ Limbs O ∧ (∀ j, i ≤ j → O.getD j 0 = 0) ∧ Hid (val O + c * BB ^ i = val (m.take i) + val (l.take i)) ∧ Below w.heap.size w wr) (fun _ x _ => m.length - (intOf x).toNat)
    case atStart => exact ⟨0, 0, List.replicate (m.length + 1) 0, by omega, rfl, rfl, by omega, blk_new w _, Lib.hid (by simp), (fun y hy => by simp at hy; rw [hy]; exact BB_pos), (fun j hj => by simp [List.getElem?_replicate]; split <;> rfl), Lib.hid (by simp [val, val_zeros]), bal (Below.refl _ _) _⟩
    case round =>
      obtain ⟨i, c, O, hi, rfl, rfl, hc1, hO, hOl, hOL, hO0, hV, hB⟩ := hrel
      have hol := hOl.out
      by_cases hlt : i < m.length
      · rcases hb.2.2.2 with hl0 | ⟨ba, oa, rfl, hca⟩
        · subst hl0; simp at hlt
        have c0 := bkeep hB (hca i hlt)
        have hx := limb_get hb.2.2.1 i
        have q0 := hO.cell i (by omega)
        have qf := hO.frozen i
        have HS := Lib.hid (add_step (O := O) (A := m) (B := l) (i := i) (c := c) (t := c + m.getD i 0 + l.getD i 0) (by omega) (hO0 i (Nat.le_refl _)) hlt rfl hV.out)
        by_cases hlm : i < l.length
        · rcases ha.2.2.2 with hm0 | ⟨bb, ob, rfl, hcb⟩
          · subst hm0; simp at hlm
          have d0 := bkeep hB (hcb i hlm)
          have hy := limb_get ha.2.2.1 i
          generalize m.getD i 0 = x at *
          generalize l.getD i 0 = y at *
          generalize O.getD i 0 = o at *
          have e1 := w64 (BB_sq x hx)
          have e2 := w64 (BB_sq y hy)
          have e3 : IntKind.u64.wrap ((c : Int) + (x : Int)) = ((c + x : Nat) : Int) := by rw [← Int.natCast_add]; exact w64 (by unfold BB at *; omega)
          have e4 : IntKind.u64.wrap (((c + x : Nat) : Int) + (y : Int)) = ((c + x + y : Nat) : Int) := by rw [← Int.natCast_add]; exact w64 (by unfold BB at *; omega)
          have ht : c + x + y < 2 * BB := by omega
          generalize c + x = t1 at e3 e4 HS ht
          generalize t1 + y = t at e4 HS ht
          have qb := hO.set i (t % BB)
          have ql := limbs_set hOL (k := i) (Nat.mod_lt t BB_pos)
          have eqb : ((t % BB : Nat) : Int) = (t : Int) % 4294967296 := by unfold BB; omega
          rw [eqb] at qb
          have bs := bset hB (p := ⟨w.heap.size, i, none⟩) (Nat.le_refl _) (.int .u32 ((t : Int) % 4294967296))
          clear hol eqb
          go_wp2
          refine ⟨⟨i + 1, t / BB, O.set i (t % BB), by omega, rfl, by unfold BB; simp, by unfold BB at *; omega, qb, Lib.hid (by simpa using hOl.out), ql, ?_, HS, bs⟩, by simp [intOf] <;> omega⟩
          intro j hj
          rw [Num.getD_set_ne (by omega)]
          exact hO0 j (by omega)
        · have hy0 : l.getD i 0 = 0 := by simp [hlm]
          rw [hy0] at HS
          have hlm' : decide (i < l.length) = false := by simp; omega
          generalize m.getD i 0 = x at *
          generalize O.getD i 0 = o at *
          have e1 := w64 (BB_sq x hx)
          have e3 : IntKind.u64.wrap ((c : Int) + (x : Int)) = ((c + x : Nat) : Int) := by rw [← Int.natCast_add]; exact w64 (by unfold BB at *; omega)
          have ht : c + x + 0 < 2 * BB := by omega
          rw [Nat.add_zero] at HS ht
          clear hy0
          generalize c + x = t at e3 HS ht
          have qb := hO.set i (t % BB)
          have ql := limbs_set hOL (k := i) (Nat.mod_lt t BB_pos)
          have eqb : ((t % BB : Nat) : Int) = (t : Int) % 4294967296 := by unfold BB; omega
          rw [eqb] at qb
          have bs := bset hB (p := ⟨w.heap.size, i, none⟩) (Nat.le_refl _) (.int .u32 ((t : Int) % 4294967296))
          clear hol eqb
          go_wp2
          refine ⟨⟨i + 1, t / BB, O.set i (t % BB), by omega, rfl, by unfold BB; simp, by unfold BB at *; omega, qb, Lib.hid (by simpa using hOl.out), ql, ?_, HS, bs⟩, by simp [intOf] <;> omega⟩
          intro j hj
          rw [Num.getD_set_ne (by omega)]
          exact hO0 j (by omega)
      · obtain rfl : i = m.length := by omega
        have hV2 := val_set0 c (show m.length < O.length by omega) (hO0 _ (Nat.le_refl _))
        have q0 := hO.cell m.length (by omega)
        have qf := hO.frozen m.length
        have qb := hO.set m.length c
        have ql := limbs_set hOL (k := m.length) (x := c) (by unfold BB; omega)
        have ec : (c : Int) % 4294967296 = c := by omega
        have hm2 : val (l.take m.length) = val l := by rw [List.take_of_length_le (by omega)]
        have HV := Lib.hid (show val (O.set m.length c) = val l + val m by have := hV.out; rw [List.take_length, hm2] at this; omega)
        have hu := qb.u32 ql (by simp [hol]; unfold maxLen; omega)
        have tc := trim_c _ _ _ _ hu
        have HT := Lib.hid (val_trim (O.set m.length c))
        have HN := trim_nrm (O.set m.length c)
        have hu2 := hu.trim
        have hl2 : (O.set m.length c).length = m.length + 1 := by simp [hol]
        generalize hOQ : O.set m.length c = Q at *
        generalize trimL Q = T at *
        rw [hl2] at tc
        clear hV2 hm2 hV hOl hOQ hu hl2 hol
        have hB2 := bset hB (p := ⟨w.heap.size, m.length, none⟩) (Nat.le_refl _) (.int .u32 (c : Int))
        go_wp2_with fail
        refine tc.mono ?_
        rintro e w1 ⟨rfl, rfl⟩
        clear tc
        go_wp2
        go_ret
        exact ⟨⟨_, rfl, _, _, T, rfl, rfl, hu2, HN, by rw [HT.out, HV.out]⟩, hB2⟩
  ·
    have hmk := mk32 (l.length + 1) (by omega)
    have ec : ((l.length + 1 : Nat) : Int) = (l.length : Int) + 1 := by omega
    rw [ec] at hmk
    clear ec
    go_enter Tryz.func123, Tryz.ntmps123
    go_wp2
    clear hmk
    go_loopw [6, 22] (fun cv x wr => ∃ (i c : Nat) (O : List Nat), i ≤ l.length ∧ x = .int .i64 i ∧ cv = .int .u64 c ∧ c ≤ 1 ∧ Blk wr w.heap.size O ∧ Hid (O.length = l.length + 1) ∧ Limbs O ∧ (∀ j, i ≤ j → O.getD j 0 = 0) ∧ Hid (val O + c * BB ^ i = val (l.take i) + val (m.take i)) ∧ Below w.heap.size w wr) (fun _ x _ => l.length - (intOf x).toNat)
    case atStart => exact ⟨0, 0, List.replicate (l.length + 1) 0, by omega, rfl, rfl, by omega, blk_new w _, Lib.hid (by simp), (fun y hy => by simp at hy; rw [hy]; exact BB_pos), (fun j hj => by simp [List.getElem?_replicate]; split <;> rfl), Lib.hid (by simp [val, val_zeros]), bal (Below.refl _ _) _⟩
    case round =>
      obtain ⟨i, c, O, hi, rfl, rfl, hc1, hO, hOl, hOL, hO0, hV, hB⟩ := hrel
      have hol := hOl.out
      by_cases hlt : i < l.length
      · rcases ha.2.2.2 with hl0 | ⟨ba, oa, rfl, hca⟩
        · subst hl0; simp at hlt
        have c0 := bkeep hB (hca i hlt)
        have hx := limb_get ha.2.2.1 i
        have q0 := hO.cell i (by omega)
        have qf := hO.frozen i
        have HS := Lib.hid (add_step (O := O) (A := l) (B := m) (i := i) (c := c) (t := c + l.getD i 0 + m.getD i 0) (by omega) (hO0 i (Nat.le_refl _)) hlt rfl hV.out)
        by_cases hlm : i < m.length
        · rcases hb.2.2.2 with hm0 | ⟨bb, ob, rfl, hcb⟩
          · subst hm0; simp at hlm
          have d0 := bkeep hB (hcb i hlm)
          have hy := limb_get hb.2.2.1 i
          generalize l.getD i 0 = x at *
          generalize m.getD i 0 = y at *
          generalize O.getD i 0 = o at *
          have e1 := w64 (BB_sq x hx)
          have e2 := w64 (BB_sq y hy)
          have e3 : IntKind.u64.wrap ((c : Int) + (x : Int)) = ((c + x : Nat) : Int) := by rw [← Int.natCast_add]; exact w64 (by unfold BB at *; omega)
          have e4 : IntKind.u64.wrap (((c + x : Nat) : Int) + (y : Int)) = ((c + x + y : Nat) : Int) := by rw [← Int.natCast_add]; exact w64 (by unfold BB at *; omega)
          have ht : c + x + y < 2 * BB := by omega
          generalize c + x = t1 at e3 e4 HS ht
          generalize t1 + y = t at e4 HS ht
          have qb := hO.set i (t % BB)
          have ql := limbs_set hOL (k := i) (Nat.mod_lt t BB_pos)
          have eqb : ((t % BB : Nat) : Int) = (t : Int) % 4294967296 := by unfold BB; omega
          rw [eqb] at qb
          have bs := bset hB (p := ⟨w.heap.size, i, none⟩) (Nat.le_refl _) (.int .u32 ((t : Int) % 4294967296))
          clear hol eqb
          go_wp2
          refine ⟨⟨i + 1, t / BB, O.set i (t % BB), by omega, rfl, by unfold BB; simp, by unfold BB at *; omega, qb, Lib.hid (by simpa using hOl.out), ql, ?_, HS, bs⟩, by simp [intOf] <;> omega⟩
          intro j hj
          rw [Num.getD_set_ne (by omega)]
          exact hO0 j (by omega)
        · have hy0 : m.getD i 0 = 0 := by simp [hlm]
          rw [hy0] at HS
          have hlm' : decide (i < m.length) = false := by simp; omega
          generalize l.getD i 0 = x at *
          generalize O.getD i 0 = o at *
          have e1 := w64 (BB_sq x hx)
          have e3 : IntKind.u64.wrap ((c : Int) + (x : Int)) = ((c + x : Nat) : Int) := by rw [← Int.natCast_add]; exact w64 (by unfold BB at *; omega)
          have ht : c + x + 0 < 2 * BB := by omega
          rw [Nat.add_zero] at HS ht
          clear hy0
          generalize c + x = t at e3 HS ht
          have qb := hO.set i (t % BB)
          have ql := limbs_set hOL (k := i) (Nat.mod_lt t BB_pos)
          have eqb : ((t % BB : Nat) : Int) = (t : Int) % 4294967296 := by unfold BB; omega
          rw [eqb] at qb
          have bs := bset hB (p := ⟨w.heap.size, i, none⟩) (Nat.le_refl _) (.int .u32 ((t : Int) % 4294967296))
          clear hol eqb
          go_wp2
          refine ⟨⟨i + 1, t / BB, O.set i (t % BB), by omega, rfl, by unfold BB; simp, by unfold BB at *; omega, qb, Lib.hid (by simpa using hOl.out), ql, ?_, HS, bs⟩, by simp [intOf] <;> omega⟩
          intro j hj
          rw [Num.getD_set_ne (by omega)]
          exact hO0 j (by omega)
      · obtain rfl : i = l.length := by omega
        have hV2 := val_set0 c (show l.length < O.length by omega) (hO0 _ (Nat.le_refl _))
        have q0 := hO.cell l.length (by omega)
        have qf := hO.frozen l.length
        have qb := hO.set l.length c
        have ql := limbs_set hOL (k := l.length) (x := c) (by unfold BB; omega)
        have ec : (c : Int) % 4294967296 = c := by omega
        have hm2 : val (m.take l.length) = val m := by rw [List.take_of_length_le (by omega)]
        have HV := Lib.hid (show val (O.set l.length c) = val l + val m by have := hV.out; rw [List.take_length, hm2] at this; omega)
        have hu := qb.u32 ql (by simp [hol]; unfold maxLen; omega)
        have tc := trim_c _ _ _ _ hu
        have HT := Lib.hid (val_trim (O.set l.length c))
        have HN := trim_nrm (O.set l.length c)
        have hu2 := hu.trim
        have hl2 : (O.set l.length c).length = l.length + 1 := by simp [hol]
        generalize hOQ : O.set l.length c = Q at *
        generalize trimL Q = T at *
        rw [hl2] at tc
        clear hV2 hm2 hV hOl hOQ hu hl2 hol
        have hB2 := bset hB (p := ⟨w.heap.size, l.length, none⟩) (Nat.le_refl _) (.int .u32 (c : Int))
        go_wp2_with fail
        refine tc.mono ?_
        rintro e w1 ⟨rfl, rfl⟩
        clear tc
        go_wp2
        go_ret
        exact ⟨⟨_, rfl, _, _, T, rfl, rfl, hu2, HN, by rw [HT.out, HV.out]⟩, hB2⟩
namespace Num
theorem cmpN_ge {x y : Nat} (h : y ≤ x) : ¬ cmpN x y < 0 := by
  unfold cmpN; rw [if_neg (by omega)]; split <;> omega
end Num

set_option maxRecDepth 100000 in
set_option maxHeartbeats 4000000 in
theorem limbSub_c (a b : Option Addr) (ca cb : Nat) (l m : List Nat) (w : World) (ha : U32 w a ca l) (hb : U32 w b cb m) (h1 : l.length ≤ 1099511627776) (hle : val m ≤ val l) :
    Calls Tryz.prog 125 #[.slice a l.length ca, .slice b m.length cb] w fun e w' => (∃ u, e = .returned (.tuple #[u, .int .i64 0]) ∧ NewL w' u (val l - val m)) ∧ Below w.heap.size w w' := by
  have hmk := mk32 l.length (by omega)
  have cc := limbCmp_c a b ca cb l m w ha hb
  have hcz : decide (cmpN (val l) (val m) < 0) = false := by simpa using cmpN_ge hle
  have HLE := Lib.hid hle
  clear hle
  generalize cmpN (val l) (val m) = z at *
  go_enter Tryz.func125, Tryz.ntmps125
  go_wp2_with fail
  refine cc.mono ?_
  rintro e w0 ⟨rfl, hb0⟩
  clear cc
  have ha0 := ha.keep hb0
  have hb1 := hb.keep hb0
  have HB0 := Lib.hid hb0
  clear ha hb hb0
  go_wp2
  clear hmk hcz
  go_loopw [7, 21] (fun cv x wr => ∃ (i c : Nat) (O : List Nat), i ≤ l.length ∧ x = .int .i64 i ∧ cv = .int .u64 c ∧ c ≤ 1 ∧ Blk wr w0.heap.size O ∧ Hid (O.length = l.length) ∧ Limbs O ∧ (∀ j, i ≤ j → O.getD j 0 = 0) ∧ Hid (val O + val (m.take i) = val (l.take i) - 0 + c * BB ^ i) ∧ Below w0.heap.size w0 wr) (fun _ x _ => l.length - (intOf x).toNat)
  case atStart => exact ⟨0, 0, List.replicate l.length 0, by omega, rfl, rfl, by omega, blk_new w0 _, Lib.hid (by simp), (fun y hy => by simp at hy; rw [hy.2]; exact BB_pos), (fun j hj => by simp [List.getElem?_replicate]; split <;> rfl), Lib.hid (by simp [val, val_zeros]), bal (Below.refl _ _) _⟩
  case round =>
    obtain ⟨i, c, O, hi, rfl, rfl, hc1, hO, hOl, hOL, hO0, hV, hB⟩ := hrel
    have hol := hOl.out
    by_cases hlt : i < l.length
    · rcases ha0.2.2.2 with hl0 | ⟨ba, oa, rfl, hca⟩
      · subst hl0; simp at hlt
      have c0 := bkeep hB (hca i hlt)
      have hx := limb_get ha0.2.2.1 i
      have q0 := hO.cell i (by omega)
      have qf := hO.frozen i
      have HS := Lib.hid (fun r br' hr => sub_step (O := O) (A := l) (B := m) (i := i) (br := c) (r := r) (br' := br') (by omega) (hO0 i (Nat.le_refl _)) hlt hr hV.out)
      by_cases hlm : i < m.length
      · rcases hb1.2.2.2 with hm0 | ⟨bb, ob, rfl, hcb⟩
        · subst hm0; simp at hlm
        have d0 := bkeep hB (hcb i hlm)
        have hy := limb_get hb1.2.2.1 i
        generalize l.getD i 0 = x at *
        generalize m.getD i 0 = y at *
        generalize O.getD i 0 = o at *
        have e1 := w64 (BB_sq x hx)
        have e2 := w64 (BB_sq y hy)
        have e3 : IntKind.u64.wrap ((c : Int) + (y : Int)) = ((c + y : Nat) : Int) := by rw [← Int.natCast_add]; exact w64 (by unfold BB at *; omega)
        have ht : c + y ≤ BB := by omega
        generalize c + y = y1 at e3 HS ht
        by_cases hlow : y1 ≤ x
        · have e4 : IntKind.u64.wrap ((x : Int) - (y1 : Int)) = ((x - y1 : Nat) : Int) := by rw [show (x : Int) - (y1 : Int) = ((x - y1 : Nat) : Int) by omega]; exact w64 (by unfold BB at *; omega)
          have hr1 : x - y1 < BB := by omega
          have HR := Lib.hid (HS.out (x - y1) 0 (by omega))
          generalize x - y1 = r at *
          have e5 : (r : Int) / 4294967296 = 0 := by unfold BB at hr1; omega
          have e6 : (r : Int) % 4294967296 = (r : Int) := by unfold BB at hr1; omega
          have b0 : bits .and .u64 0 1 = 0 := by rfl
          have qb := hO.set i r
          have ql := limbs_set hOL (k := i) hr1
          have bs := bset hB (p := ⟨w0.heap.size, i, none⟩) (Nat.le_refl _) (.int .u32 (r : Int))
          clear hol
          go_wp2
          refine ⟨⟨i + 1, 0, O.set i r, by omega, by go_num, rfl, by omega, qb, Lib.hid (by simpa using hOl.out), ql, ?_, HR, bs⟩, by simp [intOf] <;> omega⟩
          intro j hj
          rw [Num.getD_set_ne (by omega)]
          exact hO0 j (by omega)
        · have e4 : IntKind.u64.wrap ((x : Int) - (y1 : Int)) = ((18446744073709551616 - (y1 - x) : Nat) : Int) := by
            simp only [IntKind.wrap, IntKind.bits, IntKind.signed]
            simp
            unfold BB at *
            omega
          have hr1 : BB + x - y1 < BB := by omega
          have HR := Lib.hid (HS.out (BB + x - y1) 1 (by omega))
          have e6 : ((18446744073709551616 - (y1 - x) : Nat) : Int) % 4294967296 = ((BB + x - y1 : Nat) : Int) := by unfold BB at *; omega
          have e5 : ((18446744073709551616 - (y1 - x) : Nat) : Int) / 4294967296 = 4294967295 := by unfold BB at *; omega
          have hDD : 18446744073709551616 - (y1 - x) < 18446744073709551616 := by omega
          generalize 18446744073709551616 - (y1 - x) = D at e4 e5 e6 hDD
          generalize BB + x - y1 = r at *
          have b0 : bits .and .u64 4294967295 1 = 1 := by rfl
          have qb := hO.set i r
          have ql := limbs_set hOL (k := i) hr1
          have bs := bset hB (p := ⟨w0.heap.size, i, none⟩) (Nat.le_refl _) (.int .u32 (r : Int))
          clear hol hDD
          go_wp2
          refine ⟨⟨i + 1, 1, O.set i r, by omega, by go_num, rfl, by omega, qb, Lib.hid (by simpa using hOl.out), ql, ?_, HR, bs⟩, by simp [intOf] <;> omega⟩
          intro j hj
          rw [Num.getD_set_ne (by omega)]
          exact hO0 j (by omega)
      · have hy0 : m.getD i 0 = 0 := by simp [hlm]
        rw [hy0] at HS
        have hlm' : decide (i < m.length) = false := by simp; omega
        generalize l.getD i 0 = x at *
        generalize O.getD i 0 = o at *
        have e1 := w64 (BB_sq x hx)
        have ht : c + 0 ≤ BB := by unfold BB; omega
        rw [Nat.add_zero] at HS ht
        obtain ⟨y1, hy1⟩ : ∃ y1, y1 = c := ⟨_, rfl⟩
        subst hy1
        clear hy0
        by_cases hlow : y1 ≤ x
        · have e4 : IntKind.u64.wrap ((x : Int) - (y1 : Int)) = ((x - y1 : Nat) : Int) := by rw [show (x : Int) - (y1 : Int) = ((x - y1 : Nat) : Int) by omega]; exact w64 (by unfold BB at *; omega)
          have hr1 : x - y1 < BB := by omega
          have HR := Lib.hid (HS.out (x - y1) 0 (by omega))
          generalize x - y1 = r at *
          have e5 : (r : Int) / 4294967296 = 0 := by unfold BB at hr1; omega
          have e6 : (r : Int) % 4294967296 = (r : Int) := by unfold BB at hr1; omega
          have b0 : bits .and .u64 0 1 = 0 := by rfl
          have qb := hO.set i r
          have ql := limbs_set hOL (k := i) hr1
          have bs := bset hB (p := ⟨w0.heap.size, i, none⟩) (Nat.le_refl _) (.int .u32 (r : Int))
          clear hol
          go_wp2
          refine ⟨⟨i + 1, 0, O.set i r, by omega, by go_num, rfl, by omega, qb, Lib.hid (by simpa using hOl.out), ql, ?_, HR, bs⟩, by simp [intOf] <;> omega⟩
          intro j hj
          rw [Num.getD_set_ne (by omega)]
          exact hO0 j (by omega)
        · have e4 : IntKind.u64.wrap ((x : Int) - (y1 : Int)) = ((18446744073709551616 - (y1 - x) : Nat) : Int) := by
            simp only [IntKind.wrap, IntKind.bits, IntKind.signed]
            simp
            unfold BB at *
            omega
          have hr1 : BB + x - y1 < BB := by omega
          have HR := Lib.hid (HS.out (BB + x - y1) 1 (by omega))
          have e6 : ((18446744073709551616 - (y1 - x) : Nat) : Int) % 4294967296 = ((BB + x - y1 : Nat) : Int) := by unfold BB at *; omega
          have e5 : ((18446744073709551616 - (y1 - x) : Nat) : Int) / 4294967296 = 4294967295 := by unfold BB at *; omega
          have hDD : 18446744073709551616 - (y1 - x) < 18446744073709551616 := by omega
          generalize 18446744073709551616 - (y1 - x) = D at e4 e5 e6 hDD
          generalize BB + x - y1 = r at *
          have b0 : bits .and .u64 4294967295 1 = 1 := by rfl
          have qb := hO.set i r
          have ql := limbs_set hOL (k := i) hr1
          have bs := bset hB (p := ⟨w0.heap.size, i, none⟩) (Nat.le_refl _) (.int .u32 (r : Int))
          clear hol hDD
          go_wp2
          refine ⟨⟨i + 1, 1, O.set i r, by omega, by go_num, rfl, by omega, qb, Lib.hid (by simpa using hOl.out), ql, ?_, HR, bs⟩, by simp [intOf] <;> omega⟩
          intro j hj
          rw [Num.getD_set_ne (by omega)]
          exact hO0 j (by omega)
    · obtain rfl : i = l.length := by omega
      have hlt2 := val_lt hOL
      rw [hol] at hlt2
      have HV := Lib.hid (show val O = val l - val m by have := sub_end ha0.2.2.1 HLE.out hV.out hlt2; omega)
      have hu := hO.u32 hOL (by rw [hol]; unfold maxLen; omega)
      have tc := trim_c _ _ _ _ hu
      have HT := Lib.hid (val_trim O)
      have HN := trim_nrm O
      have hu2 := hu.trim
      generalize trimL O = T at *
      rw [hol] at tc
      clear hV hOl hu hol hlt2
      have hB2 := bthen HB0.out hB
      go_wp2_with fail
      refine tc.mono ?_
      rintro e w1 ⟨rfl, rfl⟩
      clear tc
      go_wp2
      go_ret2
      exact ⟨⟨_, rfl, _, _, T, rfl, rfl, hu2, HN, by rw [HT.out, HV.out]⟩, hB2⟩
end Go.Proofs.YtbmaffijncapiaaGreatDoor

/- limb: DivSmall. -/
namespace Go.Proofs.YtbmaffijncapiaaGreatDoor
open Num
open Go.ChangeShapes Go.WideShapes Go.ChangeAt Go.RowKit
set_option linter.unusedVariables false
set_option linter.unusedSimpArgs false
namespace Num
theorem hi_or {r x : Nat} (hr : r < BB) (hx : x < BB) : bits .or .u64 ((r * BB : Nat) : Int) (x : Int) = ((r * BB + x : Nat) : Int) := by
  have hx' : x < 2 ^ 32 := hx
  have e : r * BB = 2 ^ 32 * r := by rw [Nat.mul_comm]; rfl
  have hb : r * BB < 18446744073709551616 := by
    have : r * BB ≤ (BB - 1) * BB := Nat.mul_le_mul_right _ (by omega)
    have e2 : (BB - 1) * BB = 18446744069414584320 := by unfold BB; rfl
    omega
  rw [u64_or_nat _ _ hb (by unfold BB at hx; omega), e, ← Nat.two_pow_add_eq_or_of_lt hx']
end Num

set_option maxRecDepth 100000 in
set_option maxHeartbeats 4000000 in
theorem divSmallF_c (a : Option Addr) (ca : Nat) (l : List Nat) (c : Nat) (w : World) (ha : U32 w a ca l) (h1 : l.length ≤ 1099511627776) (hc : 0 < c) (hcB : c < BB) :
    Calls Tryz.prog 259 #[.slice a l.length ca, .int .u32 (c : Int)] w fun e w' => (∃ u, e = .returned (.tuple #[u, .int .u32 ((val l % c : Nat) : Int), .int .i64 0]) ∧ NewL w' u (val l / c) ∧ ∀ g f n k, u = .slice (some ⟨g, f, none⟩) n k → w.heap.size ≤ g) ∧ Below w.heap.size w w' := by
  have hmk := mk32 l.length (by omega)
  have hcz : ((c : Int) == 0) = false := by simp; omega
  have ecw := w64 (BB_sq c hcB)
  go_enter Tryz.func259, Tryz.ntmps259
  go_wp2
  clear hmk hcz
  go_loopw [8, 9] (fun rv x wr => ∃ (k r : Nat) (O : List Nat), k ≤ l.length ∧ x = .int .i64 ((k : Int) - 1) ∧ rv = .int .u64 r ∧ r < c ∧ Blk wr w.heap.size O ∧ Hid (O.length = l.length) ∧ Limbs O ∧ (∀ j, j < k → O.getD j 0 = 0) ∧ Hid (val O * c + r * BB ^ k + val (l.take k) = val l) ∧ Below w.heap.size w wr) (fun _ x _ => (intOf x + 1).toNat)
  case atStart => exact ⟨l.length, 0, List.replicate l.length 0, by omega, rfl, rfl, hc, blk_new w _, Lib.hid (by simp), (fun y hy => by simp at hy; rw [hy.2]; exact BB_pos), (fun j hj => by simp [List.getElem?_replicate]; split <;> rfl), Lib.hid (by simp [val_zeros]), bal (Below.refl _ _) _⟩
  case round =>
    obtain ⟨k, r, O, hk, rfl, rfl, hr, hO, hOl, hOL, hO0, hV, hB⟩ := hrel
    have hol := hOl.out
    cases k with
    | zero =>
      have HV := Lib.hid (show val O * c + r = val l by have := hV.out; simpa [val] using this)
      have HD := Lib.hid (show val O = val l / c by rw [← HV.out, Nat.mul_comm, Nat.mul_add_div hc, Nat.div_eq_of_lt hr, Nat.add_zero])
      have HM := Lib.hid (show r = val l % c by rw [← HV.out, Nat.mul_comm, Nat.mul_add_mod, Nat.mod_eq_of_lt hr])
      have hu := hO.u32 hOL (by rw [hol]; unfold maxLen; omega)
      have tc := trim_c _ _ _ _ hu
      have HT := Lib.hid (val_trim O)
      have HN := trim_nrm O
      have hu2 := hu.trim
      generalize trimL O = T at *
      rw [hol] at tc
      have er : (r : Int) % 4294967296 = (r : Int) := by unfold BB at hcB; omega
      clear hV hOl hu hol HV
      go_wp2_with fail
      refine tc.mono ?_
      rintro e w1 ⟨rfl, rfl⟩
      clear tc
      go_wp2
      go_ret3
      exact ⟨⟨_, by rw [← HM.out]; rfl, ⟨_, _, T, rfl, rfl, hu2, HN, by rw [HT.out, HD.out]⟩, fun g f n k h => by cases h; exact Nat.le_refl _⟩, hB⟩
    | succ j =>
      rcases ha.2.2.2 with hl0 | ⟨ba, oa, rfl, hca⟩
      · subst hl0; simp at hk
      have c0 := bkeep hB (hca j (by omega))
      have hx := limb_get ha.2.2.1 j
      have q0 := hO.cell j (by omega)
      have qf := hO.frozen j
      have hrB : r < BB := by omega
      have HS := Lib.hid (div_step (O := O) (A := l) (j := j) (c := c) (rest := r) (by omega) (hO0 j (by omega)) (by omega) hV.out)
      generalize l.getD j 0 = x at *
      generalize O.getD j 0 = o at *
      have e1 := w64 (BB_sq x hx)
      have e2 : bits .or .u64 ((r : Int) * 4294967296) (x : Int) = ((r * BB + x : Nat) : Int) := by rw [← hi_or hrB hx, Int.natCast_mul]; rfl
      have hq := div_lt hr hx
      have hm := Nat.mod_lt (r * BB + x) hc
      have hrl : (r : Int) < 4294967296 := by unfold BB at hrB; omega
      generalize r * BB + x = t at *
      have e3 : (t : Int).tdiv (c : Int) = ((t / c : Nat) : Int) := rfl
      have e4 : (t : Int).tmod (c : Int) = ((t % c : Nat) : Int) := rfl
      have hqr : val (O.set j (t / c)) * c + t % c * BB ^ j + val (l.take j) = val l := HS.out
      have HQR := Lib.hid hqr
      clear hqr HS
      generalize t / c = q at *
      generalize t % c = r2 at *
      have e5 := w64 (BB_sq q hq)
      have e6 : (q : Int) % 4294967296 = (q : Int) := by unfold BB at hq; omega
      have qb := hO.set j q
      have ql := limbs_set hOL (k := j) hq
      have bs := bset hB (p := ⟨w.heap.size, j, none⟩) (Nat.le_refl _) (.int .u32 (q : Int))
      clear hol
      go_wp2
      refine ⟨⟨j, r2, O.set j q, by omega, by go_num, rfl, hm, qb, Lib.hid (by simpa using hOl.out), ql, ?_, HQR, bs⟩, by simp [intOf] <;> omega⟩
      intro i hi
      rw [Num.getD_set_ne (by omega)]
      exact hO0 i (by omega)
theorem divSmall_c (a : Option Addr) (ca : Nat) (l : List Nat) (c : Nat) (w : World) (ha : U32 w a ca l) (h1 : l.length ≤ 1099511627776) (hc : 0 < c) (hcB : c < BB) :
    Calls Tryz.prog 259 #[.slice a l.length ca, .int .u32 (c : Int)] w fun e w' => (∃ u, e = .returned (.tuple #[u, .int .u32 ((val l % c : Nat) : Int), .int .i64 0]) ∧ NewL w' u (val l / c)) ∧ Below w.heap.size w w' :=
  (divSmallF_c a ca l c w ha h1 hc hcB).mono fun e w' ⟨⟨u, he, hn, _⟩, hb⟩ => ⟨⟨u, he, hn⟩, hb⟩
end Go.Proofs.YtbmaffijncapiaaGreatDoor

/- limb: Shl, Shr. -/
namespace Go.Proofs.YtbmaffijncapiaaGreatDoor
open Num
open Go.ChangeShapes Go.WideShapes Go.ChangeAt Go.RowKit
set_option linter.unusedVariables false
set_option linter.unusedSimpArgs false

namespace Num
theorem repl_getD (n j : Nat) : (List.replicate n 0).getD j 0 = 0 := by
  simp [List.getD_eq_getElem?_getD, List.getElem?_replicate]; split <;> rfl
theorem pow31 {k : Nat} (h : k < 32) : 2 ^ k ≤ 2147483648 := Nat.pow_le_pow_right (n := 2) (by omega) (show k ≤ 31 by omega)
theorem shl_lt {x k : Nat} (hx : x < BB) (h : k < 32) : x * 2 ^ k < BB * BB := by
  have h1 := pow31 h
  have h2 : x * 2 ^ k ≤ x * 2147483648 := Nat.mul_le_mul_left _ h1
  unfold BB at *
  omega
theorem getD_set_eq {l : List Nat} {i x : Nat} (h : i < l.length) : (l.set i x).getD i 0 = x := by
  simp [List.getD_eq_getElem?_getD, h]
end Num

set_option maxRecDepth 100000 in
set_option maxHeartbeats 4000000 in
theorem limbShl_c (a : Option Addr) (ca : Nat) (l : List Nat) (n : Nat) (w : World) (ha : U32 w a ca l) (h1 : l.length ≤ 1099511627776) (hn : n ≤ 65536) :
    Calls Tryz.prog 262 #[.slice a l.length ca, .int .i64 (n : Int)] w fun e w' => (∃ u, e = .returned (.tuple #[u, .int .i64 0]) ∧ NewL w' u (val l * 2 ^ n)) ∧ Below w.heap.size w w' := by
  obtain ⟨m, hm⟩ : ∃ m, m = n / 32 := ⟨_, rfl⟩
  obtain ⟨k, hk⟩ : ∃ k, k = n % 32 := ⟨_, rfl⟩
  have en1 : (n : Int) / 32 = (m : Int) := by omega
  have en2 : (n : Int) % 32 = (k : Int) := by omega
  have en3 : (n : Int).tdiv 32 = (m : Int) := by rw [Int.tdiv_eq_ediv_of_nonneg (by omega)]; exact en1
  have en4 : (n : Int).tmod 32 = (k : Int) := by rw [Int.tmod_eq_emod_of_nonneg (by omega)]; exact en2
  have hk32 : k < 32 := by omega
  have hm2 : m ≤ 2048 := by omega
  have HN := Lib.hid (show 2 ^ n = 2 ^ k * BB ^ m by rw [BB_pow, ← Nat.pow_add]; congr 1; omega)
  have hmk := mk32 (l.length + m + 1) (by omega)
  have ec : ((l.length + m + 1 : Nat) : Int) = (l.length : Int) + (m : Int) + 1 := by omega
  rw [ec] at hmk
  clear ec hm hk
  go_enter Tryz.func262, Tryz.ntmps262
  go_wp2
  clear hmk
  go_loopw [26] (fun x wr => ∃ (i : Nat) (O : List Nat), i ≤ l.length ∧ x = .int .i64 i ∧ Blk wr w.heap.size O ∧ Hid (O.length = l.length + m + 1) ∧ Limbs O ∧ (∀ j, i + m < j → O.getD j 0 = 0) ∧ O.getD (i + m) 0 < 2 ^ k ∧ Hid (val O = val (l.take i) * (2 ^ k * BB ^ m)) ∧ Below w.heap.size w wr) (fun x _ => l.length - (intOf x).toNat)
  case atStart => exact ⟨0, List.replicate (l.length + m + 1) 0, by omega, rfl, blk_new w _, Lib.hid (by simp), (fun y hy => by simp at hy; rw [hy]; exact BB_pos), (fun j hj => by simp [List.getElem?_replicate]; split <;> rfl), by rw [repl_getD]; exact Nat.pow_pos (by omega), Lib.hid (by simp [val, val_zeros]), bal (Below.refl _ _) _⟩
  case round =>
    obtain ⟨i, O, hi, rfl, hO, hOl, hOL, hO0, hOk, hV, hB⟩ := hrel
    have hol := hOl.out
    by_cases hlt : i < l.length
    · rcases ha.2.2.2 with hl0 | ⟨ba, oa, rfl, hca⟩
      · subst hl0; simp at hlt
      have c0 := bkeep hB (hca i hlt)
      have hx := limb_get ha.2.2.1 i
      obtain ⟨x, hxe⟩ : ∃ x, x = l.getD i 0 := ⟨_, rfl⟩
      rw [← hxe] at c0 hx
      have e1 := w64 (BB_sq x hx)
      have e2 : IntKind.u64.wrap ((x : Int) * 2 ^ k) = ((x * 2 ^ k : Nat) : Int) := by rw [show (x : Int) * 2 ^ k = ((x * 2 ^ k : Nat) : Int) by rw [Int.natCast_mul, Int.natCast_pow]; rfl]; exact w64 (shl_lt hx hk32)
      have q0 := hO.cell (i + m) (by omega)
      have qf := hO.frozen (i + m)
      have q1 := hO.cell (i + m + 1) (by omega)
      have qg := hO.frozen (i + m + 1)
      rw [hO0 (i + m + 1) (by omega)] at q1
      have HS := Lib.hid (shl_step (O := O) (A := l) (i := i) (m := m) (p := 2 ^ k) (x := x) (by omega) (hO0 (i + m + 1) (by omega)) hlt hxe hV.out)
      have hlo := or_low (x := x) (k := k) (o := O.getD (i + m) 0) hOk (by omega)
      have hlb := shl_lo (x := x) (k := k) (o := O.getD (i + m) 0) hOk (by omega)
      have hhi := shl_hi (k := k) hx
      have hob := limb_get hOL (i + m)
      have hp := pow31 hk32
      generalize O.getD (i + m) 0 = o at *
      generalize hy : x * 2 ^ k = y at *
      obtain ⟨lo, hlo1⟩ : ∃ lo, lo = y % BB := ⟨_, rfl⟩
      obtain ⟨hi2, hhi1⟩ : ∃ hi2, hi2 = y / BB := ⟨_, rfl⟩
      rw [← hlo1] at HS hlo hlb
      rw [← hhi1] at HS hhi
      have elo : (y : Int) % 4294967296 = (lo : Int) := by unfold BB at hlo1; omega
      have ehi : (y : Int) / 4294967296 = (hi2 : Int) := by unfold BB at hhi1; omega
      have hloB : lo < BB := by rw [hlo1]; exact Nat.mod_lt _ BB_pos
      have eor : bits .or .u32 (o : Int) (lo : Int) = ((o + lo : Nat) : Int) := by rw [u32_or_nat _ _ hob hloB, Nat.or_comm, hlo]
      have hhB : hi2 < BB := by unfold BB; omega
      have ehm : (hi2 : Int) % 4294967296 = (hi2 : Int) := by unfold BB at hhB; omega
      have eor2 : bits .or .u32 0 (hi2 : Int) = (hi2 : Int) := by
        have := u32_or_nat 0 hi2 (by omega) hhB
        simpa using this
      have hHI := hhi
      have HP := Lib.hid hhi
      clear hlo hhi hlo1 hhi1 hy hp hob hHI hOk hxe
      generalize hol2 : o + lo = s1 at *
      clear hol2
      have qb := (hO.set (i + m) s1).set (i + m + 1) hi2
      have ql := limbs_set (limbs_set hOL (k := i + m) hlb) (k := i + m + 1) hhB
      have bs := bset (bset hB (p := ⟨w.heap.size, i + m, none⟩) (Nat.le_refl _) (.int .u32 (s1 : Int))) (p := ⟨w.heap.size, i + m + 1, none⟩) (Nat.le_refl _) (.int .u32 (hi2 : Int))
      have hlt2 : (i : Int) + (m : Int) < (l.length : Int) + (m : Int) + 1 := by omega
      have hlt3 : (i : Int) + (m : Int) + 1 < (l.length : Int) + (m : Int) + 1 := by omega
      have HOL := Lib.hid hol
      clear hol
      go_wp2
      refine ⟨⟨i + 1, _, by omega, by go_num, qb, Lib.hid (by simpa using hOl.out), ql, ?_, ?_, HS, bs⟩, by simp [intOf] <;> omega⟩
      · intro j hj
        rw [Num.getD_set_ne (by omega), Num.getD_set_ne (by omega)]
        exact hO0 j (by omega)
      · rw [show i + 1 + m = i + m + 1 from by omega, Num.getD_set_eq (by have := HOL.out; simp; omega)]
        exact HP.out
    · obtain rfl : i = l.length := by omega
      have HV := Lib.hid (show val O = val l * 2 ^ n by rw [hV.out, List.take_length, HN.out])
      have hu := hO.u32 hOL (by rw [hol]; unfold maxLen; omega)
      have tc := trim_c _ _ _ _ hu
      have HT := Lib.hid (val_trim O)
      have HNr := trim_nrm O
      have hu2 := hu.trim
      generalize trimL O = T at *
      rw [hol] at tc
      clear hV hOl hu hol hOk
      go_wp2_with fail
      refine tc.mono ?_
      rintro e w1 ⟨rfl, rfl⟩
      clear tc
      go_wp2
      go_ret2
      exact ⟨⟨_, rfl, _, _, T, rfl, rfl, hu2, HNr, by rw [HT.out, HV.out]⟩, hB⟩
end Go.Proofs.YtbmaffijncapiaaGreatDoor

