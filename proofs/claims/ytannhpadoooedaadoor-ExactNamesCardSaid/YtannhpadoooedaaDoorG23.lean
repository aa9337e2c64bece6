/- Texts of this seat, laid together: VmP, NumT. Each opens with its own remark, which says what it proves, and under which conditions. -/
import Derived.Test.YtannhpadoooedaaDoorG14
import Derived.Test.YtannhpadoooedaaDoorG22
import Derived.Test.YtannhpadoooedaaDoorG01
import Derived.Test.YtannhpadoooedaaDoorG04
/- vm, in plain Lean: what an instruction does to the registers, what a program comes to. -/
namespace Go.Proofs.YtannhpadoooedaaDoor
open Num
set_option linter.unusedVariables false
set_option linter.unusedSimpArgs false
/-- what an instruction makes of two numbers -/
def opI (i : Ins) (a b : Int) : Option Int :=
  if i.op = 2 then some (-a)
  else if i.op = 3 then some (a + b)
  else if i.op = 4 then some (a - b)
  else if i.op = 5 then some (a * i.c)
  else if i.op = 6 then (if a % i.c = 0 then some (a / i.c) else none)
  else if i.op = 7 then some (a * 2 ^ i.c.toNat)
  else if i.op = 8 then (if a % 2 ^ i.c.toNat = 0 then some (a / 2 ^ i.c.toNat) else none)
  else some a
abbrev Grid := List (List Int)
/-- what an instruction makes of two rows; none: it fails at one place -/
def stepR (i : Ins) (a b : List Int) : Option (List Int) :=
  if (List.range a.length).all (fun k => (opI i (a.getD k 0) (b.getD k 0)).isSome) then some ((List.range a.length).map fun k => (opI i (a.getD k 0) (b.getD k 0)).getD 0) else none
/-- the registers behind n instructions; none: one of them has failed -/
def after (code : List Ins) (g : Grid) : Nat → Option Grid
  | 0 => some g
  | n + 1 => (after code g n).bind fun h => (stepR (code.getD n default) (h.getD (code.getD n default).a.toNat []) (h.getD (code.getD n default).b.toNat [])).map fun r => h.set (code.getD n default).to.toNat r
/-- what the registers hold at first -/
def startG (g : Grid) (regs n : Nat) : Grid := g ++ List.replicate (regs - g.length) (List.replicate n 0)
/-- what the outs hold -/
def outsG (outs : List Int) (h : Grid) : Grid := outs.map fun k => h.getD k.toNat []
theorem stepR_len {i : Ins} {a b r : List Int} (h : stepR i a b = some r) : r.length = a.length := by
  unfold stepR at h
  split at h
  · cases h; simp
  · cases h
theorem stepR_get {i : Ins} {a b r : List Int} (h : stepR i a b = some r) (k : Nat) (hk : k < a.length) : opI i (a.getD k 0) (b.getD k 0) = some (r.getD k 0) := by
  unfold stepR at h
  split at h
  · rename_i hs
    cases h
    have h1 := List.all_eq_true.1 hs k (by simpa using hk)
    obtain ⟨x, hx⟩ := Option.isSome_iff_exists.1 h1
    rw [hx]; simp [hk, List.getD_eq_getElem?_getD] at hx ⊢; rw [hx]; rfl
  · cases h
theorem stepR_none {i : Ins} {a b : List Int} (h : stepR i a b = none) : ∃ k, k < a.length ∧ opI i (a.getD k 0) (b.getD k 0) = none := by
  unfold stepR at h
  split at h
  · cases h
  · rename_i hs
    refine Classical.byContradiction fun hn => hs (List.all_eq_true.2 fun k hk => ?_)
    cases e : opI i (a.getD k 0) (b.getD k 0) with
    | none => exact absurd ⟨k, by simpa using hk, e⟩ hn
    | some x => rfl
theorem stepR_ext {i : Ins} {a b r : List Int} (hl : r.length = a.length) (h : ∀ k, k < a.length → opI i (a.getD k 0) (b.getD k 0) = some (r.getD k 0)) : stepR i a b = some r := by
  unfold stepR
  rw [if_pos]
  · congr 1
    apply List.ext_getElem
    · simp [hl]
    · intro k h1 h2
      have := h k (by simpa using h1)
      simp only [List.getElem_map, List.getElem_range, this, Option.getD_some]
      simp [h2]
  · rw [List.all_eq_true]
    intro k hk
    rw [h k (by simpa using hk)]; rfl
theorem stepR_fail {i : Ins} {a b : List Int} {k : Nat} (hk : k < a.length) (h : opI i (a.getD k 0) (b.getD k 0) = none) : stepR i a b = none := by
  cases e : stepR i a b with
  | none => rfl
  | some r => rw [stepR_get e k hk] at h; cases h
theorem after_len {code : List Ins} {g : Grid} : ∀ {n : Nat} {h : Grid}, after code g n = some h → h.length = g.length := by
  intro n
  induction n with
  | zero => intro h e; cases e; rfl
  | succ n ih =>
    intro h e
    unfold after at e
    cases e1 : after code g n with
    | none => rw [e1] at e; cases e
    | some h1 =>
      rw [e1, Option.bind_some] at e
      obtain ⟨r, _, rfl⟩ := Option.map_eq_some_iff.1 e
      rw [List.length_set]; exact ih e1
theorem after_mono {code : List Ins} {g : Grid} {n m : Nat} (h : after code g n = none) (hm : n ≤ m) : after code g m = none := by
  induction m with
  | zero => obtain rfl : n = 0 := by omega
            exact h
  | succ m ih =>
    by_cases e : n = m + 1
    · subst e; exact h
    · unfold after; rw [ih (by omega)]; rfl
/-- every row of one length -/
def Rect (n : Nat) (g : Grid) : Prop := ∀ k, k < g.length → (g.getD k []).length = n
theorem Rect.set {n : Nat} {g : Grid} (h : Rect n g) {k : Nat} {r : List Int} (hr : r.length = n) : Rect n (g.set k r) := by
  intro j hj
  rw [List.length_set] at hj
  by_cases e : k = j
  · subst e; simp [hj, hr]
  · have := h j hj
    simp [List.getElem?_set_ne e] at this ⊢; exact this
/-- so many bits are enough for every number -/
def BdG (k : Nat) (g : Grid) : Prop := ∀ i j, Bd k ((g.getD i []).getD j 0)
theorem bd_zero {k : Nat} : Bd k 0 := by unfold Bd; exact Nat.pow_pos (by omega)
theorem opI_bd {i : Ins} {a b x : Int} {k : Nat} (h : opI i a b = some x) (ha : Bd k a) (hb : Bd k b) (hc : i.op = 5 → -512 ≤ i.c ∧ i.c ≤ 512) (hs : i.op = 7 → i.c ≤ 64) : Bd (k + 65) x := by
  unfold opI at h
  have hdiv : ∀ d : Int, Bd (k + 65) (a / d) := fun d => by
    have h1 : (a / d).natAbs ≤ a.natAbs := Int.natAbs_ediv_le_natAbs a d
    exact Nat.lt_of_le_of_lt h1 (ha.mono (show k ≤ k + 65 by omega))
  split at h
  · cases h; exact ha.neg.mono (by omega)
  split at h
  · cases h; exact (ha.add hb).mono (by omega)
  split at h
  · cases h; exact (ha.sub hb).mono (by omega)
  split at h
  · cases h
    exact (ha.mul (m := 10) (by unfold Bd; have := hc (by assumption); omega)).mono (by omega)
  split at h
  · split at h
    · cases h; exact hdiv _
    · cases h
  split at h
  · cases h
    refine ha.mul (m := 65) ?_
    have h7 := hs (by assumption)
    unfold Bd
    rw [Int.natAbs_pow]
    exact Nat.pow_lt_pow_right (by decide) (by omega)
  split at h
  · split at h
    · cases h; exact hdiv _
    · cases h
  · cases h; exact ha.mono (by omega)
theorem BdG.mono {k m : Nat} {g : Grid} (h : BdG k g) (hm : k ≤ m) : BdG m g := fun i j => (h i j).mono hm
theorem BdG.set {k : Nat} {g : Grid} (h : BdG k g) {t : Nat} {r : List Int} (hr : ∀ j, Bd k (r.getD j 0)) : BdG k (g.set t r) := by
  intro i j
  by_cases e : t = i
  · subst e
    by_cases hl : t < g.length
    · have : (g.set t r).getD t [] = r := by simp [hl]
      rw [this]; exact hr j
    · rw [List.set_eq_of_length_le (by omega)]; exact h t j
  · have : (g.set t r).getD i [] = g.getD i [] := by simp [List.getElem?_set_ne e]
    rw [this]; exact h i j
theorem BdG.row {k : Nat} {g : Grid} (h : BdG k g) (t : Nat) : ∀ j, Bd k ((g.getD t []).getD j 0) := fun j => h t j
/-- constants are as Check asks -/
def Cs (code : List Ins) : Prop := ∀ n, n < code.length → ((code.getD n default).op = 5 → -512 ≤ (code.getD n default).c ∧ (code.getD n default).c ≤ 512) ∧ ((code.getD n default).op = 7 → (code.getD n default).c ≤ 64)
theorem after_bd {code : List Ins} {g : Grid} {k : Nat} (hg : BdG k g) (hc : Cs code) : ∀ {n : Nat} {h : Grid}, n ≤ code.length → after code g n = some h → BdG (k + 65 * n) h := by
  intro n
  induction n with
  | zero => intro h _ e; cases e; exact hg
  | succ n ih =>
    intro h hn e
    unfold after at e
    cases e1 : after code g n with
    | none => rw [e1] at e; cases e
    | some h1 =>
      rw [e1, Option.bind_some] at e
      obtain ⟨r, hr, rfl⟩ := Option.map_eq_some_iff.1 e
      have h2 := ih (by omega) e1
      refine (h2.mono (by omega)).set fun j => ?_
      by_cases hj : j < (h1.getD (code.getD n default).a.toNat []).length
      · have h3 := opI_bd (stepR_get hr j hj) (h2 _ j) (h2 _ j) (hc n (by omega)).1 (hc n (by omega)).2
        exact h3.mono (by omega)
      · have h3 : r.getD j 0 = 0 := by
          have := stepR_len hr
          rw [List.getD_eq_getElem?_getD, List.getElem?_eq_none (by omega)]; rfl
        rw [h3]; exact bd_zero
theorem after_rect {code : List Ins} {g : Grid} {m regs : Nat} (hg : Rect m g) (hlen : g.length = regs) (ha : ∀ n, n < code.length → (code.getD n default).a.toNat < regs) : ∀ {n : Nat} {h : Grid}, n ≤ code.length → after code g n = some h → Rect m h := by
  intro n
  induction n with
  | zero => intro h _ e; cases e; exact hg
  | succ n ih =>
    intro h hn e
    unfold after at e
    cases e1 : after code g n with
    | none => rw [e1] at e; cases e
    | some h1 =>
      rw [e1, Option.bind_some] at e
      obtain ⟨r, hr, rfl⟩ := Option.map_eq_some_iff.1 e
      refine (ih (by omega) e1).set ?_
      rw [stepR_len hr]
      exact ih (by omega) e1 _ (by rw [after_len e1, hlen]; exact ha n (by omega))
end Go.Proofs.YtannhpadoooedaaDoor
/- Plain: the reference's sums, differences, binary digits. -/
namespace Go.Proofs.YtannhpadoooedaaDoor.NumR
open Num (Nrm bitN bitN_half trimL)
theorem take_any (l : List Nat) (k : Nat) : val (l.take (k + 1)) = val (l.take k) + l.getD k 0 * BB ^ k := by
  by_cases h : k < l.length
  · exact val_take_succ h
  · rw [List.take_of_length_le (by omega), List.take_of_length_le (by omega)]; simp [show l.length ≤ k by omega]
theorem val_snoc (O : List Nat) (x : Nat) : val (O ++ [x]) = val O + x * BB ^ O.length := by rw [val_append]; simp [val, Nat.mul_comm]
theorem limbs_snocT {O : List Nat} {x : Nat} (h : Limbs O) (hx : x < BB) : Limbs (O ++ [x]) := fun y hy => by
  rcases List.mem_append.1 hy with hy | hy
  · exact h y hy
  · simp at hy; subst hy; exact hx
theorem plus_step {O A B : List Nat} {i c t : Nat} (hO : O.length = i) (ht : t = c + A.getD i 0 + B.getD i 0) (h : val O + c * BB ^ i = val (A.take i) + val (B.take i)) :
    val (O ++ [t % BB]) + t / BB * BB ^ (i + 1) = val (A.take (i + 1)) + val (B.take (i + 1)) := by
  rw [val_snoc, take_any, take_any, hO]
  have e : t * BB ^ i = t / BB * BB ^ (i + 1) + t % BB * BB ^ i := by
    conv => lhs; rw [← Nat.div_add_mod t BB, Nat.add_mul]
    rw [Nat.pow_succ]; congr 1; ac_rfl
  have e2 : t * BB ^ i = c * BB ^ i + A.getD i 0 * BB ^ i + B.getD i 0 * BB ^ i := by rw [ht]; simp only [Nat.add_mul]
  omega
theorem minus_step {O A B : List Nat} {i c r c' : Nat} (hO : O.length = i) (hr : r + (c + B.getD i 0) = A.getD i 0 + c' * BB) (h : val O + val (B.take i) = val (A.take i) + c * BB ^ i) :
    val (O ++ [r]) + val (B.take (i + 1)) = val (A.take (i + 1)) + c' * BB ^ (i + 1) := by
  rw [val_snoc, take_any, take_any, hO]
  have e := congrArg (· * BB ^ i) hr
  simp only [Nat.add_mul] at e
  have e2 : c' * BB * BB ^ i = c' * BB ^ (i + 1) := by rw [Nat.pow_succ]; ac_rfl
  omega
theorem minus_end {A B : List Nat} {V c : Nat} (hA : Limbs A) (hle : val B ≤ val A) (hlen : B.length ≤ A.length) (h : V + val (B.take A.length) = val (A.take A.length) + c * BB ^ A.length) (hV : V < BB ^ A.length) : V + val B = val A := by
  rw [List.take_of_length_le hlen, List.take_length] at h
  rcases Nat.eq_zero_or_pos c with rfl | hc
  · omega
  · have : 1 * BB ^ A.length ≤ c * BB ^ A.length := Nat.mul_le_mul hc (Nat.le_refl _)
    omega
theorem BB_pow (n : Nat) : BB ^ n = 2 ^ (16 * n) := by rw [Nat.pow_mul]; rfl
theorem bitN_snoc {l : List Nat} {x : Nat} (hl : Limbs l) (hx : x ≠ 0) : bitN (val (l ++ [x])) = 16 * l.length + bitN x := by
  have h1 := val_lt hl
  rw [val_append]
  simp only [val, Nat.mul_zero, Nat.add_zero]
  rw [BB_pow] at *
  have hp : 0 < 2 ^ (16 * l.length) := Nat.pow_pos (by omega)
  have h2 : 2 ^ (16 * l.length) * 1 ≤ 2 ^ (16 * l.length) * x := Nat.mul_le_mul_left _ (by omega)
  unfold bitN
  rw [if_neg (by omega), if_neg hx]
  have e : (val l + 2 ^ (16 * l.length) * x).log2 = 16 * l.length + x.log2 := by
    rw [Nat.log2_eq_iff (by omega)]
    have k1 := Nat.log2_self_le hx
    have k2 := @Nat.lt_log2_self x
    constructor
    · rw [Nat.pow_add]
      have := Nat.mul_le_mul_left (2 ^ (16 * l.length)) k1
      omega
    · rw [Nat.add_assoc, Nat.pow_add]
      have := Nat.mul_le_mul_left (2 ^ (16 * l.length)) (show x + 1 ≤ 2 ^ (x.log2 + 1) from k2)
      rw [Nat.mul_add] at this
      omega
  omega
theorem bitN_nrm {l : List Nat} {k : Nat} (hl : Limbs l) (hn : Nrm l) (hk : l.length = k + 1) : bitN (val l) = 16 * k + bitN (l.getD k 0) := by
  obtain ⟨m, x, rfl⟩ : ∃ m x, l = m ++ [x] := ⟨l.dropLast, l.getLast (by intro e; subst e; simp at hk), (List.dropLast_concat_getLast _).symm⟩
  simp at hk
  have hx := hn (by simp)
  simp at hx
  rw [bitN_snoc (fun y hy => hl y (by simp [hy])) hx, hk]
  congr 2
  simp [← hk]
theorem lt_bitN (v : Nat) : v < 2 ^ bitN v := by
  unfold bitN
  split
  · subst_vars; simp
  · exact Nat.lt_log2_self
theorem bitN_le {v n : Nat} (h : v < 2 ^ n) : bitN v ≤ n := by
  unfold bitN
  split
  · omega
  · rename_i h0
    have := Nat.log2_self_le h0
    have h2 : 2 ^ v.log2 < 2 ^ n := Nat.lt_of_le_of_lt this h
    have := (Nat.pow_lt_pow_iff_right (a := 2) (by omega)).1 h2
    omega
/-- a digit, out of the value -/
theorem getD_val {l : List Nat} (hl : Limbs l) (j : Nat) : l.getD j 0 = val l / BB ^ j % BB := by
  induction l generalizing j with
  | nil => simp [val]
  | cons x l ih =>
    have hx : x < BB := hl x (by simp)
    have hl' : Limbs l := fun y hy => hl y (by simp [hy])
    cases j with
    | zero => simp [val]; exact (Nat.mod_eq_of_lt hx).symm
    | succ j =>
      rw [List.getD_cons_succ, ih hl' j, val, Nat.pow_succ, Nat.mul_comm (BB ^ j), ← Nat.div_div_eq_div_mul]
      rw [Nat.add_mul_div_left _ _ BB_pos, Nat.div_eq_of_lt hx, Nat.zero_add]
/-- a binary digit -/
theorem bit_val {l : List Nat} (hl : Limbs l) (k : Nat) : l.getD (k / 16) 0 / 2 ^ (k % 16) % 2 = val l / 2 ^ k % 2 := by
  rw [getD_val hl, BB_pow]
  have e1 : 2 ^ k = 2 ^ (16 * (k / 16)) * 2 ^ (k % 16) := by rw [← Nat.pow_add]; congr 1; omega
  rw [e1, ← Nat.div_div_eq_div_mul]
  generalize val l / 2 ^ (16 * (k / 16)) = x
  have hk : k % 16 < 16 := Nat.mod_lt _ (by omega)
  generalize k % 16 = m at *
  have e2 : BB = 2 ^ m * (2 * 2 ^ (15 - m)) := by
    show (2 : Nat) ^ 16 = _
    rw [← Nat.mul_assoc, ← Nat.pow_succ, ← Nat.pow_add]; congr 1; omega
  rw [e2, Nat.mod_mul_right_div_self, Nat.mod_mul_right_mod]
/-- twice a number, one place -/
theorem twice_step {R R0 : List Nat} {i c t V : Nat} (hi : i < R.length) (he : R.getD i 0 = R0.getD i 0) (ht : t = c + 2 * R0.getD i 0)
    (h : val R + c * BB ^ i = V + val (R0.take i)) : val (R.set i (t % BB)) + t / BB * BB ^ (i + 1) = V + val (R0.take (i + 1)) := by
  have a1 := val_set (l := R) (k := i) (t % BB) hi
  rw [take_any, ← he]
  have e : t * BB ^ i = t / BB * BB ^ (i + 1) + t % BB * BB ^ i := by
    conv => lhs; rw [← Nat.div_add_mod t BB, Nat.add_mul]
    rw [Nat.pow_succ]; congr 1; ac_rfl
  have e2 : t * BB ^ i = c * BB ^ i + 2 * (R.getD i 0 * BB ^ i) := by rw [ht, he]; simp only [Nat.add_mul]; congr 1; ac_rfl
  omega
theorem nrm_of_val {l : List Nat} (hl : Limbs l) (h : l ≠ [] → BB ^ (l.length - 1) ≤ val l) : Nrm l := by
  intro hn e
  obtain ⟨m, x, rfl⟩ : ∃ m x, l = m ++ [x] := ⟨l.dropLast, l.getLast hn, (List.dropLast_concat_getLast _).symm⟩
  simp at e
  subst e
  have h1 := h hn
  have h2 := val_lt (l := m) (fun y hy => hl y (by simp [hy]))
  rw [val_snoc] at h1
  simp at h1
  omega
/-- a binary digit is put in -/
theorem or_val {l : List Nat} {k Q : Nat} (hl : Limbs l) (hv : val l = Q * 2 ^ (k + 1)) : l.getD (k / 16) 0 ||| 2 ^ (k % 16) = l.getD (k / 16) 0 + 2 ^ (k % 16) ∧ l.getD (k / 16) 0 + 2 ^ (k % 16) < BB := by
  have hk : k % 16 < 16 := Nat.mod_lt _ (by omega)
  have e1 : l.getD (k / 16) 0 = 2 ^ (k % 16 + 1) * (Q % 2 ^ (15 - k % 16)) := by
    rw [getD_val hl, hv, BB_pow]
    have e1 : 2 ^ (k + 1) = 2 ^ (16 * (k / 16)) * 2 ^ (k % 16 + 1) := by rw [← Nat.pow_add]; congr 1; omega
    rw [e1, show Q * (2 ^ (16 * (k / 16)) * 2 ^ (k % 16 + 1)) = 2 ^ (16 * (k / 16)) * (2 ^ (k % 16 + 1) * Q) by ac_rfl, Nat.mul_div_cancel_left _ (Nat.pow_pos (by omega))]
    have e2 : BB = 2 ^ (k % 16 + 1) * 2 ^ (15 - k % 16) := by
      show (2 : Nat) ^ 16 = _
      rw [← Nat.pow_add]; congr 1; omega
    rw [e2, Nat.mul_mod_mul_left]
  have e2 : BB = 2 ^ (k % 16 + 1) * 2 ^ (15 - k % 16) := by
    show (2 : Nat) ^ 16 = _
    rw [← Nat.pow_add]; congr 1; omega
  have hm : Q % 2 ^ (15 - k % 16) < 2 ^ (15 - k % 16) := Nat.mod_lt _ (Nat.pow_pos (by omega))
  have hlt : 2 ^ (k % 16) < 2 ^ (k % 16 + 1) := Nat.pow_lt_pow_right (by omega) (by omega)
  generalize Q % 2 ^ (15 - k % 16) = z at *
  rw [e1]
  refine ⟨(Nat.two_pow_add_eq_or_of_lt hlt z).symm, ?_⟩
  rw [e2]
  have := Nat.mul_le_mul_left (2 ^ (k % 16 + 1)) hm
  rw [Nat.mul_succ] at this
  omega
theorem set_bit {l : List Nat} {k : Nat} (hk : k / 16 < l.length) : val (l.set (k / 16) (l.getD (k / 16) 0 + 2 ^ (k % 16))) = val l + 2 ^ k := by
  have a1 := val_set (l := l) (k := k / 16) (l.getD (k / 16) 0 + 2 ^ (k % 16)) hk
  have e1 : 2 ^ k = 2 ^ (k % 16) * BB ^ (k / 16) := by rw [BB_pow, ← Nat.pow_add]; congr 1; omega
  rw [Nat.add_mul, ← e1] at a1
  omega
/-- long division, one binary digit -/
theorem half_step (A k : Nat) : A / 2 ^ k = 2 * (A / 2 ^ (k + 1)) + A / 2 ^ k % 2 := by
  rw [Nat.pow_succ, ← Nat.div_div_eq_div_mul]
  have := Nat.div_add_mod (A / 2 ^ k) 2
  omega
theorem bit_take {A k Q R D V b : Nat} (h : A / 2 ^ (k + 1) = Q * D + R) (hb : b = A / 2 ^ k % 2) (hv : V = Q * 2 ^ (k + 1)) :
    A / 2 ^ k = 2 * Q * D + (b + 2 * R) ∧ V = 2 * Q * 2 ^ k := by
  have h1 := half_step A k
  rw [h, ← hb] at h1
  refine ⟨?_, by rw [hv, Nat.pow_succ]; ac_rfl⟩
  rw [h1, Nat.mul_add]
  have : 2 * (Q * D) = 2 * Q * D := by ac_rfl
  omega
theorem bit_more {X Q D R V k : Nat} (h : X = 2 * Q * D + R) (hD : D ≤ R) (hv : V = 2 * Q * 2 ^ k) : X = (2 * Q + 1) * D + (R - D) ∧ V + 2 ^ k = (2 * Q + 1) * 2 ^ k := by
  rw [Nat.add_mul, Nat.add_mul]
  omega
/-- short division, one digit -/
theorem short_step {O A : List Nat} {j c rest : Nat} (hc : 0 < c) (hO : j < O.length) (h0 : O.getD j 0 = 0) (hA : j < A.length)
    (h : val O * c + rest * BB ^ (j + 1) + val (A.take (j + 1)) = val A) : val (O.set j ((rest * BB + A.getD j 0) / c)) * c + (rest * BB + A.getD j 0) % c * BB ^ j + val (A.take j) = val A := by
  have a1 := val_set (l := O) (k := j) ((rest * BB + A.getD j 0) / c) hO
  rw [h0] at a1
  rw [take_any] at h
  have e := Nat.div_add_mod (rest * BB + A.getD j 0) c
  generalize (rest * BB + A.getD j 0) / c = q at *
  generalize (rest * BB + A.getD j 0) % c = m at *
  have e1 : val (O.set j q) = val O + q * BB ^ j := by omega
  rw [e1, Nat.add_mul]
  have e2 : (c * q + m) * BB ^ j = rest * BB ^ (j + 1) + A.getD j 0 * BB ^ j := by
    rw [e, Nat.add_mul, Nat.pow_succ]; congr 1; ac_rfl
  rw [Nat.add_mul] at e2
  have e3 : q * BB ^ j * c = c * q * BB ^ j := by ac_rfl
  omega
theorem short_lt {rest x c : Nat} (hr : rest < c) (hx : x < BB) : (rest * BB + x) / c < BB := by
  rw [Nat.div_lt_iff_lt_mul (by omega)]
  have : (rest + 1) * BB ≤ c * BB := Nat.mul_le_mul hr (Nat.le_refl _)
  rw [Nat.add_mul] at this
  rw [Nat.mul_comm BB c]
  omega
end Go.Proofs.YtannhpadoooedaaDoor.NumR
