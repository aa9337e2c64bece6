/- Texts of this seat, laid together: VmP, NumT, RefG, RefH, RefI, RefJ, VmB, VmC, VmD, VmE, VmQ, ExP. Each opens with its own remark, which says what it proves, and under which conditions. -/
import Derived.Test.YtannhpadoooedaaGreatDoorQ03
import Derived.Test.YtannhpadoooedaaGreatDoorQ05
import Derived.Test.YtannhpadoooedaaGreatDoorQ01
import Derived.Test.YtannhpadoooedaaGreatDoorQ02
import Derived.Test.YtannhpadoooedaaGreatDoorQ04
import Derived.RegionTactic
import Derived.ChangeAlike
import Derived.Laws.OwnMore
import Derived.Deep.Onto
import Derived.Shelf.Abstract
import Derived.Laws.EntriesVeiled
import Derived.OneCell
import Derived.Deep.DrawnRows
import Derived.Deep.RegionLaw
import Derived.Deep.Cut
import Derived.Deep.DeepCutAuto
set_option linter.unusedVariables false
set_option linter.unusedSimpArgs false
/- vm, in plain Lean: what an instruction does to the registers, what a program comes to. -/
namespace Go.Proofs.YtannhpadoooedaaGreatDoor
open Num
set_option linter.unusedVariables false
set_option linter.unusedSimpArgs false
/-- what an instruction makes of two numbers -/
def opI (i : Ins) (a b : Int) : Option Int :=
  if i.op = 2 then some (-a)
  else if i.op = 3 then some (a + b)
  else if i.op = 4 then some (a - b)
  else if i.op = 5 then some (a * i.c)
  else if i.op = 6 then (if a % i.c = 0 then some (a / i.c) else none)
  else if i.op = 7 then some (a * 2 ^ i.c.toNat)
  else if i.op = 8 then (if a % 2 ^ i.c.toNat = 0 then some (a / 2 ^ i.c.toNat) else none)
  else some a
abbrev Grid := List (List Int)
/-- what an instruction makes of two rows; none: it fails at one place -/
def stepR (i : Ins) (a b : List Int) : Option (List Int) :=
  if (List.range a.length).all (fun k => (opI i (a.getD k 0) (b.getD k 0)).isSome) then some ((List.range a.length).map fun k => (opI i (a.getD k 0) (b.getD k 0)).getD 0) else none
/-- the registers behind n instructions; none: one of them has failed -/
def after (code : List Ins) (g : Grid) : Nat → Option Grid
  | 0 => some g
  | n + 1 => (after code g n).bind fun h => (stepR (code.getD n default) (h.getD (code.getD n default).a.toNat []) (h.getD (code.getD n default).b.toNat [])).map fun r => h.set (code.getD n default).to.toNat r
/-- what the registers hold at first -/
def startG (g : Grid) (regs n : Nat) : Grid := g ++ List.replicate (regs - g.length) (List.replicate n 0)
/-- what the outs hold -/
def outsG (outs : List Int) (h : Grid) : Grid := outs.map fun k => h.getD k.toNat []
theorem stepR_len {i : Ins} {a b r : List Int} (h : stepR i a b = some r) : r.length = a.length := by
  unfold stepR at h
  split at h
  · cases h; simp
  · cases h
theorem stepR_get {i : Ins} {a b r : List Int} (h : stepR i a b = some r) (k : Nat) (hk : k < a.length) : opI i (a.getD k 0) (b.getD k 0) = some (r.getD k 0) := by
  unfold stepR at h
  split at h
  · rename_i hs
    cases h
    have h1 := List.all_eq_true.1 hs k (by simpa using hk)
    obtain ⟨x, hx⟩ := Option.isSome_iff_exists.1 h1
    rw [hx]; simp [hk, List.getD_eq_getElem?_getD] at hx ⊢; rw [hx]; rfl
  · cases h
theorem stepR_ext {i : Ins} {a b r : List Int} (hl : r.length = a.length) (h : ∀ k, k < a.length → opI i (a.getD k 0) (b.getD k 0) = some (r.getD k 0)) : stepR i a b = some r := by
  unfold stepR
  rw [if_pos]
  · congr 1
    apply List.ext_getElem
    · simp [hl]
    · intro k h1 h2
      have := h k (by simpa using h1)
      simp only [List.getElem_map, List.getElem_range, this, Option.getD_some]
      simp [h2]
  · rw [List.all_eq_true]
    intro k hk
    rw [h k (by simpa using hk)]; rfl
theorem stepR_fail {i : Ins} {a b : List Int} {k : Nat} (hk : k < a.length) (h : opI i (a.getD k 0) (b.getD k 0) = none) : stepR i a b = none := by
  cases e : stepR i a b with
  | none => rfl
  | some r => rw [stepR_get e k hk] at h; cases h
theorem after_len {code : List Ins} {g : Grid} : ∀ {n : Nat} {h : Grid}, after code g n = some h → h.length = g.length := by
  intro n
  induction n with
  | zero => intro h e; cases e; rfl
  | succ n ih =>
    intro h e
    unfold after at e
    cases e1 : after code g n with
    | none => rw [e1] at e; cases e
    | some h1 =>
      rw [e1, Option.bind_some] at e
      obtain ⟨r, _, rfl⟩ := Option.map_eq_some_iff.1 e
      rw [List.length_set]; exact ih e1
theorem after_mono {code : List Ins} {g : Grid} {n m : Nat} (h : after code g n = none) (hm : n ≤ m) : after code g m = none := by
  induction m with
  | zero => obtain rfl : n = 0 := by omega
            exact h
  | succ m ih =>
    by_cases e : n = m + 1
    · subst e; exact h
    · unfold after; rw [ih (by omega)]; rfl
/-- every row of one length -/
def Rect (n : Nat) (g : Grid) : Prop := ∀ k, k < g.length → (g.getD k []).length = n
theorem Rect.set {n : Nat} {g : Grid} (h : Rect n g) {k : Nat} {r : List Int} (hr : r.length = n) : Rect n (g.set k r) := by
  intro j hj
  rw [List.length_set] at hj
  by_cases e : k = j
  · subst e; simp [hj, hr]
  · have := h j hj
    simp [List.getElem?_set_ne e] at this ⊢; exact this
/-- so many bits are enough for every number -/
def BdG (k : Nat) (g : Grid) : Prop := ∀ i j, Bd k ((g.getD i []).getD j 0)
theorem bd_zero {k : Nat} : Bd k 0 := by unfold Bd; exact Nat.pow_pos (by omega)
theorem opI_bd {i : Ins} {a b x : Int} {k : Nat} (h : opI i a b = some x) (ha : Bd k a) (hb : Bd k b) (hc : i.op = 5 → -512 ≤ i.c ∧ i.c ≤ 512) (hs : i.op = 7 → i.c ≤ 64) : Bd (k + 65) x := by
  unfold opI at h
  have hdiv : ∀ d : Int, Bd (k + 65) (a / d) := fun d => by
    have h1 : (a / d).natAbs ≤ a.natAbs := Int.natAbs_ediv_le_natAbs a d
    exact Nat.lt_of_le_of_lt h1 (ha.mono (show k ≤ k + 65 by omega))
  split at h
  · cases h; exact ha.neg.mono (by omega)
  split at h
  · cases h; exact (ha.add hb).mono (by omega)
  split at h
  · cases h; exact (ha.sub hb).mono (by omega)
  split at h
  · cases h
    exact (ha.mul (m := 10) (by unfold Bd; have := hc (by assumption); omega)).mono (by omega)
  split at h
  · split at h
    · cases h; exact hdiv _
    · cases h
  split at h
  · cases h
    refine ha.mul (m := 65) ?_
    have h7 := hs (by assumption)
    unfold Bd
    rw [Int.natAbs_pow]
    exact Nat.pow_lt_pow_right (by decide) (by omega)
  split at h
  · split at h
    · cases h; exact hdiv _
    · cases h
  · cases h; exact ha.mono (by omega)
theorem BdG.mono {k m : Nat} {g : Grid} (h : BdG k g) (hm : k ≤ m) : BdG m g := fun i j => (h i j).mono hm
theorem BdG.set {k : Nat} {g : Grid} (h : BdG k g) {t : Nat} {r : List Int} (hr : ∀ j, Bd k (r.getD j 0)) : BdG k (g.set t r) := by
  intro i j
  by_cases e : t = i
  · subst e
    by_cases hl : t < g.length
    · have : (g.set t r).getD t [] = r := by simp [hl]
      rw [this]; exact hr j
    · rw [List.set_eq_of_length_le (by omega)]; exact h t j
  · have : (g.set t r).getD i [] = g.getD i [] := by simp [List.getElem?_set_ne e]
    rw [this]; exact h i j
theorem BdG.row {k : Nat} {g : Grid} (h : BdG k g) (t : Nat) : ∀ j, Bd k ((g.getD t []).getD j 0) := fun j => h t j
/-- constants are as Check asks -/
def Cs (code : List Ins) : Prop := ∀ n, n < code.length → ((code.getD n default).op = 5 → -512 ≤ (code.getD n default).c ∧ (code.getD n default).c ≤ 512) ∧ ((code.getD n default).op = 7 → (code.getD n default).c ≤ 64)
theorem after_bd {code : List Ins} {g : Grid} {k : Nat} (hg : BdG k g) (hc : Cs code) : ∀ {n : Nat} {h : Grid}, n ≤ code.length → after code g n = some h → BdG (k + 65 * n) h := by
  intro n
  induction n with
  | zero => intro h _ e; cases e; exact hg
  | succ n ih =>
    intro h hn e
    unfold after at e
    cases e1 : after code g n with
    | none => rw [e1] at e; cases e
    | some h1 =>
      rw [e1, Option.bind_some] at e
      obtain ⟨r, hr, rfl⟩ := Option.map_eq_some_iff.1 e
      have h2 := ih (by omega) e1
      refine (h2.mono (by omega)).set fun j => ?_
      by_cases hj : j < (h1.getD (code.getD n default).a.toNat []).length
      · have h3 := opI_bd (stepR_get hr j hj) (h2 _ j) (h2 _ j) (hc n (by omega)).1 (hc n (by omega)).2
        exact h3.mono (by omega)
      · have h3 : r.getD j 0 = 0 := by
          have := stepR_len hr
          rw [List.getD_eq_getElem?_getD, List.getElem?_eq_none (by omega)]; rfl
        rw [h3]; exact bd_zero
theorem after_rect {code : List Ins} {g : Grid} {m regs : Nat} (hg : Rect m g) (hlen : g.length = regs) (ha : ∀ n, n < code.length → (code.getD n default).a.toNat < regs) : ∀ {n : Nat} {h : Grid}, n ≤ code.length → after code g n = some h → Rect m h := by
  intro n
  induction n with
  | zero => intro h _ e; cases e; exact hg
  | succ n ih =>
    intro h hn e
    unfold after at e
    cases e1 : after code g n with
    | none => rw [e1] at e; cases e
    | some h1 =>
      rw [e1, Option.bind_some] at e
      obtain ⟨r, hr, rfl⟩ := Option.map_eq_some_iff.1 e
      refine (ih (by omega) e1).set ?_
      rw [stepR_len hr]
      exact ih (by omega) e1 _ (by rw [after_len e1, hlen]; exact ha n (by omega))
end Go.Proofs.YtannhpadoooedaaGreatDoor

/- Plain: the reference's sums, differences, binary digits. -/
namespace Go.Proofs.YtannhpadoooedaaGreatDoor.NumR
open Num (Nrm bitN bitN_half trimL)
theorem take_any (l : List Nat) (k : Nat) : val (l.take (k + 1)) = val (l.take k) + l.getD k 0 * BB ^ k := by
  by_cases h : k < l.length
  · exact val_take_succ h
  · rw [List.take_of_length_le (by omega), List.take_of_length_le (by omega)]; simp [show l.length ≤ k by omega]
theorem val_snoc (O : List Nat) (x : Nat) : val (O ++ [x]) = val O + x * BB ^ O.length := by rw [val_append]; simp [val, Nat.mul_comm]
theorem plus_step {O A B : List Nat} {i c t : Nat} (hO : O.length = i) (ht : t = c + A.getD i 0 + B.getD i 0) (h : val O + c * BB ^ i = val (A.take i) + val (B.take i)) :
    val (O ++ [t % BB]) + t / BB * BB ^ (i + 1) = val (A.take (i + 1)) + val (B.take (i + 1)) := by
  rw [val_snoc, take_any, take_any, hO]
  have e : t * BB ^ i = t / BB * BB ^ (i + 1) + t % BB * BB ^ i := by
    conv => lhs; rw [← Nat.div_add_mod t BB, Nat.add_mul]
    rw [Nat.pow_succ]; congr 1; ac_rfl
  have e2 : t * BB ^ i = c * BB ^ i + A.getD i 0 * BB ^ i + B.getD i 0 * BB ^ i := by rw [ht]; simp only [Nat.add_mul]
  omega
theorem minus_step {O A B : List Nat} {i c r c' : Nat} (hO : O.length = i) (hr : r + (c + B.getD i 0) = A.getD i 0 + c' * BB) (h : val O + val (B.take i) = val (A.take i) + c * BB ^ i) :
    val (O ++ [r]) + val (B.take (i + 1)) = val (A.take (i + 1)) + c' * BB ^ (i + 1) := by
  rw [val_snoc, take_any, take_any, hO]
  have e := congrArg (· * BB ^ i) hr
  simp only [Nat.add_mul] at e
  have e2 : c' * BB * BB ^ i = c' * BB ^ (i + 1) := by rw [Nat.pow_succ]; ac_rfl
  omega
theorem minus_end {A B : List Nat} {V c : Nat} (hA : Limbs A) (hle : val B ≤ val A) (hlen : B.length ≤ A.length) (h : V + val (B.take A.length) = val (A.take A.length) + c * BB ^ A.length) (hV : V < BB ^ A.length) : V + val B = val A := by
  rw [List.take_of_length_le hlen, List.take_length] at h
  rcases Nat.eq_zero_or_pos c with rfl | hc
  · omega
  · have : 1 * BB ^ A.length ≤ c * BB ^ A.length := Nat.mul_le_mul hc (Nat.le_refl _)
    omega
theorem BB_pow (n : Nat) : BB ^ n = 2 ^ (16 * n) := by rw [Nat.pow_mul]; rfl
theorem bitN_snoc {l : List Nat} {x : Nat} (hl : Limbs l) (hx : x ≠ 0) : bitN (val (l ++ [x])) = 16 * l.length + bitN x := by
  have h1 := val_lt hl
  rw [val_append]
  simp only [val, Nat.mul_zero, Nat.add_zero]
  rw [BB_pow] at *
  have hp : 0 < 2 ^ (16 * l.length) := Nat.pow_pos (by omega)
  have h2 : 2 ^ (16 * l.length) * 1 ≤ 2 ^ (16 * l.length) * x := Nat.mul_le_mul_left _ (by omega)
  unfold bitN
  rw [if_neg (by omega), if_neg hx]
  have e : (val l + 2 ^ (16 * l.length) * x).log2 = 16 * l.length + x.log2 := by
    rw [Nat.log2_eq_iff (by omega)]
    have k1 := Nat.log2_self_le hx
    have k2 := @Nat.lt_log2_self x
    constructor
    · rw [Nat.pow_add]
      have := Nat.mul_le_mul_left (2 ^ (16 * l.length)) k1
      omega
    · rw [Nat.add_assoc, Nat.pow_add]
      have := Nat.mul_le_mul_left (2 ^ (16 * l.length)) (show x + 1 ≤ 2 ^ (x.log2 + 1) from k2)
      rw [Nat.mul_add] at this
      omega
  omega
theorem bitN_nrm {l : List Nat} {k : Nat} (hl : Limbs l) (hn : Nrm l) (hk : l.length = k + 1) : bitN (val l) = 16 * k + bitN (l.getD k 0) := by
  obtain ⟨m, x, rfl⟩ : ∃ m x, l = m ++ [x] := ⟨l.dropLast, l.getLast (by intro e; subst e; simp at hk), (List.dropLast_concat_getLast _).symm⟩
  simp at hk
  have hx := hn (by simp)
  simp at hx
  rw [bitN_snoc (fun y hy => hl y (by simp [hy])) hx, hk]
  congr 2
  simp [← hk]
theorem lt_bitN (v : Nat) : v < 2 ^ bitN v := by
  unfold bitN
  split
  · subst_vars; simp
  · exact Nat.lt_log2_self
theorem bitN_le {v n : Nat} (h : v < 2 ^ n) : bitN v ≤ n := by
  unfold bitN
  split
  · omega
  · rename_i h0
    have := Nat.log2_self_le h0
    have h2 : 2 ^ v.log2 < 2 ^ n := Nat.lt_of_le_of_lt this h
    have := (Nat.pow_lt_pow_iff_right (a := 2) (by omega)).1 h2
    omega
/-- a digit, out of the value -/
theorem getD_val {l : List Nat} (hl : Limbs l) (j : Nat) : l.getD j 0 = val l / BB ^ j % BB := by
  induction l generalizing j with
  | nil => simp [val]
  | cons x l ih =>
    have hx : x < BB := hl x (by simp)
    have hl' : Limbs l := fun y hy => hl y (by simp [hy])
    cases j with
    | zero => simp [val]; exact (Nat.mod_eq_of_lt hx).symm
    | succ j =>
      rw [List.getD_cons_succ, ih hl' j, val, Nat.pow_succ, Nat.mul_comm (BB ^ j), ← Nat.div_div_eq_div_mul]
      rw [Nat.add_mul_div_left _ _ BB_pos, Nat.div_eq_of_lt hx, Nat.zero_add]
/-- a binary digit -/
theorem bit_val {l : List Nat} (hl : Limbs l) (k : Nat) : l.getD (k / 16) 0 / 2 ^ (k % 16) % 2 = val l / 2 ^ k % 2 := by
  rw [getD_val hl, BB_pow]
  have e1 : 2 ^ k = 2 ^ (16 * (k / 16)) * 2 ^ (k % 16) := by rw [← Nat.pow_add]; congr 1; omega
  rw [e1, ← Nat.div_div_eq_div_mul]
  generalize val l / 2 ^ (16 * (k / 16)) = x
  have hk : k % 16 < 16 := Nat.mod_lt _ (by omega)
  generalize k % 16 = m at *
  have e2 : BB = 2 ^ m * (2 * 2 ^ (15 - m)) := by
    show (2 : Nat) ^ 16 = _
    rw [← Nat.mul_assoc, ← Nat.pow_succ, ← Nat.pow_add]; congr 1; omega
  rw [e2, Nat.mod_mul_right_div_self, Nat.mod_mul_right_mod]
/-- twice a number, one place -/
theorem twice_step {R R0 : List Nat} {i c t V : Nat} (hi : i < R.length) (he : R.getD i 0 = R0.getD i 0) (ht : t = c + 2 * R0.getD i 0)
    (h : val R + c * BB ^ i = V + val (R0.take i)) : val (R.set i (t % BB)) + t / BB * BB ^ (i + 1) = V + val (R0.take (i + 1)) := by
  have a1 := val_set (l := R) (k := i) (t % BB) hi
  rw [take_any, ← he]
  have e : t * BB ^ i = t / BB * BB ^ (i + 1) + t % BB * BB ^ i := by
    conv => lhs; rw [← Nat.div_add_mod t BB, Nat.add_mul]
    rw [Nat.pow_succ]; congr 1; ac_rfl
  have e2 : t * BB ^ i = c * BB ^ i + 2 * (R.getD i 0 * BB ^ i) := by rw [ht, he]; simp only [Nat.add_mul]; congr 1; ac_rfl
  omega
theorem nrm_of_val {l : List Nat} (hl : Limbs l) (h : l ≠ [] → BB ^ (l.length - 1) ≤ val l) : Nrm l := by
  intro hn e
  obtain ⟨m, x, rfl⟩ : ∃ m x, l = m ++ [x] := ⟨l.dropLast, l.getLast hn, (List.dropLast_concat_getLast _).symm⟩
  simp at e
  subst e
  have h1 := h hn
  have h2 := val_lt (l := m) (fun y hy => hl y (by simp [hy]))
  rw [val_snoc] at h1
  simp at h1
  omega
/-- a binary digit is put in -/
theorem or_val {l : List Nat} {k Q : Nat} (hl : Limbs l) (hv : val l = Q * 2 ^ (k + 1)) : l.getD (k / 16) 0 ||| 2 ^ (k % 16) = l.getD (k / 16) 0 + 2 ^ (k % 16) ∧ l.getD (k / 16) 0 + 2 ^ (k % 16) < BB := by
  have hk : k % 16 < 16 := Nat.mod_lt _ (by omega)
  have e1 : l.getD (k / 16) 0 = 2 ^ (k % 16 + 1) * (Q % 2 ^ (15 - k % 16)) := by
    rw [getD_val hl, hv, BB_pow]
    have e1 : 2 ^ (k + 1) = 2 ^ (16 * (k / 16)) * 2 ^ (k % 16 + 1) := by rw [← Nat.pow_add]; congr 1; omega
    rw [e1, show Q * (2 ^ (16 * (k / 16)) * 2 ^ (k % 16 + 1)) = 2 ^ (16 * (k / 16)) * (2 ^ (k % 16 + 1) * Q) by ac_rfl, Nat.mul_div_cancel_left _ (Nat.pow_pos (by omega))]
    have e2 : BB = 2 ^ (k % 16 + 1) * 2 ^ (15 - k % 16) := by
      show (2 : Nat) ^ 16 = _
      rw [← Nat.pow_add]; congr 1; omega
    rw [e2, Nat.mul_mod_mul_left]
  have e2 : BB = 2 ^ (k % 16 + 1) * 2 ^ (15 - k % 16) := by
    show (2 : Nat) ^ 16 = _
    rw [← Nat.pow_add]; congr 1; omega
  have hm : Q % 2 ^ (15 - k % 16) < 2 ^ (15 - k % 16) := Nat.mod_lt _ (Nat.pow_pos (by omega))
  have hlt : 2 ^ (k % 16) < 2 ^ (k % 16 + 1) := Nat.pow_lt_pow_right (by omega) (by omega)
  generalize Q % 2 ^ (15 - k % 16) = z at *
  rw [e1]
  refine ⟨(Nat.two_pow_add_eq_or_of_lt hlt z).symm, ?_⟩
  rw [e2]
  have := Nat.mul_le_mul_left (2 ^ (k % 16 + 1)) hm
  rw [Nat.mul_succ] at this
  omega
theorem set_bit {l : List Nat} {k : Nat} (hk : k / 16 < l.length) : val (l.set (k / 16) (l.getD (k / 16) 0 + 2 ^ (k % 16))) = val l + 2 ^ k := by
  have a1 := val_set (l := l) (k := k / 16) (l.getD (k / 16) 0 + 2 ^ (k % 16)) hk
  have e1 : 2 ^ k = 2 ^ (k % 16) * BB ^ (k / 16) := by rw [BB_pow, ← Nat.pow_add]; congr 1; omega
  rw [Nat.add_mul, ← e1] at a1
  omega
/-- long division, one binary digit -/
theorem half_step (A k : Nat) : A / 2 ^ k = 2 * (A / 2 ^ (k + 1)) + A / 2 ^ k % 2 := by
  rw [Nat.pow_succ, ← Nat.div_div_eq_div_mul]
  have := Nat.div_add_mod (A / 2 ^ k) 2
  omega
theorem bit_take {A k Q R D V b : Nat} (h : A / 2 ^ (k + 1) = Q * D + R) (hb : b = A / 2 ^ k % 2) (hv : V = Q * 2 ^ (k + 1)) :
    A / 2 ^ k = 2 * Q * D + (b + 2 * R) ∧ V = 2 * Q * 2 ^ k := by
  have h1 := half_step A k
  rw [h, ← hb] at h1
  refine ⟨?_, by rw [hv, Nat.pow_succ]; ac_rfl⟩
  rw [h1, Nat.mul_add]
  have : 2 * (Q * D) = 2 * Q * D := by ac_rfl
  omega
theorem bit_more {X Q D R V k : Nat} (h : X = 2 * Q * D + R) (hD : D ≤ R) (hv : V = 2 * Q * 2 ^ k) : X = (2 * Q + 1) * D + (R - D) ∧ V + 2 ^ k = (2 * Q + 1) * 2 ^ k := by
  rw [Nat.add_mul, Nat.add_mul]
  omega
/-- short division, one digit -/
theorem short_step {O A : List Nat} {j c rest : Nat} (hc : 0 < c) (hO : j < O.length) (h0 : O.getD j 0 = 0) (hA : j < A.length)
    (h : val O * c + rest * BB ^ (j + 1) + val (A.take (j + 1)) = val A) : val (O.set j ((rest * BB + A.getD j 0) / c)) * c + (rest * BB + A.getD j 0) % c * BB ^ j + val (A.take j) = val A := by
  have a1 := val_set (l := O) (k := j) ((rest * BB + A.getD j 0) / c) hO
  rw [h0] at a1
  rw [take_any] at h
  have e := Nat.div_add_mod (rest * BB + A.getD j 0) c
  generalize (rest * BB + A.getD j 0) / c = q at *
  generalize (rest * BB + A.getD j 0) % c = m at *
  have e1 : val (O.set j q) = val O + q * BB ^ j := by omega
  rw [e1, Nat.add_mul]
  have e2 : (c * q + m) * BB ^ j = rest * BB ^ (j + 1) + A.getD j 0 * BB ^ j := by
    rw [e, Nat.add_mul, Nat.pow_succ]; congr 1; ac_rfl
  rw [Nat.add_mul] at e2
  have e3 : q * BB ^ j * c = c * q * BB ^ j := by ac_rfl
  omega
theorem short_lt {rest x c : Nat} (hr : rest < c) (hx : x < BB) : (rest * BB + x) / c < BB := by
  rw [Nat.div_lt_iff_lt_mul (by omega)]
  have : (rest + 1) * BB ≤ c * BB := Nat.mul_le_mul hr (Nat.le_refl _)
  rw [Nat.add_mul] at this
  rw [Nat.mul_comm BB c]
  omega
end Go.Proofs.YtannhpadoooedaaGreatDoor.NumR

/- The reference's numbers: plus, minus. -/
namespace Go.Proofs.YtannhpadoooedaaGreatDoor
open Num
open Go.ChangeShapes Go.WideShapes Go.ChangeAt Go.RowKit
set_option linter.unusedVariables false
set_option linter.unusedSimpArgs false

set_option maxRecDepth 100000 in
set_option maxHeartbeats 4000000 in
theorem rplus_c (a b : Option Addr) (ca cb : Nat) (A B : List Nat) (w : World) (ha : U32 w a ca A) (hb : U32 w b cb B) (hA : NumR.Limbs A) (hB : NumR.Limbs B) (h1 : A.length ≤ 2147483650) (h2 : B.length ≤ 2147483650) :
    Calls Tryz.prog 175 #[.slice a A.length ca, .slice b B.length cb] w fun e w' => (∃ v, e = .returned v ∧ ∃ O, Own32 w w' v O ∧ NumR.Limbs O ∧ O.length ≤ max A.length B.length + 1 ∧ NumR.val O = NumR.val A + NumR.val B) := by
  have hmx : max A.length B.length ≤ 2147483650 := Nat.max_le.2 ⟨h1, h2⟩
  have hmA : A.length ≤ max A.length B.length := Nat.le_max_left _ _
  have hmB' : B.length ≤ max A.length B.length := Nat.le_max_right _ _
  go_enter Tryz.func175, Tryz.ntmps175
  go_wp2
  go_loopw [5, 6, 7] (fun d cx x wr => ∃ (i c : Nat) (O : List Nat), i ≤ max A.length B.length + 1 ∧ x = .int .i64 i ∧ cx = .int .u32 c ∧ c ≤ 1 ∧ Own32 w wr d O ∧ NumR.Limbs O ∧ Hid (O.length = i) ∧ Hid (NumR.val O + c * NumR.BB ^ i = NumR.val (A.take i) + NumR.val (B.take i)) ∧ Hid (i = max A.length B.length + 1 → c = 0)) (fun _ _ x _ => max A.length B.length + 1 - (intOf x).toNat)
  case atStart => exact ⟨0, 0, [], by omega, rfl, rfl, by omega, Own32.nil (Below.refl _ _), (fun _ h => by cases h), Lib.hid rfl, Lib.hid (by simp [NumR.val]), Lib.hid (fun h => rfl)⟩
  case round =>
    obtain ⟨i, c, O, hi, rfl, rfl, hc1, hO, hOL, hOl, hV, hZ0⟩ := hrel
    have HS := Lib.hid (fun t ht => NumR.plus_step (O := O) (A := A) (B := B) (i := i) (c := c) (t := t) hOl.out ht hV.out)
    by_cases hia : i < A.length
    · have hiaz : (i : Int) < (A.length : Int) := by omega
      rcases ha.2.2.2 with hn | ⟨ba, oa, rfl, hca⟩
      · subst hn; simp at hia
      have c0 := bkeep hO.2 (hca i hia)
      have hx := NumR.limb_get hA i
      by_cases hib : i < B.length
      · have hibz : (i : Int) < (B.length : Int) := by omega
        rcases hb.2.2.2 with hn | ⟨bb, ob, rfl, hcb⟩
        · subst hn; simp at hib
        have d0 := bkeep hO.2 (hcb i hib)
        have hy := NumR.limb_get hB i
        have HZ := Lib.hid (show i = max A.length B.length → c + A.getD i 0 + B.getD i 0 < NumR.BB from fun h => by omega)
        generalize A.getD i 0 = x at *
        generalize B.getD i 0 = y at *
        have e1 : IntKind.u32.wrap ((c : Int) + (x : Int)) = (c : Int) + (x : Int) := by rw [← Int.natCast_add]; exact w32 (by unfold NumR.BB at *; unfold BB; omega)
        have e2 : IntKind.u32.wrap ((c : Int) + (x : Int) + (y : Int)) = (c : Int) + (x : Int) + (y : Int) := by rw [← Int.natCast_add, ← Int.natCast_add]; exact w32 (by unfold NumR.BB at *; unfold BB; omega)
        have HS2 := Lib.hid (HS.out (c + x + y) rfl)
        have hmB : (c + x + y) % NumR.BB < NumR.BB := Nat.mod_lt _ NumR.BB_pos
        have hdB : (c + x + y) / NumR.BB ≤ 1 := by unfold NumR.BB at *; omega
        obtain ⟨lo, hlo⟩ : ∃ lo, lo = (c + x + y) % NumR.BB := ⟨_, rfl⟩
        obtain ⟨up, hup⟩ : ∃ up, up = (c + x + y) / NumR.BB := ⟨_, rfl⟩
        have HZ2 := Lib.hid (show i + 1 = max A.length B.length + 1 → up = 0 from fun h => by
          have := HZ.out
          rw [hup]; exact Nat.div_eq_of_lt (this (by omega)))
        rw [← hlo] at HS2 hmB
        rw [← hup] at HS2 hdB
        have g1 : ((c : Int) + (x : Int) + (y : Int)) % 65536 = (lo : Int) := by unfold NumR.BB at hlo; omega
        have g2 : ((c : Int) + (x : Int) + (y : Int)) / 65536 = (up : Int) := by unfold NumR.BB at hup; omega
        have g3 : ((c : Int) + (x : Int) + (y : Int)).tmod 65536 = (lo : Int) := by rw [Int.tmod_eq_emod_of_nonneg (by omega)]; exact g1
        have g4 : ((c : Int) + (x : Int) + (y : Int)).tdiv 65536 = (up : Int) := by rw [Int.tdiv_eq_ediv_of_nonneg (by omega)]; exact g2
        have hOm : O.length ≤ 2147483652 := by have := hOl.out; omega
        clear hlo hup HS HZ
        go_wp2_with (at_builtin; refine app32 (X := [lo]) rfl rfl hO rfl rfl ?_ ?_; (simp; omega); intro v' w1 hO1; clear hO)
        refine ⟨⟨i + 1, up, O ++ [lo], by omega, by go_num, rfl, hdB, hO1, NumR.limbs_snoc hOL hmB, Lib.hid (by simpa using hOl.out), HS2, HZ2⟩, by simp [intOf] <;> omega⟩
      · have hibd : decide (i < B.length) = false := by simpa using hib
        have hy0 : B.getD i 0 = 0 := by simp [show B.length ≤ i by omega]
        rw [hy0] at HS
        have HZ := Lib.hid (show i = max A.length B.length → c + A.getD i 0 < NumR.BB from fun h => by omega)
        generalize A.getD i 0 = x at *
        have e1 : IntKind.u32.wrap ((c : Int) + (x : Int)) = (c : Int) + (x : Int) := by rw [← Int.natCast_add]; exact w32 (by unfold NumR.BB at *; unfold BB; omega)
        have HS2 := Lib.hid (HS.out (c + x) rfl)
        have hmB : (c + x) % NumR.BB < NumR.BB := Nat.mod_lt _ NumR.BB_pos
        have hdB : (c + x) / NumR.BB ≤ 1 := by unfold NumR.BB at *; omega
        obtain ⟨lo, hlo⟩ : ∃ lo, lo = (c + x) % NumR.BB := ⟨_, rfl⟩
        obtain ⟨up, hup⟩ : ∃ up, up = (c + x) / NumR.BB := ⟨_, rfl⟩
        have HZ2 := Lib.hid (show i + 1 = max A.length B.length + 1 → up = 0 from fun h => by
          have := HZ.out
          rw [hup]; exact Nat.div_eq_of_lt (this (by omega)))
        rw [← hlo] at HS2 hmB
        rw [← hup] at HS2 hdB
        have g1 : ((c : Int) + (x : Int)) % 65536 = (lo : Int) := by unfold NumR.BB at hlo; omega
        have g2 : ((c : Int) + (x : Int)) / 65536 = (up : Int) := by unfold NumR.BB at hup; omega
        have g3 : ((c : Int) + (x : Int)).tmod 65536 = (lo : Int) := by rw [Int.tmod_eq_emod_of_nonneg (by omega)]; exact g1
        have g4 : ((c : Int) + (x : Int)).tdiv 65536 = (up : Int) := by rw [Int.tdiv_eq_ediv_of_nonneg (by omega)]; exact g2
        have hOm : O.length ≤ 2147483652 := by have := hOl.out; omega
        clear hlo hup HS HZ
        go_wp2_with (at_builtin; refine app32 (X := [lo]) rfl rfl hO rfl rfl ?_ ?_; (simp; omega); intro v' w1 hO1; clear hO)
        refine ⟨⟨i + 1, up, O ++ [lo], by omega, by go_num, rfl, hdB, hO1, NumR.limbs_snoc hOL hmB, Lib.hid (by simpa using hOl.out), HS2, HZ2⟩, by simp [intOf] <;> omega⟩
    · have hiad : decide (i < A.length) = false := by simpa using hia
      have hx0 : A.getD i 0 = 0 := by simp [show A.length ≤ i by omega]
      rw [hx0] at HS
      by_cases hib : i < B.length
      · have hibz : (i : Int) < (B.length : Int) := by omega
        rcases hb.2.2.2 with hn | ⟨bb, ob, rfl, hcb⟩
        · subst hn; simp at hib
        have d0 := bkeep hO.2 (hcb i hib)
        have hy := NumR.limb_get hB i
        rw [Nat.add_zero] at HS
        have HZ := Lib.hid (show i = max A.length B.length → c + B.getD i 0 < NumR.BB from fun h => by omega)
        generalize B.getD i 0 = y at *
        have e1 : IntKind.u32.wrap ((c : Int) + (y : Int)) = (c : Int) + (y : Int) := by rw [← Int.natCast_add]; exact w32 (by unfold NumR.BB at *; unfold BB; omega)
        have HS2 := Lib.hid (HS.out (c + y) rfl)
        have hmB : (c + y) % NumR.BB < NumR.BB := Nat.mod_lt _ NumR.BB_pos
        have hdB : (c + y) / NumR.BB ≤ 1 := by unfold NumR.BB at *; omega
        obtain ⟨lo, hlo⟩ : ∃ lo, lo = (c + y) % NumR.BB := ⟨_, rfl⟩
        obtain ⟨up, hup⟩ : ∃ up, up = (c + y) / NumR.BB := ⟨_, rfl⟩
        have HZ2 := Lib.hid (show i + 1 = max A.length B.length + 1 → up = 0 from fun h => by
          have := HZ.out
          rw [hup]; exact Nat.div_eq_of_lt (this (by omega)))
        rw [← hlo] at HS2 hmB
        rw [← hup] at HS2 hdB
        have g1 : ((c : Int) + (y : Int)) % 65536 = (lo : Int) := by unfold NumR.BB at hlo; omega
        have g2 : ((c : Int) + (y : Int)) / 65536 = (up : Int) := by unfold NumR.BB at hup; omega
        have g3 : ((c : Int) + (y : Int)).tmod 65536 = (lo : Int) := by rw [Int.tmod_eq_emod_of_nonneg (by omega)]; exact g1
        have g4 : ((c : Int) + (y : Int)).tdiv 65536 = (up : Int) := by rw [Int.tdiv_eq_ediv_of_nonneg (by omega)]; exact g2
        have hOm : O.length ≤ 2147483652 := by have := hOl.out; omega
        clear hlo hup HS HZ
        go_wp2_with (at_builtin; refine app32 (X := [lo]) rfl rfl hO rfl rfl ?_ ?_; (simp; omega); intro v' w1 hO1; clear hO)
        refine ⟨⟨i + 1, up, O ++ [lo], by omega, by go_num, rfl, hdB, hO1, NumR.limbs_snoc hOL hmB, Lib.hid (by simpa using hOl.out), HS2, HZ2⟩, by simp [intOf] <;> omega⟩
      · have hibd : decide (i < B.length) = false := by simpa using hib
        have hy0 : B.getD i 0 = 0 := by simp [show B.length ≤ i by omega]
        rw [hy0, Nat.add_zero, Nat.add_zero] at HS
        by_cases hc0 : 0 < c
        · have hlast : i ≤ max A.length B.length := by
            apply Nat.le_of_not_lt; intro h
            have := hZ0.out (by omega)
            omega
          have HZ := Lib.hid (show i = max A.length B.length → c < NumR.BB from fun h => by unfold NumR.BB; omega)
          have hcz : (0 : Int) < (c : Int) := by omega
          have HS2 := Lib.hid (HS.out (c) rfl)
          have hmB : (c) % NumR.BB < NumR.BB := Nat.mod_lt _ NumR.BB_pos
          have hdB : (c) / NumR.BB ≤ 1 := by unfold NumR.BB at *; omega
          obtain ⟨lo, hlo⟩ : ∃ lo, lo = (c) % NumR.BB := ⟨_, rfl⟩
          obtain ⟨up, hup⟩ : ∃ up, up = (c) / NumR.BB := ⟨_, rfl⟩
          have HZ2 := Lib.hid (show i + 1 = max A.length B.length + 1 → up = 0 from fun h => by
            have := HZ.out
            rw [hup]; exact Nat.div_eq_of_lt (this (by omega)))
          rw [← hlo] at HS2 hmB
          rw [← hup] at HS2 hdB
          have g1 : ((c : Int)) % 65536 = (lo : Int) := by unfold NumR.BB at hlo; omega
          have g2 : ((c : Int)) / 65536 = (up : Int) := by unfold NumR.BB at hup; omega
          have g3 : ((c : Int)).tmod 65536 = (lo : Int) := by rw [Int.tmod_eq_emod_of_nonneg (by omega)]; exact g1
          have g4 : ((c : Int)).tdiv 65536 = (up : Int) := by rw [Int.tdiv_eq_ediv_of_nonneg (by omega)]; exact g2
          have hOm : O.length ≤ 2147483652 := by have := hOl.out; omega
          clear hlo hup HS HZ
          go_wp2_with (at_builtin; refine app32 (X := [lo]) rfl rfl hO rfl rfl ?_ ?_; (simp; omega); intro v' w1 hO1; clear hO)
          refine ⟨⟨i + 1, up, O ++ [lo], by omega, by go_num, rfl, hdB, hO1, NumR.limbs_snoc hOL hmB, Lib.hid (by simpa using hOl.out), HS2, HZ2⟩, by simp [intOf] <;> omega⟩
        · obtain rfl : c = 0 := by omega
          have HV := Lib.hid (show NumR.val O = NumR.val A + NumR.val B by
            have := hV.out
            rw [List.take_of_length_le (by omega), List.take_of_length_le (by omega)] at this
            simpa using this)
          go_wp2
          go_ret
          exact ⟨_, rfl, O, hO, hOL, by rw [hOl.out]; exact hi, HV.out⟩


set_option maxRecDepth 100000 in
set_option maxHeartbeats 4000000 in
theorem rminus_c (a b : Option Addr) (ca cb : Nat) (A B : List Nat) (w : World) (ha : U32 w a ca A) (hb : U32 w b cb B) (hA : NumR.Limbs A) (hB : NumR.Limbs B) (h1 : A.length ≤ 2147483650) (h2 : B.length ≤ A.length) (hle : NumR.val B ≤ NumR.val A) :
    Calls Tryz.prog 174 #[.slice a A.length ca, .slice b B.length cb] w fun e w' => (∃ v, e = .returned v ∧ ∃ O, Own32 w w' v O ∧ NumR.Limbs O ∧ O.length = A.length ∧ NumR.val O + NumR.val B = NumR.val A) := by
  have HLE := Lib.hid (And.intro hle h2)
  clear hle
  go_enter Tryz.func174, Tryz.ntmps174
  go_wp2
  go_loopw [5, 6, 7] (fun d cx x wr => ∃ (i c : Nat) (O : List Nat), i ≤ A.length ∧ x = .int .i64 i ∧ cx = .int .u32 c ∧ c ≤ 1 ∧ Own32 w wr d O ∧ NumR.Limbs O ∧ Hid (O.length = i) ∧ Hid (NumR.val O + NumR.val (B.take i) = NumR.val (A.take i) + c * NumR.BB ^ i)) (fun _ _ x _ => A.length - (intOf x).toNat)
  case atStart => exact ⟨0, 0, [], by omega, rfl, rfl, by omega, Own32.nil (Below.refl _ _), (fun _ h => by cases h), Lib.hid rfl, Lib.hid (by simp [NumR.val])⟩
  case round =>
    obtain ⟨i, c, O, hi, rfl, rfl, hc1, hO, hOL, hOl, hV⟩ := hrel
    have HS := Lib.hid (fun r c' hr => NumR.minus_step (O := O) (A := A) (B := B) (i := i) (c := c) (r := r) (c' := c') hOl.out hr hV.out)
    by_cases hia : i < A.length
    · have hiaz : (i : Int) < (A.length : Int) := by omega
      rcases ha.2.2.2 with hn | ⟨ba, oa, rfl, hca⟩
      · subst hn; simp at hia
      have c0 := bkeep hO.2 (hca i hia)
      have hx := NumR.limb_get hA i
      by_cases hib : i < B.length
      · have hibz : (i : Int) < (B.length : Int) := by omega
        rcases hb.2.2.2 with hn | ⟨bb, ob, rfl, hcb⟩
        · subst hn; simp at hib
        have d0 := bkeep hO.2 (hcb i hib)
        have hy := NumR.limb_get hB i
        generalize A.getD i 0 = x at *
        generalize B.getD i 0 = y at *
        have e1 : IntKind.u32.wrap ((c : Int) + (y : Int)) = (c : Int) + (y : Int) := by rw [← Int.natCast_add]; exact w32 (by unfold NumR.BB at *; unfold BB; omega)
        have hy' : y < 65536 := hy
        have hx' : x < 65536 := hx
        by_cases hlow : x < c + y
        · have HS2 := Lib.hid (HS.out (x + NumR.BB - (c + y)) 1 (by unfold NumR.BB at *; omega))
          have e3 : IntKind.u32.wrap ((x : Int) + 65536) = (x : Int) + 65536 := by rw [show (x : Int) + 65536 = ((x + 65536 : Nat) : Int) by omega]; exact w32 (by unfold NumR.BB at *; unfold BB; omega)
          have e4 : IntKind.u32.wrap ((x : Int) + 65536 - ((c : Int) + (y : Int))) = ((x + NumR.BB - (c + y) : Nat) : Int) := by rw [show (x : Int) + 65536 - ((c : Int) + (y : Int)) = ((x + NumR.BB - (c + y) : Nat) : Int) by unfold NumR.BB; omega]; exact w32 (by unfold NumR.BB at *; unfold BB; omega)
          have e5 : (x : Int) + 65536 - ((c : Int) + (y : Int)) = ((x + NumR.BB - (c + y) : Nat) : Int) := by unfold NumR.BB; omega
          have hlz : (x : Int) < (c : Int) + (y : Int) := by omega
          have hrB : x + NumR.BB - (c + y) < NumR.BB := by unfold NumR.BB at *; omega
          have hOm : O.length ≤ 2147483652 := by have := hOl.out; omega
          generalize x + NumR.BB - (c + y) = r at *
          have hr' : r < 65536 := hrB
          have e7 : (r : Int) % 4294967296 = (r : Int) := by omega
          clear HS
          go_wp2_with (at_builtin; refine app32 (X := [r]) rfl rfl hO rfl rfl ?_ ?_; (simp; omega); intro v' w1 hO1; clear hO)
          refine ⟨⟨i + 1, 1, O ++ [r], by omega, by go_num, rfl, by omega, hO1, NumR.limbs_snoc hOL hrB, Lib.hid (by simpa using hOl.out), HS2⟩, by simp [intOf] <;> omega⟩
        · have HS2 := Lib.hid (HS.out (x - (c + y)) 0 (by omega))
          have e4 : IntKind.u32.wrap ((x : Int) - ((c : Int) + (y : Int))) = ((x - (c + y) : Nat) : Int) := by rw [show (x : Int) - ((c : Int) + (y : Int)) = ((x - (c + y) : Nat) : Int) by omega]; exact w32 (by unfold NumR.BB at *; unfold BB; omega)
          have e5 : (x : Int) - ((c : Int) + (y : Int)) = ((x - (c + y) : Nat) : Int) := by omega
          have hlz : ¬ (x : Int) < (c : Int) + (y : Int) := by omega
          have hrB : x - (c + y) < NumR.BB := by unfold NumR.BB at *; omega
          have hOm : O.length ≤ 2147483652 := by have := hOl.out; omega
          generalize x - (c + y) = r at *
          have hr' : r < 65536 := hrB
          have e7 : (r : Int) % 4294967296 = (r : Int) := by omega
          clear HS
          go_wp2_with (at_builtin; refine app32 (X := [r]) rfl rfl hO rfl rfl ?_ ?_; (simp; omega); intro v' w1 hO1; clear hO)
          refine ⟨⟨i + 1, 0, O ++ [r], by omega, by go_num, rfl, by omega, hO1, NumR.limbs_snoc hOL hrB, Lib.hid (by simpa using hOl.out), HS2⟩, by simp [intOf] <;> omega⟩
      · have hibd : decide (i < B.length) = false := by simpa using hib
        have hy0 : B.getD i 0 = 0 := by simp [show B.length ≤ i by omega]
        rw [hy0, Nat.add_zero] at HS
        generalize A.getD i 0 = x at *
        have hx' : x < 65536 := hx
        by_cases hlow : x < c
        · have HS2 := Lib.hid (HS.out (x + NumR.BB - (c)) 1 (by unfold NumR.BB at *; omega))
          have e3 : IntKind.u32.wrap ((x : Int) + 65536) = (x : Int) + 65536 := by rw [show (x : Int) + 65536 = ((x + 65536 : Nat) : Int) by omega]; exact w32 (by unfold NumR.BB at *; unfold BB; omega)
          have e4 : IntKind.u32.wrap ((x : Int) + 65536 - ((c : Int))) = ((x + NumR.BB - (c) : Nat) : Int) := by rw [show (x : Int) + 65536 - ((c : Int)) = ((x + NumR.BB - (c) : Nat) : Int) by unfold NumR.BB; omega]; exact w32 (by unfold NumR.BB at *; unfold BB; omega)
          have e5 : (x : Int) + 65536 - ((c : Int)) = ((x + NumR.BB - (c) : Nat) : Int) := by unfold NumR.BB; omega
          have hlz : (x : Int) < (c : Int) := by omega
          have hrB : x + NumR.BB - (c) < NumR.BB := by unfold NumR.BB at *; omega
          have hOm : O.length ≤ 2147483652 := by have := hOl.out; omega
          generalize x + NumR.BB - (c) = r at *
          have hr' : r < 65536 := hrB
          have e7 : (r : Int) % 4294967296 = (r : Int) := by omega
          clear HS
          go_wp2_with (at_builtin; refine app32 (X := [r]) rfl rfl hO rfl rfl ?_ ?_; (simp; omega); intro v' w1 hO1; clear hO)
          refine ⟨⟨i + 1, 1, O ++ [r], by omega, by go_num, rfl, by omega, hO1, NumR.limbs_snoc hOL hrB, Lib.hid (by simpa using hOl.out), HS2⟩, by simp [intOf] <;> omega⟩
        · have HS2 := Lib.hid (HS.out (x - (c)) 0 (by omega))
          have e4 : IntKind.u32.wrap ((x : Int) - ((c : Int))) = ((x - (c) : Nat) : Int) := by rw [show (x : Int) - ((c : Int)) = ((x - (c) : Nat) : Int) by omega]; exact w32 (by unfold NumR.BB at *; unfold BB; omega)
          have e5 : (x : Int) - ((c : Int)) = ((x - (c) : Nat) : Int) := by omega
          have hlz : ¬ (x : Int) < (c : Int) := by omega
          have hrB : x - (c) < NumR.BB := by unfold NumR.BB at *; omega
          have hOm : O.length ≤ 2147483652 := by have := hOl.out; omega
          generalize x - (c) = r at *
          have hr' : r < 65536 := hrB
          have e7 : (r : Int) % 4294967296 = (r : Int) := by omega
          clear HS
          go_wp2_with (at_builtin; refine app32 (X := [r]) rfl rfl hO rfl rfl ?_ ?_; (simp; omega); intro v' w1 hO1; clear hO)
          refine ⟨⟨i + 1, 0, O ++ [r], by omega, by go_num, rfl, by omega, hO1, NumR.limbs_snoc hOL hrB, Lib.hid (by simpa using hOl.out), HS2⟩, by simp [intOf] <;> omega⟩
    · obtain rfl : i = A.length := by omega
      have HV := Lib.hid (NumR.minus_end hA HLE.out.1 HLE.out.2 hV.out (by have := NumR.val_lt hOL; rwa [hOl.out] at this))
      go_wp2
      go_ret
      exact ⟨_, rfl, O, hO, hOL, hOl.out, HV.out⟩
end Go.Proofs.YtannhpadoooedaaGreatDoor

/- The reference's numbers: Neg, Abs, Add, Sub. -/
namespace Go.Proofs.YtannhpadoooedaaGreatDoor
open Num
open Go.ChangeShapes Go.WideShapes Go.ChangeAt Go.RowKit
set_option linter.unusedVariables false
set_option linter.unusedSimpArgs false


set_option maxRecDepth 100000 in
set_option maxHeartbeats 1000000 in
theorem rneg_c (vx : Value) (x : Int) (w : World) (hx : IsRef w vx x) :
    Calls Tryz.prog 162 #[vx] w fun e w' => (∃ v, e = .returned v ∧ IsRef w' v (-x)) ∧ Below w.heap.size w w' := by
  obtain ⟨n1, a1, c1, l1, rfl, u1, q1, g1, s1, rfl⟩ := hx
  rw [← sg_not]
  clear s1 g1
  have mc := fun w h => rnorm_c (!n1) a1 c1 l1 w h q1
  unfold iv
  have hB0 := Below.refl w.heap.size w
  go_enter Tryz.func162, Tryz.ntmps162
  go_wp2_with fail
  refine (mc _ (u1.keep (by repeat (first | exact Below.refl _ _ | exact hB0 | refine Below.drew ?_ | refine below_drewN ?_ _ | refine bset ?_ (by simp <;> omega) _ | refine bal ?_ _)))).mono ?_
  rintro e w1 ⟨⟨v, rfl, hi⟩, hb1⟩
  have x0 : w1.cell? ⟨w.heap.size, 0, none⟩ = some (.bool n1) := bkc hb1
  have zx0 := cell_lt x0
  have x1 : w1.cell? ⟨w.heap.size, 1, none⟩ = some (.slice a1 l1.length c1) := bkc hb1
  have r0 : w1.cell? ⟨w.heap.size + 1, 0, none⟩ = some (.bool false) := bkc hb1
  have zr0 := cell_lt r0
  have r0f : w1.frozen? ⟨w.heap.size + 1, 0, none⟩ = false := bkcf (v := .bool false) hb1
  have r1 : w1.cell? ⟨w.heap.size + 1, 1, none⟩ = some (.slice none 0 0) := bkc hb1
  have r1f : w1.frozen? ⟨w.heap.size + 1, 1, none⟩ = false := bkcf (v := .slice none 0 0) hb1
  have hB : Below w.heap.size w w1 := bthen (by repeat (first | exact Below.refl _ _ | exact hB | refine Below.drew ?_ | refine below_drewN ?_ _ | refine bset ?_ (by simp <;> omega) _ | refine bal ?_ _)) hb1
  have hz : w.heap.size ≤ w1.heap.size := hB.size
  have HI2 := Lib.hid (hi.put2 r0 r1)
  obtain ⟨n4, a4, c4, l4, rfl, _, _, _, _⟩ := hi
  unfold iv at *
  go_wp2
  refine bodyPost_ret (v := .agg #[.bool n4, .slice a4 l4.length c4]) (by simp [results, Tryz.results162, go_sem, *]) rfl ⟨⟨_, rfl, HI2.out _ _⟩, ?_⟩
  repeat (first | exact Below.refl _ _ | exact hB | refine Below.drew ?_ | refine below_drewN ?_ _ | refine bset ?_ (by simp <;> omega) _ | refine bal ?_ _)
set_option maxRecDepth 100000 in
set_option maxHeartbeats 1000000 in
theorem rabs_c (vx : Value) (x : Int) (w : World) (hx : IsRef w vx x) :
    Calls Tryz.prog 144 #[vx] w fun e w' => (∃ v, e = .returned v ∧ IsRef w' v (x.natAbs : Int)) ∧ Below w.heap.size w w' := by
  obtain ⟨n1, a1, c1, l1, rfl, u1, q1, g1, s1, rfl⟩ := hx
  rw [sg_abs, show ((NumR.val l1 : Nat) : Int) = sg false (NumR.val l1) from rfl]
  clear s1 g1
  have mc := fun w h => rnorm_c (false) a1 c1 l1 w h q1
  unfold iv
  have hB0 := Below.refl w.heap.size w
  go_enter Tryz.func144, Tryz.ntmps144
  go_wp2_with fail
  refine (mc _ (u1.keep (by repeat (first | exact Below.refl _ _ | exact hB0 | refine Below.drew ?_ | refine below_drewN ?_ _ | refine bset ?_ (by simp <;> omega) _ | refine bal ?_ _)))).mono ?_
  rintro e w1 ⟨⟨v, rfl, hi⟩, hb1⟩
  have x0 : w1.cell? ⟨w.heap.size, 0, none⟩ = some (.bool n1) := bkc hb1
  have zx0 := cell_lt x0
  have x1 : w1.cell? ⟨w.heap.size, 1, none⟩ = some (.slice a1 l1.length c1) := bkc hb1
  have r0 : w1.cell? ⟨w.heap.size + 1, 0, none⟩ = some (.bool false) := bkc hb1
  have zr0 := cell_lt r0
  have r0f : w1.frozen? ⟨w.heap.size + 1, 0, none⟩ = false := bkcf (v := .bool false) hb1
  have r1 : w1.cell? ⟨w.heap.size + 1, 1, none⟩ = some (.slice none 0 0) := bkc hb1
  have r1f : w1.frozen? ⟨w.heap.size + 1, 1, none⟩ = false := bkcf (v := .slice none 0 0) hb1
  have hB : Below w.heap.size w w1 := bthen (by repeat (first | exact Below.refl _ _ | exact hB | refine Below.drew ?_ | refine below_drewN ?_ _ | refine bset ?_ (by simp <;> omega) _ | refine bal ?_ _)) hb1
  have hz : w.heap.size ≤ w1.heap.size := hB.size
  have HI2 := Lib.hid (hi.put2 r0 r1)
  obtain ⟨n4, a4, c4, l4, rfl, _, _, _, _⟩ := hi
  unfold iv at *
  go_wp2
  refine bodyPost_ret (v := .agg #[.bool n4, .slice a4 l4.length c4]) (by simp [results, Tryz.results144, go_sem, *]) rfl ⟨⟨_, rfl, HI2.out _ _⟩, ?_⟩
  repeat (first | exact Below.refl _ _ | exact hB | refine Below.drew ?_ | refine below_drewN ?_ _ | refine bset ?_ (by simp <;> omega) _ | refine bal ?_ _)

/-- plus, minus: what is answered, as a list of digits -/
def NewR (w' : World) (u : Value) (v : Nat) : Prop := ∃ a c L, u = .slice a (List.length L) c ∧ U32 w' a c L ∧ NumR.Limbs L ∧ NumR.val L = v
theorem rplusU (a b : Option Addr) (ca cb : Nat) (A B : List Nat) (w : World) (ha : U32 w a ca A) (hb : U32 w b cb B) (hA : NumR.Limbs A) (hB : NumR.Limbs B) (h1 : A.length ≤ 2147483650) (h2 : B.length ≤ 2147483650) :
    Calls Tryz.prog 175 #[.slice a A.length ca, .slice b B.length cb] w fun e w' => (∃ u, e = .returned u ∧ NewR w' u (NumR.val A + NumR.val B)) ∧ Below w.heap.size w w' :=
  (rplus_c a b ca cb A B w ha hb hA hB h1 h2).mono fun e w' ⟨v, he, O, hO, hL, hl, hv⟩ => by
    obtain ⟨a', c', e2, hu⟩ := hO.u32 (limbs_of_r hL)
    exact ⟨⟨v, he, a', c', O, e2, hu, hL, hv⟩, hO.2⟩
theorem rminusU (a b : Option Addr) (ca cb : Nat) (A B : List Nat) (w : World) (ha : U32 w a ca A) (hb : U32 w b cb B) (hA : NumR.Limbs A) (hB : NumR.Limbs B) (nb : Nrm B) (h1 : A.length ≤ 2147483650) (hle : NumR.val B ≤ NumR.val A) :
    Calls Tryz.prog 174 #[.slice a A.length ca, .slice b B.length cb] w fun e w' => (∃ u, e = .returned u ∧ NewR w' u (NumR.val A - NumR.val B)) ∧ Below w.heap.size w w' := by
  have h2 : B.length ≤ A.length := by
    apply Nat.le_of_not_lt; intro h
    have := NumR.val_lt_of_len hA nb h
    omega
  refine (rminus_c a b ca cb A B w ha hb hA hB h1 h2 hle).mono fun e w' ⟨v, he, O, hO, hL, hl, hv⟩ => ?_
  obtain ⟨a', c', e2, hu⟩ := hO.u32 (limbs_of_r hL)
  exact ⟨⟨v, he, a', c', O, e2, hu, hL, by omega⟩, hO.2⟩


set_option maxRecDepth 100000 in
set_option maxHeartbeats 4000000 in
theorem raddV_c (n1 n2 : Bool) (a1 a2 : Option Addr) (c1 c2 : Nat) (l1 l2 : List Nat) (w : World) (u1 : U32 w a1 c1 l1) (u2 : U32 w a2 c2 l2) (q1 : NumR.Limbs l1) (q2 : NumR.Limbs l2) (g1 : Nrm l1) (g2 : Nrm l2) (k1 : l1.length ≤ 2147483650) (k2 : l2.length ≤ 2147483650) :
    Calls Tryz.prog 147 #[.agg #[.bool n1, .slice a1 l1.length c1], .agg #[.bool n2, .slice a2 l2.length c2]] w fun e w' => (∃ v, e = .returned v ∧ IsRef w' v (sg n1 (NumR.val l1) + sg n2 (NumR.val l2))) ∧ Below w.heap.size w w' := by
  have hB := Below.refl w.heap.size w
  by_cases hn : n1 = n2
  · have he : ∀ w', (binOp .eql 4 (.bool n1) (.bool n2)).run Tryz.prog w' = .ok (.bool true) w' := fun w' => by subst hn; cases n1 <;> rfl
    have HS := Lib.hid (show sg n1 (NumR.val l1 + NumR.val l2) = sg n1 (NumR.val l1) + sg n2 (NumR.val l2) by subst hn; exact sg_add _ _ _)
    have pc := fun w h1 h2 => rplusU a1 a2 c1 c2 l1 l2 w h1 h2 q1 q2 k1 k2
    clear hn
    go_enter Tryz.func147, Tryz.ntmps147
    go_wp2
    refine wp_name fun w0 hW0 => ?_
    have x0 : w0.cell? ⟨w.heap.size, 0, none⟩ = some (.bool n1) := by rw [hW0]; exact (by first | assumption | exact cell_new (by with_reducible first | rfl | (simp; done) | (simp; omega)) rfl | (repeat (first | assumption | exact cell_new (by with_reducible first | rfl | (simp; done) | (simp; omega)) rfl | refine cell_alloc ?_ _ | refine cell_drew ?_ | refine cell_drewN ?_ _ | refine cell_far ?_ (by simp) _ | (refine cell_far ?_ (by simp <;> omega) _))) | simp [go_sem, *])
    have zx0 := cell_lt x0
    have x1 : w0.cell? ⟨w.heap.size, 1, none⟩ = some (.slice a1 l1.length c1) := by rw [hW0]; exact (by first | assumption | exact cell_new (by with_reducible first | rfl | (simp; done) | (simp; omega)) rfl | (repeat (first | assumption | exact cell_new (by with_reducible first | rfl | (simp; done) | (simp; omega)) rfl | refine cell_alloc ?_ _ | refine cell_drew ?_ | refine cell_drewN ?_ _ | refine cell_far ?_ (by simp) _ | (refine cell_far ?_ (by simp <;> omega) _))) | simp [go_sem, *])
    have y0 : w0.cell? ⟨w.heap.size + 1, 0, none⟩ = some (.bool n2) := by rw [hW0]; exact (by first | assumption | exact cell_new (by with_reducible first | rfl | (simp; done) | (simp; omega)) rfl | (repeat (first | assumption | exact cell_new (by with_reducible first | rfl | (simp; done) | (simp; omega)) rfl | refine cell_alloc ?_ _ | refine cell_drew ?_ | refine cell_drewN ?_ _ | refine cell_far ?_ (by simp) _ | (refine cell_far ?_ (by simp <;> omega) _))) | simp [go_sem, *])
    have zy0 := cell_lt y0
    have y1 : w0.cell? ⟨w.heap.size + 1, 1, none⟩ = some (.slice a2 l2.length c2) := by rw [hW0]; exact (by first | assumption | exact cell_new (by with_reducible first | rfl | (simp; done) | (simp; omega)) rfl | (repeat (first | assumption | exact cell_new (by with_reducible first | rfl | (simp; done) | (simp; omega)) rfl | refine cell_alloc ?_ _ | refine cell_drew ?_ | refine cell_drewN ?_ _ | refine cell_far ?_ (by simp) _ | (refine cell_far ?_ (by simp <;> omega) _))) | simp [go_sem, *])
    have r0f : w0.frozen? ⟨w.heap.size + 2, 0, none⟩ = false := by rw [hW0]; simp [go_sem, *]
    have r0 : w0.cell? ⟨w.heap.size + 2, 0, none⟩ = some (.bool false) := by rw [hW0]; exact (by first | assumption | exact cell_new (by with_reducible first | rfl | (simp; done) | (simp; omega)) rfl | (repeat (first | assumption | exact cell_new (by with_reducible first | rfl | (simp; done) | (simp; omega)) rfl | refine cell_alloc ?_ _ | refine cell_drew ?_ | refine cell_drewN ?_ _ | refine cell_far ?_ (by simp) _ | (refine cell_far ?_ (by simp <;> omega) _))) | simp [go_sem, *])
    have zr0 := cell_lt r0
    have r1f : w0.frozen? ⟨w.heap.size + 2, 1, none⟩ = false := by rw [hW0]; simp [go_sem, *]
    have r1 : w0.cell? ⟨w.heap.size + 2, 1, none⟩ = some (.slice none 0 0) := by rw [hW0]; exact (by first | assumption | exact cell_new (by with_reducible first | rfl | (simp; done) | (simp; omega)) rfl | (repeat (first | assumption | exact cell_new (by with_reducible first | rfl | (simp; done) | (simp; omega)) rfl | refine cell_alloc ?_ _ | refine cell_drew ?_ | refine cell_drewN ?_ _ | refine cell_far ?_ (by simp) _ | (refine cell_far ?_ (by simp <;> omega) _))) | simp [go_sem, *])
    have hB : Below w.heap.size w w0 := by rw [hW0]; repeat (first | exact Below.refl _ _ | exact hB | refine Below.drew ?_ | refine below_drewN ?_ _ | refine bset ?_ (by simp <;> omega) _ | refine bal ?_ _)
    have hz : w.heap.size ≤ w0.heap.size := hB.size
    clear hW0
    have hBc : Below w0.heap.size w0 w0.drew := (Below.refl _ _).drew
    have HB0 := Lib.hid hB
    go_region_held3 (fun w' => w'.cell? ⟨w.heap.size, 0, none⟩ = some (.bool n1) ∧ w'.cell? ⟨w.heap.size, 1, none⟩ = some (.slice a1 l1.length c1) ∧ w'.cell? ⟨w.heap.size + 1, 0, none⟩ = some (.bool n2) ∧ w'.cell? ⟨w.heap.size + 1, 1, none⟩ = some (.slice a2 l2.length c2))
      (first | exact ⟨x0, x1, y0, y1⟩ | exact ⟨bkeep hBc x0, bkeep hBc x1, bkeep hBc y0, bkeep hBc y1⟩ | exact ⟨cell_far (cell_far (bkeep hBc x0) (addr_ne (by omega)) _) (addr_ne (by omega)) _, cell_far (cell_far (bkeep hBc x1) (addr_ne (by omega)) _) (addr_ne (by omega)) _, cell_far (cell_far (bkeep hBc y0) (addr_ne (by omega)) _) (addr_ne (by omega)) _, cell_far (cell_far (bkeep hBc y1) (addr_ne (by omega)) _) (addr_ne (by omega)) _⟩)
      (first
        | (go_at_call 175; refine (pc _ (u1.keep (bthen HB0.out hBc)) (u2.keep (bthen HB0.out hBc))).mono ?_; rintro e w3 ⟨⟨u3, rfl, a3, k3, L, rfl, hu, hr, hv⟩, hb3⟩; (replace hBc := bthen hBc hb3))
        | (go_at_call 99; refine (rnorm_c n1 _ _ _ _ hu hr).mono ?_; rintro e w4 ⟨⟨v, rfl, hi⟩, hb4⟩; (replace hBc := bthen hBc hb4); (replace r0f := bkeepf hBc r0 r0f); (replace r1f := bkeepf hBc r1 r1f); (replace r0 := bkeep hBc r0); (replace r1 := bkeep hBc r1); (rw [hv, HS.out] at hi); (have HI2 := Lib.hid (hi.put2 r0 r1)); (obtain ⟨n4, a4, c4, l4, rfl, _, _, _, _⟩ := hi); unfold iv at *))
    have hB9 := bthen HB0.out hBc
    clear x0 x1 y0 y1
    go_wp2
    refine bodyPost_ret (v := .agg #[.bool n4, .slice a4 l4.length c4]) (by simp [results, Tryz.results147, go_sem, *]) rfl ⟨⟨_, rfl, HI2.out _ _⟩, ?_⟩
    repeat (first | exact Below.refl _ _ | exact hB9 | refine Below.drew ?_ | refine below_drewN ?_ _ | refine bset ?_ (by simp <;> omega) _ | refine bal ?_ _)
  · have he : ∀ w', (binOp .eql 4 (.bool n1) (.bool n2)).run Tryz.prog w' = .ok (.bool false) w' := fun w' => by cases n1 <;> cases n2 <;> first | exact absurd rfl hn | rfl
    have hnn : n2 = !n1 := by cases n1 <;> cases n2 <;> first | exact absurd rfl hn | rfl
    have zc := fun w h1 h2 => rsize_c a1 a2 c1 c2 l1 l2 w h1 h2 q1 q2 g1 g2
    by_cases hlt : NumR.val l1 < NumR.val l2
    · have hz : ¬ (0 : Int) ≤ cmpN (NumR.val l1) (NumR.val l2) := by have := (cmpN_neg (x := NumR.val l1) (y := NumR.val l2)); rw [decide_eq_true hlt] at this; have := of_decide_eq_true this; omega
      have HS := Lib.hid (show sg n2 (NumR.val l2 - NumR.val l1) = sg n1 (NumR.val l1) + sg n2 (NumR.val l2) by rw [hnn]; exact sg_sub_lt _ _ _ (Nat.le_of_lt hlt))
      have pc := fun w h1 h2 => rminusU a2 a1 c2 c1 l2 l1 w h1 h2 q2 q1 g1 k2 (Nat.le_of_lt hlt)
      generalize cmpN (NumR.val l1) (NumR.val l2) = z at *
      clear hn hnn hlt
      go_enter Tryz.func147, Tryz.ntmps147
      go_wp2_with fail
      refine (zc _ (u1.keep (by repeat (first | exact Below.refl _ _ | exact hB | refine Below.drew ?_ | refine below_drewN ?_ _ | refine bset ?_ (by simp <;> omega) _ | refine bal ?_ _))) (u2.keep (by repeat (first | exact Below.refl _ _ | exact hB | refine Below.drew ?_ | refine below_drewN ?_ _ | refine bset ?_ (by simp <;> omega) _ | refine bal ?_ _)))).mono ?_
      rintro e w1 ⟨rfl, hb1⟩
      have x0 : w1.cell? ⟨w.heap.size, 0, none⟩ = some (.bool n1) := bkc hb1
      have zx0 := cell_lt x0
      have x1 : w1.cell? ⟨w.heap.size, 1, none⟩ = some (.slice a1 l1.length c1) := bkc hb1
      have y0 : w1.cell? ⟨w.heap.size + 1, 0, none⟩ = some (.bool n2) := bkc hb1
      have zy0 := cell_lt y0
      have y1 : w1.cell? ⟨w.heap.size + 1, 1, none⟩ = some (.slice a2 l2.length c2) := bkc hb1
      have r0 : w1.cell? ⟨w.heap.size + 2, 0, none⟩ = some (.bool false) := bkc hb1
      have zr0 := cell_lt r0
      have r0f : w1.frozen? ⟨w.heap.size + 2, 0, none⟩ = false := bkcf (v := .bool false) hb1
      have r1 : w1.cell? ⟨w.heap.size + 2, 1, none⟩ = some (.slice none 0 0) := bkc hb1
      have r1f : w1.frozen? ⟨w.heap.size + 2, 1, none⟩ = false := bkcf (v := .slice none 0 0) hb1
      have hB : Below w.heap.size w w1 := bthen (by repeat (first | exact Below.refl _ _ | exact hB | refine Below.drew ?_ | refine below_drewN ?_ _ | refine bset ?_ (by simp <;> omega) _ | refine bal ?_ _)) hb1
      have hz : w.heap.size ≤ w1.heap.size := hB.size
      clear zc
      go_wp2
      have hBc : Below w1.heap.size w1 w1.drew := (Below.refl _ _).drew
      have HB0 := Lib.hid hB
      go_region_held3 (fun w' => w'.cell? ⟨w.heap.size, 0, none⟩ = some (.bool n1) ∧ w'.cell? ⟨w.heap.size, 1, none⟩ = some (.slice a1 l1.length c1) ∧ w'.cell? ⟨w.heap.size + 1, 0, none⟩ = some (.bool n2) ∧ w'.cell? ⟨w.heap.size + 1, 1, none⟩ = some (.slice a2 l2.length c2))
        (first | exact ⟨x0, x1, y0, y1⟩ | exact ⟨bkeep hBc x0, bkeep hBc x1, bkeep hBc y0, bkeep hBc y1⟩ | exact ⟨cell_far (cell_far (bkeep hBc x0) (addr_ne (by omega)) _) (addr_ne (by omega)) _, cell_far (cell_far (bkeep hBc x1) (addr_ne (by omega)) _) (addr_ne (by omega)) _, cell_far (cell_far (bkeep hBc y0) (addr_ne (by omega)) _) (addr_ne (by omega)) _, cell_far (cell_far (bkeep hBc y1) (addr_ne (by omega)) _) (addr_ne (by omega)) _⟩)
        (first
          | (go_at_call 174; refine (pc _ (u2.keep (bthen HB0.out hBc)) (u1.keep (bthen HB0.out hBc))).mono ?_; rintro e w3 ⟨⟨u3, rfl, a3, k3, L, rfl, hu, hr, hv⟩, hb3⟩; (replace hBc := bthen hBc hb3))
          | (go_at_call 99; refine (rnorm_c n2 _ _ _ _ hu hr).mono ?_; rintro e w4 ⟨⟨v, rfl, hi⟩, hb4⟩; (replace hBc := bthen hBc hb4); (replace r0f := bkeepf hBc r0 r0f); (replace r1f := bkeepf hBc r1 r1f); (replace r0 := bkeep hBc r0); (replace r1 := bkeep hBc r1); (rw [hv, HS.out] at hi); (have HI2 := Lib.hid (hi.put2 r0 r1)); (obtain ⟨n4, a4, c4, l4, rfl, _, _, _, _⟩ := hi); unfold iv at *))
      have hB9 := bthen HB0.out hBc
      clear x0 x1 y0 y1
      go_wp2
      refine bodyPost_ret (v := .agg #[.bool n4, .slice a4 l4.length c4]) (by simp [results, Tryz.results147, go_sem, *]) rfl ⟨⟨_, rfl, HI2.out _ _⟩, ?_⟩
      repeat (first | exact Below.refl _ _ | exact hB9 | refine Below.drew ?_ | refine below_drewN ?_ _ | refine bset ?_ (by simp <;> omega) _ | refine bal ?_ _)
    · have hz : (0 : Int) ≤ cmpN (NumR.val l1) (NumR.val l2) := by have := (cmpN_neg (x := NumR.val l1) (y := NumR.val l2)); rw [decide_eq_false hlt] at this; have := of_decide_eq_false this; omega
      have HS := Lib.hid (show sg n1 (NumR.val l1 - NumR.val l2) = sg n1 (NumR.val l1) + sg n2 (NumR.val l2) by rw [hnn]; exact sg_sub_ge _ _ _ (by omega))
      have pc := fun w h1 h2 => rminusU a1 a2 c1 c2 l1 l2 w h1 h2 q1 q2 g2 k1 (by omega)
      generalize cmpN (NumR.val l1) (NumR.val l2) = z at *
      clear hn hnn hlt
      go_enter Tryz.func147, Tryz.ntmps147
      go_wp2_with fail
      refine (zc _ (u1.keep (by repeat (first | exact Below.refl _ _ | exact hB | refine Below.drew ?_ | refine below_drewN ?_ _ | refine bset ?_ (by simp <;> omega) _ | refine bal ?_ _))) (u2.keep (by repeat (first | exact Below.refl _ _ | exact hB | refine Below.drew ?_ | refine below_drewN ?_ _ | refine bset ?_ (by simp <;> omega) _ | refine bal ?_ _)))).mono ?_
      rintro e w1 ⟨rfl, hb1⟩
      have x0 : w1.cell? ⟨w.heap.size, 0, none⟩ = some (.bool n1) := bkc hb1
      have zx0 := cell_lt x0
      have x1 : w1.cell? ⟨w.heap.size, 1, none⟩ = some (.slice a1 l1.length c1) := bkc hb1
      have y0 : w1.cell? ⟨w.heap.size + 1, 0, none⟩ = some (.bool n2) := bkc hb1
      have zy0 := cell_lt y0
      have y1 : w1.cell? ⟨w.heap.size + 1, 1, none⟩ = some (.slice a2 l2.length c2) := bkc hb1
      have r0 : w1.cell? ⟨w.heap.size + 2, 0, none⟩ = some (.bool false) := bkc hb1
      have zr0 := cell_lt r0
      have r0f : w1.frozen? ⟨w.heap.size + 2, 0, none⟩ = false := bkcf (v := .bool false) hb1
      have r1 : w1.cell? ⟨w.heap.size + 2, 1, none⟩ = some (.slice none 0 0) := bkc hb1
      have r1f : w1.frozen? ⟨w.heap.size + 2, 1, none⟩ = false := bkcf (v := .slice none 0 0) hb1
      have hB : Below w.heap.size w w1 := bthen (by repeat (first | exact Below.refl _ _ | exact hB | refine Below.drew ?_ | refine below_drewN ?_ _ | refine bset ?_ (by simp <;> omega) _ | refine bal ?_ _)) hb1
      have hz : w.heap.size ≤ w1.heap.size := hB.size
      clear zc
      go_wp2
      have hBc : Below w1.heap.size w1 w1.drew := (Below.refl _ _).drew
      have HB0 := Lib.hid hB
      go_region_held3 (fun w' => w'.cell? ⟨w.heap.size, 0, none⟩ = some (.bool n1) ∧ w'.cell? ⟨w.heap.size, 1, none⟩ = some (.slice a1 l1.length c1) ∧ w'.cell? ⟨w.heap.size + 1, 0, none⟩ = some (.bool n2) ∧ w'.cell? ⟨w.heap.size + 1, 1, none⟩ = some (.slice a2 l2.length c2))
        (first | exact ⟨x0, x1, y0, y1⟩ | exact ⟨bkeep hBc x0, bkeep hBc x1, bkeep hBc y0, bkeep hBc y1⟩ | exact ⟨cell_far (cell_far (bkeep hBc x0) (addr_ne (by omega)) _) (addr_ne (by omega)) _, cell_far (cell_far (bkeep hBc x1) (addr_ne (by omega)) _) (addr_ne (by omega)) _, cell_far (cell_far (bkeep hBc y0) (addr_ne (by omega)) _) (addr_ne (by omega)) _, cell_far (cell_far (bkeep hBc y1) (addr_ne (by omega)) _) (addr_ne (by omega)) _⟩)
        (first
          | (go_at_call 174; refine (pc _ (u1.keep (bthen HB0.out hBc)) (u2.keep (bthen HB0.out hBc))).mono ?_; rintro e w3 ⟨⟨u3, rfl, a3, k3, L, rfl, hu, hr, hv⟩, hb3⟩; (replace hBc := bthen hBc hb3))
          | (go_at_call 99; refine (rnorm_c n1 _ _ _ _ hu hr).mono ?_; rintro e w4 ⟨⟨v, rfl, hi⟩, hb4⟩; (replace hBc := bthen hBc hb4); (replace r0f := bkeepf hBc r0 r0f); (replace r1f := bkeepf hBc r1 r1f); (replace r0 := bkeep hBc r0); (replace r1 := bkeep hBc r1); (rw [hv, HS.out] at hi); (have HI2 := Lib.hid (hi.put2 r0 r1)); (obtain ⟨n4, a4, c4, l4, rfl, _, _, _, _⟩ := hi); unfold iv at *))
      have hB9 := bthen HB0.out hBc
      clear x0 x1 y0 y1
      go_wp2
      refine bodyPost_ret (v := .agg #[.bool n4, .slice a4 l4.length c4]) (by simp [results, Tryz.results147, go_sem, *]) rfl ⟨⟨_, rfl, HI2.out _ _⟩, ?_⟩
      repeat (first | exact Below.refl _ _ | exact hB9 | refine Below.drew ?_ | refine below_drewN ?_ _ | refine bset ?_ (by simp <;> omega) _ | refine bal ?_ _)
theorem radd_c (vx vy : Value) (x y : Int) (k : Nat) (w : World) (hx : IsRef w vx x) (hy : IsRef w vy y) (bx : Bd k x) (by' : Bd k y) (hk : k ≤ 17179869184) :
    Calls Tryz.prog 147 #[vx, vy] w fun e w' => (∃ v, e = .returned v ∧ IsRef w' v (x + y)) ∧ Below w.heap.size w w' := by
  obtain ⟨n1, a1, c1, l1, rfl, u1, q1, g1, s1, rfl⟩ := hx
  obtain ⟨n2, a2, c2, l2, rfl, u2, q2, g2, s2, rfl⟩ := hy
  exact raddV_c n1 n2 a1 a2 c1 c2 l1 l2 w u1 u2 q1 q2 g1 g2 (Nat.le_trans (rbd_len g1 (rsg_bd bx) hk) (by omega)) (Nat.le_trans (rbd_len g2 (rsg_bd by') hk) (by omega))
end Go.Proofs.YtannhpadoooedaaGreatDoor

/- The reference's numbers: bits, bit. -/
namespace Go.Proofs.YtannhpadoooedaaGreatDoor
open Num
open Go.ChangeShapes Go.WideShapes Go.ChangeAt Go.RowKit
set_option linter.unusedVariables false
set_option linter.unusedSimpArgs false

set_option maxRecDepth 100000 in
set_option maxHeartbeats 1000000 in
theorem rbits_c (a : Option Addr) (ca : Nat) (l : List Nat) (w : World) (ha : U32 w a ca l) (hl : NumR.Limbs l) (hn : Nrm l) (h1 : l.length ≤ 2147483650) :
    Calls Tryz.prog 172 #[.slice a l.length ca] w fun e w' => e = .returned (.int .i64 (bitN (NumR.val l))) ∧ w = w' := by
  cases hk : l.length with
  | zero =>
    obtain rfl : l = [] := List.length_eq_zero_iff.1 hk
    go_enter Tryz.func172, Tryz.ntmps172
    go_wp2
    go_ret
    exact ⟨rfl, rfl⟩
  | succ k =>
    rcases ha.2.2.2 with h0 | ⟨ba, oa, rfl, hca⟩
    · subst h0; simp at hk
    have c0 := hca k (by omega)
    have hv := NumR.bitN_nrm hl hn hk
    have hx := NumR.limb_get hl k
    have HV := Lib.hid hv
    clear hv
    generalize l.getD k 0 = x at *
    have hkz : (((k + 1 : Nat) : Int) == 0) = false := by rw [beq_eq_false_iff_ne]; omega
    have hx' : x < 65536 := hx
    have hbx : bitN x ≤ 16 := NumR.bitN_le (n := 16) hx
    go_enter Tryz.func172, Tryz.ntmps172
    go_wp2
    go_loop [3, 4] (fun n t => ∃ j y : Nat, n = .int .i64 (16 * (k : Int) + (j : Int)) ∧ t = .int .u32 y ∧ y ≤ x ∧ Hid (j + bitN y = bitN x)) (fun _ t => (intOf t).toNat)
    case atStart => exact ⟨0, x, by simp, rfl, Nat.le_refl _, Lib.hid (by omega)⟩
    case round =>
      obtain ⟨j, y, rfl, rfl, hy, hj⟩ := hrel
      have hj16 : j ≤ 16 := by have := hj.out; omega
      by_cases hy0 : 0 < y
      · have HH := Lib.hid (show j + 1 + bitN (y / 2) = bitN x by have := bitN_half (Nat.ne_of_gt hy0); have := hj.out; omega)
        obtain ⟨z, hz⟩ : ∃ z, z = y / 2 := ⟨_, rfl⟩
        rw [← hz] at HH
        have e1 : (y : Int) / 2 = (z : Int) := by omega
        have e2 : (y : Int).tdiv 2 = (z : Int) := by rw [Int.tdiv_eq_ediv_of_nonneg (by omega)]; exact e1
        have hzy : z < y := by omega
        clear hz
        go_wp2
        exact ⟨⟨j + 1, z, by first | rfl | (congr 1; omega) | (congr 1), rfl, by omega, HH⟩, by simp [intOf] <;> omega⟩
      · obtain rfl : y = 0 := by omega
        have HE := Lib.hid (show 16 * (k : Int) + (j : Int) = (bitN (NumR.val l) : Int) by have := hj.out; have := HV.out; rw [show bitN 0 = 0 from rfl] at *; omega)
        go_wp2
        go_ret
        exact ⟨ret_int HE.out, rfl⟩

set_option maxRecDepth 100000 in
set_option maxHeartbeats 1000000 in
theorem rbit_c (a : Option Addr) (ca : Nat) (l : List Nat) (k : Nat) (w : World) (ha : U32 w a ca l) (hl : NumR.Limbs l) (hk : k / 16 < l.length) (h1 : l.length ≤ 2147483650) :
    Calls Tryz.prog 173 #[.slice a l.length ca, .int .i64 (k : Int)] w fun e w' => e = .returned (.int .u32 ((NumR.val l / 2 ^ k % 2 : Nat) : Int)) ∧ w = w' := by
  rcases ha.2.2.2 with h0 | ⟨ba, oa, rfl, hca⟩
  · subst h0; simp at hk
  have c0 := hca (k / 16) hk
  have hx := NumR.limb_get hl (k / 16)
  have HV := Lib.hid (NumR.bit_val hl k)
  have hkb : k ≤ 34359738416 := by omega
  generalize l.getD (k / 16) 0 = x at *
  obtain ⟨q, hq⟩ : ∃ q, q = k / 16 := ⟨_, rfl⟩
  obtain ⟨m, hm⟩ : ∃ m, m = k % 16 := ⟨_, rfl⟩
  rw [← hq] at c0 hk
  rw [← hm] at HV
  have e1 : (k : Int) / 16 = (q : Int) := by omega
  have e1' : (k : Int).tdiv 16 = (q : Int) := by rw [Int.tdiv_eq_ediv_of_nonneg (by omega)]; exact e1
  have e2 : (k : Int) % 16 = (m : Int) := by omega
  have e2' : (k : Int).tmod 16 = (m : Int) := by rw [Int.tmod_eq_emod_of_nonneg (by omega)]; exact e2
  have hm16 : m < 16 := by omega
  have hqz : (q : Int) < (l.length : Int) := by omega
  have hx' : x < 65536 := hx
  obtain ⟨y, hy⟩ : ∃ y, y = x / 2 ^ m := ⟨_, rfl⟩
  rw [← hy] at HV
  have hyx : y ≤ x := by rw [hy]; exact Nat.div_le_self _ _
  have e3 : (x : Int) / 2 ^ m = (y : Int) := by rw [hy, Int.natCast_ediv, Int.natCast_pow]; rfl
  have e4 : bits .and .u32 (y : Int) 1 = ((y % 2 : Nat) : Int) := by
    have := bits_and_u32_nat y 1 (by omega) (by omega)
    rw [Nat.and_one_is_mod] at this
    exact this
  obtain ⟨r, hr⟩ : ∃ r, r = y % 2 := ⟨_, rfl⟩
  rw [← hr] at e4 HV
  clear hq hm hy hr ha hca
  go_enter Tryz.func173, Tryz.ntmps173
  go_wp2
  go_ret
  exact ⟨by rw [← HV.out]; rfl, rfl⟩
end Go.Proofs.YtannhpadoooedaaGreatDoor

/- The reference's numbers: divide. -/
namespace Go.Proofs.YtannhpadoooedaaGreatDoor
open Num
open Go.ChangeShapes Go.WideShapes Go.ChangeAt Go.RowKit
set_option linter.unusedVariables false
set_option linter.unusedSimpArgs false
/-- a slice of digits without high noughts -/
def NewN (w' : World) (u : Value) (v : Nat) : Prop := ∃ a c L, u = .slice a (List.length L) c ∧ U32 w' a c L ∧ NumR.Limbs L ∧ Nrm L ∧ NumR.val L = v
theorem NewN.keep {w w' : World} {u : Value} {v : Nat} (h : NewN w u v) (hb : Below w.heap.size w w') : NewN w' u v := by
  obtain ⟨a, c, L, h1, h2, h3⟩ := h
  exact ⟨a, c, L, h1, h2.keep hb, h3⟩
theorem rnormU (a : Option Addr) (ca : Nat) (l : List Nat) (w : World) (ha : U32 w a ca l) (hr : NumR.Limbs l) :
    Calls Tryz.prog 99 #[.bool false, .slice a l.length ca] w fun e w' => (∃ u, e = .returned (.agg #[.bool false, u]) ∧ NewN w' u (NumR.val l)) ∧ Below w.heap.size w w' :=
  (rnormK_c false a ca l w ha).mono fun e w' ⟨he, hb⟩ => ⟨⟨_, by rw [he]; rfl, a, ca, trimL l, rfl, (ha.cap (trim_prefix l)).keep hb, NumR.trim_limbs hr, trim_nrm l, NumR.val_trim l⟩, hb⟩
/-- digits in a row of the call's own, in a block from B on -/
def OwnB (B : Nat) (wr : World) (v : Value) (L : List Nat) : Prop := wr.ownsRow B 137 1 v L.length (cel L)
theorem OwnB.below {B : Nat} {wr w' : World} {v : Value} {L : List Nat} (h : OwnB B wr v L) (hb : Below wr.heap.size wr w') : OwnB B w' v L := own_below (w0 := wr) h hb
theorem OwnB.u32 {B : Nat} {w : World} {v : Value} {L : List Nat} (h : OwnB B w v L) (hL : Limbs L) : ∃ a c, v = .slice a L.length c ∧ U32 w a c L := own_u32 h hL
theorem OwnB.nil (B : Nat) (w : World) : OwnB B w (.slice none 0 0) [] := World.ownsRow_nil _ _ _ _
theorem OwnB.of {B : Nat} {w0 wr : World} {v : Value} {L : List Nat} (h : Own32 w0 wr v L) (hB : B ≤ w0.heap.size) : OwnB B wr v L := World.ownsRow.mono h.1 hB
theorem OwnB.ex {B : Nat} {wr : World} {v : Value} {L : List Nat} (h : OwnB B wr v L) : (v = .slice none 0 0 ∧ L = []) ∨ ∃ g cap, v = .slice (some ⟨g, 0, none⟩) L.length cap ∧ B ≤ g ∧ L.length ≤ cap := by
  obtain ⟨h0, h⟩ := h
  rcases h with ⟨rfl, h1⟩ | ⟨g, cap, cur, rfl, hg, _, hc, _⟩
  · exact .inl ⟨rfl, List.length_eq_zero_iff.1 h1⟩
  · exact .inr ⟨g, cap, rfl, hg, hc⟩
theorem OwnB.cell {B g cap : Nat} {wr : World} {L : List Nat} (h : OwnB B wr (.slice (some ⟨g, 0, none⟩) L.length cap) L) (k : Nat) (hk : k < L.length) : wr.cell? ⟨g, k, none⟩ = some (.int .u32 (L.getD k 0 : Nat)) := by
  rw [World.ownsRow.cellAt h k (by omega), cel_get L k hk]
theorem OwnB.frozen {B g cap : Nat} {wr : World} {L : List Nat} (h : OwnB B wr (.slice (some ⟨g, 0, none⟩) L.length cap) L) (k : Nat) : wr.frozen? ⟨g, k, none⟩ = false := World.ownsRow.frozenAt h k
theorem OwnB.set {B g cap : Nat} {wr : World} {L : List Nat} (h : OwnB B wr (.slice (some ⟨g, 0, none⟩) L.length cap) L) (k x : Nat) (hk : k < L.length) : OwnB B (wr.setCell ⟨g, k, none⟩ (.int .u32 (x : Int))) (.slice (some ⟨g, 0, none⟩) (L.set k x).length cap) (L.set k x) := by
  obtain ⟨hl, h1⟩ := h
  rcases h1 with ⟨h2, _⟩ | ⟨g', cap', cur, h2, hg, hh, hc, hm, hs, ht⟩
  · cases h2
  · cases h2
    refine ⟨by simp [cel_len], .inr ⟨g, cap, cur.setIfInBounds k (.int .u32 (x : Int)), rfl, hg, ?_, by simpa using hc, hm, by simpa using hs, ?_⟩⟩
    · unfold World.setCell
      simp only [Array.getElem?_modify, if_true]
      rw [hh]; rfl
    · rw [Array.toList_setIfInBounds, List.length_set, List.take_set, ht]
      simp [cel, List.map_set]
theorem OwnB.far {B : Nat} {wr : World} {v : Value} {L : List Nat} (h : OwnB B wr v L) {p : Addr} (hp : p.block < B) (u : Value) : OwnB B (wr.setCell p u) v L := ownsRow_setCell_below h hp u
theorem OwnB.cut {B g cap : Nat} {wr : World} {L M : List Nat} (h : OwnB B wr (.slice (some ⟨g, 0, none⟩) L.length cap) L) (hp : M <+: L) : OwnB B wr (.slice (some ⟨g, 0, none⟩) M.length cap) M := by
  obtain ⟨hl, h1⟩ := h
  have hml := hp.length_le
  rcases h1 with ⟨h2, _⟩ | ⟨g', cap', cur, h2, hg, hh, hc, hm, hs, ht⟩
  · cases h2
  · cases h2
    refine ⟨by simp [cel_len], .inr ⟨g, cap, cur, rfl, hg, hh, by omega, hm, hs, ?_⟩⟩
    obtain ⟨t, rfl⟩ := hp
    rw [Nat.mul_one] at *
    have : cur.toList.take M.length = (cur.toList.take (M ++ t).length).take M.length := by rw [List.take_take, Nat.min_eq_left (by simp)]
    rw [this, ht, cel_app]
    rw [List.take_left' (cel_len M)]
theorem OwnB.cut' {B : Nat} {wr : World} {a : Option Addr} {cap : Nat} {L M : List Nat} (h : OwnB B wr (.slice a L.length cap) L) (hp : M <+: L) : OwnB B wr (.slice a M.length cap) M := by
  rcases h.ex with ⟨h1, h2⟩ | ⟨g, c, h1, _⟩
  · subst h2
    obtain rfl : M = [] := List.prefix_nil.1 hp
    exact h
  · cases h1
    exact h.cut hp
theorem appB32 {ops : Array Oper} {rest : List Oper} {o : Oper} {a : Act} {Q : Exit → Act → World → Prop} {B : Nat} {wr : World} {v : Value} {L X : List Nat} {t : TypeId} (hgd : o.guard = none) {s x : Operand}
    (ho : o.op = .call { callee := .builtin .append, args := #[s, x], argTypes := #[42, 42] }) (hO : OwnB B wr v L) (hB : B ≤ wr.heap.size) (hs : a.eval s = v)
    {c : Nat} (hx : a.eval x = .slice (some ⟨wr.heap.size, 0, none⟩) X.length c) (hn : L.length + X.length ≤ 1099511627776)
    (h : ∀ v' w', OwnB B w' v' (L ++ X) → Out (fun k => v.ownBlock = some k) wr w' → wpList Tryz.prog ops Q rest (a.put o.dst v') w') : wpList Tryz.prog ops Q (o :: rest) a (wr.alloc (.cells (cel X).toArray t)) := by
  obtain ⟨i0, hi, hz0, hz1, hz2⟩ := info_parts info32
  refine wpList_append_own _ hgd s x 42 ho B 137 i0 (.int .u32 0) 1 4 Tryz.underlying42 hi hz0 hz1 hz2 rfl (by decide) v L.length (cel L) hs (World.ownsRow.alloc hO _) ⟨wr.heap.size, 0, none⟩ X.length c (cel X) hx (by rw [cel_len, Nat.mul_one]) (cells_new wr (cel X) t) (cel_one X) (by unfold maxLen; omega) (by omega) (by simp; omega) ?_
  intro v' w' hown hg _
  refine h v' w' (by unfold OwnB; rw [cel_app, List.length_append]; exact hown) (((Out.refl _ wr).alloc _).grown hg fun k hk _ => hk)

theorem fieldD (b : Bool) (a : Option Addr) (n c : Nat) (W : World) : (Instr.field 44 (.agg #[.bool b, .slice a n c]) 1).run Tryz.prog W = .ok (.slice a n c) W := by kernel_rfl

set_option maxRecDepth 100000 in
set_option maxHeartbeats 4000000 in
theorem rdiv1_c (a b : Option Addr) (ca cb : Nat) (A : List Nat) (c : Nat) (w : World) (ha : U32 w a ca A) (hb : U32 w b cb [c]) (hA : NumR.Limbs A) (hcB : c < NumR.BB) (hc : 0 < c) (h1 : A.length ≤ 2147483650) :
    Calls Tryz.prog 132 #[.slice a A.length ca, .slice b 1 cb] w fun e w' => (∃ u v, e = .returned (.tuple #[u, v]) ∧ NewN w' u (NumR.val A / c) ∧ NewN w' v (NumR.val A % c)) ∧ Below w.heap.size w w' := by
  rcases hb.2.2.2 with hn | ⟨bb, ob, rfl, hcell⟩
  · cases hn
  have c0 := hcell 0 (by simp)
  simp only [List.getD_cons_zero, Nat.add_zero] at c0
  have hmk := mk32 A.length (by omega)
  have hbz := cell_lt c0
  have hbne : bb ≠ w.heap.size := by omega
  have hbne' : w.heap.size ≠ bb := by omega
  have hcz : ((c : Int) == 0) = false := by simp; omega
  have hc' : c < 65536 := hcB
  clear hcell
  go_enter Tryz.func132, Tryz.ntmps132
  go_wp2
  clear hmk
  go_loopw [7, 8] (fun rx x wr => ∃ (k r : Nat) (O : List Nat), k ≤ A.length ∧ x = .int .i64 ((k : Int) - 1) ∧ rx = .int .u64 r ∧ r < c ∧ Blk wr w.heap.size O ∧ Hid (O.length = A.length) ∧ NumR.Limbs O ∧ Hid (∀ j, j < k → O.getD j 0 = 0) ∧ Hid (NumR.val O * c + r * NumR.BB ^ k + NumR.val (A.take k) = NumR.val A) ∧ Below w.heap.size w wr) (fun _ x _ => (intOf x + 1).toNat)
  case atStart => exact ⟨A.length, 0, List.replicate A.length 0, Nat.le_refl _, rfl, rfl, hc, blk_new w _, Lib.hid (by simp), (fun y hy => by simp at hy; rw [hy.2]; exact NumR.BB_pos), Lib.hid (fun j hj => by simp [List.getElem?_replicate, hj]), Lib.hid (by rw [NumR.val_zeros]; simp), bal (Below.refl _ _) _⟩
  case round =>
    obtain ⟨k, r, O, hk, rfl, rfl, hr, hO, hOl, hOL, hO0, hV, hB⟩ := hrel
    have d0 := bkeep hB c0
    cases k with
    | zero =>
      have HD := Lib.hid (kn_done (N := NumR.val A) (D := c) (g := NumR.val O) (W := r) hc (by
        have h := hV.out
        simp [NumR.val] at h
        rw [← h, Nat.add_comm, Nat.add_mul_div_right _ _ hc, Nat.div_eq_of_lt hr, Nat.zero_add]; exact Nat.le_refl _) (by have h := hV.out; simp [NumR.val] at h; rw [Nat.mul_comm]; omega))
      have hu := hO.u32 (limbs_of_r hOL) (by have := hOl.out; unfold maxLen; omega)
      have nc := fun W (h : Below wr.heap.size wr W) => rnormU (some ⟨w.heap.size, 0, none⟩) O.length O W (hu.keep h) hOL
      rw [hOl.out] at nc
      have nd := fun (g : Nat) (W : World) (hg : g = W.heap.size) => rnormU (some ⟨g, 0, none⟩) 1 [r] (W.alloc (.cells (cel [r]).toArray 137)) ((blk_at hg).u32 (fun x hx => by simp at hx; subst hx; unfold NumR.BB at hcB; unfold BB; omega) (by simp [maxLen])) (fun x hx => by simp at hx; subst hx; omega)
      have hr32 : (r : Int) % 4294967296 = (r : Int) := by omega
      clear hu hV hO hOL hOl
      have hfd := fieldD
      go_wp2_with fail
      (with_reducible refine (nc _ (Below.refl _ _)).mono ?_)
      rintro e w1 ⟨⟨u, rfl, hq⟩, hb1⟩
      have HQ := Lib.hid hq
      obtain ⟨a1, n1, L1, rfl, -⟩ := hq
      clear nc
      go_wp2_with fail
      refine (nd _ _ rfl).mono ?_
      rintro e w2 ⟨⟨u2, rfl, hq⟩, hb2⟩
      have HR := Lib.hid hq
      obtain ⟨a2, n2, L2, rfl, -⟩ := hq
      go_wp2
      go_ret2
      exact ⟨⟨_, _, rfl, by rw [HD.out.1]; exact HQ.out.keep (bthen (bal (Below.refl _ _) _) hb2), by rw [HD.out.2]; have := HR.out; simpa [NumR.val] using this⟩, bthen (bal (bthen hB hb1) _) hb2⟩
    | succ j =>
      rcases ha.2.2.2 with hl0 | ⟨ba, oa, rfl, hca⟩
      · subst hl0; simp at hk
      have c1 := bkeep hB (hca j (by omega))
      have hx := NumR.limb_get hA j
      have q0 := hO.cell j (by have := hOl.out; omega)
      have qf := hO.frozen j
      have HS := Lib.hid (NumR.short_step (O := O) (A := A) (j := j) (c := c) (rest := r) hc (by have := hOl.out; omega) (hO0.out j (by omega)) (by omega) hV.out)
      have hql := NumR.short_lt hr hx
      have hrl := Nat.mod_lt (r * NumR.BB + A.getD j 0) hc
      generalize A.getD j 0 = x at *
      generalize O.getD j 0 = o at *
      have hx' : x < 65536 := hx
      obtain ⟨t, ht⟩ : ∃ t, t = r * NumR.BB + x := ⟨_, rfl⟩
      rw [← ht] at HS hql hrl
      have et : (r : Int) * 65536 + (x : Int) = (t : Int) := by unfold NumR.BB at ht; omega
      have htB : t < 4294967296 := by unfold NumR.BB at ht; omega
      have e3 : (t : Int) / (c : Int) = ((t / c : Nat) : Int) := rfl
      have e4 : (t : Int) % (c : Int) = ((t % c : Nat) : Int) := rfl
      have e3' : (t : Int).tdiv (c : Int) = ((t / c : Nat) : Int) := rfl
      have e4' : (t : Int).tmod (c : Int) = ((t % c : Nat) : Int) := rfl
      generalize t / c = q at *
      generalize t % c = r2 at *
      have hq' : q < 65536 := hql
      have e6 : (q : Int) % 4294967296 = (q : Int) := by omega
      have qb := hO.set j q
      have ql := NumR.limbs_set hOL (k := j) hql
      have bs := bset hB (p := ⟨w.heap.size, j, none⟩) (Nat.le_refl _) (.int .u32 (q : Int))
      clear ht
      go_wp2
      refine ⟨⟨j, r2, O.set j q, by omega, by go_num, rfl, hrl, qb, Lib.hid (by simpa using hOl.out), ql, Lib.hid ?_, HS, bs⟩, by simp [intOf] <;> omega⟩
      intro i hi
      rw [Num.getD_set_ne (by omega)]
      exact hO0.out i (by omega)
end Go.Proofs.YtannhpadoooedaaGreatDoor

/- vm: what each function value does that 'does' hands back. -/
namespace Go.Proofs.YtannhpadoooedaaGreatDoor
open Num
open Go.ChangeShapes Go.WideShapes Go.ChangeAt Go.RowKit
set_option linter.unusedVariables false
set_option linter.unusedSimpArgs false
end Go.Proofs.YtannhpadoooedaaGreatDoor

/- vm: 'always', and what does hands back. -/
namespace Go.Proofs.YtannhpadoooedaaGreatDoor
open Num
open Go.ChangeShapes Go.WideShapes Go.ChangeAt Go.RowKit
set_option linter.unusedVariables false
set_option linter.unusedSimpArgs false
theorem ens {f : Nat} {fn : Func} {c : Code} (hf : Tryz.prog.funcs[f]? = some fn) (hn : (fn.name == "runtime.NumGoroutine") = false) (hb : fn.body = some c) : Enters Tryz.prog f := enters_of hf hn hb
end Go.Proofs.YtannhpadoooedaaGreatDoor

/- vm: a machine in memory; what keeps it. -/
namespace Go.Proofs.YtannhpadoooedaaGreatDoor
open Num
open Go.ChangeShapes Go.WideShapes Go.ChangeAt Go.RowKit
set_option linter.unusedVariables false
set_option linter.unusedSimpArgs false
section
variable {S : TypeId → Prop} {w w' : World}
theorem FromA.kp {B : Nat} {t : TypeId} {a : Option Addr} (h : FromA B t w a) (k : Kp S w w') (hs : S t) : FromA B t w' a := fun p e => ⟨(h p e).1, k.typ (h p e).2 hs⟩
theorem InsV.kp {B : Nat} {a : Option Addr} {c : Nat} {L : List Ins} (h : InsV w a c L) (hf : FromA B 76 w a) (k : Kp S w w') (hs : S 76) : InsV w' a c L := by
  rcases h with h | ⟨b, off, h1, h2, h3⟩
  · exact .inl h
  · refine .inr ⟨b, off, h1, h2, fun j hj => ?_⟩
    have ht := (hf _ h1).2
    obtain ⟨c0, c1, c2, c3, c4⟩ := h3 j hj
    exact ⟨k.cell ht hs c0, k.cell ht hs c1, k.cell ht hs c2, k.cell ht hs c3, k.cell ht hs c4⟩
theorem IntsV.kp {B : Nat} {a : Option Addr} {c : Nat} {L : List Int} (h : IntsV w a c L) (hf : FromA B 3 w a) (k : Kp S w w') (hs : S 3) : IntsV w' a c L := by
  rcases h with h | ⟨b, off, h1, h2, h3⟩
  · exact .inl h
  · exact .inr ⟨b, off, h1, h2, fun j hj => k.cell (hf _ h1).2 hs (h3 j hj)⟩
end
/-- every type but those of a machine and of a row of rows -/
def Sm (t : TypeId) : Prop := t ≠ 29 ∧ t ≠ 130
theorem sm32 : Sm 137 := by unfold Sm; decide
theorem smI : Sm 48 := by unfold Sm; decide
theorem smP : Sm 76 := by unfold Sm; decide
theorem smN : Sm 3 := by unfold Sm; decide
/-- a row of rows in a block that may be written -/
structure RegsAt (base : Nat) (w : World) (rb : Nat) (g : Grid) : Prop where
  free : Free w rb
  ty : typOf w rb = some 29
  cell : ∀ k, k < g.length → ∃ u, w.cell? ⟨rb, k, none⟩ = some u ∧ PRow base w u (g.getD k [])
theorem RegsAt.keep {base rb : Nat} {w w' : World} {g : Grid} (h : RegsAt base w rb g) (k : Below w.heap.size w w') : RegsAt base w' rb g :=
  ⟨h.free.keep k, typ_keep h.ty k, fun j hj => by obtain ⟨u, hu, hr⟩ := h.cell j hj; exact ⟨u, bkeep k hu, hr.keep lims_int k⟩⟩
/-- a machine: the program's copy, the registers, which instruction is next -/
structure Mach (base : Nat) (w : World) (b rb rc : Nat) (ins regs : Int) (code : List Ins) (outs : List Int) (g : Grid) (n : Nat) : Prop where
  ex : ∃ ca cc oa oc, w.cell? ⟨b, 2, none⟩ = some (.slice ca code.length cc) ∧ w.cell? ⟨b, 3, none⟩ = some (.slice oa outs.length oc) ∧ InsV w ca cc code ∧ IntsV w oa oc outs ∧ FromA base 76 w ca ∧ FromA base 3 w oa
  c0 : w.cell? ⟨b, 0, none⟩ = some (.int .i64 ins)
  c1 : w.cell? ⟨b, 1, none⟩ = some (.int .i64 regs)
  c4 : w.cell? ⟨b, 4, none⟩ = some (.slice (some ⟨rb, 0, none⟩) g.length rc)
  c5 : w.cell? ⟨b, 5, none⟩ = some (.int .i64 n)
  free : Free w b
  ty : typOf w b = some 130
  regs : RegsAt base w rb g
  lo : base ≤ b
  rlo : base ≤ rb
  rcl : g.length ≤ rc
theorem Mach.keep {base : Nat} {w w' : World} {b rb rc : Nat} {ins regs : Int} {code : List Ins} {outs : List Int} {g : Grid} {n : Nat} (h : Mach base w b rb rc ins regs code outs g n) (k : Below w.heap.size w w') : Mach base w' b rb rc ins regs code outs g n := by
  obtain ⟨ca, cc, oa, oc, h1, h2, h3, h4, h5, h6⟩ := h.ex
  exact ⟨⟨ca, cc, oa, oc, bkeep k h1, bkeep k h2, h3.keep k, h4.keep k, h5.keep k, h6.keep k⟩, bkeep k h.c0, bkeep k h.c1, bkeep k h.c4, bkeep k h.c5, h.free.keep k, typ_keep h.ty k, h.regs.keep k, h.lo, h.rlo, h.rcl⟩
theorem Mach.rebase {base C : Nat} {w : World} {b rb rc : Nat} {ins regs : Int} {code : List Ins} {outs : List Int} {g : Grid} {n : Nat} (h : Mach base w b rb rc ins regs code outs g n) (hC : C ≤ base) : Mach C w b rb rc ins regs code outs g n := by
  obtain ⟨ca, cc, oa, oc, h1, h2, h3, h4, h5, h6⟩ := h.ex
  exact ⟨⟨ca, cc, oa, oc, h1, h2, h3, h4, h5.mono hC, h6.mono hC⟩, h.c0, h.c1, h.c4, h.c5, h.free, h.ty, ⟨h.regs.free, h.regs.ty, fun k hk => by obtain ⟨u, hu, hr⟩ := h.regs.cell k hk; exact ⟨u, hu, hr.rebase hC⟩⟩, Nat.le_trans hC h.lo, Nat.le_trans hC h.rlo, h.rcl⟩
/-- one step of a machine: a register and the number are set -/
theorem Mach.step {base : Nat} {w : World} {b rb rc : Nat} {ins regs : Int} {code : List Ins} {outs : List Int} {g : Grid} {n nt : Nat} {v : Value} {r : List Int} (h : Mach base w b rb rc ins regs code outs g n) (hv : PRow base w v r) (ht : nt < g.length) :
    Mach base ((w.setCell ⟨rb, nt, none⟩ v).setCell ⟨b, 5, none⟩ (.int .i64 ((n + 1 : Nat) : Int))) b rb rc ins regs code outs (g.set nt r) (n + 1) := by
  have hne : rb ≠ b := fun e => by have h1 := h.regs.ty; rw [e, h.ty] at h1; exact absurd h1 (by decide)
  have hk : Kp Sm w ((w.setCell ⟨rb, nt, none⟩ v).setCell ⟨b, 5, none⟩ (.int .i64 ((n + 1 : Nat) : Int))) := by
    refine ((Kp.refl Sm w).set (fun t ht => ?_) _).set (fun t ht => ?_) _
    · rw [h.regs.ty] at ht; cases ht; exact fun k => k.1 rfl
    · rw [typ_set, h.ty] at ht; cases ht; exact fun k => k.2 rfl
  have far : ∀ {o : Nat} {u : Value}, o ≠ 5 → w.cell? ⟨b, o, none⟩ = some u → ((w.setCell ⟨rb, nt, none⟩ v).setCell ⟨b, 5, none⟩ (.int .i64 ((n + 1 : Nat) : Int))).cell? ⟨b, o, none⟩ = some u := fun ho hc =>
    cell_far (cell_far hc (addr_ne hne) _) (fun e => ho (by cases e; rfl)) _
  obtain ⟨ca, cc, oa, oc, h1, h2, h3, h4, h5, h6⟩ := h.ex
  refine ⟨⟨ca, cc, oa, oc, far (by omega) h1, far (by omega) h2, h3.kp h5 hk smP, h4.kp h6 hk smN, h5.kp hk smP, h6.kp hk smN⟩, far (by omega) h.c0, far (by omega) h.c1, ?_, cell_here (cell_far h.c5 (addr_ne hne) _) _, (h.free.set _ _).set _ _, by rw [typ_set, typ_set]; exact h.ty, ⟨(h.regs.free.set _ _).set _ _, by rw [typ_set, typ_set]; exact h.regs.ty, fun k hk' => ?_⟩, h.lo, h.rlo, by rw [List.length_set]; exact h.rcl⟩
  · rw [List.length_set]; exact far (by omega) h.c4
  · rw [List.length_set] at hk'
    by_cases e : nt = k
    · subst e
      obtain ⟨u, hu, _⟩ := h.regs.cell nt hk'
      refine ⟨v, cell_far (cell_here hu _) (addr_ne (Ne.symm hne)) _, ?_⟩
      have : (g.set nt r).getD nt [] = r := by simp [hk']
      rw [this]
      exact hv.kp lims_int hk sm32 smI
    · obtain ⟨u, hu, hr⟩ := h.regs.cell k hk'
      refine ⟨u, cell_far (cell_far hu (fun e2 => e (by cases e2; rfl)) _) (addr_ne (Ne.symm hne)) _, ?_⟩
      have : (g.set nt r).getD k [] = g.getD k [] := by simp [List.getElem?_set_ne e]
      rw [this]
      exact hr.kp lims_int hk sm32 smI
/-- a machine in the making: its registers lie in rv -/
structure MachP (base : Nat) (w : World) (b pb : Nat) (ins regs : Int) (code : List Ins) (outs : List Int) (rv : Value) : Prop where
  ex : ∃ ca cc oa oc, w.cell? ⟨b, 2, none⟩ = some (.slice ca code.length cc) ∧ w.cell? ⟨b, 3, none⟩ = some (.slice oa outs.length oc) ∧ InsV w ca cc code ∧ IntsV w oa oc outs ∧ FromA base 76 w ca ∧ FromA base 3 w oa
  c0 : w.cell? ⟨b, 0, none⟩ = some (.int .i64 ins)
  c1 : w.cell? ⟨b, 1, none⟩ = some (.int .i64 regs)
  c4 : w.cell? ⟨b, 4, none⟩ = some rv
  c5 : w.cell? ⟨b, 5, none⟩ = some (.int .i64 0)
  free : Free w b
  ty : typOf w b = some 130
  lo : base ≤ b
  p1 : w.cell? ⟨pb, 1, none⟩ = some (.int .i64 regs)
  pt : typOf w pb = some 25
section
variable {base : Nat} {w w' : World} {b pb : Nat} {ins regs : Int} {code : List Ins} {outs : List Int} {rv : Value}
theorem MachP.keep (h : MachP base w b pb ins regs code outs rv) (k : Below w.heap.size w w') : MachP base w' b pb ins regs code outs rv := by
  obtain ⟨ca, cc, oa, oc, h1, h2, h3, h4, h5, h6⟩ := h.ex
  exact ⟨⟨ca, cc, oa, oc, bkeep k h1, bkeep k h2, h3.keep k, h4.keep k, h5.keep k, h6.keep k⟩, bkeep k h.c0, bkeep k h.c1, bkeep k h.c4, bkeep k h.c5, h.free.keep k, typ_keep h.ty k, h.lo, bkeep k h.p1, typ_keep h.pt k⟩
theorem Free.kp {S : TypeId → Prop} {g : Nat} {t : TypeId} (h : Free w g) (k : Kp S w w') (ht : typOf w g = some t) (hs : S t) : Free w' g :=
  ⟨typ_lt (k.typ ht hs), fun j => k.frz ht hs (h.2 j)⟩
theorem MachP.kp (h : MachP base w b pb ins regs code outs rv) (k : Kp (· ≠ 29) w w') : MachP base w' b pb ins regs code outs rv := by
  obtain ⟨ca, cc, oa, oc, h1, h2, h3, h4, h5, h6⟩ := h.ex
  have hm : 130 ≠ 29 := by decide
  have hp : 25 ≠ 29 := by decide
  exact ⟨⟨ca, cc, oa, oc, k.cell h.ty hm h1, k.cell h.ty hm h2, h3.kp h5 k (by decide), h4.kp h6 k (by decide), h5.kp k (by decide), h6.kp k (by decide)⟩, k.cell h.ty hm h.c0, k.cell h.ty hm h.c1, k.cell h.ty hm h.c4, k.cell h.ty hm h.c5, h.free.kp k h.ty hm, k.typ h.ty hm, h.lo, k.cell h.pt hp h.p1, k.typ h.pt hp⟩
end
end Go.Proofs.YtannhpadoooedaaGreatDoor

/- vm: Step. -/
namespace Go.Proofs.YtannhpadoooedaaGreatDoor
open Num
open Go.ChangeShapes Go.WideShapes Go.ChangeAt Go.RowKit
set_option linter.unusedVariables false
set_option linter.unusedSimpArgs false
attribute [local go_sem ↓] Go.wp_at_zero Go.wp_at_succ
section
variable {base : Nat} {w w' : World} {b rb rc : Nat} {ins regs : Int} {code : List Ins} {outs : List Int} {g : Grid} {n : Nat}
/-- what Step asks of the instruction at hand -/
structure InsOk (i : Ins) (regs : Nat) : Prop where
  o1 : 1 ≤ i.op
  o2 : i.op ≤ 8
  t0 : 0 ≤ i.to
  t1 : i.to < regs
  a0 : 0 ≤ i.a
  a1 : i.a < regs
  b0 : 0 ≤ i.b
  b1 : i.b < regs
  c : constB i.op i.c = true
theorem insOk_of {i : Ins} {regs : Nat} (h : mayB i.op i.to i.a i.b i.c regs = true) (h0 : 0 < regs) : InsOk i regs := by
  obtain ⟨h1, h2, h3, h4, h5, h6, h7, h8, h9⟩ := (mayB_iff ..).1 h
  cases e : twoB i.op with
  | true => exact ⟨h1, h2, h3, h4, h7, h8, (h9 e).1, (h9 e).2, h6⟩
  | false => have := h5 e; exact ⟨h1, h2, h3, h4, h7, h8, by omega, by omega, h6⟩
end
/-- a row's value, and the numbers that lie behind it -/
theorem PRow.view {base : Nat} {w : World} {v : Value} {l : List Int} (h : PRow base w v l) : ∃ a c, v = .slice a l.length c ∧ l.length ≤ c ∧ ∀ j, j < l.length → ∃ b off nb ad len cp, a = some ⟨b, off, none⟩ ∧ w.cell? ⟨b, off + j * 2, none⟩ = some (.bool nb) ∧ w.cell? ⟨b, off + j * 2 + 1, none⟩ = some (.slice ad len cp) ∧ IsInt w (.agg #[.bool nb, .slice ad len cp]) (l.getD j 0) := by
  obtain ⟨a, c, h1, h2, h3, h4⟩ := h
  refine ⟨a, c, h1, h2, fun j hj => ?_⟩
  rcases h4 with h4 | ⟨b, off, ha, hb, ht, hi⟩
  · rw [h4] at hj; simp at hj
  · obtain ⟨nb, ad, len, cp, k1, k2, k3⟩ := hi j hj
    exact ⟨b, off, nb, ad, len, cp, ha, k1, k2, k3⟩
/-- a variable of two cells that was made before a call -/
theorem box2 {w w5 : World} {c0 c1 : Value} {T : TypeId} (h : Below (w.alloc (.cells #[c0, c1] T)).drew.heap.size (w.alloc (.cells #[c0, c1] T)).drew w5) :
    w5.cell? ⟨w.heap.size, 0, none⟩ = some c0 ∧ w5.cell? ⟨w.heap.size, 1, none⟩ = some c1 ∧ w5.frozen? ⟨w.heap.size, 0, none⟩ = false ∧ w5.frozen? ⟨w.heap.size, 1, none⟩ = false := by
  have k0 : (w.alloc (.cells #[c0, c1] T)).drew.cell? ⟨w.heap.size, 0, none⟩ = some c0 := cell_drew (cell_new rfl rfl)
  have k1 : (w.alloc (.cells #[c0, c1] T)).drew.cell? ⟨w.heap.size, 1, none⟩ = some c1 := cell_drew (cell_new rfl rfl)
  have hf := (Free.new (w := w) (c := #[c0, c1]) (t := T) rfl).2
  exact ⟨bkeep h k0, bkeep h k1, bkeepf h k0 (hf 0), bkeepf h k1 (hf 1)⟩
end Go.Proofs.YtannhpadoooedaaGreatDoor

/- vm, in plain Lean: sums go to sums. -/
namespace Go.Proofs.YtannhpadoooedaaGreatDoor
open Num
set_option linter.unusedVariables false
set_option linter.unusedSimpArgs false
theorem startG_len {g : Grid} {regs n : Nat} (h : g.length ≤ regs) : (startG g regs n).length = regs := by simp [startG]; omega
theorem startG_rect {g : Grid} {regs n : Nat} (h : Rect n g) : Rect n (startG g regs n) := by
  intro k hk
  unfold startG at hk ⊢
  by_cases e : k < g.length
  · have := h k e
    simp [List.getD_eq_getElem?_getD, List.getElem?_append_left e] at this ⊢; exact this
  · simp [List.length_append] at hk
    simp [List.getD_eq_getElem?_getD, List.getElem?_append_right (Nat.le_of_not_lt e), show k - g.length < regs - g.length by omega]
theorem startG_bd {k : Nat} {g : Grid} {regs n : Nat} (h : BdG k g) : BdG k (startG g regs n) := by
  intro i j
  unfold startG
  by_cases e : i < g.length
  · have := h i j
    simp [List.getD_eq_getElem?_getD, List.getElem?_append_left e] at this ⊢; exact this
  · have e2 : (g ++ List.replicate (regs - g.length) (List.replicate n (0 : Int))).getD i [] = (List.replicate (regs - g.length) (List.replicate n (0 : Int))).getD (i - g.length) [] := by
      simp [List.getD_eq_getElem?_getD, List.getElem?_append_right (Nat.le_of_not_lt e)]
    rw [e2]
    have : ((List.replicate (regs - g.length) (List.replicate n (0 : Int))).getD (i - g.length) []).getD j 0 = 0 := by
      simp only [List.getD_eq_getElem?_getD, List.getElem?_replicate]
      split
      · simp only [Option.getD_some, List.getElem?_replicate]
        split <;> rfl
      · simp
    rw [this]; exact bd_zero
end Go.Proofs.YtannhpadoooedaaGreatDoor

/- exact, in plain Lean: what a program makes of numbers; columns of a grid. -/
namespace Go.Proofs.YtannhpadoooedaaGreatDoor
open Num
set_option linter.unusedVariables false
set_option linter.unusedSimpArgs false
/-- the registers behind n instructions, each of which holds a number; none: one of them has failed -/
def afterN (code : List Ins) (r : List Int) : Nat → Option (List Int)
  | 0 => some r
  | n + 1 => (afterN code r n).bind fun s => (opI (code.getD n default) (s.getD (code.getD n default).a.toNat 0) (s.getD (code.getD n default).b.toNat 0)).map fun x => s.set (code.getD n default).to.toNat x
theorem afterN_succ {code : List Ins} {r s : List Int} {n : Nat} (e : afterN code r n = some s) : afterN code r (n + 1) = (opI (code.getD n default) (s.getD (code.getD n default).a.toNat 0) (s.getD (code.getD n default).b.toNat 0)).map fun x => s.set (code.getD n default).to.toNat x := by
  rw [afterN, e]; rfl
theorem afterN_len {code : List Ins} {r : List Int} : ∀ {n : Nat} {s : List Int}, afterN code r n = some s → s.length = r.length := by
  intro n
  induction n with
  | zero => intro s e; cases e; rfl
  | succ n ih =>
    intro s e
    unfold afterN at e
    cases e1 : afterN code r n with
    | none => rw [e1] at e; cases e
    | some s1 =>
      rw [e1, Option.bind_some] at e
      obtain ⟨x, _, rfl⟩ := Option.map_eq_some_iff.1 e
      rw [List.length_set]; exact ih e1
theorem afterN_mono {code : List Ins} {r : List Int} {n m : Nat} (h : afterN code r n = none) (hm : n ≤ m) : afterN code r m = none := by
  induction m with
  | zero => obtain rfl : n = 0 := by omega
            exact h
  | succ m ih =>
    by_cases e : n = m + 1
    · subst e; exact h
    · unfold afterN; rw [ih (by omega)]; rfl
theorem set_bd {s : List Int} {k t : Nat} {x : Int} (hs : ∀ j, Bd k (s.getD j 0)) (hx : Bd k x) : ∀ j, Bd k ((s.set t x).getD j 0) := by
  intro j
  by_cases e : t = j
  · subst e
    by_cases hl : t < s.length
    · have : (s.set t x).getD t 0 = x := by simp [hl]
      rw [this]; exact hx
    · rw [List.set_eq_of_length_le (by omega)]; exact hs t
  · have : (s.set t x).getD j 0 = s.getD j 0 := by simp [List.getElem?_set_ne e]
    rw [this]; exact hs j
theorem afterN_bd {code : List Ins} {r : List Int} {k : Nat} (hr : ∀ j, Bd k (r.getD j 0)) (hc : Cs code) : ∀ {n : Nat} {s : List Int}, n ≤ code.length → afterN code r n = some s → ∀ j, Bd (k + 65 * n) (s.getD j 0) := by
  intro n
  induction n with
  | zero => intro s _ e; cases e; exact hr
  | succ n ih =>
    intro s hn e
    unfold afterN at e
    cases e1 : afterN code r n with
    | none => rw [e1] at e; cases e
    | some s1 =>
      rw [e1, Option.bind_some] at e
      obtain ⟨x, hx, rfl⟩ := Option.map_eq_some_iff.1 e
      have h2 := ih (by omega) e1
      have h3 := opI_bd hx (h2 _) (h2 _) (hc n (by omega)).1 (hc n (by omega)).2
      exact set_bd (fun j => (h2 j).mono (by omega)) (h3.mono (by omega))
end Go.Proofs.YtannhpadoooedaaGreatDoor

