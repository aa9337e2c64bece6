/- Plain laws: numbers as lists of digits to the base 2^32, low one first. -/
import Derived.Test.YtefoljempkpmgaaRows
namespace Go.Proofs.Ytefoljempkpmgaa.Num

/-- the base -/
def BB : Nat := 4294967296
theorem BB_pos : 0 < BB := by unfold BB; omega
/-- what a list of limbs stands for -/
def val : List Nat → Nat
  | [] => 0
  | x :: l => x + BB * val l
/-- every limb is one -/
def Limbs (l : List Nat) : Prop := ∀ x ∈ l, x < BB
/-- without high noughts -/
def Nrm (l : List Nat) : Prop := ∀ h : l ≠ [], l.getLast h ≠ 0
/-- high noughts struck -/
def trimL (l : List Nat) : List Nat := (l.reverse.dropWhile (· == 0)).reverse

theorem val_append (l m : List Nat) : val (l ++ m) = val l + BB ^ l.length * val m := by
  induction l with
  | nil => simp [val]
  | cons x l ih =>
    simp only [val, List.cons_append, ih, List.length_cons, Nat.pow_succ, Nat.mul_add, Nat.add_assoc]
    congr 2
    rw [← Nat.mul_assoc, Nat.mul_comm BB]
theorem val_lt {l : List Nat} (h : Limbs l) : val l < BB ^ l.length := by
  induction l with
  | nil => simp [val]
  | cons x l ih =>
    have h1 := ih (fun y hy => h y (by simp [hy]))
    have h2 := h x (by simp)
    simp only [val, List.length_cons, Nat.pow_succ]
    have h3 : val l + 1 ≤ BB ^ l.length := h1
    have h4 := Nat.mul_le_mul_left BB h3
    rw [Nat.mul_add] at h4
    rw [Nat.mul_comm (BB ^ l.length) BB]
    omega
theorem val_zeros (n : Nat) : val (List.replicate n 0) = 0 := by
  induction n with
  | zero => rfl
  | succ n ih => simp [List.replicate_succ, val, ih]
theorem trimL_append_zero (l : List Nat) : trimL (l ++ [0]) = trimL l := by simp [trimL]
theorem trimL_append_pos (l : List Nat) (x : Nat) (h : x ≠ 0) : trimL (l ++ [x]) = l ++ [x] := by simp [trimL, h]
theorem trimL_nil : trimL [] = [] := rfl
theorem list_snoc_ind {P : List Nat → Prop} (h0 : P []) (h1 : ∀ l x, P l → P (l ++ [x])) (l : List Nat) : P l := by
  rw [← List.reverse_reverse l]
  generalize l.reverse = m
  induction m with
  | nil => exact h0
  | cons x m ih => rw [List.reverse_cons]; exact h1 _ _ ih
theorem val_trim (l : List Nat) : val (trimL l) = val l := by
  induction l using list_snoc_ind with
  | h0 => rfl
  | h1 l x ih =>
    by_cases hx : x = 0
    · subst hx; rw [trimL_append_zero, ih, val_append]; simp [val]
    · rw [trimL_append_pos l x hx]
theorem trim_prefix (l : List Nat) : trimL l <+: l := by
  induction l using list_snoc_ind with
  | h0 => exact List.prefix_rfl
  | h1 l x ih =>
    by_cases hx : x = 0
    · subst hx; rw [trimL_append_zero]; exact ih.trans (List.prefix_append _ _)
    · rw [trimL_append_pos l x hx]; exact List.prefix_rfl
theorem trim_len (l : List Nat) : (trimL l).length ≤ l.length := (trim_prefix l).length_le
theorem trim_limbs {l : List Nat} (h : Limbs l) : Limbs (trimL l) := fun x hx => h x ((trim_prefix l).subset hx)
theorem trim_nrm (l : List Nat) : Nrm (trimL l) := by
  induction l using list_snoc_ind with
  | h0 => intro h; exact absurd rfl h
  | h1 l x ih =>
    by_cases hx : x = 0
    · subst hx; rw [trimL_append_zero]; exact ih
    · rw [trimL_append_pos l x hx]; intro h; simpa using hx
theorem trim_of_nrm {l : List Nat} (h : Nrm l) : trimL l = l := by
  induction l using list_snoc_ind with
  | h0 => rfl
  | h1 l x ih =>
    have := h (by simp)
    simp at this
    exact trimL_append_pos l x this
/-- the trimmed list as a cut -/
theorem trim_take (l : List Nat) : trimL l = l.take (trimL l).length := by
  have := List.prefix_iff_eq_take.1 (trim_prefix l)
  exact this
theorem nrm_val_pos {l : List Nat} (h : Nrm l) (hn : l ≠ []) : BB ^ (l.length - 1) ≤ val l := by
  obtain ⟨m, x, rfl⟩ : ∃ m x, l = m ++ [x] := ⟨l.dropLast, l.getLast hn, (List.dropLast_concat_getLast hn).symm⟩
  have hx := h hn
  simp at hx
  rw [val_append]
  simp [val]
  have : BB ^ m.length * 1 ≤ BB ^ m.length * x := Nat.mul_le_mul_left _ (by omega)
  omega
theorem nrm_unique {l m : List Nat} (hl : Limbs l) (hm : Limbs m) (nl : Nrm l) (nm : Nrm m) (h : val l = val m) : l = m := by
  have len : l.length = m.length := by
    rcases Nat.lt_trichotomy l.length m.length with hlt | heq | hgt
    · exfalso
      have hm0 : m ≠ [] := by intro e; subst e; simp at hlt
      have h1 := nrm_val_pos nm hm0
      have h2 := val_lt hl
      have h3 : BB ^ l.length ≤ BB ^ (m.length - 1) := Nat.pow_le_pow_right BB_pos (by omega)
      omega
    · exact heq
    · exfalso
      have hl0 : l ≠ [] := by intro e; subst e; simp at hgt
      have h1 := nrm_val_pos nl hl0
      have h2 := val_lt hm
      have h3 : BB ^ m.length ≤ BB ^ (l.length - 1) := Nat.pow_le_pow_right BB_pos (by omega)
      omega
  clear nl nm
  induction l generalizing m with
  | nil => cases m with
    | nil => rfl
    | cons => simp at len
  | cons x l ih =>
    cases m with
    | nil => simp at len
    | cons y m =>
      have hx := hl x (by simp)
      have hy := hm y (by simp)
      simp only [val] at h
      have e1 : (x + BB * val l) % BB = x := by rw [Nat.add_mul_mod_self_left, Nat.mod_eq_of_lt hx]
      have e2 : (y + BB * val m) % BB = y := by rw [Nat.add_mul_mod_self_left, Nat.mod_eq_of_lt hy]
      have exy : x = y := by rw [← e1, h, e2]
      subst exy
      have : BB * val l = BB * val m := by omega
      have := Nat.eq_of_mul_eq_mul_left BB_pos this
      rw [ih (fun z hz => hl z (by simp [hz])) (fun z hz => hm z (by simp [hz])) this (by simpa using len)]
end Go.Proofs.Ytefoljempkpmgaa.Num
