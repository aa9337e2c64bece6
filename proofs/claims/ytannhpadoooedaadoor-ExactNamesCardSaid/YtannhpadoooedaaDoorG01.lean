/- Texts of this seat, laid together: Num, NumR. Each opens with its own remark, which says what it proves, and under which conditions. -/
import Derived.Test.YtannhpadoooedaaDoorRows
/- Plain laws: numbers as lists of digits to the base 2^32, low one first. -/
namespace Go.Proofs.YtannhpadoooedaaDoor.Num

/-- the base -/
def BB : Nat := 4294967296
theorem BB_pos : 0 < BB := by unfold BB; omega
/-- what a list of limbs stands for -/
def val : List Nat → Nat
  | [] => 0
  | x :: l => x + BB * val l
/-- every limb is one -/
def Limbs (l : List Nat) : Prop := ∀ x ∈ l, x < BB
/-- without high noughts -/
def Nrm (l : List Nat) : Prop := ∀ h : l ≠ [], l.getLast h ≠ 0
/-- high noughts struck -/
def trimL (l : List Nat) : List Nat := (l.reverse.dropWhile (· == 0)).reverse

theorem val_append (l m : List Nat) : val (l ++ m) = val l + BB ^ l.length * val m := by
  induction l with
  | nil => simp [val]
  | cons x l ih =>
    simp only [val, List.cons_append, ih, List.length_cons, Nat.pow_succ, Nat.mul_add, Nat.add_assoc]
    congr 2
    rw [← Nat.mul_assoc, Nat.mul_comm BB]
theorem val_lt {l : List Nat} (h : Limbs l) : val l < BB ^ l.length := by
  induction l with
  | nil => simp [val]
  | cons x l ih =>
    have h1 := ih (fun y hy => h y (by simp [hy]))
    have h2 := h x (by simp)
    simp only [val, List.length_cons, Nat.pow_succ]
    have h3 : val l + 1 ≤ BB ^ l.length := h1
    have h4 := Nat.mul_le_mul_left BB h3
    rw [Nat.mul_add] at h4
    rw [Nat.mul_comm (BB ^ l.length) BB]
    omega
theorem val_zeros (n : Nat) : val (List.replicate n 0) = 0 := by
  induction n with
  | zero => rfl
  | succ n ih => simp [List.replicate_succ, val, ih]
theorem trimL_append_zero (l : List Nat) : trimL (l ++ [0]) = trimL l := by simp [trimL]
theorem trimL_append_pos (l : List Nat) (x : Nat) (h : x ≠ 0) : trimL (l ++ [x]) = l ++ [x] := by simp [trimL, h]
theorem trimL_nil : trimL [] = [] := rfl
theorem list_snoc_ind {P : List Nat → Prop} (h0 : P []) (h1 : ∀ l x, P l → P (l ++ [x])) (l : List Nat) : P l := by
  rw [← List.reverse_reverse l]
  generalize l.reverse = m
  induction m with
  | nil => exact h0
  | cons x m ih => rw [List.reverse_cons]; exact h1 _ _ ih
theorem val_trim (l : List Nat) : val (trimL l) = val l := by
  induction l using list_snoc_ind with
  | h0 => rfl
  | h1 l x ih =>
    by_cases hx : x = 0
    · subst hx; rw [trimL_append_zero, ih, val_append]; simp [val]
    · rw [trimL_append_pos l x hx]
theorem trim_prefix (l : List Nat) : trimL l <+: l := by
  induction l using list_snoc_ind with
  | h0 => exact List.prefix_rfl
  | h1 l x ih =>
    by_cases hx : x = 0
    · subst hx; rw [trimL_append_zero]; exact ih.trans (List.prefix_append _ _)
    · rw [trimL_append_pos l x hx]; exact List.prefix_rfl
theorem trim_len (l : List Nat) : (trimL l).length ≤ l.length := (trim_prefix l).length_le
theorem trim_limbs {l : List Nat} (h : Limbs l) : Limbs (trimL l) := fun x hx => h x ((trim_prefix l).subset hx)
theorem trim_nrm (l : List Nat) : Nrm (trimL l) := by
  induction l using list_snoc_ind with
  | h0 => intro h; exact absurd rfl h
  | h1 l x ih =>
    by_cases hx : x = 0
    · subst hx; rw [trimL_append_zero]; exact ih
    · rw [trimL_append_pos l x hx]; intro h; simpa using hx
theorem trim_of_nrm {l : List Nat} (h : Nrm l) : trimL l = l := by
  induction l using list_snoc_ind with
  | h0 => rfl
  | h1 l x ih =>
    have := h (by simp)
    simp at this
    exact trimL_append_pos l x this
/-- the trimmed list as a cut -/
theorem trim_take (l : List Nat) : trimL l = l.take (trimL l).length := by
  have := List.prefix_iff_eq_take.1 (trim_prefix l)
  exact this
theorem nrm_val_pos {l : List Nat} (h : Nrm l) (hn : l ≠ []) : BB ^ (l.length - 1) ≤ val l := by
  obtain ⟨m, x, rfl⟩ : ∃ m x, l = m ++ [x] := ⟨l.dropLast, l.getLast hn, (List.dropLast_concat_getLast hn).symm⟩
  have hx := h hn
  simp at hx
  rw [val_append]
  simp [val]
  have : BB ^ m.length * 1 ≤ BB ^ m.length * x := Nat.mul_le_mul_left _ (by omega)
  omega
theorem nrm_unique {l m : List Nat} (hl : Limbs l) (hm : Limbs m) (nl : Nrm l) (nm : Nrm m) (h : val l = val m) : l = m := by
  have len : l.length = m.length := by
    rcases Nat.lt_trichotomy l.length m.length with hlt | heq | hgt
    · exfalso
      have hm0 : m ≠ [] := by intro e; subst e; simp at hlt
      have h1 := nrm_val_pos nm hm0
      have h2 := val_lt hl
      have h3 : BB ^ l.length ≤ BB ^ (m.length - 1) := Nat.pow_le_pow_right BB_pos (by omega)
      omega
    · exact heq
    · exfalso
      have hl0 : l ≠ [] := by intro e; subst e; simp at hgt
      have h1 := nrm_val_pos nl hl0
      have h2 := val_lt hm
      have h3 : BB ^ m.length ≤ BB ^ (l.length - 1) := Nat.pow_le_pow_right BB_pos (by omega)
      omega
  clear nl nm
  induction l generalizing m with
  | nil => cases m with
    | nil => rfl
    | cons => simp at len
  | cons x l ih =>
    cases m with
    | nil => simp at len
    | cons y m =>
      have hx := hl x (by simp)
      have hy := hm y (by simp)
      simp only [val] at h
      have e1 : (x + BB * val l) % BB = x := by rw [Nat.add_mul_mod_self_left, Nat.mod_eq_of_lt hx]
      have e2 : (y + BB * val m) % BB = y := by rw [Nat.add_mul_mod_self_left, Nat.mod_eq_of_lt hy]
      have exy : x = y := by rw [← e1, h, e2]
      subst exy
      have : BB * val l = BB * val m := by omega
      have := Nat.eq_of_mul_eq_mul_left BB_pos this
      rw [ih (fun z hz => hl z (by simp [hz])) (fun z hz => hm z (by simp [hz])) this (by simpa using len)]
end Go.Proofs.YtannhpadoooedaaDoor.Num
/- Plain laws: numbers as lists of digits to the base 65536, low one first. (Printed by wip/bin/mk_numr.py.) -/
namespace Go.Proofs.YtannhpadoooedaaDoor.NumR
open Num (Nrm trimL trimL_append_zero trimL_append_pos trimL_nil list_snoc_ind trim_prefix trim_len trim_nrm trim_of_nrm trim_take)

/-- the base -/
def BB : Nat := 65536
theorem BB_pos : 0 < BB := by unfold BB; omega
/-- what a list of limbs stands for -/
def val : List Nat → Nat
  | [] => 0
  | x :: l => x + BB * val l
/-- every limb is one -/
def Limbs (l : List Nat) : Prop := ∀ x ∈ l, x < BB
theorem val_append (l m : List Nat) : val (l ++ m) = val l + BB ^ l.length * val m := by
  induction l with
  | nil => simp [val]
  | cons x l ih =>
    simp only [val, List.cons_append, ih, List.length_cons, Nat.pow_succ, Nat.mul_add, Nat.add_assoc]
    congr 2
    rw [← Nat.mul_assoc, Nat.mul_comm BB]
theorem val_lt {l : List Nat} (h : Limbs l) : val l < BB ^ l.length := by
  induction l with
  | nil => simp [val]
  | cons x l ih =>
    have h1 := ih (fun y hy => h y (by simp [hy]))
    have h2 := h x (by simp)
    simp only [val, List.length_cons, Nat.pow_succ]
    have h3 : val l + 1 ≤ BB ^ l.length := h1
    have h4 := Nat.mul_le_mul_left BB h3
    rw [Nat.mul_add] at h4
    rw [Nat.mul_comm (BB ^ l.length) BB]
    omega
theorem val_zeros (n : Nat) : val (List.replicate n 0) = 0 := by
  induction n with
  | zero => rfl
  | succ n ih => simp [List.replicate_succ, val, ih]
theorem val_trim (l : List Nat) : val (trimL l) = val l := by
  induction l using list_snoc_ind with
  | h0 => rfl
  | h1 l x ih =>
    by_cases hx : x = 0
    · subst hx; rw [trimL_append_zero, ih, val_append]; simp [val]
    · rw [trimL_append_pos l x hx]
theorem trim_limbs {l : List Nat} (h : Limbs l) : Limbs (trimL l) := fun x hx => h x ((trim_prefix l).subset hx)
theorem nrm_val_pos {l : List Nat} (h : Nrm l) (hn : l ≠ []) : BB ^ (l.length - 1) ≤ val l := by
  obtain ⟨m, x, rfl⟩ : ∃ m x, l = m ++ [x] := ⟨l.dropLast, l.getLast hn, (List.dropLast_concat_getLast hn).symm⟩
  have hx := h hn
  simp at hx
  rw [val_append]
  simp [val]
  have : BB ^ m.length * 1 ≤ BB ^ m.length * x := Nat.mul_le_mul_left _ (by omega)
  omega
theorem nrm_unique {l m : List Nat} (hl : Limbs l) (hm : Limbs m) (nl : Nrm l) (nm : Nrm m) (h : val l = val m) : l = m := by
  have len : l.length = m.length := by
    rcases Nat.lt_trichotomy l.length m.length with hlt | heq | hgt
    · exfalso
      have hm0 : m ≠ [] := by intro e; subst e; simp at hlt
      have h1 := nrm_val_pos nm hm0
      have h2 := val_lt hl
      have h3 : BB ^ l.length ≤ BB ^ (m.length - 1) := Nat.pow_le_pow_right BB_pos (by omega)
      omega
    · exact heq
    · exfalso
      have hl0 : l ≠ [] := by intro e; subst e; simp at hgt
      have h1 := nrm_val_pos nl hl0
      have h2 := val_lt hm
      have h3 : BB ^ m.length ≤ BB ^ (l.length - 1) := Nat.pow_le_pow_right BB_pos (by omega)
      omega
  clear nl nm
  induction l generalizing m with
  | nil => cases m with
    | nil => rfl
    | cons => simp at len
  | cons x l ih =>
    cases m with
    | nil => simp at len
    | cons y m =>
      have hx := hl x (by simp)
      have hy := hm y (by simp)
      simp only [val] at h
      have e1 : (x + BB * val l) % BB = x := by rw [Nat.add_mul_mod_self_left, Nat.mod_eq_of_lt hx]
      have e2 : (y + BB * val m) % BB = y := by rw [Nat.add_mul_mod_self_left, Nat.mod_eq_of_lt hy]
      have exy : x = y := by rw [← e1, h, e2]
      subst exy
      have : BB * val l = BB * val m := by omega
      have := Nat.eq_of_mul_eq_mul_left BB_pos this
      rw [ih (fun z hz => hl z (by simp [hz])) (fun z hz => hm z (by simp [hz])) this (by simpa using len)]
theorem val_set {l : List Nat} {k : Nat} (x : Nat) (hk : k < l.length) : val (l.set k x) + l.getD k 0 * BB ^ k = val l + x * BB ^ k := by
  induction l generalizing k with
  | nil => simp at hk
  | cons y l ih =>
    cases k with
    | zero => simp [val]; omega
    | succ k =>
      have := ih (k := k) (by simpa using hk)
      simp only [List.set_cons_succ, val, List.getD_cons_succ, Nat.pow_succ]
      have e := congrArg (BB * ·) this
      simp only [Nat.mul_add] at e
      have c1 : ∀ z : Nat, z * (BB ^ k * BB) = BB * (z * BB ^ k) := fun z => by rw [← Nat.mul_assoc, Nat.mul_comm]
      rw [c1, c1]
      omega
theorem limbs_set {l : List Nat} {k x : Nat} (h : Limbs l) (hx : x < BB) : Limbs (l.set k x) := by
  intro y hy
  rcases List.mem_or_eq_of_mem_set hy with h1 | rfl
  · exact h y h1
  · exact hx
theorem limb_get {l : List Nat} (h : Limbs l) (k : Nat) : l.getD k 0 < BB := by
  by_cases hk : k < l.length
  · simp only [List.getD_eq_getElem?_getD, List.getElem?_eq_getElem hk, Option.getD_some]; exact h _ (List.getElem_mem hk)
  · simp [hk, BB_pos, Nat.le_of_not_lt hk]
theorem val_take_succ {l : List Nat} {k : Nat} (hk : k < l.length) : val (l.take (k + 1)) = val (l.take k) + l.getD k 0 * BB ^ k := by
  rw [List.take_succ_eq_append_getElem hk, val_append]
  simp [val, hk, Nat.min_eq_left (Nat.le_of_lt hk), Nat.mul_comm]
theorem val_split {l : List Nat} {k : Nat} (hk : k < l.length) : val l = val (l.take k) + BB ^ k * (l.getD k 0 + BB * val (l.drop (k + 1))) := by
  have e : l = l.take k ++ (l.getD k 0 :: l.drop (k + 1)) := by
    conv => lhs; rw [← List.take_append_drop k l, List.drop_eq_getElem_cons hk]
    simp [hk]
  conv => lhs; rw [e, val_append]
  simp only [val, List.length_take, Nat.min_eq_left (Nat.le_of_lt hk)]
theorem limbs_take {l : List Nat} (h : Limbs l) (k : Nat) : Limbs (l.take k) := fun x hx => h x (List.mem_of_mem_take hx)
theorem val_lt_of_top {l m : List Nat} {k : Nat} (hk : k < l.length) (hm : k < m.length) (hl : Limbs l) (hd : l.drop (k + 1) = m.drop (k + 1)) (h : l.getD k 0 < m.getD k 0) : val l < val m := by
  rw [val_split hk, val_split hm, hd]
  have h1 := val_lt (limbs_take hl k)
  rw [List.length_take, Nat.min_eq_left (Nat.le_of_lt hk)] at h1
  have h2 : BB ^ k * (l.getD k 0 + BB * val (m.drop (k + 1)) + 1) ≤ BB ^ k * (m.getD k 0 + BB * val (m.drop (k + 1))) := Nat.mul_le_mul_left _ (by omega)
  rw [Nat.mul_add _ _ 1] at h2
  omega
theorem val_lt_of_len {l m : List Nat} (hl : Limbs l) (nm : Nrm m) (h : l.length < m.length) : val l < val m := by
  have h1 := val_lt hl
  have h2 := nrm_val_pos nm (by intro e; subst e; simp at h)
  have h3 : BB ^ l.length ≤ BB ^ (m.length - 1) := Nat.pow_le_pow_right BB_pos (by omega)
  omega
theorem drop_step {l m : List Nat} {k : Nat} (hk : k < l.length) (hm : k < m.length) (hd : l.drop (k + 1) = m.drop (k + 1)) (h : l.getD k 0 = m.getD k 0) : l.drop k = m.drop k := by
  rw [List.drop_eq_getElem_cons hk, List.drop_eq_getElem_cons hm, hd]
  simp [hk, hm] at h
  rw [h]
theorem val_nil_iff {l : List Nat} (hn : Nrm l) : val l = 0 ↔ l = [] := by
  constructor
  · intro h
    by_cases h0 : l = []
    · exact h0
    · have := nrm_val_pos hn h0
      have : 0 < BB ^ (l.length - 1) := Nat.pow_pos BB_pos
      omega
  · rintro rfl; rfl
end Go.Proofs.YtannhpadoooedaaDoor.NumR
