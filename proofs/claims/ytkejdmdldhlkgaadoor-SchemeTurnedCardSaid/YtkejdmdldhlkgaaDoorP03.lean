/- Texts of this seat, laid together: Bel, Bed, Van, Poly, ScP, GrT. Each opens with its own remark, which says what it proves, and under which conditions. -/
import Derived.Test.YtkejdmdldhlkgaaDoorP02
import Derived.Test.YtkejdmdldhlkgaaDoorP01
import Derived.StillTail
import Derived.Deep.Quiet
set_option linter.unusedVariables false
set_option linter.unusedSimpArgs false
/- Elimination without fractions, in plain Lean: the mirror of the program's, and what its numbers are: minors. -/
set_option linter.unusedVariables false
set_option linter.unusedSimpArgs false
namespace Det
/-- whole numbers as fractions -/
def cst (a : Nat → Nat → Int) : M := fun i j => (a i j : Rat)
/-- rows i and k change places -/
def swp (g : Nat → Nat → Int) (i k : Nat) : Nat → Nat → Int := fun r c => if r = i then g k c else if r = k then g i c else g r c
/-- the first of d rows from i on that has something in the column j -/
def fr (g : Nat → Nat → Int) (j : Nat) : Nat → Nat → Nat
  | 0, i => i
  | d + 1, i => if g i j = 0 then fr g j d (i + 1) else i
structure El where
  g : Nat → Nat → Int
  p : List Nat
  last : Int
  sign : Int
/-- one row's new number -/
def elNew (g : Nat → Nat → Int) (k j : Nat) (last : Int) (r c : Nat) : Int := (g k j * g r c - g r j * g k c) / last
def elStep (n : Nat) (s : El) (j : Nat) : El :=
  if fr s.g j (n - s.p.length) s.p.length = n then s
  else
    { g := fun r c => if s.p.length < r then elNew (swp s.g (fr s.g j (n - s.p.length) s.p.length) s.p.length) s.p.length j s.last r c else swp s.g (fr s.g j (n - s.p.length) s.p.length) s.p.length r c
      p := s.p ++ [j]
      last := swp s.g (fr s.g j (n - s.p.length) s.p.length) s.p.length s.p.length j
      sign := if fr s.g j (n - s.p.length) s.p.length = s.p.length then s.sign else - s.sign }
def elR (n : Nat) (a : Nat → Nat → Int) : Nat → El
  | 0 => ⟨a, [], 1, 1⟩
  | t + 1 => elStep n (elR n a t) t
theorem fr_ge (g : Nat → Nat → Int) (j : Nat) : ∀ d i, i ≤ fr g j d i ∧ fr g j d i ≤ i + d := by
  intro d
  induction d with
  | zero => intro i; simp [fr]
  | succ d ih =>
    intro i; unfold fr; split
    · have := ih (i + 1); omega
    · omega
theorem fr_zero (g : Nat → Nat → Int) (j : Nat) : ∀ d i t, i ≤ t → t < fr g j d i → g t j = 0 := by
  intro d
  induction d with
  | zero => intro i t h1 h2; simp [fr] at h2; omega
  | succ d ih =>
    intro i t h1 h2
    unfold fr at h2
    split at h2
    · by_cases e : t = i
      · subst e; assumption
      · exact ih (i + 1) t (by omega) h2
    · omega
theorem fr_at (g : Nat → Nat → Int) (j : Nat) : ∀ d i, fr g j d i < i + d → g (fr g j d i) j ≠ 0 := by
  intro d
  induction d with
  | zero => intro i h; simp [fr] at h
  | succ d ih =>
    intro i h
    unfold fr at h ⊢
    split
    · rename_i hz
      rw [if_pos hz] at h
      exact ih (i + 1) (by omega)
    · assumption
/-- it is that row -/
theorem fr_is {g : Nat → Nat → Int} {j n k i : Nat} (h1 : k ≤ i) (h2 : i < n) (hz : ∀ t, k ≤ t → t < i → g t j = 0) (hi : g i j ≠ 0) : fr g j (n - k) k = i := by
  have a := fr_ge g j (n - k) k
  rcases Nat.lt_trichotomy (fr g j (n - k) k) i with h | h | h
  · exact absurd (hz _ a.1 h) (fr_at g j (n - k) k (by omega))
  · exact h
  · exact absurd (fr_zero g j (n - k) k i h1 h) hi
theorem fr_none {g : Nat → Nat → Int} {j n k : Nat} (h1 : k ≤ n) (hz : ∀ t, k ≤ t → t < n → g t j = 0) : fr g j (n - k) k = n := by
  have a := fr_ge g j (n - k) k
  rcases Nat.lt_or_ge (fr g j (n - k) k) n with h | h
  · exact absurd (hz _ a.1 h) (fr_at g j (n - k) k (by omega))
  · omega
theorem elStep_none {n : Nat} {s : El} {j : Nat} (h1 : s.p.length ≤ n) (hz : ∀ t, s.p.length ≤ t → t < n → s.g t j = 0) : elStep n s j = s := by
  unfold elStep; rw [if_pos (fr_none h1 hz)]
theorem elStep_some {n : Nat} {s : El} {j i : Nat} (h1 : s.p.length ≤ i) (h2 : i < n) (hz : ∀ t, s.p.length ≤ t → t < i → s.g t j = 0) (hi : s.g i j ≠ 0) :
    elStep n s j = { g := fun r c => if s.p.length < r then elNew (swp s.g i s.p.length) s.p.length j s.last r c else swp s.g i s.p.length r c, p := s.p ++ [j], last := s.g i j, sign := if i = s.p.length then s.sign else - s.sign } := by
  unfold elStep
  rw [fr_is h1 h2 hz hi, if_neg (by omega)]
  have : swp s.g i s.p.length s.p.length j = s.g i j := by unfold swp; split <;> simp_all
  rw [this]
/-- determinants of whole numbers are whole -/
theorem sum_int {n : Nat} {f : Nat → Rat} (h : ∀ i, i < n → ∃ z : Int, f i = z) : ∃ z : Int, sum n f = z := by
  induction n with
  | zero => exact ⟨0, rfl⟩
  | succ n ih =>
    obtain ⟨a, ha⟩ := ih fun i hi => h i (by omega)
    obtain ⟨b, hb⟩ := h n (by omega)
    exact ⟨a + b, by simp only [sum]; rw [ha, hb, Rat.intCast_add]⟩
theorem sg_int (i : Nat) : ∃ z : Int, sg i = z := by
  unfold sg; split
  · exact ⟨1, rfl⟩
  · exact ⟨-1, rfl⟩
theorem det_int : ∀ (n : Nat) (a : Nat → Nat → Int), ∃ z : Int, det n (cst a) = z
  | 0, a => ⟨1, rfl⟩
  | n + 1, a => by
    unfold det
    refine sum_int fun i hi => ?_
    obtain ⟨x, hx⟩ := sg_int i
    obtain ⟨y, hy⟩ := det_int n fun r c => a (skip i r) (c + 1)
    exact ⟨x * a i 0 * y, by rw [hx, Rat.intCast_mul, Rat.intCast_mul, ← hy]; rfl⟩
/-- the rows of a matrix about which k rows and their pivot columns are laid: one row and one column more -/
def bord (a : Nat → Nat → Int) (q : Nat → Nat) (p : List Nat) (k r c : Nat) : M := fun i t => (a (q (if i < k then i else r)) (if t < k then p.getD t 0 else c) : Rat)
def q2 (q : Nat → Nat) (i k : Nat) : Nat → Nat := fun r => if r = i then q k else if r = k then q i else q r
structure Inv (n m : Nat) (a : Nat → Nat → Int) (s : El) (j : Nat) (q : Nat → Nat) : Prop where
  k : s.p.length ≤ n
  q1 : ∀ i, i < n → q i < n
  q2 : ∀ i i', i < n → i' < n → q i = q i' → i = i'
  q3 : ∀ x, x < n → ∃ i, i < n ∧ q i = x
  sgn : s.sign = 1 ∨ s.sign = -1
  alt : ∀ f, Alt n f → f (fun r c => (a (q r) c : Rat)) = s.sign * f (cst a)
  nz : s.last ≠ 0
  last : (s.last : Rat) = det s.p.length fun r c => (a (q r) (s.p.getD c 0) : Rat)
  gm : ∀ r c, s.p.length ≤ r → r < n → c < m → (s.g r c : Rat) = det (s.p.length + 1) (bord a q s.p s.p.length r c)
  ze : ∀ r c, s.p.length ≤ r → r < n → c < j → s.g r c = 0
  inc : ∀ i i', i < i' → i' < s.p.length → s.p.getD i 0 < s.p.getD i' 0
  top : ∀ i, i < s.p.length → s.p.getD i 0 < j
theorem inv_start (n m : Nat) (a : Nat → Nat → Int) : Inv n m a ⟨a, [], 1, 1⟩ 0 id := by
  refine ⟨Nat.zero_le _, fun i h => h, fun i i' _ _ h => h, fun x h => ⟨x, h, rfl⟩, .inl rfl, fun f hf => ?_, by simp, ?_, fun r c _ _ _ => ?_, fun r c _ _ h => by omega, fun i i' _ h => by simp at h, fun i h => by simp at h⟩
  · show f (cst a) = ((1 : Int) : Rat) * f (cst a)
    simp [Rat.one_mul]
  · simp [det]
  · simp only [List.length_nil, det, sum, sg, minor, bord]
    simp [Rat.zero_add, Rat.one_mul, Rat.mul_one]
theorem q2_same (q : Nat → Nat) (k : Nat) : q2 q k k = q := by funext r; unfold q2; split <;> simp_all
theorem alt_swap {n : Nat} {f : M → Rat} (hf : Alt n f) (a : Nat → Nat → Int) (q : Nat → Nat) {i k : Nat} (hi : i < n) (hk : k < n) (hne : i ≠ k) : f (fun r c => (a (q2 q i k r) c : Rat)) = - f (fun r c => (a (q r) c : Rat)) := by
  rw [← hf.swapped (fun r c => (a (q r) c : Rat)) i k hi hk hne]
  congr 1
  funext r c
  unfold q2 swap upd
  by_cases h1 : r = i
  · subst h1; simp [hne]
  · by_cases h2 : r = k
    · subst h2; simp [h1]
    · simp [h1, h2]
theorem inv_step {n m : Nat} {a : Nat → Nat → Int} {s : El} {j : Nat} {q : Nat → Nat} (hj : j < m) (h : Inv n m a s j q) : ∃ q', Inv n m a (elStep n s j) (j + 1) q' := by
  obtain ⟨i, hi⟩ : ∃ i, fr s.g j (n - s.p.length) s.p.length = i := ⟨_, rfl⟩
  have hge := fr_ge s.g j (n - s.p.length) s.p.length
  have hfz := fr_zero s.g j (n - s.p.length) s.p.length
  have hfa := fr_at s.g j (n - s.p.length) s.p.length
  have hk := h.k
  rw [hi] at hge hfz hfa
  by_cases hn : i = n
  · refine ⟨q, ?_⟩
    rw [elStep_none hk fun t h1 h2 => hfz t h1 (by omega)]
    exact ⟨h.k, h.q1, h.q2, h.q3, h.sgn, h.alt, h.nz, h.last, h.gm, fun r c h1 h2 h3 => by
      by_cases e : c = j
      · subst e; exact hfz r h1 (by omega)
      · exact h.ze r c h1 h2 (by omega), h.inc, fun i hi => Nat.lt_succ_of_lt (h.top i hi)⟩
  · have hin : i < n := by omega
    have hpv := hfa (by omega)
    rw [elStep_some hge.1 hin (fun t h1 h2 => hfz t h1 h2) hpv]
    obtain ⟨k, hkk⟩ : ∃ k, s.p.length = k := ⟨_, rfl⟩
    have hgm := h.gm
    have hlast := h.last
    have hze := h.ze
    have hinc := h.inc
    have htop := h.top
    rw [hkk] at hge hk hfz hgm hlast hze hinc htop ⊢
    have pk : ∀ t, t < k → (s.p ++ [j]).getD t 0 = s.p.getD t 0 := fun t ht => by simp [List.getElem?_append, hkk, ht]
    have pj : (s.p ++ [j]).getD k 0 = j := by simp [← hkk]
    -- the numbers once the rows have changed places
    have g1 : ∀ r c, k ≤ r → r < n → c < m → (swp s.g i k r c : Rat) = det (k + 1) (bord a (q2 q i k) s.p k r c) := fun r c h1 h2 h3 => by
      have bq : ∀ r', k ≤ r' → q2 q i k r = q r' → det (k + 1) (bord a (q2 q i k) s.p k r c) = det (k + 1) (bord a q s.p k r' c) := fun r' _ e => det_congr fun x y _ _ => by
        unfold bord
        by_cases hx : x < k
        · rw [if_pos hx]; unfold q2; rw [if_neg (by omega), if_neg (by omega)]
          simp only [hx, if_true]
        · rw [if_neg hx, e]; simp only [hx, if_false]
      by_cases e1 : r = i
      · rw [bq k (Nat.le_refl _) (by unfold q2; rw [if_pos e1]), ← hgm k c (Nat.le_refl _) (by omega) h3]
        unfold swp; rw [if_pos e1]
      · by_cases e2 : r = k
        · rw [bq i hge.1 (by unfold q2; rw [if_neg e1, if_pos e2]), ← hgm i c hge.1 hin h3]
          unfold swp; rw [if_neg e1, if_pos e2]
        · rw [bq r h1 (by unfold q2; rw [if_neg e1, if_neg e2]), ← hgm r c h1 h2 h3]
          unfold swp; rw [if_neg e1, if_neg e2]
    have z1 : ∀ r c, k ≤ r → r < n → c < j → swp s.g i k r c = 0 := fun r c h1 h2 h3 => by
      unfold swp
      split
      · exact hze k c (Nat.le_refl _) (by omega) h3
      · split
        · exact hze i c hge.1 hin h3
        · exact hze r c h1 h2 h3
    have hpv1 : swp s.g i k k j = s.g i j := by unfold swp; split <;> simp_all
    have hlast' : (s.last : Rat) = det k fun r c => (a (q2 q i k r) (s.p.getD c 0) : Rat) := by
      rw [hlast]
      refine det_congr fun x y hx hy => ?_
      unfold q2; rw [if_neg (by omega), if_neg (by omega)]
    -- what divides
    have hdiv : ∀ r c, k < r → r < n → c < m → ∃ z : Int, det (k + 2) (bord a (q2 q i k) (s.p ++ [j]) (k + 1) r c) = z ∧ swp s.g i k k j * swp s.g i k r c - swp s.g i k r j * swp s.g i k k c = z * s.last := fun r c h1 h2 h3 => by
      obtain ⟨z, hz⟩ := det_int (k + 2) fun x t => a (q2 q i k (if x < k + 1 then x else r)) (if t < k + 1 then (s.p ++ [j]).getD t 0 else c)
      have hz' : det (k + 2) (bord a (q2 q i k) (s.p ++ [j]) (k + 1) r c) = z := by rw [← hz]; rfl
      refine ⟨z, hz', ?_⟩
      obtain ⟨T, hT⟩ : ∃ T, bord a (q2 q i k) (s.p ++ [j]) (k + 1) r c = T := ⟨_, rfl⟩
      have tl : det k T = s.last := by
        rw [hlast', ← hT]
        refine det_congr fun x y hx hy => ?_
        unfold bord; rw [if_pos (by omega), if_pos (by omega), pk y hy]
      have sq : ∀ x : Nat, x < k + 1 → (if x < k then x else k) = x := fun x hx => by split <;> omega
      have t1 : det (k + 1) T = swp s.g i k k j := by
        rw [g1 k j (Nat.le_refl _) (by omega) hj, ← hT]
        refine det_congr fun x y hx hy => ?_
        unfold bord
        rw [if_pos (by omega), if_pos hy, sq x hx]
        by_cases hy' : y < k
        · rw [if_pos hy', pk y hy']
        · have : y = k := by omega
          subst this; rw [if_neg (by omega), pj]
      have t2 : det (k + 1) (nr k (nc k T)) = swp s.g i k r c := by
        rw [g1 r c (by omega) h2 h3, ← hT]
        refine det_congr fun x y hx hy => ?_
        unfold nr nc bord
        by_cases hx' : x < k
        · have hx2 : ¬ x = k := by omega
          simp only [hx2, if_false, hx, if_true, hx']
          by_cases hy' : y < k
          · have hy2 : ¬ y = k := by omega
            simp only [hy2, if_false, hy, if_true, hy']
            rw [pk y hy']
          · have : y = k := by omega
            subst this; simp
        · have hx2 : x = k := by omega
          subst hx2
          simp only [if_true, Nat.lt_irrefl, if_false]
          by_cases hy' : y < x
          · have hy2 : ¬ y = x := by omega
            simp only [hy2, if_false, hy, if_true, hy']
            rw [pk y hy']
          · have : y = x := by omega
            subst this; simp
      have t3 : det (k + 1) (nr k T) = swp s.g i k r j := by
        rw [g1 r j (by omega) h2 hj, ← hT]
        refine det_congr fun x y hx hy => ?_
        unfold nr bord
        have hyy : (if y < k + 1 then (s.p ++ [j]).getD y 0 else c) = if y < k then s.p.getD y 0 else j := by
          rw [if_pos hy]
          by_cases hy' : y < k
          · rw [if_pos hy', pk y hy']
          · have : y = k := by omega
            subst this; rw [if_neg (by omega), pj]
        rw [hyy]
        by_cases hx' : x < k
        · have hx2 : ¬ x = k := by omega
          simp only [hx2, if_false, hx, if_true, hx']
        · have hx2 : x = k := by omega
          subst hx2; simp
      have t4 : det (k + 1) (nc k T) = swp s.g i k k c := by
        rw [g1 k c (Nat.le_refl _) (by omega) h3, ← hT]
        refine det_congr fun x y hx hy => ?_
        unfold nc bord
        rw [if_pos (by omega), sq x hx]
        by_cases hy' : y < k
        · have hy2 : ¬ y = k := by omega
          simp only [hy2, if_false, hy, if_true, hy']
          rw [pk y hy']
        · have : y = k := by omega
          subst this; simp
      have hs := sylvester (k := k) (t := T) (by rw [tl]; simpa using h.nz) (by rw [t1, hpv1]; simpa using hpv)
      rw [t1, t2, t3, t4, tl, ← hT, hz'] at hs
      rw [← Rat.intCast_mul, ← Rat.intCast_mul, ← Rat.intCast_mul, ← Rat.intCast_sub] at hs
      have := Rat.intCast_inj.1 hs
      omega
    have hnew : ∀ r c, k < r → r < n → c < m → ((elNew (swp s.g i k) k j s.last r c : Int) : Rat) = det (k + 2) (bord a (q2 q i k) (s.p ++ [j]) (k + 1) r c) := fun r c h1 h2 h3 => by
      obtain ⟨z, hz, he⟩ := hdiv r c h1 h2 h3
      unfold elNew
      rw [he, Int.mul_ediv_cancel _ h.nz, hz]
    refine ⟨q2 q i k, ?_⟩
    have hsl : (s.p ++ [j]).length = k + 1 := by simp [hkk]
    refine ⟨by dsimp only; omega, fun x hx => ?_, fun x y hx hy e => ?_, fun x hx => ?_, ?_, fun f hf => ?_, hpv, ?_, ?_, ?_, ?_, ?_⟩
    · unfold q2; split
      · exact h.q1 k (by omega)
      · split
        · exact h.q1 i hin
        · exact h.q1 x hx
    · have hq := h.q2
      have key : ∀ x, x < n → ∃ x', x' < n ∧ q2 q i k x = q x' ∧ (x' = if x = i then k else if x = k then i else x) := fun x hx => by
        unfold q2
        by_cases e1 : x = i
        · exact ⟨k, by omega, by rw [if_pos e1], by rw [if_pos e1]⟩
        · by_cases e2 : x = k
          · exact ⟨i, hin, by rw [if_neg e1, if_pos e2], by rw [if_neg e1, if_pos e2]⟩
          · exact ⟨x, hx, by rw [if_neg e1, if_neg e2], by rw [if_neg e1, if_neg e2]⟩
      obtain ⟨x', hx1, hx2, hx3⟩ := key x hx
      obtain ⟨y', hy1, hy2, hy3⟩ := key y hy
      rw [hx2, hy2] at e
      have := hq x' y' hx1 hy1 e
      rw [hx3, hy3] at this
      clear hgm hlast hze hinc htop pk pj g1 z1 hpv1 hlast' hdiv hnew key
      by_cases a1 : x = i <;> by_cases a2 : x = k <;> by_cases a3 : y = i <;> by_cases a4 : y = k <;> simp only [a1, a2, a3, a4, if_true, if_false] at this ⊢ <;> first | omega | (split at this <;> omega)
    · obtain ⟨r, hr, rfl⟩ := h.q3 x hx
      by_cases e1 : r = i
      · exact ⟨k, by omega, by unfold q2; rw [e1]; split <;> simp_all⟩
      · by_cases e2 : r = k
        · exact ⟨i, hin, by unfold q2; rw [if_pos rfl, e2]⟩
        · exact ⟨r, hr, by unfold q2; rw [if_neg e1, if_neg e2]⟩
    · dsimp only; split
      · exact h.sgn
      · rcases h.sgn with h | h <;> rw [h] <;> simp
    · dsimp only
      by_cases e : i = k
      · rw [if_pos e]; subst e; rw [q2_same]; exact h.alt f hf
      · rw [if_neg e, alt_swap hf a q hin (by omega) e, h.alt f hf, Rat.intCast_neg]; grind
    · dsimp only
      rw [hsl, ← hpv1, g1 k j (Nat.le_refl _) (by omega) hj]
      refine det_congr fun x y hx hy => ?_
      unfold bord
      have hxx : (if x < k then x else k) = x := by split <;> omega
      rw [hxx]
      by_cases hy' : y < k
      · rw [if_pos hy', pk y hy']
      · have : y = k := by omega
        subst this; rw [if_neg (by omega), pj]
    · dsimp only
      rw [hsl]
      intro r c h1 h2 h3
      rw [if_pos (by omega)]
      exact hnew r c (by omega) h2 h3
    · dsimp only
      rw [hsl]
      intro r c h1 h2 h3
      rw [if_pos (by omega)]
      unfold elNew
      by_cases e : c = j
      · subst e; rw [Int.mul_comm (swp s.g i k r c)]; simp
      · rw [z1 r c (by omega) h2 (by omega), z1 k c (by omega) (by omega) (by omega)]; simp
    · dsimp only
      rw [hsl]
      intro x y hxy hy
      by_cases e : y = k
      · subst e; rw [pj, pk x hxy]; exact htop x hxy
      · rw [pk x (by omega), pk y (by omega)]; exact hinc x y hxy (by omega)
    · dsimp only
      rw [hsl]
      intro x hx
      by_cases e : x = k
      · subst e; rw [pj]; omega
      · rw [pk x (by omega)]; have := htop x (by omega); omega
theorem inv_all (n m : Nat) (a : Nat → Nat → Int) : ∀ j, j ≤ m → ∃ q, Inv n m a (elR n a j) j q
  | 0, _ => ⟨id, inv_start n m a⟩
  | j + 1, hj => by
    obtain ⟨q, hq⟩ := inv_all n m a j (by omega)
    exact inv_step (by omega) hq
end Det

/- Elimination without fractions, in plain Lean: the determinant, the rank, of what is turned too. -/
set_option linter.unusedVariables false
set_option linter.unusedSimpArgs false
namespace Det
/-- numbers that rise, below as many: each at its own place -/
theorem rise_id {n : Nat} {f : Nat → Nat} (h : ∀ i i', i < i' → i' < n → f i < f i') (ht : ∀ i, i < n → f i < n) : ∀ i, i < n → f i = i := by
  have lo : ∀ i, i < n → i ≤ f i := by
    intro i
    induction i with
    | zero => intro _; omega
    | succ i ih => intro hi; have := h i (i + 1) (by omega) hi; have := ih (by omega); omega
  have hi' : ∀ d i, i + d + 1 = n → f i ≤ i := by
    intro d
    induction d with
    | zero => intro i hi; have := ht i (by omega); omega
    | succ d ih => intro i hi; have := h i (i + 1) (by omega) (by omega); have := ih (i + 1) (by omega); omega
  intro i hi
  have := lo i hi
  have := hi' (n - i - 1) i (by omega)
  omega
/-- the rows behind the pivots' are put together of those -/
theorem rows_comb {n m : Nat} {a : Nat → Nat → Int} {s : El} {q : Nat → Nat} (h : Inv n m a s m q) {r : Nat} (h1 : s.p.length ≤ r) (h2 : r < n) :
    ∃ l : Nat → Rat, ∀ c, c < m → (a (q r) c : Rat) = sum s.p.length fun i => l i * (a (q i) c : Rat) := by
  have hd : det s.p.length (fun r c => (a (q r) (s.p.getD c 0) : Rat)) ≠ 0 := by rw [← h.last]; simpa using h.nz
  obtain ⟨l, hl⟩ := solve_row s.p.length _ hd (fun t => (a (q r) (s.p.getD t 0) : Rat))
  refine ⟨l, fun c hc => ?_⟩
  have hz : det (s.p.length + 1) (bord a q s.p s.p.length r c) = 0 := by
    rw [← h.gm r c h1 h2 hc, h.ze r c h1 h2 hc]; rfl
  rw [border l] at hz
  · have e : det s.p.length (bord a q s.p s.p.length r c) = det s.p.length fun r c => (a (q r) (s.p.getD c 0) : Rat) := det_congr fun x y hx hy => by
      unfold bord; rw [if_pos hx, if_pos hy]
    rw [e] at hz
    have h0 : (bord a q s.p s.p.length r c s.p.length s.p.length - sum s.p.length fun i => l i * bord a q s.p s.p.length r c i s.p.length) = 0 := by
      rcases Rat.mul_eq_zero.1 hz with h | h
      · exact h
      · exact absurd h hd
    have e1 : bord a q s.p s.p.length r c s.p.length s.p.length = (a (q r) c : Rat) := by unfold bord; simp
    have e2 : (sum s.p.length fun i => l i * bord a q s.p s.p.length r c i s.p.length) = sum s.p.length fun i => l i * (a (q i) c : Rat) := sum_congr fun i hi => by
      unfold bord; rw [if_pos hi, if_neg (by omega)]
    rw [e1, e2] at h0
    grind
  · intro j hj
    have := hl j hj
    unfold bord
    rw [if_pos hj, if_neg (Nat.lt_irrefl _), ← this]
    refine sum_congr fun i hi => ?_
    rw [if_pos hi]
/-- the determinant by elimination -/
def detE (n : Nat) (a : Nat → Nat → Int) : Int := if (elR n a n).p.length < n then 0 else (elR n a n).last * (elR n a n).sign
theorem detE_eq (n : Nat) (a : Nat → Nat → Int) : (detE n a : Rat) = det n (cst a) := by
  obtain ⟨q, h⟩ := inv_all n n a n (Nat.le_refl _)
  unfold detE
  have hsg : ((elR n a n).sign : Rat) * ((elR n a n).sign : Rat) = 1 := by
    rcases h.sgn with e | e <;> rw [e] <;> simp <;> grind
  have ha := h.alt _ (det_alt n)
  split
  · rename_i hk
    have hz : det n (fun r c => (a (q r) c : Rat)) = 0 := by
      obtain ⟨l, hl⟩ := rows_comb h (Nat.le_refl _) hk
      have e := det_addrows (n := n) (fun r c => (a (q r) c : Rat)) _ hk (fun i => - l i) _ (Nat.le_refl (elR n a n).p.length)
      rw [← e]
      refine (det_alt n).zero _ _ hk fun j hj => ?_
      unfold upd
      rw [if_pos rfl]
      dsimp only
      rw [hl j hj]
      have : (sum (elR n a n).p.length fun i => - l i * (a (q i) j : Rat)) = - sum (elR n a n).p.length fun i => l i * (a (q i) j : Rat) := by
        rw [← sum_neg]; refine sum_congr fun i _ => ?_; grind
      rw [this]; grind
    rw [ha] at hz
    show ((0 : Int) : Rat) = _
    rw [Rat.intCast_zero]
    rcases Rat.mul_eq_zero.1 hz with h0 | h0
    · rw [h0] at hsg; grind
    · exact h0.symm
  · have hk : (elR n a n).p.length = n := Nat.le_antisymm h.k (by omega)
    have hl := h.last
    have hinc := h.inc
    have htop := h.top
    rw [hk] at hl hinc htop
    have hid := rise_id hinc htop
    have e : det n (fun r c => (a (q r) ((elR n a n).p.getD c 0) : Rat)) = det n fun r c => (a (q r) c : Rat) := det_congr fun x y _ hy => by rw [hid y hy]
    rw [e, ha] at hl
    rw [Rat.intCast_mul, hl]
    grind
/-- sums of whole numbers -/
def isum (n : Nat) (f : Nat → Int) : Int := match n with
  | 0 => 0
  | n + 1 => isum n f + f n
theorem detE_congr {n : Nat} {a b : Nat → Nat → Int} (h : ∀ i j, i < n → j < n → a i j = b i j) : detE n a = detE n b := by
  apply Rat.intCast_inj.1
  rw [detE_eq, detE_eq]
  exact det_congr fun i j hi hj => by unfold cst; rw [h i j hi hj]
/-- the adjugate -/
def iadj (n : Nat) (a : Nat → Nat → Int) : Nat → Nat → Int := fun i j => if (i + j) % 2 = 1 then - detE (n - 1) (fun r c => a (skip j r) (skip i c)) else detE (n - 1) fun r c => a (skip j r) (skip i c)
end Det

/- The determinant of powers of points (two coordinates each), in plain Lean. -/
set_option linter.unusedVariables false
set_option linter.unusedSimpArgs false
namespace Det
/-- the product of the first n -/
def prod (n : Nat) (f : Nat → Rat) : Rat := match n with
  | 0 => 1
  | n + 1 => prod n f * f n
theorem prod_congr {n : Nat} {f g : Nat → Rat} (h : ∀ i, i < n → f i = g i) : prod n f = prod n g := by
  induction n with
  | zero => rfl
  | succ n ih => rw [prod, prod, ih fun i hi => h i (by omega), h n (by omega)]
theorem prod_mul (n : Nat) (f g : Nat → Rat) : prod n (fun i => f i * g i) = prod n f * prod n g := by
  induction n with
  | zero => rw [prod, prod, prod]; grind
  | succ n ih => rw [prod, prod, prod, ih]; grind
theorem prod_const (n : Nat) (c : Rat) : prod n (fun _ => c) = c ^ n := by
  induction n with
  | zero => rw [prod]; grind
  | succ n ih => rw [prod, ih]; grind
/-- an upper triangle of ones -/
theorem det_lower {n : Nat} : ∀ {m : M}, (∀ i j, i < n → j < i → m i j = 0) → (∀ i, i < n → m i i = 1) → det n m = 1 := by
  induction n with
  | zero => intro m _ _; rfl
  | succ n ih =>
    intro m h1 h2
    rw [det_last fun j hj => h1 n j (by omega) hj, h2 n (by omega), ih (fun i j hi hj => h1 i j (by omega) hj) fun i hi => h2 i (by omega)]
    grind
/-- columns times numbers -/
theorem det_colmul {n : Nat} (s : Nat → Rat) (m : M) : det n (fun i j => s j * m i j) = prod n s * det n m := by
  have h : Alt n fun m : M => det n fun i j => s j * m i j := by
    refine ⟨fun a b h => det_congr fun i j hi hj => by rw [h i j hi hj], fun m r g h a b hr => ?_, fun m r h he => det_adj h fun j => by rw [he j]⟩
    have e : ∀ u : Nat → Rat, (fun i j => s j * upd m r u i j) = upd (fun i j => s j * m i j) r fun j => s j * u j := fun u => by
      funext i j; unfold upd; split <;> rfl
    show det n (fun i j => s j * upd m r (fun j => a * g j + b * h j) i j) = a * det n (fun i j => s j * upd m r g i j) + b * det n (fun i j => s j * upd m r h i j)
    rw [e, e, e, ← det_lin hr]
    refine congrArg (fun u => det n (upd (fun i j => s j * m i j) r u)) ?_
    funext j; grind
  have := h.det m
  rw [this]
  have hI : ∀ n, det n (fun i j => s j * I i j) = prod n s := by
    intro n
    induction n with
    | zero => rfl
    | succ n ih =>
      rw [det_last fun j hj => by unfold I; rw [if_neg (by omega)]; grind, ih, prod]
      unfold I; rw [if_pos rfl]; grind
  rw [hI]
/-- powers of points: row i has the powers i of the first coordinates -/
def pw (a b : Nat → Rat) (n : Nat) : M := fun i j => a j ^ i * b j ^ (n - 1 - i)
theorem pow_succ' (x : Rat) (k : Nat) : x ^ (k + 1) = x * x ^ k := by rw [Rat.pow_succ]; grind
theorem prod_neg (x : Rat) (n : Nat) : prod n (fun _ => - x) = sg n * x ^ n := by
  induction n with
  | zero => rw [prod, Rat.pow_zero]; unfold sg; grind
  | succ n ih => rw [prod, ih, sg_succ, Rat.pow_succ]; grind
/-- one point more -/
theorem van_step (a b : Nat → Rat) (n : Nat) : det (n + 1) (pw a b (n + 1)) = prod n (fun j => a n * b j - a j * b n) * det n (pw a b n) := by
  by_cases hb : b n = 0
  · rw [det_col (c := n) (by omega)]
    unfold byCol
    rw [sum_pick (j := n) (by omega) fun k hk hne => by
      have : pw a b (n + 1) k n = 0 := by
        unfold pw
        rw [hb, show n + 1 - 1 - k = (n - 1 - k) + 1 by omega, pow_succ']; grind
      rw [this]; grind]
    have e1 : pw a b (n + 1) n n = a n ^ n := by
      unfold pw
      rw [show n + 1 - 1 - n = 0 by omega, Rat.pow_zero]; grind
    have e2 : det n (min2 (pw a b (n + 1)) n n) = det n fun i j => b j * pw a b n i j := det_congr fun i j hi hj => by
      unfold min2 pw skip
      rw [if_pos hi, if_pos hj, show n + 1 - 1 - i = (n - 1 - i) + 1 by omega, pow_succ']; grind
    have e3 : prod n (fun j => a n * b j - a j * b n) = a n ^ n * prod n b := by
      rw [← prod_const, ← prod_mul]
      exact prod_congr fun i _ => by rw [hb]; grind
    have e4 : sg (n + n) = 1 := by unfold sg; rw [if_pos (by omega)]
    rw [e1, e2, e3, e4, det_colmul]; grind
  · obtain ⟨c, hc⟩ : ∃ c, a n = c * b n := ⟨a n / b n, by rw [Rat.div_mul_cancel hb]⟩
    let T : M := fun i k => if k = i then 1 else if k + 1 = i then - c else 0
    have hT : det (n + 1) T = 1 := by
      rw [← det_tr]
      refine det_lower (fun i j hi hj => ?_) fun i hi => ?_
      · show (if i = j then (1 : Rat) else if i + 1 = j then - c else 0) = 0
        rw [if_neg (by omega), if_neg (by omega)]
      · show (if i = i then (1 : Rat) else if i + 1 = i then - c else 0) = 1
        rw [if_pos rfl]
    have h1 : det (n + 1) (mul (n + 1) T (pw a b (n + 1))) = det (n + 1) (pw a b (n + 1)) := by rw [det_mul, hT]; grind
    have h0 : ∀ j, mul (n + 1) T (pw a b (n + 1)) 0 j = pw a b (n + 1) 0 j := fun j => by
      unfold mul
      rw [sum_pick (j := 0) (by omega) fun k hk hne => by
        show (if k = 0 then (1 : Rat) else if k + 1 = 0 then - c else 0) * _ = 0
        rw [if_neg hne, if_neg (by omega)]; grind]
      show (if 0 = 0 then (1 : Rat) else _) * _ = _
      rw [if_pos rfl]; grind
    have hs : ∀ i j, i < n → mul (n + 1) T (pw a b (n + 1)) (i + 1) j = (a j - c * b j) * pw a b n i j := fun i j hi => by
      unfold mul
      rw [sum_two (i := i) (j := i + 1) (by omega) (by omega) (by omega) fun k hk h1 h2 => by
        show (if k = i + 1 then (1 : Rat) else if k + 1 = i + 1 then - c else 0) * _ = 0
        rw [if_neg h2, if_neg (by omega)]; grind]
      show (if i = i + 1 then (1 : Rat) else if i + 1 = i + 1 then - c else 0) * _ + (if i + 1 = i + 1 then (1 : Rat) else _) * _ = _
      rw [if_neg (by omega), if_pos rfl, if_pos rfl]
      unfold pw
      rw [show n + 1 - 1 - i = (n - 1 - i) + 1 by omega, show n + 1 - 1 - (i + 1) = n - 1 - i by omega, pow_succ', pow_succ']; grind
    rw [← h1, det_col (c := n) (by omega)]
    unfold byCol
    rw [sum_pick (j := 0) (by omega) fun k hk hne => by
      obtain ⟨i, rfl⟩ : ∃ i, k = i + 1 := ⟨k - 1, by omega⟩
      rw [hs i n (by omega), hc]; grind]
    have e1 : pw a b (n + 1) 0 n = b n ^ n := by
      unfold pw
      rw [show n + 1 - 1 - 0 = n by omega, Rat.pow_zero]; grind
    have e2 : det n (min2 (mul (n + 1) T (pw a b (n + 1))) 0 n) = det n fun i j => (a j - c * b j) * pw a b n i j := det_congr fun i j hi hj => by
      unfold min2 skip
      rw [if_neg (by omega), if_pos hj, hs i j hi]
    have e3 : prod n (fun j => a n * b j - a j * b n) = prod n (fun j => - b n) * prod n fun j => a j - c * b j := by
      rw [← prod_mul]
      exact prod_congr fun i _ => by rw [hc]; grind
    have e4 : sg (0 + n) = sg n := by rw [Nat.zero_add]
    rw [h0, e1, e2, e3, det_colmul, prod_neg, e4]; grind
/-- the product of the first n whole numbers -/
def iprod (n : Nat) (f : Nat → Int) : Int := match n with
  | 0 => 1
  | n + 1 => iprod n f * f n
theorem iprod_cast (n : Nat) (f : Nat → Int) : ((iprod n f : Int) : Rat) = prod n fun i => (f i : Rat) := by
  induction n with
  | zero => rfl
  | succ n ih => rw [iprod, prod, Rat.intCast_mul, ih]
/-- how far each of the points is from those ahead of it, multiplied -/
def far (a b : Nat → Int) : Nat → Int
  | 0 => 1
  | n + 1 => far a b n * iprod n fun j => a n * b j - a j * b n
/-- each point's powers, a row each -/
def pwI (a b : Nat → Int) (n : Nat) : Nat → Nat → Int := fun i j => a i ^ j * b i ^ (n - 1 - j)
theorem van (a b : Nat → Int) : ∀ n, detE n (pwI a b n) = far a b n := by
  have h : ∀ n, det n (pw (fun j => (a j : Rat)) (fun j => (b j : Rat)) n) = (far a b n : Int) := by
    intro n
    induction n with
    | zero => rfl
    | succ n ih =>
      rw [van_step, ih, far, Rat.intCast_mul, iprod_cast, Rat.mul_comm]
      congr 1
      refine prod_congr fun i _ => ?_
      simp [Rat.intCast_sub, Rat.intCast_mul]
  intro n
  have h2 := h n
  have h3 := detE_eq n (pwI a b n)
  rw [← det_tr] at h3
  have h4 : det n (tr (cst (pwI a b n))) = det n (pw (fun j => (a j : Rat)) (fun j => (b j : Rat)) n) := det_congr fun i j hi hj => by
    unfold tr cst pwI pw
    simp [Rat.intCast_mul, Rat.intCast_pow]
  rw [h4, h2] at h3
  exact_mod_cast h3
theorem iprod_ne {n : Nat} {f : Nat → Int} (h : ∀ i, i < n → f i ≠ 0) : iprod n f ≠ 0 := by
  induction n with
  | zero => rw [iprod]; omega
  | succ n ih => rw [iprod]; exact Int.mul_ne_zero (ih fun i hi => h i (by omega)) (h n (by omega))
/-- points that are not one make a matrix that is not flat -/
theorem far_ne {a b : Nat → Int} : ∀ {n : Nat}, (∀ j i, j < n → i < j → a j * b i - a i * b j ≠ 0) → far a b n ≠ 0
  | 0, _ => by rw [far]; omega
  | n + 1, h => by rw [far]; exact Int.mul_ne_zero (far_ne fun j i hj hi => h j i (by omega) hi) (iprod_ne fun i hi => h n i (by omega) hi)
end Det

/- Values of coefficients at points, in plain Lean: of a product, of what is turned, of a point times a number. -/
set_option linter.unusedVariables false
set_option linter.unusedSimpArgs false
namespace Det
/-- the powers of a point -/
def pf (a b : Int) (n i : Nat) : Int := a ^ i * b ^ (n - 1 - i)
/-- the value of n coefficients -/
def hv (n : Nat) (c : Nat → Int) (a b : Int) : Int := isum n fun m => c m * pf a b n m
end Det

/- Schemes, plain: which counts and points make one; points times a number. -/
namespace Go.Proofs.YtkejdmdldhlkgaaDoor
open Pt
set_option linter.unusedVariables false
set_option linter.unusedSimpArgs false
def Cnt (k1 k2 : Int) : Prop := 1 ≤ k1 ∧ k1 ≤ 8 ∧ 1 ≤ k2 ∧ k2 ≤ 8
def AllIn (n : Nat) (f : Nat → Int × Int) : Prop := ∀ i, i < n → inB (f i).1 (f i).2 = true
def NoNone (n : Nat) (f : Nat → Int × Int) : Prop := ∀ i, i < n → nn (f i).1 (f i).2 = false
/-- counts and points that make a scheme -/
structure Sch (k1 k2 : Int) (n : Nat) (f : Nat → Int × Int) : Prop where
  cnt : Cnt k1 k2
  all : AllIn n f
  len : (n : Int) = k1 + k2 - 1
  nn : NoNone n f
  tw : NoTw f n
/-- the error's number -/
def Wrg (k1 k2 : Int) (n : Nat) (f : Nat → Int × Int) (e : Int) : Prop :=
  (¬ (Cnt k1 k2 ∧ AllIn n f) ∧ e = 70) ∨ (Cnt k1 k2 ∧ AllIn n f ∧ ¬ Sch k1 k2 n f ∧ e = 71) ∨ (Sch k1 k2 n f ∧ e = 0)
theorem Wrg.unique {k1 k2 : Int} {n : Nat} {f : Nat → Int × Int} {e e' : Int} (h : Wrg k1 k2 n f e) (k : Wrg k1 k2 n f e') : e = e' := by
  rcases h with ⟨h, rfl⟩ | ⟨h1, h2, h3, rfl⟩ | ⟨h, rfl⟩ <;> rcases k with ⟨k, rfl⟩ | ⟨k1, k2, k3, rfl⟩ | ⟨k, rfl⟩ <;> first | rfl | (exfalso; exact h ⟨k1, k2⟩) | (exfalso; exact h ⟨k.cnt, k.all⟩) | (exfalso; exact k ⟨h1, h2⟩) | (exfalso; exact h3 k) | (exfalso; exact k ⟨h.cnt, h.all⟩) | (exfalso; exact k3 h)
theorem Wrg.congr {k1 k2 : Int} {n : Nat} {f g : Nat → Int × Int} {e : Int} (h : Wrg k1 k2 n f e) (h1 : AllIn n f ↔ AllIn n g) (h2 : Sch k1 k2 n f ↔ Sch k1 k2 n g) : Wrg k1 k2 n g e := by
  unfold Wrg at *
  rw [← h1, ← h2]; exact h
/-- how far two points are apart -/
def dist (p q : Int × Int) : Int := p.1 * q.2 - q.1 * p.2
theorem twin_iff {p q : Int × Int} (h1 : inB p.1 p.2 = true) (h2 : inB q.1 q.2 = true) (h3 : nn p.1 p.2 = false) (h4 : nn q.1 q.2 = false) : twin p q = false ↔ dist q p ≠ 0 := by
  have e3 : ¬ (p.1 = 0 ∧ p.2 = 0) := of_decide_eq_false h3
  have e4 : ¬ (q.1 = 0 ∧ q.2 = 0) := of_decide_eq_false h4
  unfold twin one dist
  rw [h1, h2, if_neg (fun h => h.elim e3 e4), Bool.true_and, Bool.true_and, beq_eq_false_iff_ne]
  constructor <;> (intro h k; apply h; omega)
theorem Sch.dist {k1 k2 : Int} {n : Nat} {f : Nat → Int × Int} (h : Sch k1 k2 n f) {j i : Nat} (hj : j < n) (hi : i < j) : dist (f j) (f i) ≠ 0 :=
  (twin_iff (h.all i (by omega)) (h.all j hj) (h.nn i (by omega)) (h.nn j hj)).1 (h.tw j hj i hi)
/-- a scheme's matrix is not flat -/
theorem Sch.far {k1 k2 : Int} {n : Nat} {f : Nat → Int × Int} (h : Sch k1 k2 n f) : Det.far (fun i => (f i).1) (fun i => (f i).2) n ≠ 0 := Det.far_ne fun j i hj hi => h.dist hj hi
end Go.Proofs.YtkejdmdldhlkgaaDoor

/- A region that draws its order: a head whose calls answer what their arguments say and only make memory, and a tail whose order is forced: one walk. -/
namespace Go.Proofs.YtkejdmdldhlkgaaDoor
open Go.ChangeShapes Go.WideShapes Go.ChangeAt Go.RowKit
set_option linter.unusedVariables false
set_option linter.unusedSimpArgs false
section
variable {P : Program} {ops : Array Oper} {md : Region.Mode} {C : World → Prop}
/-- whatever is picked of the head's operations, each quiet in the class; then L -/
def headQ (P : Program) (md : Region.Mode) (ops : Array Oper) (C : World → Prop) (n : Nat) (L : Array Bool → Act → Prop) : Nat → Array Bool → Act → Prop
  | 0, ls, a => L ls a
  | f + 1, ls, a => Region.ready md ops ls ≠ [] ∧ ∀ i ∈ Region.ready md ops ls, i < n ∧ qOp P ops C i (headQ P md ops C n L f (ls.setIfInBounds i true)) a
theorem headQ_any {n g : Nat} {L : Array Bool → Act → Prop} {Q : Exit → Act → World → Prop} (hL : ∀ ls a w, C w → L ls a → wpAny P md ops Q g ls a w) :
    ∀ (f : Nat) (ls : Array Bool) (a : Act) (w : World), C w → headQ P md ops C n L f ls a → wpAny P md ops Q (f + g) ls a w := by
  intro f
  induction f with
  | zero => intro ls a w hw h; rw [Nat.zero_add]; exact hL _ _ _ hw h
  | succ f ih =>
    intro ls a w hw h
    rw [Nat.add_right_comm]
    exact ⟨fun h0 => absurd h0 h.1, fun i hi => wpOp_of_qOp hw (fun a' w' hw' k => ih _ a' w' hw' k) (h.2 i hi).2⟩
theorem headQ_first {n i : Nat} {oi : Oper} {v : Value} {L : Array Bool → Act → Prop} (hi : ops[i]? = some oi) (hsel : ∀ (j : Nat) (o : Oper) cs b, ops[j]? = some o → o.op ≠ .select cs b)
    (hs : Region.sinkB md ops n = true) (hc : Region.chainB md ops n = true) (hn : n < ops.size) (hin : i < n) (hdone : ∀ ls a, L ls a → ∀ j ∈ Region.ready md ops ls, n ≤ j) :
    ∀ (f : Nat) (ls : Array Bool) (a : Act), HeadInv md ops n ls →
      (∀ j oj, ops[j]? = some oj → j ≠ i → ls.getD j true = false → (∀ e ∈ oj.after, Region.binds md e = true → e.on ≠ i) → oi.apart ops oj = true) →
      i ∈ Region.ready md ops ls → YieldsIn P ops C oi v a → headQ P md ops C n L f (ls.setIfInBounds i true) (a.put oi.dst v) → headQ P md ops C n L (f + 1) ls a := by
  have below : ∀ ls, HeadInv md ops n ls → i ∈ Region.ready md ops ls → ∀ j ∈ Region.ready md ops ls, j < n := fun ls inv hr j hj => by
    apply Nat.lt_of_not_le
    intro hge
    exact tail_waits hs hc hn inv _ i rfl hin (mem_ready.1 hr).1 j hge hj
  intro f
  induction f with
  | zero =>
    intro ls a inv _ hr hy H
    refine ⟨fun h => (by rw [h] at hr; cases hr), fun j hj => ⟨below ls inv hr j hj, ?_⟩⟩
    by_cases e : j = i
    · subst e; exact hy.qOp hi H
    · have h1 := hdone _ _ H j (ready_mono hj e)
      have h2 := below ls inv hr j hj
      omega
  | succ f ih =>
    intro ls a inv hfree hr hy H
    refine ⟨fun h => (by rw [h] at hr; cases hr), fun j hj => ⟨below ls inv hr j hj, ?_⟩⟩
    by_cases e : j = i
    · subst e; exact hy.qOp hi H
    · have hjn := below ls inv hr j hj
      have h1 := (H.2 j (ready_mono hj e)).2
      obtain ⟨hjun, oj, hoj, hall⟩ := mem_ready.1 hj
      have hno : ∀ d ∈ oj.after, Region.binds md d = true → d.on ≠ i := fun d hd hb he => by
        have h2 := hall d hd hb
        rw [he, getD_both (mem_ready.1 hr).1] at h2
        cases h2
      have h2 := qOp_put hoj (hfree j oj hoj e hjun hno) (fun cs b => hsel i oi cs b hi) (fun cs b => hsel j oj cs b hoj) hy h1
      refine qOp_mono (fun a' h3 => ih (ls.setIfInBounds j true) a' (inv.set hj hjn) (fun k ok hk hki hun hnk => hfree k ok hk hki ?_ hnk) (ready_mono hr (Ne.symm e)) h3.1 (by rw [Array.setIfInBounds_comm _ _ e]; exact h3.2)) h2
      by_cases hjk : j = k
      · subst hjk; exact hjun
      · rw [getD_set_ne true hjk] at hun; exact hun
theorem headQ_lex {n g : Nat} {Lq : Act → Prop} (hsel : Region.noSelect ops = true) (hs : Region.sinkB md ops n = true) (hc : Region.chainB md ops n = true) (hn : n < ops.size) :
    ∀ (l : List Oper) (k : Nat) (ls : Array Bool) (a : Act), (∀ j, j < l.length → l[j]? = ops[k + j]?) → k + l.length = n → HeadInv md ops n ls →
    Region.lexHead md ops g l.length k ls = true → wpQuiet P ops C Lq l a → headQ P md ops C n (fun ls' a' => Region.seqB md ops g n ls' = true ∧ Lq a') l.length ls a := by
  intro l
  induction l with
  | nil =>
    intro k ls a _ hk _ hB h
    have e : k = n := by simpa using hk
    subst e
    exact ⟨by simpa [Region.lexHead] using hB, h⟩
  | cons o l ih =>
    intro k ls a hl hk inv hB h
    have h0 : ops[k]? = some o := by simpa using (hl 0 (by simp)).symm
    simp only [List.length_cons, Region.lexHead, Bool.and_eq_true] at hB
    have hkn : k < n := by simp only [List.length_cons] at hk; omega
    have hr : k ∈ Region.ready md ops ls := by simpa using hB.1.1
    have hq : qOp P ops C k (wpQuiet P ops C Lq l) a := by unfold qOp; simp only [h0]; exact h
    obtain ⟨v, hy, hK⟩ := yieldsIn_of_qOp h0 hq
    refine headQ_first h0 (Region.noSelect_spec hsel) hs hc hn hkn (fun ls' a' hL => seqB_ready hL.1) l.length ls a inv (Region.free_spec h0 hB.1.2) hr hy ?_
    exact ih (k + 1) _ _ (fun j hj => by have := hl (j + 1) (by simp; omega); simpa [Nat.add_assoc, Nat.add_comm 1 j] using this) (by simp only [List.length_cons] at hk; omega) (inv.set hr hkn) hB.2 hK
end
/-- the law: a quiet head, n operations, in a class of worlds; a tail in one order -/
theorem wp_region_quiet_tail {P : Program} {C : World → Prop} {id : Nat} {Q : Exit → Act → World → Prop} {a : Act} {w : World} {l : List Oper} (n : Nat) (hm : P.follows .mixedOrders = true) (hB : Region.lexTailB .any l.toArray n = true) (hC : C { w with drawn := w.drawn + 1 })
    (h : wpQuiet P l.toArray C (fun a' => ∀ w', C w' → wpList P l.toArray Q (l.drop n) a' w') (l.take n) a) : (Code.region id l.toArray true).wp P Q a w := by
  simp only [Region.lexTailB, Bool.and_eq_true, decide_eq_true_eq] at hB
  obtain ⟨⟨⟨⟨hsel, hn⟩, hs⟩, hc⟩, hlex⟩ := hB
  have hn' : n < l.length := by simpa using hn
  have ht : (l.take n).length = n := by rw [List.length_take]; omega
  have hd : (l.drop n).length = l.toArray.size - n := by simp
  have inv0 : HeadInv .any l.toArray n (Array.replicate l.toArray.size false) :=
    ⟨by simp, fun j oj _ hl => (by rw [getD_replicate_false] at hl; cases hl), fun t _ k => getD_in (by simpa using k) (getD_replicate_false _ _)⟩
  have H := headQ_lex (md := .any) (g := l.toArray.size - n) hsel hs hc hn (l.take n) 0 _ a (fun j hj => by
    have hj' : j < n := by rw [ht] at hj; exact hj
    simp [hj']) (by simpa using ht) inv0 (by rw [ht]; exact hlex) h
  refine wp_region_any hm ?_
  have := headQ_any (Q := Q) (g := l.toArray.size - n) (fun ls a' w' hw' hL => by
    have := wpAny_of_seq (md := .any) (Q' := Q) (l.drop n) n ls a' w' (fun j => by simp [List.getElem?_drop]) (by rw [hd]; exact hL.1) (hL.2 w' hw')
    rwa [hd] at this) _ _ _ _ hC H
  rw [ht, show n + (l.toArray.size - n) = l.toArray.size by omega] at this
  exact this
/-- the head's worlds grow -/
theorem wp_region_grow_tail {P : Program} {id : Nat} {Q : Exit → Act → World → Prop} {a : Act} {w : World} {l : List Oper} (n : Nat) (hm : P.follows .mixedOrders = true) (hB : Region.lexTailB .any l.toArray n = true)
    (h : wpQuiet P l.toArray (fun w' => ∃ s, w' = grow w s) (fun a' => ∀ w', Below w.heap.size w w' → wpList P l.toArray Q (l.drop n) a' w') (l.take n) a) : (Code.region id l.toArray true).wp P Q a w := by
  have e : (fun a' => ∀ w', Below w.heap.size w w' → wpList P l.toArray Q (l.drop n) a' w') = (fun a' => ∀ w', (∃ s, w' = grow w s) → wpList P l.toArray Q (l.drop n) a' w') := by
    funext a'
    exact propext ⟨fun h w' ⟨s, hs⟩ => h w' (hs ▸ s.below), fun h w' hb => h w' ⟨⟨w', hb⟩, rfl⟩⟩
  rw [e] at h
  exact wp_region_quiet_tail (C := fun w' => ∃ s, w' = grow w s) n hm hB ⟨⟨w.drew, (Below.refl _ _).drew⟩, rfl⟩ h
end Go.Proofs.YtkejdmdldhlkgaaDoor

