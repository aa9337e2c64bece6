/- Texts of this seat, laid together: Bel, Bed, MxE, Qp, FrA, Wo, Wi. Each opens with its own remark, which says what it proves, and under which conditions. -/
import Derived.Test.YtbmaffijncapiaaGreatDoorD16
import Derived.Test.YtbmaffijncapiaaGreatDoorD15
import Derived.Test.YtbmaffijncapiaaGreatDoorD07
import Derived.SizedLaws
set_option linter.unusedVariables false
set_option linter.unusedSimpArgs false
/- Elimination without fractions, in plain Lean: the mirror of the program's, and what its numbers are: minors. -/
set_option linter.unusedVariables false
set_option linter.unusedSimpArgs false
namespace Det
def cst (a : Nat → Nat → Int) : M := fun i j => (a i j : Rat)
def swp (g : Nat → Nat → Int) (i k : Nat) : Nat → Nat → Int := fun r c => if r = i then g k c else if r = k then g i c else g r c
def fr (g : Nat → Nat → Int) (j : Nat) : Nat → Nat → Nat
  | 0, i => i
  | d + 1, i => if g i j = 0 then fr g j d (i + 1) else i
structure El where
  g : Nat → Nat → Int
  p : List Nat
  last : Int
  sign : Int
def elNew (g : Nat → Nat → Int) (k j : Nat) (last : Int) (r c : Nat) : Int := (g k j * g r c - g r j * g k c) / last
def elStep (n : Nat) (s : El) (j : Nat) : El :=
  if fr s.g j (n - s.p.length) s.p.length = n then s
  else
    { g := fun r c => if s.p.length < r then elNew (swp s.g (fr s.g j (n - s.p.length) s.p.length) s.p.length) s.p.length j s.last r c else swp s.g (fr s.g j (n - s.p.length) s.p.length) s.p.length r c
      p := s.p ++ [j]
      last := swp s.g (fr s.g j (n - s.p.length) s.p.length) s.p.length s.p.length j
      sign := if fr s.g j (n - s.p.length) s.p.length = s.p.length then s.sign else - s.sign }
def elR (n : Nat) (a : Nat → Nat → Int) : Nat → El
  | 0 => ⟨a, [], 1, 1⟩
  | t + 1 => elStep n (elR n a t) t
theorem fr_ge (g : Nat → Nat → Int) (j : Nat) : ∀ d i, i ≤ fr g j d i ∧ fr g j d i ≤ i + d := by
  intro d
  induction d with
  | zero => intro i; simp [fr]
  | succ d ih =>
    intro i; unfold fr; split
    · have := ih (i + 1); omega
    · omega
theorem fr_zero (g : Nat → Nat → Int) (j : Nat) : ∀ d i t, i ≤ t → t < fr g j d i → g t j = 0 := by
  intro d
  induction d with
  | zero => intro i t h1 h2; simp [fr] at h2; omega
  | succ d ih =>
    intro i t h1 h2
    unfold fr at h2
    split at h2
    · by_cases e : t = i
      · subst e; assumption
      · exact ih (i + 1) t (by omega) h2
    · omega
theorem fr_at (g : Nat → Nat → Int) (j : Nat) : ∀ d i, fr g j d i < i + d → g (fr g j d i) j ≠ 0 := by
  intro d
  induction d with
  | zero => intro i h; simp [fr] at h
  | succ d ih =>
    intro i h
    unfold fr at h ⊢
    split
    · rename_i hz
      rw [if_pos hz] at h
      exact ih (i + 1) (by omega)
    · assumption
theorem fr_is {g : Nat → Nat → Int} {j n k i : Nat} (h1 : k ≤ i) (h2 : i < n) (hz : ∀ t, k ≤ t → t < i → g t j = 0) (hi : g i j ≠ 0) : fr g j (n - k) k = i := by
  have a := fr_ge g j (n - k) k
  rcases Nat.lt_trichotomy (fr g j (n - k) k) i with h | h | h
  · exact absurd (hz _ a.1 h) (fr_at g j (n - k) k (by omega))
  · exact h
  · exact absurd (fr_zero g j (n - k) k i h1 h) hi
theorem fr_none {g : Nat → Nat → Int} {j n k : Nat} (h1 : k ≤ n) (hz : ∀ t, k ≤ t → t < n → g t j = 0) : fr g j (n - k) k = n := by
  have a := fr_ge g j (n - k) k
  rcases Nat.lt_or_ge (fr g j (n - k) k) n with h | h
  · exact absurd (hz _ a.1 h) (fr_at g j (n - k) k (by omega))
  · omega
theorem elStep_none {n : Nat} {s : El} {j : Nat} (h1 : s.p.length ≤ n) (hz : ∀ t, s.p.length ≤ t → t < n → s.g t j = 0) : elStep n s j = s := by
  unfold elStep; rw [if_pos (fr_none h1 hz)]
theorem elStep_some {n : Nat} {s : El} {j i : Nat} (h1 : s.p.length ≤ i) (h2 : i < n) (hz : ∀ t, s.p.length ≤ t → t < i → s.g t j = 0) (hi : s.g i j ≠ 0) :
    elStep n s j = { g := fun r c => if s.p.length < r then elNew (swp s.g i s.p.length) s.p.length j s.last r c else swp s.g i s.p.length r c, p := s.p ++ [j], last := s.g i j, sign := if i = s.p.length then s.sign else - s.sign } := by
  unfold elStep
  rw [fr_is h1 h2 hz hi, if_neg (by omega)]
  have : swp s.g i s.p.length s.p.length j = s.g i j := by unfold swp; split <;> simp_all
  rw [this]
theorem sum_int {n : Nat} {f : Nat → Rat} (h : ∀ i, i < n → ∃ z : Int, f i = z) : ∃ z : Int, sum n f = z := by
  induction n with
  | zero => exact ⟨0, rfl⟩
  | succ n ih =>
    obtain ⟨a, ha⟩ := ih fun i hi => h i (by omega)
    obtain ⟨b, hb⟩ := h n (by omega)
    exact ⟨a + b, by simp only [sum]; rw [ha, hb, Rat.intCast_add]⟩
theorem sg_int (i : Nat) : ∃ z : Int, sg i = z := by
  unfold sg; split
  · exact ⟨1, rfl⟩
  · exact ⟨-1, rfl⟩
theorem det_int : ∀ (n : Nat) (a : Nat → Nat → Int), ∃ z : Int, det n (cst a) = z
  | 0, a => ⟨1, rfl⟩
  | n + 1, a => by
    unfold det
    refine sum_int fun i hi => ?_
    obtain ⟨x, hx⟩ := sg_int i
    obtain ⟨y, hy⟩ := det_int n fun r c => a (skip i r) (c + 1)
    exact ⟨x * a i 0 * y, by rw [hx, Rat.intCast_mul, Rat.intCast_mul, ← hy]; rfl⟩
def bord (a : Nat → Nat → Int) (q : Nat → Nat) (p : List Nat) (k r c : Nat) : M := fun i t => (a (q (if i < k then i else r)) (if t < k then p.getD t 0 else c) : Rat)
def q2 (q : Nat → Nat) (i k : Nat) : Nat → Nat := fun r => if r = i then q k else if r = k then q i else q r
structure Inv (n m : Nat) (a : Nat → Nat → Int) (s : El) (j : Nat) (q : Nat → Nat) : Prop where
  k : s.p.length ≤ n
  q1 : ∀ i, i < n → q i < n
  q2 : ∀ i i', i < n → i' < n → q i = q i' → i = i'
  q3 : ∀ x, x < n → ∃ i, i < n ∧ q i = x
  sgn : s.sign = 1 ∨ s.sign = -1
  alt : ∀ f, Alt n f → f (fun r c => (a (q r) c : Rat)) = s.sign * f (cst a)
  nz : s.last ≠ 0
  last : (s.last : Rat) = det s.p.length fun r c => (a (q r) (s.p.getD c 0) : Rat)
  gm : ∀ r c, s.p.length ≤ r → r < n → c < m → (s.g r c : Rat) = det (s.p.length + 1) (bord a q s.p s.p.length r c)
  ze : ∀ r c, s.p.length ≤ r → r < n → c < j → s.g r c = 0
  inc : ∀ i i', i < i' → i' < s.p.length → s.p.getD i 0 < s.p.getD i' 0
  top : ∀ i, i < s.p.length → s.p.getD i 0 < j
theorem inv_start (n m : Nat) (a : Nat → Nat → Int) : Inv n m a ⟨a, [], 1, 1⟩ 0 id := by
  refine ⟨Nat.zero_le _, fun i h => h, fun i i' _ _ h => h, fun x h => ⟨x, h, rfl⟩, .inl rfl, fun f hf => ?_, by simp, ?_, fun r c _ _ _ => ?_, fun r c _ _ h => by omega, fun i i' _ h => by simp at h, fun i h => by simp at h⟩
  · show f (cst a) = ((1 : Int) : Rat) * f (cst a)
    simp [Rat.one_mul]
  · simp [det]
  · simp only [List.length_nil, det, sum, sg, minor, bord]
    simp [Rat.zero_add, Rat.one_mul, Rat.mul_one]
theorem q2_same (q : Nat → Nat) (k : Nat) : q2 q k k = q := by funext r; unfold q2; split <;> simp_all
theorem alt_swap {n : Nat} {f : M → Rat} (hf : Alt n f) (a : Nat → Nat → Int) (q : Nat → Nat) {i k : Nat} (hi : i < n) (hk : k < n) (hne : i ≠ k) : f (fun r c => (a (q2 q i k r) c : Rat)) = - f (fun r c => (a (q r) c : Rat)) := by
  rw [← hf.swapped (fun r c => (a (q r) c : Rat)) i k hi hk hne]
  congr 1
  funext r c
  unfold q2 swap upd
  by_cases h1 : r = i
  · subst h1; simp [hne]
  · by_cases h2 : r = k
    · subst h2; simp [h1]
    · simp [h1, h2]
theorem inv_step {n m : Nat} {a : Nat → Nat → Int} {s : El} {j : Nat} {q : Nat → Nat} (hj : j < m) (h : Inv n m a s j q) : ∃ q', Inv n m a (elStep n s j) (j + 1) q' := by
  obtain ⟨i, hi⟩ : ∃ i, fr s.g j (n - s.p.length) s.p.length = i := ⟨_, rfl⟩
  have hge := fr_ge s.g j (n - s.p.length) s.p.length
  have hfz := fr_zero s.g j (n - s.p.length) s.p.length
  have hfa := fr_at s.g j (n - s.p.length) s.p.length
  have hk := h.k
  rw [hi] at hge hfz hfa
  by_cases hn : i = n
  · refine ⟨q, ?_⟩
    rw [elStep_none hk fun t h1 h2 => hfz t h1 (by omega)]
    exact ⟨h.k, h.q1, h.q2, h.q3, h.sgn, h.alt, h.nz, h.last, h.gm, fun r c h1 h2 h3 => by
      by_cases e : c = j
      · subst e; exact hfz r h1 (by omega)
      · exact h.ze r c h1 h2 (by omega), h.inc, fun i hi => Nat.lt_succ_of_lt (h.top i hi)⟩
  · have hin : i < n := by omega
    have hpv := hfa (by omega)
    rw [elStep_some hge.1 hin (fun t h1 h2 => hfz t h1 h2) hpv]
    obtain ⟨k, hkk⟩ : ∃ k, s.p.length = k := ⟨_, rfl⟩
    have hgm := h.gm
    have hlast := h.last
    have hze := h.ze
    have hinc := h.inc
    have htop := h.top
    rw [hkk] at hge hk hfz hgm hlast hze hinc htop ⊢
    have pk : ∀ t, t < k → (s.p ++ [j]).getD t 0 = s.p.getD t 0 := fun t ht => by simp [List.getElem?_append, hkk, ht]
    have pj : (s.p ++ [j]).getD k 0 = j := by simp [← hkk]
    -- the numbers once the rows have changed places
    have g1 : ∀ r c, k ≤ r → r < n → c < m → (swp s.g i k r c : Rat) = det (k + 1) (bord a (q2 q i k) s.p k r c) := fun r c h1 h2 h3 => by
      have bq : ∀ r', k ≤ r' → q2 q i k r = q r' → det (k + 1) (bord a (q2 q i k) s.p k r c) = det (k + 1) (bord a q s.p k r' c) := fun r' _ e => det_congr fun x y _ _ => by
        unfold bord
        by_cases hx : x < k
        · rw [if_pos hx]; unfold q2; rw [if_neg (by omega), if_neg (by omega)]
          simp only [hx, if_true]
        · rw [if_neg hx, e]; simp only [hx, if_false]
      by_cases e1 : r = i
      · rw [bq k (Nat.le_refl _) (by unfold q2; rw [if_pos e1]), ← hgm k c (Nat.le_refl _) (by omega) h3]
        unfold swp; rw [if_pos e1]
      · by_cases e2 : r = k
        · rw [bq i hge.1 (by unfold q2; rw [if_neg e1, if_pos e2]), ← hgm i c hge.1 hin h3]
          unfold swp; rw [if_neg e1, if_pos e2]
        · rw [bq r h1 (by unfold q2; rw [if_neg e1, if_neg e2]), ← hgm r c h1 h2 h3]
          unfold swp; rw [if_neg e1, if_neg e2]
    have z1 : ∀ r c, k ≤ r → r < n → c < j → swp s.g i k r c = 0 := fun r c h1 h2 h3 => by
      unfold swp
      split
      · exact hze k c (Nat.le_refl _) (by omega) h3
      · split
        · exact hze i c hge.1 hin h3
        · exact hze r c h1 h2 h3
    have hpv1 : swp s.g i k k j = s.g i j := by unfold swp; split <;> simp_all
    have hlast' : (s.last : Rat) = det k fun r c => (a (q2 q i k r) (s.p.getD c 0) : Rat) := by
      rw [hlast]
      refine det_congr fun x y hx hy => ?_
      unfold q2; rw [if_neg (by omega), if_neg (by omega)]
    -- what divides
    have hdiv : ∀ r c, k < r → r < n → c < m → ∃ z : Int, det (k + 2) (bord a (q2 q i k) (s.p ++ [j]) (k + 1) r c) = z ∧ swp s.g i k k j * swp s.g i k r c - swp s.g i k r j * swp s.g i k k c = z * s.last := fun r c h1 h2 h3 => by
      obtain ⟨z, hz⟩ := det_int (k + 2) fun x t => a (q2 q i k (if x < k + 1 then x else r)) (if t < k + 1 then (s.p ++ [j]).getD t 0 else c)
      have hz' : det (k + 2) (bord a (q2 q i k) (s.p ++ [j]) (k + 1) r c) = z := by rw [← hz]; rfl
      refine ⟨z, hz', ?_⟩
      obtain ⟨T, hT⟩ : ∃ T, bord a (q2 q i k) (s.p ++ [j]) (k + 1) r c = T := ⟨_, rfl⟩
      have tl : det k T = s.last := by
        rw [hlast', ← hT]
        refine det_congr fun x y hx hy => ?_
        unfold bord; rw [if_pos (by omega), if_pos (by omega), pk y hy]
      have sq : ∀ x : Nat, x < k + 1 → (if x < k then x else k) = x := fun x hx => by split <;> omega
      have t1 : det (k + 1) T = swp s.g i k k j := by
        rw [g1 k j (Nat.le_refl _) (by omega) hj, ← hT]
        refine det_congr fun x y hx hy => ?_
        unfold bord
        rw [if_pos (by omega), if_pos hy, sq x hx]
        by_cases hy' : y < k
        · rw [if_pos hy', pk y hy']
        · have : y = k := by omega
          subst this; rw [if_neg (by omega), pj]
      have t2 : det (k + 1) (nr k (nc k T)) = swp s.g i k r c := by
        rw [g1 r c (by omega) h2 h3, ← hT]
        refine det_congr fun x y hx hy => ?_
        unfold nr nc bord
        by_cases hx' : x < k
        · have hx2 : ¬ x = k := by omega
          simp only [hx2, if_false, hx, if_true, hx']
          by_cases hy' : y < k
          · have hy2 : ¬ y = k := by omega
            simp only [hy2, if_false, hy, if_true, hy']
            rw [pk y hy']
          · have : y = k := by omega
            subst this; simp
        · have hx2 : x = k := by omega
          subst hx2
          simp only [if_true, Nat.lt_irrefl, if_false]
          by_cases hy' : y < x
          · have hy2 : ¬ y = x := by omega
            simp only [hy2, if_false, hy, if_true, hy']
            rw [pk y hy']
          · have : y = x := by omega
            subst this; simp
      have t3 : det (k + 1) (nr k T) = swp s.g i k r j := by
        rw [g1 r j (by omega) h2 hj, ← hT]
        refine det_congr fun x y hx hy => ?_
        unfold nr bord
        have hyy : (if y < k + 1 then (s.p ++ [j]).getD y 0 else c) = if y < k then s.p.getD y 0 else j := by
          rw [if_pos hy]
          by_cases hy' : y < k
          · rw [if_pos hy', pk y hy']
          · have : y = k := by omega
            subst this; rw [if_neg (by omega), pj]
        rw [hyy]
        by_cases hx' : x < k
        · have hx2 : ¬ x = k := by omega
          simp only [hx2, if_false, hx, if_true, hx']
        · have hx2 : x = k := by omega
          subst hx2; simp
      have t4 : det (k + 1) (nc k T) = swp s.g i k k c := by
        rw [g1 k c (Nat.le_refl _) (by omega) h3, ← hT]
        refine det_congr fun x y hx hy => ?_
        unfold nc bord
        rw [if_pos (by omega), sq x hx]
        by_cases hy' : y < k
        · have hy2 : ¬ y = k := by omega
          simp only [hy2, if_false, hy, if_true, hy']
          rw [pk y hy']
        · have : y = k := by omega
          subst this; simp
      have hs := sylvester (k := k) (t := T) (by rw [tl]; simpa using h.nz) (by rw [t1, hpv1]; simpa using hpv)
      rw [t1, t2, t3, t4, tl, ← hT, hz'] at hs
      rw [← Rat.intCast_mul, ← Rat.intCast_mul, ← Rat.intCast_mul, ← Rat.intCast_sub] at hs
      have := Rat.intCast_inj.1 hs
      omega
    have hnew : ∀ r c, k < r → r < n → c < m → ((elNew (swp s.g i k) k j s.last r c : Int) : Rat) = det (k + 2) (bord a (q2 q i k) (s.p ++ [j]) (k + 1) r c) := fun r c h1 h2 h3 => by
      obtain ⟨z, hz, he⟩ := hdiv r c h1 h2 h3
      unfold elNew
      rw [he, Int.mul_ediv_cancel _ h.nz, hz]
    refine ⟨q2 q i k, ?_⟩
    have hsl : (s.p ++ [j]).length = k + 1 := by simp [hkk]
    refine ⟨by dsimp only; omega, fun x hx => ?_, fun x y hx hy e => ?_, fun x hx => ?_, ?_, fun f hf => ?_, hpv, ?_, ?_, ?_, ?_, ?_⟩
    · unfold q2; split
      · exact h.q1 k (by omega)
      · split
        · exact h.q1 i hin
        · exact h.q1 x hx
    · have hq := h.q2
      have key : ∀ x, x < n → ∃ x', x' < n ∧ q2 q i k x = q x' ∧ (x' = if x = i then k else if x = k then i else x) := fun x hx => by
        unfold q2
        by_cases e1 : x = i
        · exact ⟨k, by omega, by rw [if_pos e1], by rw [if_pos e1]⟩
        · by_cases e2 : x = k
          · exact ⟨i, hin, by rw [if_neg e1, if_pos e2], by rw [if_neg e1, if_pos e2]⟩
          · exact ⟨x, hx, by rw [if_neg e1, if_neg e2], by rw [if_neg e1, if_neg e2]⟩
      obtain ⟨x', hx1, hx2, hx3⟩ := key x hx
      obtain ⟨y', hy1, hy2, hy3⟩ := key y hy
      rw [hx2, hy2] at e
      have := hq x' y' hx1 hy1 e
      rw [hx3, hy3] at this
      clear hgm hlast hze hinc htop pk pj g1 z1 hpv1 hlast' hdiv hnew key
      by_cases a1 : x = i <;> by_cases a2 : x = k <;> by_cases a3 : y = i <;> by_cases a4 : y = k <;> simp only [a1, a2, a3, a4, if_true, if_false] at this ⊢ <;> first | omega | (split at this <;> omega)
    · obtain ⟨r, hr, rfl⟩ := h.q3 x hx
      by_cases e1 : r = i
      · exact ⟨k, by omega, by unfold q2; rw [e1]; split <;> simp_all⟩
      · by_cases e2 : r = k
        · exact ⟨i, hin, by unfold q2; rw [if_pos rfl, e2]⟩
        · exact ⟨r, hr, by unfold q2; rw [if_neg e1, if_neg e2]⟩
    · dsimp only; split
      · exact h.sgn
      · rcases h.sgn with h | h <;> rw [h] <;> simp
    · dsimp only
      by_cases e : i = k
      · rw [if_pos e]; subst e; rw [q2_same]; exact h.alt f hf
      · rw [if_neg e, alt_swap hf a q hin (by omega) e, h.alt f hf, Rat.intCast_neg]; grind
    · dsimp only
      rw [hsl, ← hpv1, g1 k j (Nat.le_refl _) (by omega) hj]
      refine det_congr fun x y hx hy => ?_
      unfold bord
      have hxx : (if x < k then x else k) = x := by split <;> omega
      rw [hxx]
      by_cases hy' : y < k
      · rw [if_pos hy', pk y hy']
      · have : y = k := by omega
        subst this; rw [if_neg (by omega), pj]
    · dsimp only
      rw [hsl]
      intro r c h1 h2 h3
      rw [if_pos (by omega)]
      exact hnew r c (by omega) h2 h3
    · dsimp only
      rw [hsl]
      intro r c h1 h2 h3
      rw [if_pos (by omega)]
      unfold elNew
      by_cases e : c = j
      · subst e; rw [Int.mul_comm (swp s.g i k r c)]; simp
      · rw [z1 r c (by omega) h2 (by omega), z1 k c (by omega) (by omega) (by omega)]; simp
    · dsimp only
      rw [hsl]
      intro x y hxy hy
      by_cases e : y = k
      · subst e; rw [pj, pk x hxy]; exact htop x hxy
      · rw [pk x (by omega), pk y (by omega)]; exact hinc x y hxy (by omega)
    · dsimp only
      rw [hsl]
      intro x hx
      by_cases e : x = k
      · subst e; rw [pj]; omega
      · rw [pk x (by omega)]; have := htop x (by omega); omega
theorem inv_all (n m : Nat) (a : Nat → Nat → Int) : ∀ j, j ≤ m → ∃ q, Inv n m a (elR n a j) j q
  | 0, _ => ⟨id, inv_start n m a⟩
  | j + 1, hj => by
    obtain ⟨q, hq⟩ := inv_all n m a j (by omega)
    exact inv_step (by omega) hq
end Det

/- Elimination without fractions, in plain Lean: the determinant, the rank, of what is turned too. -/
set_option linter.unusedVariables false
set_option linter.unusedSimpArgs false
namespace Det
theorem rise_id {n : Nat} {f : Nat → Nat} (h : ∀ i i', i < i' → i' < n → f i < f i') (ht : ∀ i, i < n → f i < n) : ∀ i, i < n → f i = i := by
  have lo : ∀ i, i < n → i ≤ f i := by
    intro i
    induction i with
    | zero => intro _; omega
    | succ i ih => intro hi; have := h i (i + 1) (by omega) hi; have := ih (by omega); omega
  have hi' : ∀ d i, i + d + 1 = n → f i ≤ i := by
    intro d
    induction d with
    | zero => intro i hi; have := ht i (by omega); omega
    | succ d ih => intro i hi; have := h i (i + 1) (by omega) (by omega); have := ih (i + 1) (by omega); omega
  intro i hi
  have := lo i hi
  have := hi' (n - i - 1) i (by omega)
  omega
theorem rows_comb {n m : Nat} {a : Nat → Nat → Int} {s : El} {q : Nat → Nat} (h : Inv n m a s m q) {r : Nat} (h1 : s.p.length ≤ r) (h2 : r < n) :
    ∃ l : Nat → Rat, ∀ c, c < m → (a (q r) c : Rat) = sum s.p.length fun i => l i * (a (q i) c : Rat) := by
  have hd : det s.p.length (fun r c => (a (q r) (s.p.getD c 0) : Rat)) ≠ 0 := by rw [← h.last]; simpa using h.nz
  obtain ⟨l, hl⟩ := solve_row s.p.length _ hd (fun t => (a (q r) (s.p.getD t 0) : Rat))
  refine ⟨l, fun c hc => ?_⟩
  have hz : det (s.p.length + 1) (bord a q s.p s.p.length r c) = 0 := by
    rw [← h.gm r c h1 h2 hc, h.ze r c h1 h2 hc]; rfl
  rw [border l] at hz
  · have e : det s.p.length (bord a q s.p s.p.length r c) = det s.p.length fun r c => (a (q r) (s.p.getD c 0) : Rat) := det_congr fun x y hx hy => by
      unfold bord; rw [if_pos hx, if_pos hy]
    rw [e] at hz
    have h0 : (bord a q s.p s.p.length r c s.p.length s.p.length - sum s.p.length fun i => l i * bord a q s.p s.p.length r c i s.p.length) = 0 := by
      rcases Rat.mul_eq_zero.1 hz with h | h
      · exact h
      · exact absurd h hd
    have e1 : bord a q s.p s.p.length r c s.p.length s.p.length = (a (q r) c : Rat) := by unfold bord; simp
    have e2 : (sum s.p.length fun i => l i * bord a q s.p s.p.length r c i s.p.length) = sum s.p.length fun i => l i * (a (q i) c : Rat) := sum_congr fun i hi => by
      unfold bord; rw [if_pos hi, if_neg (by omega)]
    rw [e1, e2] at h0
    grind
  · intro j hj
    have := hl j hj
    unfold bord
    rw [if_pos hj, if_neg (Nat.lt_irrefl _), ← this]
    refine sum_congr fun i hi => ?_
    rw [if_pos hi]
def detE (n : Nat) (a : Nat → Nat → Int) : Int := if (elR n a n).p.length < n then 0 else (elR n a n).last * (elR n a n).sign
theorem detE_eq (n : Nat) (a : Nat → Nat → Int) : (detE n a : Rat) = det n (cst a) := by
  obtain ⟨q, h⟩ := inv_all n n a n (Nat.le_refl _)
  unfold detE
  have hsg : ((elR n a n).sign : Rat) * ((elR n a n).sign : Rat) = 1 := by
    rcases h.sgn with e | e <;> rw [e] <;> simp <;> grind
  have ha := h.alt _ (det_alt n)
  split
  · rename_i hk
    have hz : det n (fun r c => (a (q r) c : Rat)) = 0 := by
      obtain ⟨l, hl⟩ := rows_comb h (Nat.le_refl _) hk
      have e := det_addrows (n := n) (fun r c => (a (q r) c : Rat)) _ hk (fun i => - l i) _ (Nat.le_refl (elR n a n).p.length)
      rw [← e]
      refine (det_alt n).zero _ _ hk fun j hj => ?_
      unfold upd
      rw [if_pos rfl]
      dsimp only
      rw [hl j hj]
      have : (sum (elR n a n).p.length fun i => - l i * (a (q i) j : Rat)) = - sum (elR n a n).p.length fun i => l i * (a (q i) j : Rat) := by
        rw [← sum_neg]; refine sum_congr fun i _ => ?_; grind
      rw [this]; grind
    rw [ha] at hz
    show ((0 : Int) : Rat) = _
    rw [Rat.intCast_zero]
    rcases Rat.mul_eq_zero.1 hz with h0 | h0
    · rw [h0] at hsg; grind
    · exact h0.symm
  · have hk : (elR n a n).p.length = n := Nat.le_antisymm h.k (by omega)
    have hl := h.last
    have hinc := h.inc
    have htop := h.top
    rw [hk] at hl hinc htop
    have hid := rise_id hinc htop
    have e : det n (fun r c => (a (q r) ((elR n a n).p.getD c 0) : Rat)) = det n fun r c => (a (q r) c : Rat) := det_congr fun x y _ hy => by rw [hid y hy]
    rw [e, ha] at hl
    rw [Rat.intCast_mul, hl]
    grind
def isum (n : Nat) (f : Nat → Int) : Int := match n with
  | 0 => 0
  | n + 1 => isum n f + f n
theorem detE_congr {n : Nat} {a b : Nat → Nat → Int} (h : ∀ i j, i < n → j < n → a i j = b i j) : detE n a = detE n b := by
  apply Rat.intCast_inj.1
  rw [detE_eq, detE_eq]
  exact det_congr fun i j hi hj => by unfold cst; rw [h i j hi hj]
def iadj (n : Nat) (a : Nat → Nat → Int) : Nat → Nat → Int := fun i j => if (i + j) % 2 = 1 then - detE (n - 1) (fun r c => a (skip j r) (skip i c)) else detE (n - 1) fun r c => a (skip j r) (skip i c)
end Det

/- matrix: Times. -/
namespace Go.Proofs.YtbmaffijncapiaaGreatDoor
open Num
open Go.ChangeShapes Go.WideShapes Go.ChangeAt Go.RowKit
set_option linter.unusedVariables false
set_option linter.unusedSimpArgs false
attribute [local go_sem ↓] Go.wp_at_zero Go.wp_at_succ
theorem isum_bd {k : Nat} {f : Nat → Int} (h : ∀ i, Bd k (f i)) : ∀ n, Bd (k + n) (Det.isum n f)
  | 0 => bd_zero
  | n + 1 => (Bd.add (isum_bd h n) ((h n).mono (by omega))).mono (by omega)
set_option maxRecDepth 100000 in
set_option maxHeartbeats 16000000 in
theorem times1_c (bm bo : Nat) (g h : Grid) (n m p k kh : Nat) (w : World) (hg : BoxM bm w g) (hh : BoxM bo w h) (lg : g.length = n) (lh : h.length = m) (rg : Rct g m) (rh : Rct h p) (kg : BdM k g) (kh' : BdM kh h) (hm : m ≤ 1099511627775) (hk : k + kh + m ≤ 17179869184) :
    FnF (fun i j => Det.isum m fun t => gat g i t * gat h t j) n p 139 #[.pointer (some ⟨bm, 0, none⟩), .pointer (some ⟨bo, 0, none⟩)] w := by
  intro w1 i j hi hj hW
  obtain ⟨c1, gb, go, ra, rc, q0, q1, hp⟩ := (hg.keep hW).row (by omega : i < g.length)
  rw [lg] at q0
  rw [rg i (by omega)] at q1
  have hrl := rg i (by omega)
  have HH := Lib.hid (show ∀ V, Below w1.heap.size w1 V → ∀ t, t < m → _ from fun V q t ht => ((hh.keep hW).keep q).elem rh (by omega : t < h.length) hj)
  have HP := Lib.hid hp
  rw [lh] at HH
  clear hg hW hp
  have HK := Lib.hid (And.intro kg kh')
  have HRL := Lib.hid hrl
  have hiI : (i : Int) < (n : Int) := by omega
  have hjI : (j : Int) < (p : Int) := by omega
  clear lg lh rg rh kg kh' hrl hh
  have zq0 := cell_lt q0; have zq1 := cell_lt q1
  obtain ⟨w, hw⟩ : ∃ w, w1 = w := ⟨_, rfl⟩
  subst hw
  have hB := Below.refl w1.heap.size w1
  show Calls Tryz.prog 139 #[.int .i64 (i : Nat), .int .i64 (j : Nat), .pointer (some ⟨bm, 0, none⟩), .pointer (some ⟨bo, 0, none⟩)] w1 _
  dsimp only
  go_enter Tryz.func139, Tryz.ntmps139
  go_wp2
  refine wp_name fun w0 hW0 => ?_
  have hB0 : Below w1.heap.size w1 w0 := by rw [hW0]; repeat (first|exact bzR _ _|exact hB|refine bzD ?_|refine bzN ?_|refine bzS ?_|refine bzA ?_)
  have HR0 := Lib.hid (show w0.cell? ⟨w1.heap.size, 0, none⟩ = some (.bool false) ∧ w0.cell? ⟨w1.heap.size, 1, none⟩ = some (.slice none 0 0) ∧ w0.frozen? ⟨w1.heap.size, 0, none⟩ = false ∧ w0.frozen? ⟨w1.heap.size, 1, none⟩ = false from by rw [hW0]; simp [go_sem])
  have HM0 := Lib.hid (show VarI (w1.heap.size + 1) 0 w0 from by rw [hW0]; exact ⟨typ_fresh (by simp), false, none, 0, 0, by simp [go_sem], by simp [go_sem], by simp [go_sem], by simp [go_sem], isInt_zero _⟩)
  clear hW0
  go_loopw [16] (fun x wr => ∃ t : Nat, t ≤ m ∧ x = .int .i64 t ∧ Below w1.heap.size w1 wr ∧ Hid (wr.cell? ⟨w1.heap.size, 0, none⟩ = some (.bool false) ∧ wr.cell? ⟨w1.heap.size, 1, none⟩ = some (.slice none 0 0) ∧ wr.frozen? ⟨w1.heap.size, 0, none⟩ = false ∧ wr.frozen? ⟨w1.heap.size, 1, none⟩ = false) ∧ Hid (VarI (w1.heap.size + 1) (Det.isum t fun t => gat g i t * gat h t j) wr)) (fun x _ => m - (intOf x).toNat)
  case atStart => exact ⟨0, Nat.zero_le _, rfl, hB0, HR0, HM0⟩
  case round =>
    obtain ⟨t, ht, rfl, hBr, HR, hM⟩ := hrel
    obtain ⟨-, n0, a0, ln0, c0, m0, m1, m0f, m1f, hi0⟩ := hM.out
    obtain ⟨r0, r1, r0f, r1f⟩ := HR.out
    have HI0 := Lib.hid hi0
    have zm := cell_lt m0
    have zr := cell_lt r0
    clear hi0
    by_cases hlt : t < m
    · have hltI : (t : Int) < (m : Int) := by omega
      obtain ⟨a', c', he, -, vr⟩ := (HP.out.keep lims_int hBr).view
      obtain ⟨rfl, -, rfl⟩ := Value.slice.inj he
      obtain ⟨b, off, n2, a2, l2, cc2, rfl, d0, d1, hx⟩ := vr t (by rw [HRL.out]; exact hlt)
      obtain ⟨c3, hb, ho, sb, so, sc, n3, a3, l3, k3, h0, h1, h2, h3, hy⟩ := HH.out _ hBr t hlt
      have HW := Lib.hid (show Det.isum (t + 1) (fun t => gat g i t * gat h t j) = Det.isum t (fun t => gat g i t * gat h t j) + gat g i t * gat h t j from rfl)
      have bs := isum_bd (k := k + kh) (f := fun t => gat g i t * gat h t j) (fun t => Bd.mul (HK.out.1 i t) (HK.out.2 t j)) t
      have bx := HK.out.1 i t
      have by' := HK.out.2 t j
      have bp := (Bd.mul bx by').mono (show k + kh ≤ k + kh + t by omega)
      have hgx : (g.getD i []).getD t 0 = gat g i t := rfl
      rw [hgx] at hx
      obtain ⟨x, hxx⟩ : ∃ x, gat g i t = x := ⟨_, rfl⟩
      obtain ⟨y, hyy⟩ : ∃ y, gat h t j = y := ⟨_, rfl⟩
      rw [hxx] at hx bx bp HW
      rw [hyy] at hy by' bp HW
      obtain ⟨s, hs⟩ : ∃ s, Det.isum t (fun t => gat g i t * gat h t j) = s := ⟨_, rfl⟩
      rw [hs] at HI0 HW hM bs
      have zd := cell_lt d0
      have z0 := cell_lt h0; have z1 := cell_lt h1; have z2 := cell_lt h2
      have HX := Lib.hid (And.intro hx hy)
      have HBP := Lib.hid (And.intro bs (And.intro bp (And.intro bx by')))
      have mc := fun W (q : Below wr.heap.size wr W) => mul_c (.agg #[.bool n2, .slice a2 l2 cc2]) (.agg #[.bool n3, .slice a3 l3 k3]) x y k kh W (HX.out.1.keep q) (HX.out.2.keep q) HBP.out.2.2.1 HBP.out.2.2.2 (by omega) (by omega)
      have ac := fun u W (q : Below wr.heap.size wr W) (hu : IsInt W u (x * y)) => addI_c _ u s (x * y) (k + kh + t) W (HI0.out.keep q) hu HBP.out.1 HBP.out.2.1 (by omega)
      clear hxx hyy hs he vr hx hy bs bp bx by' hgx
      have hBw := Below.refl wr.heap.size wr
      go_wp2
      refine wp_name fun w4 hW4 => ?_
      have hb4 : Below wr.heap.size wr w4 := by rw [hW4]; repeat (first|exact bzR _ _|exact hBw|refine bzD ?_|refine bzN ?_|refine bzS ?_|refine bzA ?_)
      have x0 : w4.cell? ⟨wr.heap.size, 0, none⟩ = some (.bool n2) := by rw [hW4]; simp [go_sem]
      have x1 : w4.cell? ⟨wr.heap.size, 1, none⟩ = some (.slice a2 l2 cc2) := by rw [hW4]; simp [go_sem]
      clear hW4
      have zx := cell_lt x0
      have HS := Lib.hid (show ∀ W, Below w4.heap.size w4 W → W.cell? ⟨wr.heap.size, 0, none⟩ = some (.bool n2) ∧ W.cell? ⟨wr.heap.size, 1, none⟩ = some (.slice a2 l2 cc2) ∧ W.cell? ⟨bo, 0, none⟩ = some (.slice (some ⟨hb, ho, none⟩) m c3) ∧ W.cell? ⟨hb, ho + t, none⟩ = some (.slice (some ⟨sb, so, none⟩) p sc) ∧ W.cell? ⟨sb, so + j * 2, none⟩ = some (.bool n3) ∧ W.cell? ⟨sb, so + j * 2 + 1, none⟩ = some (.slice a3 l3 k3) ∧ W.cell? ⟨w1.heap.size + 1, 0, none⟩ = some (.bool n0) ∧ W.cell? ⟨w1.heap.size + 1, 1, none⟩ = some (.slice a0 ln0 c0) ∧ W.frozen? ⟨w1.heap.size + 1, 0, none⟩ = false ∧ W.frozen? ⟨w1.heap.size + 1, 1, none⟩ = false from fun W q => ⟨bkeep q x0, bkeep q x1, bkeep (bthen hb4 q) h0, bkeep (bthen hb4 q) h1, bkeep (bthen hb4 q) h2, bkeep (bthen hb4 q) h3, bkeep (bthen hb4 q) m0, bkeep (bthen hb4 q) m1, bkeepf (bthen hb4 q) m0 m0f, bkeepf (bthen hb4 q) m1 m1f⟩)
      clear h0 h1 h2 h3 m0 m1 m0f m1f x0 x1
      obtain ⟨x0, x1, h0, h1, h2, h3, m0, m1, m0f, m1f⟩ := HS.out w4 (Below.refl _ _)
      have hBw := Below.refl w4.heap.size w4
      have hz4 := hb4.size
      go_region_law (go_simp; go_wp2_with (first
        | (go_at_call 51; refine (mc _ ?_).mono ?_; (refine bthen hb4 ?_; (repeat (first|exact bzR _ _|exact hBw|refine bzD ?_|refine bzN ?_|refine bzS ?_|refine bzA ?_))); rintro e w5 ⟨⟨v5, rfl, hv5⟩, hb5⟩; (have hBd : Below w4.heap.size w4 w5 := bthen (by repeat (first|exact bzR _ _|exact hBw|refine bzD ?_|refine bzN ?_|refine bzS ?_|refine bzA ?_)) hb5; clear hBw; have hBw := hBd; clear hBd); obtain ⟨x0, x1, h0, h1, h2, h3, m0, m1, m0f, m1f⟩ := HS.out w5 hBw; have zm5 := cell_lt m0; have HV5 := Lib.hid hv5; obtain ⟨n5, a5, c5, l5, rfl, -⟩ := hv5; unfold iv at *)
        | (go_at_call 37; refine (ac _ _ ?_ ?_).mono ?_; (refine bthen hb4 ?_; (repeat (first|exact bzR _ _|exact hBw|refine bzD ?_|refine bzN ?_|refine bzS ?_|refine bzA ?_))); (refine HV5.out.keep ?_; have hBz := Below.refl w5.heap.size w5; (repeat (first|exact bzR _ _|exact hBz|refine bzD ?_|refine bzN ?_|refine bzS ?_|refine bzA ?_))); rintro e w6 ⟨⟨v6, rfl, hv6⟩, hb6⟩; (have hBd : Below w4.heap.size w4 w6 := bthen (by repeat (first|exact bzR _ _|exact hBw|refine bzD ?_|refine bzN ?_|refine bzS ?_|refine bzA ?_)) hb6; clear hBw; have hBw := hBd; clear hBd); obtain ⟨x0, x1, h0, h1, h2, h3, m0, m1, m0f, m1f⟩ := HS.out w6 hBw; have zm6 := cell_lt m0; have HV6 := Lib.hid hv6; obtain ⟨n6, a6, c6, l6, rfl, -⟩ := hv6; unfold iv at *)
        | fail))
      all_goals
        have hBw' := bthen hb4 hBw
        have HV2 := Lib.hid ((hM.out.keep hBw').put HV6.out)
        have hB2 := bthen hBr hBw'
        have r0' := bkeep hBw' r0
        have r1' := bkeep hBw' r1
        have r0f' := bkeepf hBw' r0 r0f
        have r1f' := bkeepf hBw' r1 r1f
        clear mc ac HS
        go_wp2
        refine ⟨⟨t + 1, by omega, by go_num, bset (bset hB2 (by show w1.heap.size ≤ w1.heap.size + 1; omega) _) (by show w1.heap.size ≤ w1.heap.size + 1; omega) _, Lib.hid ⟨cell_far (cell_far r0' (addr_ne (by omega)) _) (addr_ne (by omega)) _, cell_far (cell_far r1' (addr_ne (by omega)) _) (addr_ne (by omega)) _, ?_, ?_⟩, Lib.hid (by rw [HW.out]; exact HV2.out)⟩, by simp [intOf]; omega⟩
        · rw [World.frozen?_setCell, World.frozen?_setCell]; exact r0f'
        · rw [World.frozen?_setCell, World.frozen?_setCell]; exact r1f'
    · obtain rfl : t = m := by omega
      have hp := Lib.hid (HI0.out.put2 r0 r1)
      go_wp2
      refine bodyPost_ret (v := .agg #[.bool n0, .slice a0 ln0 c0]) (by simp [results, Tryz.results139, go_sem, *]) rfl ⟨⟨_, rfl, hp.out _ _⟩, ?_⟩
      repeat (first|exact bzR _ _|exact hBr|refine bzD ?_|refine bzN ?_|refine bzS ?_|refine bzA ?_)
end Go.Proofs.YtbmaffijncapiaaGreatDoor

/- Fractions, in plain Lean: how core's reckon in whole numbers; their bits. -/
namespace Go.Proofs.YtbmaffijncapiaaGreatDoor
open Num
set_option linter.unusedVariables false
set_option linter.unusedSimpArgs false
theorem bd_edv {k : Nat} {x : Int} (h : Bd k x) (c : Int) : Bd k (x / c) := Nat.lt_of_le_of_lt (Int.natAbs_ediv_le_natAbs x c) h
def BdQ (k : Nat) (q : Rat) : Prop := Bd k q.num ∧ Bd k (q.den : Int)
theorem gcdI_sym (x y : Int) : gcdI x y = ((y.gcd x : Nat) : Int) := by unfold gcdI Int.gcd; rw [Nat.gcd_comm]
theorem dq_num {n d : Int} (hd : 0 < d) : (Rat.divInt n d).num = n / gcdI n d := by
  rw [Rat.num_divInt, Int.sign_eq_one_of_pos hd, Int.one_mul, gcdI_sym]
theorem dq_den {n d : Int} (hd : 0 < d) : ((Rat.divInt n d).den : Int) = d / gcdI n d := by
  rw [Rat.den_divInt, if_neg (by omega), gcdI_sym, Int.natCast_ediv, Int.natAbs_of_nonneg (by omega)]
theorem den_pos (q : Rat) : (0 : Int) < q.den := by have := q.den_pos; omega
theorem q_self (q : Rat) : Rat.divInt q.num q.den = q := Rat.num_divInt_den q
theorem q_add (x y : Rat) : x + y = Rat.divInt (x.num * y.den + y.num * x.den) (x.den * y.den) := by
  conv => lhs; rw [← q_self x, ← q_self y]
  exact Rat.divInt_add_divInt _ _ (by have := den_pos x; omega) (by have := den_pos y; omega)
theorem q_mul (x y : Rat) : x * y = Rat.divInt (x.num * y.num) (x.den * y.den) := by
  conv => lhs; rw [← q_self x, ← q_self y]
  exact Rat.divInt_mul_divInt _ _
theorem q_div (x y : Rat) : x / y = Rat.divInt (x.num * y.den) (x.den * y.num) := by
  conv => lhs; rw [Rat.div_def, ← q_self x, ← q_self y, Rat.inv_divInt]
  exact Rat.divInt_mul_divInt _ _
theorem divInt_swap {n d : Int} (hd : d < 0) : Rat.divInt n d = Rat.divInt (-n) (-d) := by
  rw [Rat.divInt_eq_div, Rat.divInt_eq_div]; rw [Rat.intCast_neg, Rat.intCast_neg]
  have : (d : Rat) ≠ 0 := fun e => by have := Rat.intCast_inj.1 (e.trans Rat.intCast_zero.symm); omega
  grind
theorem dq_bd {n d : Int} {k : Nat} (h0 : d ≠ 0) (bn : Bd k n) (bd : Bd k d) : BdQ k (Rat.divInt n d) := by
  rcases Int.lt_or_lt_of_ne h0 with h | h
  · rw [divInt_swap h]
    refine ⟨?_, ?_⟩
    · rw [dq_num (by omega)]; refine bd_edv ?_ _; unfold Bd at *; rwa [Int.natAbs_neg]
    · rw [dq_den (by omega)]; refine bd_edv ?_ _; unfold Bd at *; rwa [Int.natAbs_neg]
  · exact ⟨by rw [dq_num h]; exact bd_edv bn _, by rw [dq_den h]; exact bd_edv bd _⟩
theorem whole_num (z : Int) : ((z : Rat)).num = z ∧ ((z : Rat)).den = 1 := ⟨Rat.num_intCast z, Rat.den_intCast z⟩
theorem num_ne {y : Rat} (h : y ≠ 0) : y.num ≠ 0 := fun e => h (Rat.num_eq_zero.1 e)
theorem BdQ.mono {k m : Nat} {q : Rat} (h : BdQ k q) (hk : k ≤ m) : BdQ m q := ⟨h.1.mono hk, h.2.mono hk⟩
theorem BdQ.add {k m : Nat} {x y : Rat} (h : BdQ k x) (h' : BdQ m y) : BdQ (k + m + 1) (x + y) := by
  rw [q_add]
  refine dq_bd (by have := den_pos x; have := den_pos y; exact Int.ne_of_gt (Int.mul_pos ‹_› ‹_›)) ?_ ((h.2.mul h'.2).mono (by omega))
  have h1 := h.1.mul h'.2
  have h2 := h'.1.mul h.2
  rw [Nat.add_comm m k] at h2
  exact h1.add h2
theorem BdQ.mul {k m : Nat} {x y : Rat} (h : BdQ k x) (h' : BdQ m y) : BdQ (k + m) (x * y) := by
  rw [q_mul]
  exact dq_bd (by have := den_pos x; have := den_pos y; exact Int.ne_of_gt (Int.mul_pos ‹_› ‹_›)) (h.1.mul h'.1) (h.2.mul h'.2)
theorem BdQ.div {k m : Nat} {x y : Rat} (h : BdQ k x) (h' : BdQ m y) (h0 : y ≠ 0) : BdQ (k + m) (x / y) := by
  rw [q_div]
  exact dq_bd (Int.mul_ne_zero (by have := den_pos x; omega) (num_ne h0)) (h.1.mul h'.2) (h.2.mul h'.1)
theorem BdQ.neg {k : Nat} {x : Rat} (h : BdQ k x) : BdQ k (-x) := by
  refine ⟨?_, ?_⟩
  · rw [Rat.neg_num]; have := h.1; unfold Bd at *; rwa [Int.natAbs_neg]
  · rw [Rat.neg_den]; exact h.2
theorem BdQ.sub {k m : Nat} {x y : Rat} (h : BdQ k x) (h' : BdQ m y) : BdQ (k + m + 1) (x - y) := by
  rw [Rat.sub_eq_add_neg]; exact h.add h'.neg
theorem BdQ.whole {k : Nat} {z : Int} (h : Bd k z) (hk : 1 ≤ k) : BdQ k (z : Rat) := by
  refine ⟨by rw [(whole_num z).1]; exact h, ?_⟩
  rw [(whole_num z).2]
  exact Nat.lt_of_lt_of_le (by decide : ((1 : Nat) : Int).natAbs < 2 ^ 1) (Nat.pow_le_pow_right (by omega) hk)
end Go.Proofs.YtbmaffijncapiaaGreatDoor

/- Elimination by fractions (each column is cleared but for one row), in plain Lean: the mirror of the reference's; determinants and what is solved. -/
set_option linter.unusedVariables false
set_option linter.unusedSimpArgs false
namespace Det
def clr (l : M) (k j : Nat) : M := fun r c => if r = k then l k c / l k j else l r c - l r j * (l k c / l k j)
def frQ (l : M) (j : Nat) : Nat → Nat → Nat
  | 0, i => i
  | d + 1, i => if l i j = 0 then frQ l j d (i + 1) else i
theorem frQ_ge (g : M) (j : Nat) : ∀ d i, i ≤ frQ g j d i ∧ frQ g j d i ≤ i + d := by
  intro d
  induction d with
  | zero => intro i; simp [frQ]
  | succ d ih =>
    intro i; unfold frQ; split
    · have := ih (i + 1); omega
    · omega
theorem frQ_zero (g : M) (j : Nat) : ∀ d i t, i ≤ t → t < frQ g j d i → g t j = 0 := by
  intro d
  induction d with
  | zero => intro i t h1 h2; simp [frQ] at h2; omega
  | succ d ih =>
    intro i t h1 h2
    unfold frQ at h2
    split at h2
    · by_cases e : t = i
      · subst e; assumption
      · exact ih (i + 1) t (by omega) h2
    · omega
theorem frQ_at (g : M) (j : Nat) : ∀ d i, frQ g j d i < i + d → g (frQ g j d i) j ≠ 0 := by
  intro d
  induction d with
  | zero => intro i h; simp [frQ] at h
  | succ d ih =>
    intro i h
    unfold frQ at h ⊢
    split
    · rename_i e
      rw [if_pos e] at h
      exact ih (i + 1) (by omega)
    · assumption
theorem det_clr {n k j : Nat} (l : M) (hk : k < n) (hp : l k j ≠ 0) : l k j * det n (clr l k j) = det n l := by
  have h1 : det n (clr l k j) = det n (cl (upd l k fun c => (1 / l k j) * l k c) k (fun r => - l r j) n) := det_congr fun r c hr hc => by
    unfold clr cl upd
    by_cases e : r = k
    · subst e; simp; grind
    · rw [if_neg e, if_pos ⟨hr, e⟩, if_neg e, if_pos rfl]; grind
  rw [h1, (det_alt n).clear _ k _ hk n (Nat.le_refl _), (det_alt n).mul l k (l k) (1 / l k j) hk, upd_self]
  grind
def Unit (n j : Nat) (l : M) : Prop := ∀ r c, r < n → c < j → l r c = if r = c then 1 else 0
theorem Unit.swap {n j i : Nat} {l : M} (h : Unit n j l) (h1 : j ≤ i) (h2 : i < n) : Unit n j (swap l i j) := fun r c hr hc => by
  have a := h i c h2 hc
  have b := h j c (by omega) hc
  have d := h r c hr hc
  rw [if_neg (by omega)] at a b
  unfold Det.swap upd
  by_cases e : r = j
  · rw [if_pos e, a, if_neg (by omega)]
  · rw [if_neg e]
    by_cases e2 : r = i
    · rw [if_pos e2, b, if_neg (by omega)]
    · rw [if_neg e2]; exact d
theorem Unit.clr {n j : Nat} {l : M} (h : Unit n j l) (hj : j < n) (hp : l j j ≠ 0) : Unit n (j + 1) (clr l j j) := fun r c hr hc => by
  unfold Det.clr
  by_cases e : c = j
  · subst e
    by_cases e2 : r = c
    · subst e2; rw [if_pos rfl, if_pos rfl]; grind
    · rw [if_neg e2, if_neg e2]; grind
  · have a := h j c hj (by omega)
    rw [if_neg (by omega)] at a
    by_cases e2 : r = j
    · subst e2; rw [if_pos rfl, a, if_neg (by omega)]; grind
    · rw [if_neg e2, h r c hr (by omega), a]; grind
structure JS where
  l : M
  d : Rat
def jdNext (s : JS) (i j : Nat) : JS := ⟨clr (swap s.l i j) j j, (if i = j then s.d else - s.d) * swap s.l i j j j⟩
def jdR (n : Nat) (a : M) : Nat → Option JS
  | 0 => some ⟨a, 1⟩
  | j + 1 => (jdR n a j).bind fun s => if frQ s.l j (n - j) j = n then none else some (jdNext s (frQ s.l j (n - j) j) j)
theorem swap_self (l : M) (j : Nat) : swap l j j = l := by funext r c; unfold swap upd; grind
theorem swap_piv (l : M) (i j c : Nat) : swap l i j j c = l i c := by unfold swap upd; grind
theorem jd_det {n : Nat} {a : M} : ∀ j, j ≤ n → ∀ s, jdR n a j = some s → det n a = s.d * det n s.l ∧ Unit n j s.l := by
  intro j
  induction j with
  | zero => intro _ s h; cases h; exact ⟨by grind, fun r c _ hc => by omega⟩
  | succ j ih =>
    intro hj s h
    unfold jdR at h
    obtain ⟨s1, h1, h2⟩ := Option.bind_eq_some_iff.1 h
    obtain ⟨k1, k2⟩ := ih (by omega) s1 h1
    have hge := frQ_ge s1.l j (n - j) j
    have hat := frQ_at s1.l j (n - j) j
    obtain ⟨i, hi⟩ : ∃ i, frQ s1.l j (n - j) j = i := ⟨_, rfl⟩
    rw [hi] at h2 hge hat
    by_cases e : i = n
    · rw [if_pos e] at h2; cases h2
    rw [if_neg e] at h2
    cases h2
    have hp : swap s1.l i j j j ≠ 0 := by rw [swap_piv]; exact hat (by omega)
    have hc := det_clr (n := n) (swap s1.l i j) (show j < n by omega) hp
    refine ⟨?_, (k2.swap hge.1 (by omega)).clr (by omega) hp⟩
    show det n a = (if i = j then s1.d else - s1.d) * swap s1.l i j j j * det n (clr (swap s1.l i j) j j)
    rw [Rat.mul_assoc, hc, k1]
    by_cases e2 : i = j
    · subst e2; rw [if_pos rfl, swap_self]
    · rw [if_neg e2, (det_alt n).swapped s1.l i j (by omega) (by omega) e2]; grind
theorem jd_none {n j : Nat} {a : M} {s : JS} (hj : j < n) (h : jdR n a j = some s) (hz : frQ s.l j (n - j) j = n) : det n a = 0 := by
  obtain ⟨k1, k2⟩ := jd_det j (by omega) s h
  have hfz := frQ_zero s.l j (n - j) j
  rw [hz] at hfz
  rw [k1, (det_alt n).flat (n - (j + 1)) s.l j (j + 1) (by omega) (by omega) hj fun r c h1 h2 h3 => ?_]
  · grind
  · by_cases e : c = j
    · subst e; exact hfz r h1 h2
    · rw [k2 r c h2 (by omega), if_neg (by omega)]
theorem jd_end {n : Nat} {a : M} {s : JS} (h : jdR n a n = some s) : det n a = s.d := by
  obtain ⟨k1, k2⟩ := jd_det n (Nat.le_refl _) s h
  rw [k1, det_congr (b := I) fun i j hi hj => k2 i j hi hj, det_I]
  grind
end Det

/- Arguments as they come in, whatever their bulk: rows of int64, each of which lies in memory. -/
namespace Go.Proofs.YtbmaffijncapiaaGreatDoor
open Go.ChangeShapes Go.WideShapes Go.ChangeAt Go.RowKit Go.Joins Go.Deep
set_option linter.unusedVariables false
set_option linter.unusedSimpArgs false
section
variable {H : Type} {enc : TypeId × Value → H} {W : World} {b0 : Nat} {r : Reach} {v : Value} {d : DataW H} {p : List MemPlace}
end
end Go.Proofs.YtbmaffijncapiaaGreatDoor

/- An int that came in. -/
namespace Go.Proofs.YtbmaffijncapiaaGreatDoor
open Go.ChangeShapes Go.WideShapes Go.ChangeAt Go.RowKit Go.Joins Go.Deep
set_option maxRecDepth 100000
theorem open_i64 {H : Type} {enc : TypeId × Value → H} {W : World} {base b0 : Nat} {r : Reach} {spare : Nat → Bool} {held : Bool} {v : Value} {d : DataW H} {p : List MemPlace}
    (hv : Value.okWide Tryz.prog W r b0 3 v) (h : DataW.Trod enc Tryz.prog W base spare held 3 v d p) :
    ∃ a : Int, v = .int .i64 a ∧ (Lit.int .i64 a).wf = true := by
  obtain ⟨x, rfl, rfl, rfl, wx⟩ := open_int Tryz.underlying3 hv h
  exact ⟨x, rfl, wx⟩
end Go.Proofs.YtbmaffijncapiaaGreatDoor

