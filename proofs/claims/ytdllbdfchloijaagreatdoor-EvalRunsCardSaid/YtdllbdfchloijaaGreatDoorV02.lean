/- Texts of this seat, laid together: Det, Bar, Bel, Bed, Van, Poly, ScP, LimbA, App, PrgA, Tz. Each opens with its own remark, which says what it proves, and under which conditions. -/
import Derived.Test.YtdllbdfchloijaaGreatDoorV01
import Derived.Laws.CopyOwn
import Derived.LaidLaws
import Derived.Lib.LaidTab
set_option linter.unusedVariables false
set_option linter.unusedSimpArgs false
/- Determinants, in plain Lean (over Rat): what is linear in each row and nought where two are alike is the determinant times a number; products, what is turned; by any column; the adjugate. -/
set_option linter.unusedVariables false
set_option linter.unusedSimpArgs false
namespace Det
abbrev M := Nat → Nat → Rat
/-- the sum of the first n -/
def sum (n : Nat) (f : Nat → Rat) : Rat := match n with
  | 0 => 0
  | n + 1 => sum n f + f n
/-- the sign of a place -/
def sg (i : Nat) : Rat := if i % 2 = 0 then 1 else -1
/-- without a row, and without the first column -/
def skip (i k : Nat) : Nat := if k < i then k else k + 1
def minor (m : M) (i : Nat) : M := fun r c => m (skip i r) (c + 1)
/-- the determinant of the first n rows and columns -/
def det : Nat → M → Rat
  | 0, _ => 1
  | n + 1, m => sum (n + 1) fun i => sg i * m i 0 * det n (minor m i)
theorem sum_congr {n : Nat} {f g : Nat → Rat} (h : ∀ i, i < n → f i = g i) : sum n f = sum n g := by
  induction n with
  | zero => rfl
  | succ n ih => simp only [sum]; rw [ih fun i hi => h i (by omega), h n (by omega)]
theorem sum_zero {n : Nat} {f : Nat → Rat} (h : ∀ i, i < n → f i = 0) : sum n f = 0 := by
  induction n with
  | zero => rfl
  | succ n ih => simp only [sum]; rw [ih fun i hi => h i (by omega), h n (by omega)]; grind
theorem sum_add (n : Nat) (f g : Nat → Rat) : sum n (fun i => f i + g i) = sum n f + sum n g := by
  induction n with
  | zero => simp only [sum]; grind
  | succ n ih => simp only [sum]; rw [ih]; grind
theorem sum_mul (n : Nat) (f : Nat → Rat) (c : Rat) : sum n (fun i => c * f i) = c * sum n f := by
  induction n with
  | zero => simp [sum]
  | succ n ih => simp only [sum]; rw [ih]; grind
/-- two terms alone -/
theorem sum_two {n i j : Nat} {f : Nat → Rat} (hi : i < n) (hj : j < n) (hij : i ≠ j) (h : ∀ k, k < n → k ≠ i → k ≠ j → f k = 0) : sum n f = f i + f j := by
  induction n with
  | zero => omega
  | succ n ih =>
    simp only [sum]
    by_cases e1 : i = n
    · subst e1
      have : sum i f = f j := by
        clear ih
        have key : ∀ m, j < m → m ≤ i → sum m f = f j := by
          intro m
          induction m with
          | zero => intro h1; omega
          | succ m ih2 =>
            intro h1 h2
            simp only [sum]
            by_cases e : j = m
            · subst e
              rw [sum_zero fun k hk => h k (by omega) (by omega) (by omega)]; grind
            · rw [ih2 (by omega) (by omega), h m (by omega) (by omega) (by omega)]; grind
        exact key i (by omega) (Nat.le_refl _)
      rw [this]; grind
    · by_cases e2 : j = n
      · subst e2
        have key : ∀ m, i < m → m ≤ j → sum m f = f i := by
          intro m
          induction m with
          | zero => intro h1; omega
          | succ m ih2 =>
            intro h1 h2
            simp only [sum]
            by_cases e : i = m
            · subst e
              rw [sum_zero fun k hk => h k (by omega) (by omega) (by omega)]; grind
            · rw [ih2 (by omega) (by omega), h m (by omega) (by omega) (by omega)]; grind
        rw [key j (by omega) (Nat.le_refl _)]
      · rw [ih (by omega) (by omega) fun k hk => h k (by omega), h n (by omega) (by omega) (by omega)]; grind
theorem det_congr {n : Nat} : ∀ {a b : M}, (∀ i j, i < n → j < n → a i j = b i j) → det n a = det n b := by
  induction n with
  | zero => intro a b _; rfl
  | succ n ih =>
    intro a b h
    refine sum_congr fun i hi => ?_
    rw [h i 0 hi (by omega), ih (a := minor a i) (b := minor b i) fun r c hr hc => ?_]
    unfold minor
    refine h _ _ ?_ (by omega)
    unfold skip; split <;> omega
/-- row r is replaced -/
def upd (m : M) (r : Nat) (f : Nat → Rat) : M := fun i j => if i = r then f j else m i j
/-- the row of a minor that was row r -/
def down (i r : Nat) : Nat := if r < i then r else r - 1
theorem minor_upd {m : M} {r i : Nat} {f : Nat → Rat} (h : i ≠ r) : minor (upd m r f) i = upd (minor m i) (down i r) (fun j => f (j + 1)) := by
  funext x y
  simp only [minor, upd, skip, down]
  grind
theorem minor_upd_same {m : M} {r : Nat} {f : Nat → Rat} : minor (upd m r f) r = minor m r := by
  funext x y
  unfold minor upd skip
  split <;> rw [if_neg (by omega)]
/-- linear in each row -/
theorem det_lin {n : Nat} : ∀ {m : M} {r : Nat} {f g : Nat → Rat} {a b : Rat}, r < n → det n (upd m r fun j => a * f j + b * g j) = a * det n (upd m r f) + b * det n (upd m r g) := by
  induction n with
  | zero => intro m r f g a b h; omega
  | succ n ih =>
    intro m r f g a b h
    simp only [det]
    rw [← sum_mul, ← sum_mul, ← sum_add]
    refine sum_congr fun i hi => ?_
    by_cases e : i = r
    · subst e
      rw [minor_upd_same, minor_upd_same, minor_upd_same]
      simp only [upd, if_true]; grind
    · rw [minor_upd e, minor_upd e, minor_upd e, ih (by unfold down; split <;> omega)]
      simp only [upd, if_neg e]; grind
/-- nought, where two rows, one behind the other, are alike -/
theorem det_adj {n : Nat} : ∀ {m : M} {r : Nat}, r + 1 < n → (∀ j, m r j = m (r + 1) j) → det n m = 0 := by
  induction n with
  | zero => intro m r h; omega
  | succ n ih =>
    intro m r h he
    simp only [det]
    rw [sum_two (i := r) (j := r + 1) (by omega) h (by omega) fun k hk h1 h2 => ?_]
    · have : minor m r = minor m (r + 1) := by
        funext x y
        unfold minor skip
        by_cases e1 : x < r
        · rw [if_pos e1, if_pos (by omega)]
        · rw [if_neg e1]
          by_cases e2 : x < r + 1
          · rw [if_pos e2]
            obtain rfl : x = r := by omega
            exact (he (y + 1)).symm
          · rw [if_neg e2]
      rw [this, he 0]
      have : sg (r + 1) = - sg r := by unfold sg; split <;> split <;> first | omega | grind
      rw [this]; grind
    · have : det n (minor m k) = 0 := by
        refine ih (r := down k r) (by unfold down; split <;> omega) fun j => ?_
        unfold minor skip down
        by_cases e : r < k
        · rw [if_pos e, if_pos e, if_pos (by omega)]; exact he (j + 1)
        · rw [if_neg e, if_neg (by omega), if_neg (by omega), show r - 1 + 1 = r by omega]; exact he (j + 1)
      rw [this]; grind
/-- what is linear in each of n rows, and nought where two of them are alike -/
structure Alt (n : Nat) (f : M → Rat) : Prop where
  congr : ∀ a b : M, (∀ i j, i < n → j < n → a i j = b i j) → f a = f b
  lin : ∀ (m : M) (r : Nat) (g h : Nat → Rat) (a b : Rat), r < n → f (upd m r fun j => a * g j + b * h j) = a * f (upd m r g) + b * f (upd m r h)
  adj : ∀ (m : M) (r : Nat), r + 1 < n → (∀ j, m r j = m (r + 1) j) → f m = 0
theorem det_alt (n : Nat) : Alt n (det n) := ⟨fun _ _ h => det_congr h, fun _ _ _ _ _ _ h => det_lin h, fun _ _ h he => det_adj h he⟩
theorem upd_self (m : M) (r : Nat) : upd m r (m r) = m := by funext i j; unfold upd; split <;> simp_all
theorem upd_comm (m : M) (r s : Nat) (f g : Nat → Rat) (h : r ≠ s) : upd (upd m r f) s g = upd (upd m s g) r f := by funext i j; unfold upd; grind
/-- two rows change places -/
def swap (m : M) (r s : Nat) : M := upd (upd m r (m s)) s (m r)
section
variable {n : Nat} {f : M → Rat}
theorem Alt.add (h : Alt n f) (m : M) (r : Nat) (u v : Nat → Rat) (hr : r < n) : f (upd m r fun j => u j + v j) = f (upd m r u) + f (upd m r v) := by
  have := h.lin m r u v 1 1 hr
  simp only [Rat.one_mul] at this
  exact this
theorem Alt.mul (h : Alt n f) (m : M) (r : Nat) (u : Nat → Rat) (c : Rat) (hr : r < n) : f (upd m r fun j => c * u j) = c * f (upd m r u) := by
  have := h.lin m r u u c 0 hr
  have e : (fun j => c * u j + 0 * u j) = fun j => c * u j := by funext j; grind
  rw [e] at this
  grind
theorem Alt.zero (h : Alt n f) (m : M) (r : Nat) (hr : r < n) (hz : ∀ j, j < n → m r j = 0) : f m = 0 := by
  have h1 : f m = f (upd m r fun j => 0 * m r j) := h.congr _ _ fun i j hi hj => by
    unfold upd
    split
    · rename_i e; subst e; rw [hz j hj]; grind
    · rfl
  rw [h1, h.mul m r (m r) 0 hr]; grind
theorem Alt.pair (h : Alt n f) (m : M) (r : Nat) (u v : Nat → Rat) (hr : r + 1 < n) : f (upd (upd m r v) (r + 1) u) = - f (upd (upd m r u) (r + 1) v) := by
  have X : ∀ a b c : Nat → Rat, f (upd (upd m r fun j => a j + b j) (r + 1) c) = f (upd (upd m r a) (r + 1) c) + f (upd (upd m r b) (r + 1) c) := fun a b c => by
    rw [upd_comm _ _ _ _ _ (by omega), upd_comm _ _ _ a _ (by omega), upd_comm _ _ _ b _ (by omega)]
    exact h.add _ _ _ _ (by omega)
  have Z : ∀ a : Nat → Rat, f (upd (upd m r a) (r + 1) a) = 0 := fun a => h.adj _ r hr fun j => by unfold upd; grind
  have h1 := Z fun j => u j + v j
  rw [X, h.add _ _ _ _ hr, h.add _ _ _ _ hr, Z, Z] at h1
  grind
theorem Alt.swap_adj (h : Alt n f) (m : M) (r : Nat) (hr : r + 1 < n) : f (swap m r (r + 1)) = - f m := by
  have := h.pair m r (m r) (m (r + 1)) hr
  unfold swap
  rw [this, upd_self]
  congr 2
  funext i j
  unfold upd
  grind
/-- nought, where any two rows are alike -/
theorem Alt.eq (h : Alt n f) : ∀ (d : Nat) (m : M) (r : Nat), r + d + 1 < n → (∀ j, m r j = m (r + d + 1) j) → f m = 0 := by
  intro d
  induction d with
  | zero => intro m r hr he; exact h.adj m r hr he
  | succ d ih =>
    intro m r hr he
    have h1 := h.swap_adj m (r + d + 1) (by omega)
    have h2 : f (swap m (r + d + 1) (r + d + 1 + 1)) = 0 := ih _ r (by omega) fun j => by
      unfold swap upd
      have := he j
      grind
    grind
theorem Alt.same (h : Alt n f) (m : M) (r s : Nat) (hr : r < n) (hs : s < n) (hne : r ≠ s) (he : ∀ j, m r j = m s j) : f m = 0 := by
  rcases Nat.lt_or_gt_of_ne hne with h1 | h1
  · obtain ⟨d, rfl⟩ : ∃ d, s = r + d + 1 := ⟨s - r - 1, by omega⟩
    exact h.eq d m r hs he
  · obtain ⟨d, rfl⟩ : ∃ d, r = s + d + 1 := ⟨r - s - 1, by omega⟩
    exact h.eq d m s hr fun j => (he j).symm
/-- a multiple of one row, added to another -/
theorem Alt.addmul (h : Alt n f) (m : M) (r s : Nat) (c : Rat) (hr : r < n) (hs : s < n) (hne : r ≠ s) : f (upd m r fun j => m r j + c * m s j) = f m := by
  rw [h.add m r (m r) (fun j => c * m s j) hr, h.mul m r (m s) c hr, upd_self, h.same (upd m r (m s)) r s hr hs hne (fun j => by unfold upd; grind)]
  grind
/-- two rows change places -/
theorem Alt.swapped (h : Alt n f) (m : M) (r s : Nat) (hr : r < n) (hs : s < n) (hne : r ≠ s) : f (swap m r s) = - f m := by
  have X : ∀ a b c : Nat → Rat, f (upd (upd m r fun j => a j + b j) s c) = f (upd (upd m r a) s c) + f (upd (upd m r b) s c) := fun a b c => by
    rw [upd_comm _ _ _ _ _ hne, upd_comm _ _ _ a _ hne, upd_comm _ _ _ b _ hne]
    exact h.add _ _ _ _ hr
  have Z : ∀ a : Nat → Rat, f (upd (upd m r a) s a) = 0 := fun a => h.same _ r s hr hs hne fun j => by unfold upd; grind
  have h1 := Z fun j => m r j + m s j
  rw [X, h.add _ _ _ _ hs, h.add _ _ _ _ hs, Z, Z] at h1
  have h2 : upd (upd m r (m r)) s (m s) = m := by rw [upd_self, upd_self]
  unfold swap
  rw [h2] at h1
  grind
/-- multiples of row k, added to the other rows (below t) -/
def cl (m : M) (k : Nat) (g : Nat → Rat) (t : Nat) : M := fun i j => if i < t ∧ i ≠ k then m i j + g i * m k j else m i j
theorem Alt.clear (h : Alt n f) (m : M) (k : Nat) (g : Nat → Rat) (hk : k < n) : ∀ t, t ≤ n → f (cl m k g t) = f m := by
  intro t
  induction t with
  | zero =>
    intro _
    have : cl m k g 0 = m := by funext i j; unfold cl; rw [if_neg (by omega)]
    rw [this]
  | succ t ih =>
    intro ht
    by_cases e : t = k
    · rw [← ih (by omega)]
      congr 1
      funext i j
      unfold cl
      grind
    · rw [← ih (by omega), ← h.addmul (cl m k g t) t k (g t) (by omega) hk e]
      congr 1
      funext i j
      unfold upd cl
      grind
/-- nought, where the rows from k on have noughts alone in more than k columns -/
theorem Alt.flat (h : Alt n f) : ∀ (d : Nat) (m : M) (k c : Nat), c + d = n → k + 1 ≤ c → k < n → (∀ i j, k ≤ i → i < n → j < c → m i j = 0) → f m = 0 := by
  intro d
  induction d with
  | zero =>
    intro m k c hc hk hkn hz
    exact h.zero m k hkn fun j hj => hz k j (Nat.le_refl _) hkn (by omega)
  | succ d ih =>
    intro m k c hc hk hkn hz
    by_cases hex : ∃ i, k ≤ i ∧ i < n ∧ m i c ≠ 0
    · obtain ⟨i, h1, h2, h3⟩ := hex
      have key : ∀ m1 : M, m1 k c ≠ 0 → (∀ i j, k ≤ i → i < n → j < c → m1 i j = 0) → f m1 = 0 := fun m1 hp hz1 => by
        rw [← h.clear m1 k (fun r => if k < r then - (m1 r c / m1 k c) else 0) hkn n (Nat.le_refl _)]
        refine ih _ (k + 1) (c + 1) (by omega) (by omega) (by omega) fun i j hi hin hj => ?_
        unfold cl
        rw [if_pos ⟨hin, by omega⟩]
        dsimp only
        rw [if_pos (by omega)]
        by_cases e : j = c
        · subst e; grind
        · rw [hz1 i j (by omega) hin (by omega), hz1 k j (Nat.le_refl _) hkn (by omega)]; grind
      by_cases e : i = k
      · subst e; exact key m h3 hz
      · have := h.swapped m k i hkn h2 (fun h => e h.symm)
        have h0 := key (swap m k i) (by unfold swap upd; grind) fun a b ha han hb => by
          have q1 := hz k b (Nat.le_refl _) hkn hb
          have q2 := hz i b h1 h2 hb
          have q3 := hz a b ha han hb
          unfold swap upd; grind
        grind
    · refine ih m k (c + 1) (by omega) (by omega) hkn fun i j hi hin hj => ?_
      by_cases e : j = c
      · subst e
        exact Classical.byContradiction fun hne => hex ⟨i, hi, hin, hne⟩
      · exact hz i j hi hin (by omega)
end
/-- ones where row and column are the same -/
def I : M := fun i j => if i = j then 1 else 0
theorem det_I (n : Nat) : det n I = 1 := by
  induction n with
  | zero => rfl
  | succ n ih =>
    have h1 : ∀ i, i < n + 1 → sg i * I i 0 * det n (minor I i) = if i = 0 then 1 else 0 := fun i hi => by
      by_cases e : i = 0
      · subst e
        have : minor I 0 = I := by funext a b; simp only [minor, skip, I]; grind
        rw [this, ih]
        simp [sg, I]
      · rw [if_neg e]
        have : I i 0 = 0 := by unfold I; rw [if_neg e]
        rw [this]; grind
    have h2 : ∀ m, sum (m + 1) (fun i => if i = 0 then (1 : Rat) else 0) = 1 := by
      intro m
      induction m with
      | zero => simp [sum]; grind
      | succ m ih2 => rw [sum, ih2]; simp; grind
    rw [det, sum_congr h1, h2]
/-- what is linear in each row, and nought where two are alike, is the determinant times a number -/
theorem Alt.uniq {n : Nat} {f : M → Rat} (h : Alt n f) : ∀ (d : Nat) (m : M) (k : Nat), k + d = n → (∀ i j, i < n → j < k → m i j = I i j) → f m = f I * det n m := by
  intro d
  induction d with
  | zero =>
    intro m k hk he
    obtain rfl : k = n := by omega
    rw [h.congr m I he, det_congr he, det_I]; grind
  | succ d ih =>
    intro m k hk he
    have hkn : k < n := by omega
    by_cases hex : ∃ i, k ≤ i ∧ i < n ∧ m i k ≠ 0
    · obtain ⟨i, h1, h2, h3⟩ := hex
      have key : ∀ m1 : M, m1 k k ≠ 0 → (∀ i j, i < n → j < k → m1 i j = I i j) → f m1 = f I * det n m1 := fun m1 hp he1 => by
        have sc : ∀ F : M → Rat, Alt n F → F m1 = m1 k k * F (cl (upd m1 k fun j => (m1 k k)⁻¹ * m1 k j) k (fun r => - m1 r k) n) := fun F hF => by
          rw [hF.clear _ k _ hkn n (Nat.le_refl _), hF.mul m1 k (m1 k) _ hkn, upd_self]
          grind
        rw [sc f h, sc (det n) (det_alt n), ih _ (k + 1) (by omega) fun i j hi hj => ?_]
        · grind
        · have q1 := he1 i j hi
          have q2 := he1 k j hkn
          unfold cl upd I at *
          by_cases e : j = k
          · subst e; grind
          · have q1 := q1 (by omega)
            have q2 := q2 (by omega)
            grind
      by_cases e : i = k
      · subst e; exact key m h3 he
      · have s1 := h.swapped m k i hkn h2 (fun h => e h.symm)
        have s2 := (det_alt n).swapped m k i hkn h2 (fun h => e h.symm)
        have h0 := key (swap m k i) (by unfold swap upd; grind) fun a b ha hb => by
          have q1 := he k b hkn hb
          have q2 := he i b h2 hb
          have q3 := he a b ha hb
          unfold swap upd I at *; grind
        grind
    · have hz : ∀ i j, k ≤ i → i < n → j < k + 1 → m i j = 0 := fun i j hi hin hj => by
        by_cases e : j = k
        · subst e; exact Classical.byContradiction fun hne => hex ⟨i, hi, hin, hne⟩
        · rw [he i j hin (by omega)]; unfold I; rw [if_neg (by omega)]
      rw [h.flat d m k (k + 1) (by omega) (Nat.le_refl _) hkn hz, (det_alt n).flat d m k (k + 1) (by omega) (Nat.le_refl _) hkn hz]; grind
theorem Alt.det {n : Nat} {f : M → Rat} (h : Alt n f) (m : M) : f m = f I * Det.det n m := h.uniq n m 0 (by omega) fun i j _ hj => by omega
/-- the product -/
def mul (n : Nat) (a b : M) : M := fun i j => sum n fun k => a i k * b k j
/-- without row a, and without column b -/
def min2 (m : M) (a b : Nat) : M := fun r c => m (skip a r) (skip b c)
/-- the adjugate of n + 1 rows and columns -/
def adj (n : Nat) (m : M) : M := fun i j => sg (i + j) * det n (min2 m j i)
end Det

/- Elimination without fractions, in plain Lean: minors, what is left behind k rows (Sylvester's identity). -/
set_option linter.unusedVariables false
set_option linter.unusedSimpArgs false
namespace Det
def nc (k : Nat) (t : M) : M := fun i j => t i (if j = k then k + 1 else j)
end Det

/- Elimination without fractions, in plain Lean: the mirror of the program's, and what its numbers are: minors. -/
set_option linter.unusedVariables false
set_option linter.unusedSimpArgs false
namespace Det
/-- rows i and k change places -/
def swp (g : Nat → Nat → Int) (i k : Nat) : Nat → Nat → Int := fun r c => if r = i then g k c else if r = k then g i c else g r c
/-- the first of d rows from i on that has something in the column j -/
def fr (g : Nat → Nat → Int) (j : Nat) : Nat → Nat → Nat
  | 0, i => i
  | d + 1, i => if g i j = 0 then fr g j d (i + 1) else i
structure El where
  g : Nat → Nat → Int
  p : List Nat
  last : Int
  sign : Int
def q2 (q : Nat → Nat) (i k : Nat) : Nat → Nat := fun r => if r = i then q k else if r = k then q i else q r
end Det

/- Elimination without fractions, in plain Lean: the determinant, the rank, of what is turned too. -/
set_option linter.unusedVariables false
set_option linter.unusedSimpArgs false
namespace Det
/-- sums of whole numbers -/
def isum (n : Nat) (f : Nat → Int) : Int := match n with
  | 0 => 0
  | n + 1 => isum n f + f n
theorem isum_congr {n : Nat} {f g : Nat → Int} (h : ∀ i, i < n → f i = g i) : isum n f = isum n g := by
  induction n with
  | zero => rfl
  | succ n ih => simp only [isum]; rw [ih fun i hi => h i (by omega), h n (by omega)]
end Det

/- The determinant of powers of points (two coordinates each), in plain Lean. -/
set_option linter.unusedVariables false
set_option linter.unusedSimpArgs false
namespace Det
theorem pow_succ' (x : Rat) (k : Nat) : x ^ (k + 1) = x * x ^ k := by rw [Rat.pow_succ]; grind
/-- the product of the first n whole numbers -/
def iprod (n : Nat) (f : Nat → Int) : Int := match n with
  | 0 => 1
  | n + 1 => iprod n f * f n
/-- how far each of the points is from those ahead of it, multiplied -/
def far (a b : Nat → Int) : Nat → Int
  | 0 => 1
  | n + 1 => far a b n * iprod n fun j => a n * b j - a j * b n
theorem iprod_ne {n : Nat} {f : Nat → Int} (h : ∀ i, i < n → f i ≠ 0) : iprod n f ≠ 0 := by
  induction n with
  | zero => rw [iprod]; omega
  | succ n ih => rw [iprod]; exact Int.mul_ne_zero (ih fun i hi => h i (by omega)) (h n (by omega))
/-- points that are not one make a matrix that is not flat -/
theorem far_ne {a b : Nat → Int} : ∀ {n : Nat}, (∀ j i, j < n → i < j → a j * b i - a i * b j ≠ 0) → far a b n ≠ 0
  | 0, _ => by rw [far]; omega
  | n + 1, h => by rw [far]; exact Int.mul_ne_zero (far_ne fun j i hj hi => h j i (by omega) hi) (iprod_ne fun i hi => h n i (by omega) hi)
end Det

/- Values of coefficients at points, in plain Lean: of a product, of what is turned, of a point times a number. -/
set_option linter.unusedVariables false
set_option linter.unusedSimpArgs false
namespace Det
theorem is_zero {n : Nat} {f : Nat → Int} (h : ∀ i, i < n → f i = 0) : isum n f = 0 := by
  induction n with
  | zero => rfl
  | succ n ih => rw [isum, ih fun i hi => h i (by omega), h n (by omega)]; rfl
theorem is_mulL (n : Nat) (c : Int) (f : Nat → Int) : isum n (fun i => c * f i) = c * isum n f := by
  induction n with
  | zero => rw [isum, isum, Int.mul_zero]
  | succ n ih => rw [isum, isum, ih, Int.mul_add]
theorem is_mulR (n : Nat) (c : Int) (f : Nat → Int) : isum n (fun i => f i * c) = isum n f * c := by
  rw [Int.mul_comm, ← is_mulL]; exact isum_congr fun i _ => Int.mul_comm _ _
theorem is_one {n j : Nat} {f : Nat → Int} (hj : j < n) (h : ∀ k, k < n → k ≠ j → f k = 0) : isum n f = f j := by
  induction n with
  | zero => omega
  | succ n ih =>
    rw [isum]
    by_cases e : j = n
    · subst e
      rw [is_zero fun k hk => h k (by omega) (by omega)]; omega
    · rw [ih (by omega) fun k hk => h k (by omega), h n (by omega) (by omega)]; omega
theorem is_head (n : Nat) (f : Nat → Int) : isum (n + 1) f = f 0 + isum n fun i => f (i + 1) := by
  induction n with
  | zero => simp [isum]
  | succ n ih => rw [isum, ih, isum]; omega
theorem is_rev : ∀ (n : Nat) (f : Nat → Int), isum n f = isum n fun i => f (n - 1 - i)
  | 0, _ => rfl
  | n + 1, f => by
    rw [is_head n fun i => f (n + 1 - 1 - i)]
    show isum n f + f n = f n + _
    rw [is_rev n f, Int.add_comm]
    congr 1
    exact isum_congr fun i hi => by rw [show n + 1 - 1 - (i + 1) = n - 1 - i by omega]
/-- the powers of a point -/
def pf (a b : Int) (n i : Nat) : Int := a ^ i * b ^ (n - 1 - i)
/-- the value of n coefficients -/
def hv (n : Nat) (c : Nat → Int) (a b : Int) : Int := isum n fun m => c m * pf a b n m
end Det

/- Schemes, plain: which counts and points make one; points times a number. -/
namespace Go.Proofs.YtdllbdfchloijaaGreatDoor
open Pt
set_option linter.unusedVariables false
set_option linter.unusedSimpArgs false
def Cnt (k1 k2 : Int) : Prop := 1 ≤ k1 ∧ k1 ≤ 8 ∧ 1 ≤ k2 ∧ k2 ≤ 8
def AllIn (n : Nat) (f : Nat → Int × Int) : Prop := ∀ i, i < n → inB (f i).1 (f i).2 = true
def NoNone (n : Nat) (f : Nat → Int × Int) : Prop := ∀ i, i < n → nn (f i).1 (f i).2 = false
/-- counts and points that make a scheme -/
structure Sch (k1 k2 : Int) (n : Nat) (f : Nat → Int × Int) : Prop where
  cnt : Cnt k1 k2
  all : AllIn n f
  len : (n : Int) = k1 + k2 - 1
  nn : NoNone n f
  tw : NoTw f n
/-- the error's number -/
def Wrg (k1 k2 : Int) (n : Nat) (f : Nat → Int × Int) (e : Int) : Prop :=
  (¬ (Cnt k1 k2 ∧ AllIn n f) ∧ e = 70) ∨ (Cnt k1 k2 ∧ AllIn n f ∧ ¬ Sch k1 k2 n f ∧ e = 71) ∨ (Sch k1 k2 n f ∧ e = 0)
theorem Wrg.congr {k1 k2 : Int} {n : Nat} {f g : Nat → Int × Int} {e : Int} (h : Wrg k1 k2 n f e) (h1 : AllIn n f ↔ AllIn n g) (h2 : Sch k1 k2 n f ↔ Sch k1 k2 n g) : Wrg k1 k2 n g e := by
  unfold Wrg at *
  rw [← h1, ← h2]; exact h
/-- how far two points are apart -/
def dist (p q : Int × Int) : Int := p.1 * q.2 - q.1 * p.2
theorem twin_iff {p q : Int × Int} (h1 : inB p.1 p.2 = true) (h2 : inB q.1 q.2 = true) (h3 : nn p.1 p.2 = false) (h4 : nn q.1 q.2 = false) : twin p q = false ↔ dist q p ≠ 0 := by
  have e3 : ¬ (p.1 = 0 ∧ p.2 = 0) := of_decide_eq_false h3
  have e4 : ¬ (q.1 = 0 ∧ q.2 = 0) := of_decide_eq_false h4
  unfold twin one dist
  rw [h1, h2, if_neg (fun h => h.elim e3 e4), Bool.true_and, Bool.true_and, beq_eq_false_iff_ne]
  constructor <;> (intro h k; apply h; omega)
theorem Sch.dist {k1 k2 : Int} {n : Nat} {f : Nat → Int × Int} (h : Sch k1 k2 n f) {j i : Nat} (hj : j < n) (hi : i < j) : dist (f j) (f i) ≠ 0 :=
  (twin_iff (h.all i (by omega)) (h.all j hj) (h.nn i (by omega)) (h.nn j hj)).1 (h.tw j hj i hi)
/-- a scheme's matrix is not flat -/
theorem Sch.far {k1 k2 : Int} {n : Nat} {f : Nat → Int × Int} (h : Sch k1 k2 n f) : Det.far (fun i => (f i).1) (fun i => (f i).2) n ≠ 0 := Det.far_ne fun j i hj hi => h.dist hj hi
end Go.Proofs.YtdllbdfchloijaaGreatDoor

/- limb: trim, Norm. -/
namespace Go.Proofs.YtdllbdfchloijaaGreatDoor
open Num
open Go.ChangeShapes Go.WideShapes Go.ChangeAt Go.RowKit
set_option linter.unusedVariables false
set_option linter.unusedSimpArgs false

/-- the element type of a block -/
def typOf (w : World) (b : Nat) : Option TypeId := match w.heap[b]? with
  | some (.cells _ t _) => some t
  | _ => none
theorem typ_of_block {w w' : World} {b : Nat} (h : w'.heap[b]? = w.heap[b]?) : typOf w' b = typOf w b := by unfold typOf; rw [h]
theorem typ_lt {w : World} {b : Nat} {t : TypeId} (h : typOf w b = some t) : b < w.heap.size := by
  apply Nat.lt_of_not_le; intro hl
  have : w.heap[b]? = none := by simp [hl]
  simp [typOf, this] at h
theorem typ_keep {w w' : World} {b : Nat} {t : TypeId} (h : typOf w b = some t) (hb : Below w.heap.size w w') : typOf w' b = some t := by
  rw [typ_of_block (w := w) (hb.block b (typ_lt h))]; exact h
theorem typ_set (w : World) (p : Addr) (v : Value) (b : Nat) : typOf (w.setCell p v) b = typOf w b := by
  by_cases e : b = p.block
  · subst e
    unfold typOf World.setCell
    simp only [Array.getElem?_modify, if_true]
    cases w.heap[p.block]? with
    | none => rfl
    | some o => cases o <;> rfl
  · exact typ_of_block (Below.heap_setCell w p v b e)
/-- the cells of a list of limbs, in a block of limbs -/
structure At32 (w : World) (b off : Nat) (l : List Nat) : Prop where
  cell : ∀ k, k < l.length → w.cell? ⟨b, off + k, none⟩ = some (.int .u32 (l.getD k 0 : Nat))
  ty : typOf w b = some 106
instance {w : World} {b off : Nat} {l : List Nat} : CoeFun (At32 w b off l) (fun _ => ∀ k, k < l.length → w.cell? ⟨b, off + k, none⟩ = some (.int .u32 (l.getD k 0 : Nat))) := ⟨At32.cell⟩
/-- the cells of a list of limbs -/
def C32 (w : World) (a : Option Addr) (l : List Nat) : Prop := l = [] ∨ ∃ b off, a = some ⟨b, off, none⟩ ∧ At32 w b off l
/-- a slice holds a list of limbs -/
def U32 (w : World) (a : Option Addr) (cap : Nat) (l : List Nat) : Prop := l.length ≤ cap ∧ cap ≤ maxLen ∧ Limbs l ∧ C32 w a l
theorem C32.keep {w w' : World} {a : Option Addr} {l : List Nat} (h : C32 w a l) (hb : Below w.heap.size w w') : C32 w' a l := by
  rcases h with h | ⟨b, off, h1, h2⟩
  · exact .inl h
  · exact .inr ⟨b, off, h1, fun k hk => bkeep hb (h2 k hk), typ_keep h2.ty hb⟩
theorem U32.keep {w w' : World} {a : Option Addr} {cap : Nat} {l : List Nat} (h : U32 w a cap l) (hb : Below w.heap.size w w') : U32 w' a cap l := ⟨h.1, h.2.1, h.2.2.1, h.2.2.2.keep hb⟩
theorem C32.take {w : World} {a : Option Addr} {l m : List Nat} (h : C32 w a l) (hp : m <+: l) : C32 w a m := by
  rcases h with rfl | ⟨b, off, h1, h2⟩
  · exact .inl (List.prefix_nil.1 hp)
  · refine .inr ⟨b, off, h1, fun k hk => ?_, h2.ty⟩
    obtain ⟨t, rfl⟩ := hp
    rw [h2 k (by simp; omega)]
    simp [hk, List.getElem?_append]
namespace Num
theorem trim_take_zero {l : List Nat} {k : Nat} (hk : k < l.length) (h0 : l.getD k 0 = 0) : trimL (l.take (k + 1)) = trimL (l.take k) := by
  rw [List.take_succ_eq_append_getElem hk]
  have : l[k] = 0 := by simpa [hk] using h0
  rw [this, trimL_append_zero]
theorem trim_take_pos {l : List Nat} {k : Nat} (hk : k < l.length) (h0 : l.getD k 0 ≠ 0) : trimL (l.take (k + 1)) = l.take (k + 1) := by
  rw [List.take_succ_eq_append_getElem hk]
  have : l[k] ≠ 0 := by simpa [hk] using h0
  rw [trimL_append_pos _ _ this]
end Num

set_option maxRecDepth 100000 in
set_option maxHeartbeats 1000000 in
theorem trim_c (a : Option Addr) (cap : Nat) (l : List Nat) (w : World) (h : U32 w a cap l) :
    Calls Tryz.prog 132 #[.slice a l.length cap] w fun e w' => e = .returned (.slice a (trimL l).length (trimL l).length) ∧ w = w' := by
  obtain ⟨hc, hm, hl, hcs⟩ := h
  unfold maxLen at hm
  go_enter Tryz.func132, Tryz.ntmps132
  go_wp2
  go_loop [3] (fun x => ∃ k : Nat, k ≤ l.length ∧ x = .int .i64 k ∧ trimL (l.take k) = trimL l) (fun x => (intOf x).toNat)
  case atStart => exact ⟨l.length, Nat.le_refl _, rfl, by rw [List.take_length]⟩
  case round =>
    obtain ⟨k, hk, rfl, ht⟩ := hrel
    have HT := Lib.hid ht
    clear ht
    cases k with
    | zero =>
      have hz : (trimL l).length = 0 := by have := HT.out; rw [List.take_zero] at this; rw [← this]; rfl
      have HZ := Lib.hid hz
      clear hz
      go_wp2
      go_ret
      exact ⟨by rw [HZ.out]; rfl, rfl⟩
    | succ j =>
      rcases hcs with rfl | ⟨b, off, rfl, hcell⟩
      · simp at hk
      have hj := hcell j (by omega)
      by_cases h0 : l.getD j 0 = 0
      · have HN := Lib.hid (trim_take_zero (by omega : j < l.length) h0)
        rw [h0] at hj
        go_wp2
        exact ⟨⟨j, by omega, rfl, HN.out.symm.trans HT.out⟩, by simp [intOf] <;> omega⟩
      · have HN := Lib.hid (trim_take_pos (by omega : j < l.length) h0)
        generalize hx : l.getD j 0 = x at *
        have hx0 : ((x : Int) == 0) = false := by simp; omega
        have HL := Lib.hid (show (trimL l).length = j + 1 by rw [← HT.out, HN.out]; simp; omega)
        go_wp2
        go_ret
        exact ⟨by rw [HL.out]; rfl, rfl⟩

theorem U32.trim {w : World} {a : Option Addr} {cap : Nat} {l : List Nat} (h : U32 w a cap l) : U32 w a (trimL l).length (trimL l) :=
  ⟨Nat.le_refl _, Nat.le_trans (trim_len l) (Nat.le_trans h.1 h.2.1), trim_limbs h.2.2.1, h.2.2.2.take (trim_prefix l)⟩
theorem info32 : (Tryz.prog.info? 106).map (fun i => (i.zero, i.size, i.bytes)) = some (some (.int .u32 0), 1, 4) := by kernel_rfl
/-- limbs as cells -/
def cel (l : List Nat) : List Value := l.map fun x : Nat => .int .u32 (x : Int)
theorem cel_len (l : List Nat) : (cel l).length = l.length := by simp [cel]
theorem cel_get (l : List Nat) (k : Nat) (h : k < l.length) : (cel l)[k]? = some (.int .u32 (l.getD k 0 : Nat)) := by simp [cel, h]
theorem cel_one (l : List Nat) : ∀ v ∈ cel l, v.oneCell' = true := by
  intro v hv; simp only [cel, List.mem_map] at hv; obtain ⟨x, _, rfl⟩ := hv; rfl
/-- a block of the call's own that holds limbs -/
def Blk (w : World) (g : Nat) (l : List Nat) : Prop := w.heap[g]? = some (.cells (cel l).toArray 106 (0, 0))
theorem Blk.cell {w : World} {g : Nat} {l : List Nat} (h : Blk w g l) (k : Nat) (hk : k < l.length) : w.cell? ⟨g, k, none⟩ = some (.int .u32 (l.getD k 0 : Nat)) := by
  have := cel_get l k hk
  unfold World.cell?
  rw [show w.heap[(⟨g, k, none⟩ : Addr).block]? = _ from h]
  simpa using this
theorem Blk.frozen {w : World} {g : Nat} {l : List Nat} (h : Blk w g l) (k : Nat) : w.frozen? ⟨g, k, none⟩ = false := by
  unfold World.frozen?
  rw [show w.heap[(⟨g, k, none⟩ : Addr).block]? = _ from h]
  simp
theorem Blk.lt {w : World} {g : Nat} {l : List Nat} (h : Blk w g l) : g < w.heap.size := (Array.getElem?_eq_some_iff.1 h).1
theorem Blk.keep {w w' : World} {g : Nat} {l : List Nat} (h : Blk w g l) (hb : Below w.heap.size w w') : Blk w' g l := (hb.block g h.lt).trans h
theorem Blk.alloc {w : World} {g : Nat} {l : List Nat} (h : Blk w g l) (o : Obj) : Blk (w.alloc o) g l := (Below.heap_alloc w o g h.lt).trans h
theorem Blk.set {w : World} {g : Nat} {l : List Nat} (h : Blk w g l) (k x : Nat) : Blk (w.setCell ⟨g, k, none⟩ (.int .u32 (x : Int))) g (l.set k x) := by
  unfold Blk World.setCell
  simp only [Array.getElem?_modify, if_true]
  rw [show w.heap[g]? = _ from h]
  simp [cel, List.map_set]
theorem Blk.far {w : World} {g : Nat} {l : List Nat} (h : Blk w g l) (p : Addr) (v : Value) (hp : g ≠ p.block) : Blk (w.setCell p v) g l := (Below.heap_setCell w p v g hp).trans h
theorem Blk.u32 {w : World} {g : Nat} {l : List Nat} (h : Blk w g l) (hl : Limbs l) (hm : l.length ≤ maxLen) : U32 w (some ⟨g, 0, none⟩) l.length l :=
  ⟨Nat.le_refl _, hm, hl, .inr ⟨g, 0, rfl, fun k hk => by simpa using h.cell k hk, by unfold typOf; rw [show w.heap[g]? = _ from h]⟩⟩
/-- a new slice of limbs, all 0 -/
theorem mk32 (n : Nat) (hn : n ≤ 35184372088832) (w : World) : (Instr.makeSlice 48 (.int .i64 (n : Int)) (.int .i64 (n : Int))).run Tryz.prog w = .ok (.slice (some ⟨w.heap.size, 0, none⟩) n n) (w.alloc (.cells (cel (List.replicate n 0)).toArray 106)) := by
  obtain ⟨i0, hi, hz0, hz1, hz2⟩ := info_parts info32
  have e : madeCells (Value.int .u32 0).cells ((n : Int).toNat * 1) = (cel (List.replicate n 0)).toArray := by
    apply Array.ext
    · simp [size_madeCells, cel]
    · intro i h1 h2
      simp [madeCells, cel, Value.cells, Nat.mod_one]
  rw [run_make w _ _ i0 _ Tryz.underlying48 hi hz0 .i64 .i64 n n (by omega) (by omega) (by rw [hz2]; omega) (by omega), hz1, e]
  rfl
theorem blk_new (w : World) (l : List Nat) : Blk (w.alloc (.cells (cel l).toArray 106)) w.heap.size l := by
  unfold Blk; exact (MapKept.heap_alloc w _).1
theorem blk_at {w : World} {g : Nat} {l : List Nat} (hg : g = w.heap.size) : Blk (w.alloc (.cells (cel l).toArray 106)) g l := by subst hg; exact blk_new w l

set_option maxRecDepth 100000 in
set_option maxHeartbeats 1000000 in
theorem limbNorm_c (a : Option Addr) (cap : Nat) (l : List Nat) (w : World) (h : U32 w a cap l) (hlen : l.length ≤ 1099511627776) :
    Calls Tryz.prog 133 #[.slice a l.length cap] w fun e w' => (∃ a', e = .returned (.slice a' (trimL l).length (trimL l).length) ∧ U32 w' a' (trimL l).length (trimL l)) ∧ Below w.heap.size w w' := by
  have tc := fun w h => trim_c a cap l w h
  have h1 := h.trim
  have hlm := Nat.le_trans (trim_len l) hlen
  generalize trimL l = m at *
  go_enter Tryz.func133, Tryz.ntmps133
  go_wp2_with fail
  refine (tc _ h).mono ?_
  rintro e w1 ⟨rfl, rfl⟩
  clear tc
  have hmk := mk32 m.length (by omega)
  go_wp2_with (refine wpList_copy_splice (o := ⟨some 11, _, _, _, _, _⟩) rfl _ _ 48 48 rfl 106 Tryz.underlying48 (by kernel_rfl) (some ⟨w.heap.size, 0, none⟩) a m.length m.length m.length m.length rfl rfl w.heap.size 0 (cel (List.replicate m.length 0)) 106 (blk_new w _) (cel m) ?_ ?_ ?_ (cel_one m) w.heap.size w (bal (Below.refl _ _) _) (Nat.le_refl _) ?_)
  · rw [cel_len]; exact (Nat.min_self _).symm
  · intro h0
    rw [cel_len] at h0
    rcases h1.2.2.2 with hm0 | ⟨b, off, ha, hcell⟩
    · subst hm0; simp at h0
    · refine ⟨_, ha, fun j v hj => cell_alloc ?_ _⟩
      have hjl : j < m.length := by have := (List.getElem?_eq_some_iff.1 hj).1; rwa [cel_len] at this
      rw [cel_get m j hjl] at hj
      cases hj
      have := hcell j hjl
      unfold Addr.add
      split
      · subst_vars; simpa using this
      · exact this
  · simp [cel_len]
  · intro w' hw' hb'
    have hsp : splice (cel (List.replicate m.length 0)) 0 (cel m) = cel m := by simp [splice, cel]
    rw [hsp] at hw'
    have HW : Hid (Blk w' w.heap.size m) := hw'
    go_wp2
    go_ret
    exact ⟨⟨_, rfl, (HW.out : Blk w' w.heap.size m).u32 h1.2.2.1 h1.2.1⟩, hb'⟩
end Go.Proofs.YtdllbdfchloijaaGreatDoor

/- append of new cells to a row of the call's own, one law for all element types. -/
namespace Go.Proofs.YtdllbdfchloijaaGreatDoor
open Num
open Go.ChangeShapes Go.WideShapes Go.ChangeAt Go.RowKit
/-- a row of a slice type: its element type, its size in cells and in bytes -/
structure Elt (P : Program) (T E : TypeId) (size bytes : Nat) : Prop where
  ht : P.underlying T = some (.slice E)
  info : ∃ i z, P.info? E = some i ∧ i.zero = some z ∧ i.size = size ∧ i.bytes = bytes ∧ z.cells.size = size
  pos : 0 < size
  small : bytes ≤ 128
theorem Elt.mk' {P : Program} {T E : TypeId} {size bytes : Nat} {z : Value} (ht : P.underlying T = some (.slice E)) (hi : (P.info? E).map (fun i => (i.zero, i.size, i.bytes)) = some (some z, size, bytes)) (hz : z.cells.size = size) (h1 : 0 < size) (h2 : bytes ≤ 128) : Elt P T E size bytes := by
  obtain ⟨i, h3, h4, h5, h6⟩ := info_parts hi
  exact ⟨ht, ⟨i, z, h3, h4, h5, h6, hz⟩, h1, h2⟩
/-- what the call owns since the world w0 -/
def OwnE (E : TypeId) (size : Nat) (w0 wr : World) (v : Value) (n : Nat) (xs : List Value) : Prop := wr.ownsRow w0.heap.size E size v n xs ∧ Below w0.heap.size w0 wr
theorem OwnE.below {E : TypeId} {size n : Nat} {w0 wr w' : World} {v : Value} {xs : List Value} (h : OwnE E size w0 wr v n xs) (hb : Below wr.heap.size wr w') : OwnE E size w0 w' v n xs :=
  ⟨own_below (w0 := w0) h.1 hb, bthen h.2 hb⟩
theorem OwnE.nil (E : TypeId) (size : Nat) {w0 wr : World} (hb : Below w0.heap.size w0 wr) : OwnE E size w0 wr (.slice none 0 0) 0 [] := ⟨World.ownsRow_nil _ _ _ _, hb⟩
theorem OwnE.ex {E : TypeId} {size n : Nat} {w0 wr : World} {v : Value} {xs : List Value} (h : OwnE E size w0 wr v n xs) : ∃ a c, v = .slice a n c := by
  rcases h.1.2 with ⟨rfl, rfl⟩ | ⟨g, c, _, rfl, _⟩
  · exact ⟨_, _, rfl⟩
  · exact ⟨_, _, rfl⟩
/-- the same, at a step of a region that draws its order -/
theorem step_lit {P : Program} {T E : TypeId} {size bytes : Nat} {ops : Array Oper} {o : Oper} {a : Act} {K : Act → World → Prop} {Q : Exit → Act → World → Prop} {R : Prop} {w0 wr : World} {v : Value} {n : Nat} {xs C : List Value} {t : TypeId} (el : Elt P T E size bytes) (hgd : o.guard = none) {s x : Operand}
    (ho : o.op = .call { callee := .builtin .append, args := #[s, x], argTypes := #[T, T] }) (hO : OwnE E size w0 wr v n xs) (hs : a.eval s = v)
    {m c : Nat} (hx : a.eval x = .slice (some ⟨wr.heap.size, 0, none⟩) m c) (hl : C.length = m * size) (h1 : ∀ u ∈ C, u.oneCell' = true) (hn : n + m ≤ 1099511627776)
    (h : ∀ v' w', OwnE E size w0 w' v' (n + m) (xs ++ C) → K (a.put o.dst v') w') : if Region.wanted o (yielded ops a.tmps) = true then Oper.wp P o a (wr.alloc (.cells C.toArray t)).drew K Q else R := by
  obtain ⟨i, z, hi, hz, hsize, hby, hzs⟩ := el.info
  have hb : (n + m) * bytes ≤ 1099511627776 * 128 := Nat.mul_le_mul hn el.small
  have hw : Region.wanted o (yielded ops a.tmps) = true := by simp [Region.wanted, hgd]
  rw [if_pos hw]
  refine wp_append_own _ s x T ho w0.heap.size E i z size bytes el.ht hi hz hsize hby hzs el.pos v n xs hs ((hO.1.alloc _).drew) ⟨wr.heap.size, 0, none⟩ m c C hx hl (fun j u hj => cell_drew (cells_new wr C t j u hj)) h1 (by unfold maxLen; omega) (by omega) (by have := hO.2.size; simp; omega) ?_
  intro v' w' hown hg _
  exact h v' w' ⟨hown, below_append (wr := wr) (bal hO.2 _).drew ((hO.1.alloc _).drew) hg⟩
theorem el32 : Elt Tryz.prog 48 106 1 4 := Elt.mk' Tryz.underlying48 info32 rfl (by decide) (by decide)
/-- limbs of the call's own -/
def Own32 (w0 wr : World) (v : Value) (L : List Nat) : Prop := OwnE 106 1 w0 wr v L.length (cel L)
theorem Own32.below {w0 wr w' : World} {v : Value} {L : List Nat} (h : Own32 w0 wr v L) (hb : Below wr.heap.size wr w') : Own32 w0 w' v L := OwnE.below h hb
theorem Own32.nil {w0 wr : World} (hb : Below w0.heap.size w0 wr) : Own32 w0 wr (.slice none 0 0) [] := OwnE.nil _ _ hb
theorem own_u32 {w : World} {base : Nat} {v : Value} {n : Nat} {L : List Nat} (h : w.ownsRow base 106 1 v n (cel L)) (hL : Limbs L) : ∃ a c, v = .slice a L.length c ∧ U32 w a c L := by
  obtain ⟨hl, h⟩ := h
  rw [cel_len, Nat.mul_one] at hl
  subst hl
  rcases h with ⟨rfl, h0⟩ | ⟨g, cap, cur, rfl, hg, hh, hn, hc, hs, ht⟩
  · have : L = [] := List.length_eq_zero_iff.1 h0
    subst this
    exact ⟨none, 0, rfl, Nat.le_refl _, by unfold maxLen; omega, hL, .inl rfl⟩
  · refine ⟨_, cap, rfl, hn, hc, hL, .inr ⟨g, 0, rfl, fun k hk => ?_, by unfold typOf; rw [hh]⟩⟩
    rw [Nat.mul_one] at ht
    have e : cur[k]? = some (.int .u32 (L.getD k 0 : Nat)) := by
      have := cel_get L k hk
      rw [← ht, List.getElem?_take, if_pos hk] at this
      simpa using this
    unfold World.cell?
    rw [Nat.zero_add, show w.heap[(⟨g, k, none⟩ : Addr).block]? = _ from hh]
    simpa using e
theorem Own32.u32 {w0 wr : World} {v : Value} {L : List Nat} (h : Own32 w0 wr v L) (hL : Limbs L) : ∃ a c, v = .slice a L.length c ∧ U32 wr a c L := own_u32 h.1 hL
theorem cel_app (l m : List Nat) : cel (l ++ m) = cel l ++ cel m := by simp [cel]
end Go.Proofs.YtdllbdfchloijaaGreatDoor

/- prog: an instruction: two, constant, Asks. -/
namespace Go.Proofs.YtdllbdfchloijaaGreatDoor
open Go.ChangeShapes Go.WideShapes Go.ChangeAt Go.RowKit
set_option linter.unusedVariables false
set_option linter.unusedSimpArgs false
theorem bret {a b : Bool} (h : a = b) : Ending.returned (.bool a) = Ending.returned (.bool b) := by rw [h]
/-- an instruction -/
structure Ins where
  op : Int
  to : Int
  a : Int
  b : Int
  c : Int
deriving Inhabited
def Ins.v (i : Ins) : Value := .agg #[.int .i64 i.op, .int .i64 i.to, .int .i64 i.a, .int .i64 i.b, .int .i64 i.c]
def twoB (op : Int) : Bool := decide (op = 3 ∨ op = 4)
def constB (op c : Int) : Bool := if op = 5 ∨ op = 6 then decide (c ≠ 0 ∧ -512 ≤ c ∧ c ≤ 512) else if op = 7 ∨ op = 8 then decide (1 ≤ c ∧ c ≤ 64) else decide (c = 0)
theorem constB_mul {op c : Int} (h : op = 5 ∨ op = 6) : constB op c = decide (c ≠ 0 ∧ -512 ≤ c ∧ c ≤ 512) := by unfold constB; rw [if_pos h]
theorem constB_shift {op c : Int} (h : op = 7 ∨ op = 8) : constB op c = decide (1 ≤ c ∧ c ≤ 64) := by unfold constB; rw [if_neg (by omega), if_pos h]
theorem constB_else {op c : Int} (h : ¬ (op = 5 ∨ op = 6)) (h2 : ¬ (op = 7 ∨ op = 8)) : constB op c = decide (c = 0) := by unfold constB; rw [if_neg h, if_neg h2]

theorem two_c (op : Int) (w : World) : Calls Tryz.prog 120 #[.int .i64 op] w fun e w' => e = .returned (.bool (twoB op)) ∧ w' = w := by
  go_enter Tryz.func120, Tryz.ntmps120
  go_wp2
  all_goals go_ret
  all_goals exact ⟨bret (by rw [Bool.eq_iff_iff]; simp [twoB] <;> omega), rfl⟩

set_option maxRecDepth 100000 in
theorem constant_c (op t a b c : Int) (w : World) : Calls Tryz.prog 121 #[.agg #[.int .i64 op, .int .i64 t, .int .i64 a, .int .i64 b, .int .i64 c]] w fun e w' => e = .returned (.bool (constB op c)) ∧ Below w.heap.size w w' := by
  by_cases h : op = 5 ∨ op = 6
  · rw [constB_mul h]
    rcases h with rfl | rfl
    all_goals
      go_enter Tryz.func121, Tryz.ntmps121
      go_wp2
      all_goals go_ret
      all_goals exact ⟨bret (by rw [Bool.eq_iff_iff]; simp <;> omega), by repeat (first | exact Below.refl _ _ | assumption | refine bal ?_ _)⟩
  · by_cases h2 : op = 7 ∨ op = 8
    · rw [constB_shift h2]
      rcases h2 with rfl | rfl
      all_goals
        go_enter Tryz.func121, Tryz.ntmps121
        go_wp2
        all_goals go_ret
        all_goals exact ⟨bret (by rw [Bool.eq_iff_iff]; simp <;> omega), by repeat (first | exact Below.refl _ _ | assumption | refine bal ?_ _)⟩
    · rw [constB_else h h2]
      have t5 : (op == 5) = false := by simp; omega
      have t6 : (op == 6) = false := by simp; omega
      have t7 : (op == 7) = false := by simp; omega
      have t8 : (op == 8) = false := by simp; omega
      clear h h2
      go_enter Tryz.func121, Tryz.ntmps121
      go_wp2
      all_goals go_ret
      all_goals exact ⟨bret (by rw [Bool.eq_iff_iff]; simp <;> omega), by repeat (first | exact Below.refl _ _ | assumption | refine bal ?_ _)⟩
theorem asks_two (op t a b c : Int) (w : World) (h : op = 3 ∨ op = 4) : Calls Tryz.prog 122 #[.agg #[.int .i64 op, .int .i64 t, .int .i64 a, .int .i64 b, .int .i64 c]] w fun e w' => e = .returned (.slice (some ⟨w.heap.size + 1, 0, none⟩) 2 2) ∧ w'.cell? ⟨w.heap.size + 1, 0, none⟩ = some (.int .i64 a) ∧ w'.cell? ⟨w.heap.size + 1, 1, none⟩ = some (.int .i64 b) ∧ Below w.heap.size w w' := by
  rcases h with rfl | rfl
  all_goals
    go_enter Tryz.func122, Tryz.ntmps122
    go_wp2
    go_ret
    exact ⟨rfl, cell_new (by simp) rfl, cell_new (by simp) rfl, bal (bal (Below.refl _ _) _) _⟩
theorem asks_one (op t a b c : Int) (w : World) (h1 : 1 ≤ op) (h2 : op ≤ 8) (h : twoB op = false) : Calls Tryz.prog 122 #[.agg #[.int .i64 op, .int .i64 t, .int .i64 a, .int .i64 b, .int .i64 c]] w fun e w' => e = .returned (.slice (some ⟨w.heap.size + 1, 0, none⟩) 1 1) ∧ w'.cell? ⟨w.heap.size + 1, 0, none⟩ = some (.int .i64 a) ∧ Below w.heap.size w w' := by
  have h3 : ¬ (op = 3 ∨ op = 4) := by simpa [twoB] using h
  clear h
  have hc : op = 1 ∨ op = 2 ∨ op = 5 ∨ op = 6 ∨ op = 7 ∨ op = 8 := by omega
  clear h1 h2 h3
  rcases hc with rfl | rfl | rfl | rfl | rfl | rfl
  all_goals
    go_enter Tryz.func122, Tryz.ntmps122
    go_wp2
    go_ret
    exact ⟨rfl, cell_new (by simp) rfl, bal (bal (Below.refl _ _) _) _⟩
end Go.Proofs.YtdllbdfchloijaaGreatDoor

/- The tail of a list of laid variables is laid. -/
namespace Go.Proofs.YtdllbdfchloijaaGreatDoor
theorem laid_tail {P : Program} {x : String × DataW Unit} {rest : List (String × DataW Unit)} {W : World} (h : laidMet P (x :: rest) W) : laidMet P rest W := by
  obtain ⟨ps, ⟨g, t, cs, fuel, p, q, _, _, _, _, hr, rfl⟩, hn, hi⟩ := h
  exact ⟨q, hr, (List.nodup_append.1 hn).2.1, fun b off hm => hi b off (List.mem_append_right _ hm)⟩
end Go.Proofs.YtdllbdfchloijaaGreatDoor

