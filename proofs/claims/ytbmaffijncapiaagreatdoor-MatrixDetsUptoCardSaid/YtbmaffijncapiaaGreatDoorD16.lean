/- Texts of this seat, laid together: Det, Bar, Dec, Vo. Each opens with its own remark, which says what it proves, and under which conditions. -/
import Derived.Test.YtbmaffijncapiaaGreatDoorD02
import Derived.Test.YtbmaffijncapiaaGreatDoorRows
import Derived.Test.YtbmaffijncapiaaGreatDoorD12
import Derived.Lib.SmallJoins
import Derived.Deep.Slices
import Derived.Deep.Matrix
import Derived.Deep.Fields
import Derived.ChangeSame
import Derived.DataShut
set_option linter.unusedVariables false
set_option linter.unusedSimpArgs false
/- Determinants, in plain Lean (over Rat): what is linear in each row and nought where two are alike is the determinant times a number; products, what is turned; by any column; the adjugate. -/
set_option linter.unusedVariables false
set_option linter.unusedSimpArgs false
namespace Det
abbrev M := Nat → Nat → Rat
def sum (n : Nat) (f : Nat → Rat) : Rat := match n with
  | 0 => 0
  | n + 1 => sum n f + f n
def sg (i : Nat) : Rat := if i % 2 = 0 then 1 else -1
def skip (i k : Nat) : Nat := if k < i then k else k + 1
def minor (m : M) (i : Nat) : M := fun r c => m (skip i r) (c + 1)
def det : Nat → M → Rat
  | 0, _ => 1
  | n + 1, m => sum (n + 1) fun i => sg i * m i 0 * det n (minor m i)
theorem sum_congr {n : Nat} {f g : Nat → Rat} (h : ∀ i, i < n → f i = g i) : sum n f = sum n g := by
  induction n with
  | zero => rfl
  | succ n ih => simp only [sum]; rw [ih fun i hi => h i (by omega), h n (by omega)]
theorem sum_zero {n : Nat} {f : Nat → Rat} (h : ∀ i, i < n → f i = 0) : sum n f = 0 := by
  induction n with
  | zero => rfl
  | succ n ih => simp only [sum]; rw [ih fun i hi => h i (by omega), h n (by omega)]; grind
theorem sum_add (n : Nat) (f g : Nat → Rat) : sum n (fun i => f i + g i) = sum n f + sum n g := by
  induction n with
  | zero => simp only [sum]; grind
  | succ n ih => simp only [sum]; rw [ih]; grind
theorem sum_mul (n : Nat) (f : Nat → Rat) (c : Rat) : sum n (fun i => c * f i) = c * sum n f := by
  induction n with
  | zero => simp [sum]
  | succ n ih => simp only [sum]; rw [ih]; grind
theorem sum_two {n i j : Nat} {f : Nat → Rat} (hi : i < n) (hj : j < n) (hij : i ≠ j) (h : ∀ k, k < n → k ≠ i → k ≠ j → f k = 0) : sum n f = f i + f j := by
  induction n with
  | zero => omega
  | succ n ih =>
    simp only [sum]
    by_cases e1 : i = n
    · subst e1
      have : sum i f = f j := by
        clear ih
        have key : ∀ m, j < m → m ≤ i → sum m f = f j := by
          intro m
          induction m with
          | zero => intro h1; omega
          | succ m ih2 =>
            intro h1 h2
            simp only [sum]
            by_cases e : j = m
            · subst e
              rw [sum_zero fun k hk => h k (by omega) (by omega) (by omega)]; grind
            · rw [ih2 (by omega) (by omega), h m (by omega) (by omega) (by omega)]; grind
        exact key i (by omega) (Nat.le_refl _)
      rw [this]; grind
    · by_cases e2 : j = n
      · subst e2
        have key : ∀ m, i < m → m ≤ j → sum m f = f i := by
          intro m
          induction m with
          | zero => intro h1; omega
          | succ m ih2 =>
            intro h1 h2
            simp only [sum]
            by_cases e : i = m
            · subst e
              rw [sum_zero fun k hk => h k (by omega) (by omega) (by omega)]; grind
            · rw [ih2 (by omega) (by omega), h m (by omega) (by omega) (by omega)]; grind
        rw [key j (by omega) (Nat.le_refl _)]
      · rw [ih (by omega) (by omega) fun k hk => h k (by omega), h n (by omega) (by omega) (by omega)]; grind
theorem det_congr {n : Nat} : ∀ {a b : M}, (∀ i j, i < n → j < n → a i j = b i j) → det n a = det n b := by
  induction n with
  | zero => intro a b _; rfl
  | succ n ih =>
    intro a b h
    refine sum_congr fun i hi => ?_
    rw [h i 0 hi (by omega), ih (a := minor a i) (b := minor b i) fun r c hr hc => ?_]
    unfold minor
    refine h _ _ ?_ (by omega)
    unfold skip; split <;> omega
def upd (m : M) (r : Nat) (f : Nat → Rat) : M := fun i j => if i = r then f j else m i j
def down (i r : Nat) : Nat := if r < i then r else r - 1
theorem minor_upd {m : M} {r i : Nat} {f : Nat → Rat} (h : i ≠ r) : minor (upd m r f) i = upd (minor m i) (down i r) (fun j => f (j + 1)) := by
  funext x y
  simp only [minor, upd, skip, down]
  grind
theorem minor_upd_same {m : M} {r : Nat} {f : Nat → Rat} : minor (upd m r f) r = minor m r := by
  funext x y
  unfold minor upd skip
  split <;> rw [if_neg (by omega)]
theorem det_lin {n : Nat} : ∀ {m : M} {r : Nat} {f g : Nat → Rat} {a b : Rat}, r < n → det n (upd m r fun j => a * f j + b * g j) = a * det n (upd m r f) + b * det n (upd m r g) := by
  induction n with
  | zero => intro m r f g a b h; omega
  | succ n ih =>
    intro m r f g a b h
    simp only [det]
    rw [← sum_mul, ← sum_mul, ← sum_add]
    refine sum_congr fun i hi => ?_
    by_cases e : i = r
    · subst e
      rw [minor_upd_same, minor_upd_same, minor_upd_same]
      simp only [upd, if_true]; grind
    · rw [minor_upd e, minor_upd e, minor_upd e, ih (by unfold down; split <;> omega)]
      simp only [upd, if_neg e]; grind
theorem det_adj {n : Nat} : ∀ {m : M} {r : Nat}, r + 1 < n → (∀ j, m r j = m (r + 1) j) → det n m = 0 := by
  induction n with
  | zero => intro m r h; omega
  | succ n ih =>
    intro m r h he
    simp only [det]
    rw [sum_two (i := r) (j := r + 1) (by omega) h (by omega) fun k hk h1 h2 => ?_]
    · have : minor m r = minor m (r + 1) := by
        funext x y
        unfold minor skip
        by_cases e1 : x < r
        · rw [if_pos e1, if_pos (by omega)]
        · rw [if_neg e1]
          by_cases e2 : x < r + 1
          · rw [if_pos e2]
            obtain rfl : x = r := by omega
            exact (he (y + 1)).symm
          · rw [if_neg e2]
      rw [this, he 0]
      have : sg (r + 1) = - sg r := by unfold sg; split <;> split <;> first | omega | grind
      rw [this]; grind
    · have : det n (minor m k) = 0 := by
        refine ih (r := down k r) (by unfold down; split <;> omega) fun j => ?_
        unfold minor skip down
        by_cases e : r < k
        · rw [if_pos e, if_pos e, if_pos (by omega)]; exact he (j + 1)
        · rw [if_neg e, if_neg (by omega), if_neg (by omega), show r - 1 + 1 = r by omega]; exact he (j + 1)
      rw [this]; grind
structure Alt (n : Nat) (f : M → Rat) : Prop where
  congr : ∀ a b : M, (∀ i j, i < n → j < n → a i j = b i j) → f a = f b
  lin : ∀ (m : M) (r : Nat) (g h : Nat → Rat) (a b : Rat), r < n → f (upd m r fun j => a * g j + b * h j) = a * f (upd m r g) + b * f (upd m r h)
  adj : ∀ (m : M) (r : Nat), r + 1 < n → (∀ j, m r j = m (r + 1) j) → f m = 0
theorem det_alt (n : Nat) : Alt n (det n) := ⟨fun _ _ h => det_congr h, fun _ _ _ _ _ _ h => det_lin h, fun _ _ h he => det_adj h he⟩
theorem upd_self (m : M) (r : Nat) : upd m r (m r) = m := by funext i j; unfold upd; split <;> simp_all
theorem upd_upd (m : M) (r : Nat) (f g : Nat → Rat) : upd (upd m r f) r g = upd m r g := by funext i j; unfold upd; split <;> rfl
theorem upd_comm (m : M) (r s : Nat) (f g : Nat → Rat) (h : r ≠ s) : upd (upd m r f) s g = upd (upd m s g) r f := by funext i j; unfold upd; grind
def swap (m : M) (r s : Nat) : M := upd (upd m r (m s)) s (m r)
section
variable {n : Nat} {f : M → Rat}
theorem Alt.add (h : Alt n f) (m : M) (r : Nat) (u v : Nat → Rat) (hr : r < n) : f (upd m r fun j => u j + v j) = f (upd m r u) + f (upd m r v) := by
  have := h.lin m r u v 1 1 hr
  simp only [Rat.one_mul] at this
  exact this
theorem Alt.mul (h : Alt n f) (m : M) (r : Nat) (u : Nat → Rat) (c : Rat) (hr : r < n) : f (upd m r fun j => c * u j) = c * f (upd m r u) := by
  have := h.lin m r u u c 0 hr
  have e : (fun j => c * u j + 0 * u j) = fun j => c * u j := by funext j; grind
  rw [e] at this
  grind
theorem Alt.zero (h : Alt n f) (m : M) (r : Nat) (hr : r < n) (hz : ∀ j, j < n → m r j = 0) : f m = 0 := by
  have h1 : f m = f (upd m r fun j => 0 * m r j) := h.congr _ _ fun i j hi hj => by
    unfold upd
    split
    · rename_i e; subst e; rw [hz j hj]; grind
    · rfl
  rw [h1, h.mul m r (m r) 0 hr]; grind
theorem Alt.pair (h : Alt n f) (m : M) (r : Nat) (u v : Nat → Rat) (hr : r + 1 < n) : f (upd (upd m r v) (r + 1) u) = - f (upd (upd m r u) (r + 1) v) := by
  have X : ∀ a b c : Nat → Rat, f (upd (upd m r fun j => a j + b j) (r + 1) c) = f (upd (upd m r a) (r + 1) c) + f (upd (upd m r b) (r + 1) c) := fun a b c => by
    rw [upd_comm _ _ _ _ _ (by omega), upd_comm _ _ _ a _ (by omega), upd_comm _ _ _ b _ (by omega)]
    exact h.add _ _ _ _ (by omega)
  have Z : ∀ a : Nat → Rat, f (upd (upd m r a) (r + 1) a) = 0 := fun a => h.adj _ r hr fun j => by unfold upd; grind
  have h1 := Z fun j => u j + v j
  rw [X, h.add _ _ _ _ hr, h.add _ _ _ _ hr, Z, Z] at h1
  grind
theorem Alt.swap_adj (h : Alt n f) (m : M) (r : Nat) (hr : r + 1 < n) : f (swap m r (r + 1)) = - f m := by
  have := h.pair m r (m r) (m (r + 1)) hr
  unfold swap
  rw [this, upd_self]
  congr 2
  funext i j
  unfold upd
  grind
theorem Alt.eq (h : Alt n f) : ∀ (d : Nat) (m : M) (r : Nat), r + d + 1 < n → (∀ j, m r j = m (r + d + 1) j) → f m = 0 := by
  intro d
  induction d with
  | zero => intro m r hr he; exact h.adj m r hr he
  | succ d ih =>
    intro m r hr he
    have h1 := h.swap_adj m (r + d + 1) (by omega)
    have h2 : f (swap m (r + d + 1) (r + d + 1 + 1)) = 0 := ih _ r (by omega) fun j => by
      unfold swap upd
      have := he j
      grind
    grind
theorem Alt.same (h : Alt n f) (m : M) (r s : Nat) (hr : r < n) (hs : s < n) (hne : r ≠ s) (he : ∀ j, m r j = m s j) : f m = 0 := by
  rcases Nat.lt_or_gt_of_ne hne with h1 | h1
  · obtain ⟨d, rfl⟩ : ∃ d, s = r + d + 1 := ⟨s - r - 1, by omega⟩
    exact h.eq d m r hs he
  · obtain ⟨d, rfl⟩ : ∃ d, r = s + d + 1 := ⟨r - s - 1, by omega⟩
    exact h.eq d m s hr fun j => (he j).symm
theorem Alt.addmul (h : Alt n f) (m : M) (r s : Nat) (c : Rat) (hr : r < n) (hs : s < n) (hne : r ≠ s) : f (upd m r fun j => m r j + c * m s j) = f m := by
  rw [h.add m r (m r) (fun j => c * m s j) hr, h.mul m r (m s) c hr, upd_self, h.same (upd m r (m s)) r s hr hs hne (fun j => by unfold upd; grind)]
  grind
theorem Alt.swapped (h : Alt n f) (m : M) (r s : Nat) (hr : r < n) (hs : s < n) (hne : r ≠ s) : f (swap m r s) = - f m := by
  have X : ∀ a b c : Nat → Rat, f (upd (upd m r fun j => a j + b j) s c) = f (upd (upd m r a) s c) + f (upd (upd m r b) s c) := fun a b c => by
    rw [upd_comm _ _ _ _ _ hne, upd_comm _ _ _ a _ hne, upd_comm _ _ _ b _ hne]
    exact h.add _ _ _ _ hr
  have Z : ∀ a : Nat → Rat, f (upd (upd m r a) s a) = 0 := fun a => h.same _ r s hr hs hne fun j => by unfold upd; grind
  have h1 := Z fun j => m r j + m s j
  rw [X, h.add _ _ _ _ hs, h.add _ _ _ _ hs, Z, Z] at h1
  have h2 : upd (upd m r (m r)) s (m s) = m := by rw [upd_self, upd_self]
  unfold swap
  rw [h2] at h1
  grind
def cl (m : M) (k : Nat) (g : Nat → Rat) (t : Nat) : M := fun i j => if i < t ∧ i ≠ k then m i j + g i * m k j else m i j
theorem Alt.clear (h : Alt n f) (m : M) (k : Nat) (g : Nat → Rat) (hk : k < n) : ∀ t, t ≤ n → f (cl m k g t) = f m := by
  intro t
  induction t with
  | zero =>
    intro _
    have : cl m k g 0 = m := by funext i j; unfold cl; rw [if_neg (by omega)]
    rw [this]
  | succ t ih =>
    intro ht
    by_cases e : t = k
    · rw [← ih (by omega)]
      congr 1
      funext i j
      unfold cl
      grind
    · rw [← ih (by omega), ← h.addmul (cl m k g t) t k (g t) (by omega) hk e]
      congr 1
      funext i j
      unfold upd cl
      grind
theorem Alt.flat (h : Alt n f) : ∀ (d : Nat) (m : M) (k c : Nat), c + d = n → k + 1 ≤ c → k < n → (∀ i j, k ≤ i → i < n → j < c → m i j = 0) → f m = 0 := by
  intro d
  induction d with
  | zero =>
    intro m k c hc hk hkn hz
    exact h.zero m k hkn fun j hj => hz k j (Nat.le_refl _) hkn (by omega)
  | succ d ih =>
    intro m k c hc hk hkn hz
    by_cases hex : ∃ i, k ≤ i ∧ i < n ∧ m i c ≠ 0
    · obtain ⟨i, h1, h2, h3⟩ := hex
      have key : ∀ m1 : M, m1 k c ≠ 0 → (∀ i j, k ≤ i → i < n → j < c → m1 i j = 0) → f m1 = 0 := fun m1 hp hz1 => by
        rw [← h.clear m1 k (fun r => if k < r then - (m1 r c / m1 k c) else 0) hkn n (Nat.le_refl _)]
        refine ih _ (k + 1) (c + 1) (by omega) (by omega) (by omega) fun i j hi hin hj => ?_
        unfold cl
        rw [if_pos ⟨hin, by omega⟩]
        dsimp only
        rw [if_pos (by omega)]
        by_cases e : j = c
        · subst e; grind
        · rw [hz1 i j (by omega) hin (by omega), hz1 k j (Nat.le_refl _) hkn (by omega)]; grind
      by_cases e : i = k
      · subst e; exact key m h3 hz
      · have := h.swapped m k i hkn h2 (fun h => e h.symm)
        have h0 := key (swap m k i) (by unfold swap upd; grind) fun a b ha han hb => by
          have q1 := hz k b (Nat.le_refl _) hkn hb
          have q2 := hz i b h1 h2 hb
          have q3 := hz a b ha han hb
          unfold swap upd; grind
        grind
    · refine ih m k (c + 1) (by omega) (by omega) hkn fun i j hi hin hj => ?_
      by_cases e : j = c
      · subst e
        exact Classical.byContradiction fun hne => hex ⟨i, hi, hin, hne⟩
      · exact hz i j hi hin (by omega)
end
def I : M := fun i j => if i = j then 1 else 0
theorem det_I (n : Nat) : det n I = 1 := by
  induction n with
  | zero => rfl
  | succ n ih =>
    have h1 : ∀ i, i < n + 1 → sg i * I i 0 * det n (minor I i) = if i = 0 then 1 else 0 := fun i hi => by
      by_cases e : i = 0
      · subst e
        have : minor I 0 = I := by funext a b; simp only [minor, skip, I]; grind
        rw [this, ih]
        simp [sg, I]
      · rw [if_neg e]
        have : I i 0 = 0 := by unfold I; rw [if_neg e]
        rw [this]; grind
    have h2 : ∀ m, sum (m + 1) (fun i => if i = 0 then (1 : Rat) else 0) = 1 := by
      intro m
      induction m with
      | zero => simp [sum]; grind
      | succ m ih2 => rw [sum, ih2]; simp; grind
    rw [det, sum_congr h1, h2]
theorem Alt.uniq {n : Nat} {f : M → Rat} (h : Alt n f) : ∀ (d : Nat) (m : M) (k : Nat), k + d = n → (∀ i j, i < n → j < k → m i j = I i j) → f m = f I * det n m := by
  intro d
  induction d with
  | zero =>
    intro m k hk he
    obtain rfl : k = n := by omega
    rw [h.congr m I he, det_congr he, det_I]; grind
  | succ d ih =>
    intro m k hk he
    have hkn : k < n := by omega
    by_cases hex : ∃ i, k ≤ i ∧ i < n ∧ m i k ≠ 0
    · obtain ⟨i, h1, h2, h3⟩ := hex
      have key : ∀ m1 : M, m1 k k ≠ 0 → (∀ i j, i < n → j < k → m1 i j = I i j) → f m1 = f I * det n m1 := fun m1 hp he1 => by
        have sc : ∀ F : M → Rat, Alt n F → F m1 = m1 k k * F (cl (upd m1 k fun j => (m1 k k)⁻¹ * m1 k j) k (fun r => - m1 r k) n) := fun F hF => by
          rw [hF.clear _ k _ hkn n (Nat.le_refl _), hF.mul m1 k (m1 k) _ hkn, upd_self]
          grind
        rw [sc f h, sc (det n) (det_alt n), ih _ (k + 1) (by omega) fun i j hi hj => ?_]
        · grind
        · have q1 := he1 i j hi
          have q2 := he1 k j hkn
          unfold cl upd I at *
          by_cases e : j = k
          · subst e; grind
          · have q1 := q1 (by omega)
            have q2 := q2 (by omega)
            grind
      by_cases e : i = k
      · subst e; exact key m h3 he
      · have s1 := h.swapped m k i hkn h2 (fun h => e h.symm)
        have s2 := (det_alt n).swapped m k i hkn h2 (fun h => e h.symm)
        have h0 := key (swap m k i) (by unfold swap upd; grind) fun a b ha hb => by
          have q1 := he k b hkn hb
          have q2 := he i b h2 hb
          have q3 := he a b ha hb
          unfold swap upd I at *; grind
        grind
    · have hz : ∀ i j, k ≤ i → i < n → j < k + 1 → m i j = 0 := fun i j hi hin hj => by
        by_cases e : j = k
        · subst e; exact Classical.byContradiction fun hne => hex ⟨i, hi, hin, hne⟩
        · rw [he i j hin (by omega)]; unfold I; rw [if_neg (by omega)]
      rw [h.flat d m k (k + 1) (by omega) (Nat.le_refl _) hkn hz, (det_alt n).flat d m k (k + 1) (by omega) (Nat.le_refl _) hkn hz]; grind
theorem Alt.det {n : Nat} {f : M → Rat} (h : Alt n f) (m : M) : f m = f I * Det.det n m := h.uniq n m 0 (by omega) fun i j _ hj => by omega
def mul (n : Nat) (a b : M) : M := fun i j => sum n fun k => a i k * b k j
theorem det_mul (n : Nat) (a b : M) : det n (mul n a b) = det n a * det n b := by
  have h : Alt n fun a => det n (mul n a b) := by
    refine ⟨fun a a' h => det_congr fun i j hi hj => sum_congr fun k hk => by rw [h i k hi hk], fun m r g h x y hr => ?_, fun m r hr he => det_adj hr fun j => sum_congr fun k hk => by rw [he k]⟩
    have e : ∀ u : Nat → Rat, mul n (upd m r u) b = upd (mul n m b) r fun j => sum n fun k => u k * b k j := fun u => by
      funext i j
      unfold mul upd
      split
      · rfl
      · rfl
    rw [e, e, e]
    have e2 : (fun j => sum n fun k => (x * g k + y * h k) * b k j) = fun j => x * (sum n fun k => g k * b k j) + y * (sum n fun k => h k * b k j) := by
      funext j
      rw [← sum_mul, ← sum_mul, ← sum_add]
      exact sum_congr fun k _ => by grind
    rw [e2]
    exact det_lin hr
  have h1 := h.det a
  have h2 : det n (mul n I b) = det n b := det_congr fun i j hi hj => by
    unfold mul
    have : ∀ m, i < m → m ≤ n → sum m (fun k => I i k * b k j) = b i j := by
      intro m
      induction m with
      | zero => intro h; omega
      | succ m ih =>
        intro h1 h2
        rw [sum]
        by_cases e : i = m
        · subst e
          rw [sum_zero fun k hk => by unfold I; rw [if_neg (by omega)]; grind]
          unfold I; rw [if_pos rfl]; grind
        · rw [ih (by omega) (by omega)]
          unfold I; rw [if_neg e]; grind
    exact this n hi (Nat.le_refl _)
  rw [h1, h2]; grind
def updc (m : M) (c : Nat) (f : Nat → Rat) : M := fun i j => if j = c then f i else m i j
theorem det_linc {n : Nat} : ∀ {m : M} {c : Nat} {f g : Nat → Rat} {a b : Rat}, c < n → det n (updc m c fun j => a * f j + b * g j) = a * det n (updc m c f) + b * det n (updc m c g) := by
  induction n with
  | zero => intro m c f g a b h; omega
  | succ n ih =>
    intro m c f g a b h
    simp only [det]
    rw [← sum_mul, ← sum_mul, ← sum_add]
    refine sum_congr fun i hi => ?_
    match c, h with
    | 0, _ =>
      have e : ∀ u, minor (updc m 0 u) i = minor m i := fun u => by funext x y; unfold minor updc; rw [if_neg (by omega)]
      rw [e, e, e]
      simp only [updc, if_true]; grind
    | c + 1, h =>
      have e : ∀ u : Nat → Rat, minor (updc m (c + 1) u) i = updc (minor m i) c (fun r => u (skip i r)) := fun u => by funext x y; unfold minor updc; grind
      rw [e, e, e, ih (by omega)]
      simp only [updc]
      rw [if_neg (by omega)]; grind
theorem sum_pick {n : Nat} {f : Nat → Rat} {j : Nat} (hj : j < n) (h : ∀ k, k < n → k ≠ j → f k = 0) : sum n f = f j := by
  induction n with
  | zero => omega
  | succ n ih =>
    rw [sum]
    by_cases e : j = n
    · subst e
      rw [sum_zero fun k hk => h k (by omega) (by omega)]; grind
    · rw [ih (by omega) fun k hk => h k (by omega), h n (by omega) (by omega)]; grind
theorem det_adjc {n : Nat} {m : M} {c : Nat} (h : c + 1 < n) (he : ∀ i, m i c = m i (c + 1)) : det n m = 0 := by
  have h1 : det n (mul n m (swap I c (c + 1))) = det n m := det_congr fun i j hi hj => by
    unfold mul
    by_cases e1 : j = c
    · subst e1
      rw [sum_pick (j := j + 1) h fun k hk hne => by unfold swap upd I; grind]
      have := he i
      unfold swap upd I; grind
    · by_cases e2 : j = c + 1
      · subst e2
        rw [sum_pick (j := c) (by omega) fun k hk hne => by unfold swap upd I; grind]
        have := he i
        unfold swap upd I; grind
      · rw [sum_pick (j := j) hj fun k hk hne => by unfold swap upd I; grind]
        unfold swap upd I; grind
  rw [det_mul, (det_alt n).swap_adj I c h, det_I] at h1
  grind
def tr (m : M) : M := fun i j => m j i
theorem det_tr (n : Nat) (m : M) : det n (tr m) = det n m := by
  have h : Alt n fun m => det n (tr m) := by
    refine ⟨fun a b h => det_congr fun i j hi hj => h j i hj hi, fun m r g h a b hr => ?_, fun m r hr he => det_adjc hr fun i => he i⟩
    have e : ∀ u, tr (upd m r u) = updc (tr m) r u := fun u => by funext i j; rfl
    rw [e, e, e]
    exact det_linc hr
  rw [h.det m, show tr I = I by funext i j; unfold tr I; grind, det_I]; grind
def min2 (m : M) (a b : Nat) : M := fun r c => m (skip a r) (skip b c)
theorem min2_upd {m : M} {r i b : Nat} {f : Nat → Rat} (h : i ≠ r) : min2 (upd m r f) i b = upd (min2 m i b) (down i r) (fun j => f (skip b j)) := by
  funext x y
  simp only [min2, upd, skip, down]
  grind
theorem min2_upd_same {m : M} {r b : Nat} {f : Nat → Rat} : min2 (upd m r f) r b = min2 m r b := by
  funext x y
  unfold min2 upd skip
  split <;> rw [if_neg (by omega)]
def byCol (n c : Nat) (m : M) : Rat := sum (n + 1) fun i => sg (i + c) * m i c * det n (min2 m i c)
theorem sg_succ (i : Nat) : sg (i + 1) = - sg i := by unfold sg; grind
theorem byCol_alt {n c : Nat} (hc : c < n + 1) : Alt (n + 1) (byCol n c) := by
  refine ⟨fun a b h => sum_congr fun i hi => ?_, fun m r g h a b hr => ?_, fun m r h he => ?_⟩
  · rw [h i c hi hc, det_congr (a := min2 a i c) (b := min2 b i c) fun x y hx hy => ?_]
    unfold min2
    refine h _ _ ?_ ?_ <;> (unfold skip; split <;> omega)
  · unfold byCol
    rw [← sum_mul, ← sum_mul, ← sum_add]
    refine sum_congr fun i hi => ?_
    by_cases e : i = r
    · subst e
      rw [min2_upd_same, min2_upd_same, min2_upd_same]
      simp only [upd, if_true]; grind
    · rw [min2_upd e, min2_upd e, min2_upd e, det_lin (by unfold down; split <;> omega)]
      simp only [upd, if_neg e]; grind
  · unfold byCol
    rw [sum_two (i := r) (j := r + 1) (by omega) h (by omega) fun k hk h1 h2 => ?_]
    · have : min2 m r c = min2 m (r + 1) c := by
        funext x y
        show m (skip r x) _ = m (skip (r + 1) x) _
        generalize skip c y = z
        have hz := he z
        unfold skip
        by_cases e1 : x < r
        · rw [if_pos e1, if_pos (by omega)]
        · rw [if_neg e1]
          by_cases e2 : x < r + 1
          · rw [if_pos e2]
            obtain rfl : x = r := by omega
            exact hz.symm
          · rw [if_neg e2]
      rw [this, he c]
      have : sg (r + 1 + c) = - sg (r + c) := by rw [show r + 1 + c = r + c + 1 by omega, sg_succ]
      rw [this]; grind
    · have : det n (min2 m k c) = 0 := by
        refine det_adj (r := down k r) (by unfold down; split <;> omega) fun j => ?_
        show m (skip k (down k r)) _ = m (skip k (down k r + 1)) _
        generalize skip c j = z
        have hz := he z
        unfold skip down
        by_cases e : r < k
        · rw [if_pos e, if_pos e, if_pos (by omega)]; exact hz
        · rw [if_neg e, if_neg (by omega), if_neg (by omega), show r - 1 + 1 = r by omega]; exact hz
      rw [this]; grind
theorem det_col {n c : Nat} (hc : c < n + 1) (m : M) : det (n + 1) m = byCol n c m := by
  have h := (byCol_alt hc).det m
  have h1 : byCol n c I = 1 := by
    unfold byCol
    rw [sum_pick (j := c) hc fun k hk hne => by unfold I; rw [if_neg hne]; grind]
    have : min2 I c c = I := by funext a b; simp only [min2, skip, I]; grind
    rw [this, det_I]
    have : sg (c + c) = 1 := by unfold sg; rw [if_pos (by omega)]
    rw [this]; unfold I; rw [if_pos rfl]; grind
  rw [h, h1]; grind
theorem det_samec {n : Nat} {m : M} {c d : Nat} (hc : c < n) (hd : d < n) (hne : c ≠ d) (he : ∀ i, m i c = m i d) : det n m = 0 := by
  rw [← det_tr]
  exact (det_alt n).same (tr m) c d hc hd hne fun j => he j
def adj (n : Nat) (m : M) : M := fun i j => sg (i + j) * det n (min2 m j i)
theorem adj_mul {n : Nat} {m : M} {i j : Nat} (hi : i < n + 1) (hj : j < n + 1) : mul (n + 1) (adj n m) m i j = if i = j then det (n + 1) m else 0 := by
  have key : ∀ g : Nat → Rat, det (n + 1) (updc m i g) = sum (n + 1) fun k => adj n m i k * g k := fun g => by
    rw [det_col hi]
    unfold byCol adj
    refine sum_congr fun k hk => ?_
    have : min2 (updc m i g) k i = min2 m k i := by
      funext x y
      unfold min2 updc
      rw [if_neg (by unfold skip; split <;> omega)]
    rw [this, Nat.add_comm k i]
    simp only [updc, if_true]; grind
  have h := key fun k => m k j
  unfold mul
  rw [← h]
  by_cases e : i = j
  · subst e
    rw [if_pos rfl]
    congr 1
    funext x y
    unfold updc
    grind
  · rw [if_neg e]
    refine det_samec hi hj e fun k => ?_
    unfold updc
    grind
end Det

/- Elimination without fractions, in plain Lean: minors, what is left behind k rows (Sylvester's identity). -/
set_option linter.unusedVariables false
set_option linter.unusedSimpArgs false
namespace Det
theorem sum_comm (n m : Nat) (f : Nat → Nat → Rat) : sum n (fun i => sum m fun j => f i j) = sum m fun j => sum n fun i => f i j := by
  induction n with
  | zero => simp only [sum]; rw [sum_zero fun i _ => rfl]
  | succ n ih => simp only [sum]; rw [ih, ← sum_add]
theorem sum_neg (n : Nat) (f : Nat → Rat) : sum n (fun i => - f i) = - sum n f := by
  have := sum_mul n f (-1)
  rw [show (fun i => -1 * f i) = fun i => - f i by funext i; grind] at this
  rw [this]; grind
theorem solve_row : ∀ (k : Nat) (b : M), det k b ≠ 0 → ∀ v : Nat → Rat, ∃ l : Nat → Rat, ∀ j, j < k → sum k (fun i => l i * b i j) = v j
  | 0, b, _, v => ⟨fun _ => 0, fun j hj => by omega⟩
  | n + 1, b, h, v => by
    refine ⟨fun i => (det (n + 1) b)⁻¹ * sum (n + 1) fun t => v t * adj n b t i, fun j hj => ?_⟩
    have e1 : ∀ i, i < n + 1 → (det (n + 1) b)⁻¹ * (sum (n + 1) fun t => v t * adj n b t i) * b i j = (det (n + 1) b)⁻¹ * sum (n + 1) fun t => v t * (adj n b t i * b i j) := fun i _ => by
      have : sum (n + 1) (fun t => b i j * (v t * adj n b t i)) = b i j * sum (n + 1) fun t => v t * adj n b t i := sum_mul _ _ _
      have e : (fun t => b i j * (v t * adj n b t i)) = fun t => v t * (adj n b t i * b i j) := by funext t; grind
      rw [e] at this
      rw [this]; grind
    rw [sum_congr e1, sum_mul, sum_comm]
    have e2 : ∀ t, t < n + 1 → (sum (n + 1) fun i => v t * (adj n b t i * b i j)) = v t * if t = j then det (n + 1) b else 0 := fun t ht => by
      rw [sum_mul]
      congr 1
      exact adj_mul ht hj
    rw [sum_congr e2, sum_pick hj (fun t _ hne => by rw [if_neg hne]; grind), if_pos rfl]
    rw [Rat.mul_comm (v j), ← Rat.mul_assoc, Rat.inv_mul_cancel _ h]; grind
theorem det_addrows {n : Nat} (m : M) (r : Nat) (hr : r < n) (l : Nat → Rat) : ∀ t, t ≤ r → det n (upd m r fun j => m r j + sum t fun i => l i * m i j) = det n m := by
  intro t
  induction t with
  | zero =>
    intro _
    refine det_congr fun i j _ _ => ?_
    unfold upd; split
    · subst_vars; simp only [sum]; grind
    · rfl
  | succ t ih =>
    intro ht
    rw [← ih (by omega)]
    have := (det_alt n).addmul (upd m r fun j => m r j + sum t fun i => l i * m i j) r t (l t) hr (by omega) (by omega)
    rw [← this, upd_upd]
    refine det_congr fun i j _ _ => ?_
    unfold upd
    by_cases h : i = r
    · subst h
      have : ¬ t = i := by omega
      simp only [if_true, if_neg this, sum]; grind
    · simp only [if_neg h]
theorem det_last {n : Nat} {m : M} (h : ∀ j, j < n → m n j = 0) : det (n + 1) m = m n n * det n m := by
  rw [← det_tr, det_col (Nat.lt_succ_self n)]
  unfold byCol
  rw [sum_pick (Nat.lt_succ_self n) (fun k hk hne => by
    have : tr m k n = 0 := h k (by omega)
    rw [this]; grind)]
  have e1 : sg (n + n) = 1 := by unfold sg; rw [if_pos (by omega)]
  have e2 : det n (min2 (tr m) n n) = det n m := by
    rw [← det_tr n m]
    refine det_congr fun i j hi hj => ?_
    unfold min2 skip
    rw [if_pos hi, if_pos hj]
  rw [e1, e2]; unfold tr; grind
theorem border {k : Nat} {t : M} (l : Nat → Rat) (h : ∀ j, j < k → sum k (fun i => l i * t i j) = t k j) : det (k + 1) t = (t k k - sum k fun i => l i * t i k) * det k t := by
  have e := det_addrows (n := k + 1) t k (Nat.lt_succ_self k) (fun i => - l i) k (Nat.le_refl k)
  have hs : ∀ j, (sum k fun i => - l i * t i j) = - sum k fun i => l i * t i j := fun j => by
    rw [← sum_neg]; refine sum_congr fun i _ => ?_; grind
  rw [← e, det_last]
  · have e2 : det k (upd t k fun j => t k j + sum k fun i => - l i * t i j) = det k t := det_congr fun i j hi hj => by
      unfold upd; rw [if_neg (by omega)]
    rw [e2]; unfold upd; rw [if_pos rfl]; dsimp only; rw [hs]; grind
  · intro j hj
    unfold upd; rw [if_pos rfl]; dsimp only; rw [hs, h j hj]; grind
def nr (k : Nat) (t : M) : M := fun i j => t (if i = k then k + 1 else i) j
def nc (k : Nat) (t : M) : M := fun i j => t i (if j = k then k + 1 else j)
theorem sylvester {k : Nat} {t : M} (hk : det k t ≠ 0) (hp : det (k + 1) t ≠ 0) : det (k + 2) t * det k t = det (k + 1) t * det (k + 1) (nr k (nc k t)) - det (k + 1) (nr k t) * det (k + 1) (nc k t) := by
  obtain ⟨l, hl⟩ := solve_row k t hk (t k)
  obtain ⟨u, hu⟩ := solve_row k t hk (t (k + 1))
  have b1 := border l hl
  have sub : ∀ (a : M), (∀ i j, i < k → j < k → a i j = t i j) → det k a = det k t := fun a h => det_congr h
  have b2 : det (k + 1) (nr k t) = (t (k + 1) k - sum k fun i => u i * t i k) * det k t := by
    have e := border (k := k) (t := nr k t) u (fun j hj => by
      unfold nr
      rw [if_pos rfl, ← hu j hj]
      exact sum_congr fun i hi => by rw [if_neg (by omega)])
    rw [e, sub (nr k t) (fun i j hi hj => by unfold nr; rw [if_neg (by omega)])]
    unfold nr; rw [if_pos rfl]
    congr 2
    exact sum_congr fun i hi => by rw [if_neg (by omega)]
  have b3 : det (k + 1) (nc k t) = (t k (k + 1) - sum k fun i => l i * t i (k + 1)) * det k t := by
    have e := border (k := k) (t := nc k t) l (fun j hj => by
      unfold nc
      rw [if_neg (by omega)]
      exact hl j hj)
    rw [e, sub (nc k t) (fun i j hi hj => by unfold nc; rw [if_neg (by omega)])]
    unfold nc; rw [if_pos rfl]
  have b4 : det (k + 1) (nr k (nc k t)) = (t (k + 1) (k + 1) - sum k fun i => u i * t i (k + 1)) * det k t := by
    have e := border (k := k) (t := nr k (nc k t)) u (fun j hj => by
      unfold nr nc
      rw [if_pos rfl, if_neg (by omega), ← hu j hj]
      exact sum_congr fun i hi => by rw [if_neg (by omega)])
    rw [e, sub (nr k (nc k t)) (fun i j hi hj => by unfold nr nc; rw [if_neg (by omega), if_neg (by omega)])]
    unfold nr nc; rw [if_pos rfl]
    congr 2
    exact sum_congr fun i hi => by rw [if_neg (by omega)]
  -- the greater one: clear row k, clear row k + 1, then with row k
  obtain ⟨s, hs⟩ : ∃ s : Nat → Rat, s = fun j => t k j - sum k fun i => l i * t i j := ⟨_, rfl⟩
  obtain ⟨s', hs'⟩ : ∃ s : Nat → Rat, s = fun j => t (k + 1) j - sum k fun i => u i * t i j := ⟨_, rfl⟩
  have hneg : ∀ (l : Nat → Rat) j, (sum k fun i => - l i * t i j) = - sum k fun i => l i * t i j := fun l j => by
    rw [← sum_neg]; refine sum_congr fun i _ => ?_; grind
  have c1 : det (k + 2) (upd t k s) = det (k + 2) t := by
    have e := det_addrows (n := k + 2) t k (by omega) (fun i => - l i) k (Nat.le_refl k)
    rw [← e]
    congr 2
    funext j
    rw [hs, hneg]; grind
  have c2 : det (k + 2) (upd (upd t k s) (k + 1) s') = det (k + 2) (upd t k s) := by
    have e := det_addrows (n := k + 2) (upd t k s) (k + 1) (by omega) (fun i => - u i) k (by omega)
    rw [← e]
    congr 2
    funext j
    rw [hs']
    have e3 : (sum k fun i => - u i * upd t k s i j) = sum k fun i => - u i * t i j := sum_congr fun i hi => by unfold upd; rw [if_neg (by omega)]
    rw [e3, hneg]
    unfold upd; rw [if_neg (by omega)]; grind
  have hsz : s k ≠ 0 := by
    intro h0
    apply hp
    rw [b1]
    have : t k k - (sum k fun i => l i * t i k) = s k := by rw [hs]
    rw [this, h0]; grind
  have c3 := (det_alt (k + 2)).addmul (upd (upd t k s) (k + 1) s') (k + 1) k (- (s' k) * (s k)⁻¹) (by omega) (by omega) (by omega)
  rw [upd_upd] at c3
  have z0 : ∀ j, j < k → s j = 0 := fun j hj => by rw [hs]; show t k j - _ = 0; rw [hl j hj]; grind
  have z1 : ∀ j, j < k → s' j = 0 := fun j hj => by rw [hs']; show t (k + 1) j - _ = 0; rw [hu j hj]; grind
  have hinv : (s k)⁻¹ * s k = 1 := Rat.inv_mul_cancel _ hsz
  have c4 : det (k + 2) (upd (upd t k s) (k + 1) fun j => upd (upd t k s) (k + 1) s' (k + 1) j + - (s' k) * (s k)⁻¹ * upd (upd t k s) (k + 1) s' k j) = (s' (k + 1) + - (s' k) * (s k)⁻¹ * s (k + 1)) * (s k * det k t) := by
    rw [det_last]
    · have e1 : det (k + 1) (upd (upd t k s) (k + 1) fun j => upd (upd t k s) (k + 1) s' (k + 1) j + - (s' k) * (s k)⁻¹ * upd (upd t k s) (k + 1) s' k j) = s k * det k t := by
        rw [det_last]
        · have e2 : det k (upd (upd t k s) (k + 1) fun j => upd (upd t k s) (k + 1) s' (k + 1) j + - (s' k) * (s k)⁻¹ * upd (upd t k s) (k + 1) s' k j) = det k t := det_congr fun i j hi hj => by
            unfold upd; rw [if_neg (by omega), if_neg (by omega)]
          rw [e2]
          unfold upd; rw [if_neg (by omega), if_pos rfl]
        · intro j hj
          unfold upd; rw [if_neg (by omega), if_pos rfl]; exact z0 j hj
      rw [e1]
      have n1 : ¬ k = k + 1 := by omega
      unfold upd
      simp only [if_true, n1, if_false]
    · intro j hj
      have n1 : ¬ k = k + 1 := by omega
      unfold upd
      simp only [if_true, n1, if_false]
      by_cases h : j = k
      · subst h; grind
      · rw [z0 j (by omega), z1 j (by omega)]; grind
  rw [← c1, ← c2, ← c3, c4, b1, b2, b3, b4]
  have q1 : t k k - (sum k fun i => l i * t i k) = s k := by rw [hs]
  have q2 : t (k + 1) k - (sum k fun i => u i * t i k) = s' k := by rw [hs']
  have q3 : t k (k + 1) - (sum k fun i => l i * t i (k + 1)) = s (k + 1) := by rw [hs]
  have q4 : t (k + 1) (k + 1) - (sum k fun i => u i * t i (k + 1)) = s' (k + 1) := by rw [hs']
  rw [q1, q2, q3, q4]
  grind
end Det

/- Plain: decimal digits, low one first; nine at a time; a number's text. -/
namespace Go.Proofs.YtbmaffijncapiaaGreatDoor.Num
def lowD : Nat → List Nat
  | 0 => []
  | n + 1 => (n + 1) % 10 :: lowD ((n + 1) / 10)
decreasing_by omega
theorem lowD_zero : lowD 0 = [] := by rw [lowD]
theorem lowD_pos {n : Nat} (h : 0 < n) : lowD n = n % 10 :: lowD (n / 10) := by
  cases n with
  | zero => omega
  | succ n => rw [lowD]
theorem lowD_lt (n : Nat) : ∀ d ∈ lowD n, d < 10 := by
  induction n using Nat.strongRecOn with
  | _ n ih =>
    intro d hd
    by_cases h : 0 < n
    · rw [lowD_pos h] at hd
      rcases List.mem_cons.1 hd with rfl | hd
      · omega
      · exact ih (n / 10) (by omega) d hd
    · obtain rfl : n = 0 := by omega
      rw [lowD_zero] at hd; cases hd
theorem lowD_ne {n : Nat} (h : 0 < n) : lowD n ≠ [] := by rw [lowD_pos h]; simp
theorem lowD_len (k : Nat) : ∀ n, n < 2 ^ k → (lowD n).length ≤ k := by
  induction k with
  | zero => intro n h; obtain rfl : n = 0 := by simpa using h
            rw [lowD_zero]; simp
  | succ k ih =>
    intro n h
    by_cases h0 : 0 < n
    · rw [lowD_pos h0]
      have := ih (n / 10) (by rw [Nat.pow_succ] at h; omega)
      simp; exact this
    · obtain rfl : n = 0 := by omega
      rw [lowD_zero]; simp
def padD : Nat → Nat → List Nat
  | 0, _ => []
  | k + 1, n => n % 10 :: padD k (n / 10)
theorem padD_len (k n : Nat) : (padD k n).length = k := by
  induction k generalizing n with
  | zero => rfl
  | succ k ih => simp [padD, ih]
theorem padD_snoc (k n : Nat) : padD (k + 1) n = padD k n ++ [n / 10 ^ k % 10] := by
  induction k generalizing n with
  | zero => simp [padD]
  | succ k ih =>
    rw [padD, ih (n / 10)]
    show _ = (n % 10 :: padD k (n / 10)) ++ _
    rw [List.cons_append, Nat.div_div_eq_div_mul, Nat.pow_succ, Nat.mul_comm 10]
theorem lowD_split (k : Nat) : ∀ n, 10 ^ k ≤ n → lowD n = padD k n ++ lowD (n / 10 ^ k) := by
  induction k with
  | zero => intro n _; simp [padD]
  | succ k ih =>
    intro n h
    have hp : 0 < 10 ^ k := Nat.pow_pos (by omega)
    rw [Nat.pow_succ] at h
    have hn : 0 < n := by omega
    rw [lowD_pos hn, ih (n / 10) (by rw [Nat.le_div_iff_mul_le (by omega)]; exact h), padD, Nat.div_div_eq_div_mul, Nat.pow_succ, Nat.mul_comm 10]
    rfl
theorem padD_low (k : Nat) : ∀ n, n < 10 ^ k → padD k n = lowD n ++ List.replicate (k - (lowD n).length) 0 ∧ (lowD n).length ≤ k := by
  induction k with
  | zero =>
    intro n h
    obtain rfl : n = 0 := by simpa using h
    simp [padD, lowD_zero]
  | succ k ih =>
    intro n h
    have h2 : n / 10 < 10 ^ k := by rw [Nat.pow_succ] at h; omega
    obtain ⟨e, hl⟩ := ih (n / 10) h2
    by_cases h0 : 0 < n
    · rw [padD, e, lowD_pos h0]
      refine ⟨?_, by simpa using hl⟩
      simp
    · obtain rfl : n = 0 := by omega
      rw [padD, e]
      simp [lowD_zero, List.replicate_succ]
theorem padD_mod (k : Nat) : ∀ n, padD k (n % 10 ^ k) = padD k n := by
  induction k with
  | zero => intro n; rfl
  | succ k ih =>
    intro n
    rw [padD, padD]
    have e1 : n % 10 ^ (k + 1) % 10 = n % 10 := by
      rw [Nat.pow_succ, Nat.mul_comm]
      exact Nat.mod_mul_right_mod n 10 (10 ^ k)
    have e2 : n % 10 ^ (k + 1) / 10 = n / 10 % 10 ^ k := by
      rw [Nat.pow_succ, Nat.mul_comm]
      exact Nat.mod_mul_right_div_self n 10 (10 ^ k)
    rw [e1, e2, ih]
def pcs : Nat → List Nat
  | 0 => []
  | n + 1 => (n + 1) % 1000000000 :: pcs ((n + 1) / 1000000000)
decreasing_by omega
theorem pcs_zero : pcs 0 = [] := by rw [pcs]
theorem pcs_pos {n : Nat} (h : 0 < n) : pcs n = n % 1000000000 :: pcs (n / 1000000000) := by
  cases n with
  | zero => omega
  | succ n => rw [pcs]
theorem pcs_lt (n : Nat) : ∀ d ∈ pcs n, d < 1000000000 := by
  induction n using Nat.strongRecOn with
  | _ n ih =>
    intro d hd
    by_cases h : 0 < n
    · rw [pcs_pos h] at hd
      rcases List.mem_cons.1 hd with rfl | hd
      · omega
      · exact ih (n / 1000000000) (by omega) d hd
    · obtain rfl : n = 0 := by omega
      rw [pcs_zero] at hd; cases hd
theorem pcs_ne {n : Nat} (h : 0 < n) : pcs n ≠ [] := by rw [pcs_pos h]; simp
def lowP : List Nat → List Nat
  | [] => []
  | [p] => lowD p
  | p :: q :: l => padD 9 p ++ lowP (q :: l)
theorem lowP_pcs (n : Nat) : lowP (pcs n) = lowD n := by
  induction n using Nat.strongRecOn with
  | _ n ih =>
    by_cases h : 0 < n
    · rw [pcs_pos h]
      by_cases h2 : 0 < n / 1000000000
      · have e := ih (n / 1000000000) (by omega)
        rw [pcs_pos h2] at e ⊢
        rw [lowP, e, lowD_split 9 n (by omega)]
        have := padD_mod 9 n
        rw [show (10 : Nat) ^ 9 = 1000000000 from rfl] at *
        rw [this]
      · have h3 : n / 1000000000 = 0 := by omega
        rw [h3, pcs_zero, lowP, Nat.mod_eq_of_lt (by omega)]
    · obtain rfl : n = 0 := by omega
      rw [pcs_zero, lowD_zero]; rfl
theorem pcs_last (n : Nat) : ∀ h : pcs n ≠ [], 0 < (pcs n).getLast h := by
  induction n using Nat.strongRecOn with
  | _ n ih =>
    intro h
    have hn : 0 < n := by
      rcases Nat.eq_zero_or_pos n with rfl | h'
      · exact absurd pcs_zero h
      · exact h'
    by_cases h2 : 0 < n / 1000000000
    · have h3 := ih (n / 1000000000) (by omega) (pcs_ne h2)
      have e : (pcs n).getLast h = (pcs (n / 1000000000)).getLast (pcs_ne h2) := by
        have : ∀ l (hl : l ≠ []), l = n % 1000000000 :: pcs (n / 1000000000) → l.getLast hl = (pcs (n / 1000000000)).getLast (pcs_ne h2) := by
          intro l hl el; subst el; exact List.getLast_cons (pcs_ne h2)
        exact this _ h (pcs_pos hn)
      rw [e]; exact h3
    · have e : (pcs n).getLast h = n % 1000000000 := by
        have : ∀ l (hl : l ≠ []), l = [n % 1000000000] → l.getLast hl = n % 1000000000 := by
          intro l hl el; subst el; rfl
        exact this _ h (by rw [pcs_pos hn, show n / 1000000000 = 0 by omega, pcs_zero])
      rw [e]
      have : n < 1000000000 := by omega
      rw [Nat.mod_eq_of_lt this]; exact hn
def asc (l : List Nat) : List UInt8 := l.reverse.map fun d => UInt8.ofNat (48 + d)
theorem asc_append (l m : List Nat) : asc (l ++ m) = asc m ++ asc l := by simp [asc]
theorem lowD_last (n : Nat) : ∀ h : lowD n ≠ [], 0 < (lowD n).getLast h := by
  induction n using Nat.strongRecOn with
  | _ n ih =>
    intro h
    have hn : 0 < n := by
      rcases Nat.eq_zero_or_pos n with rfl | h'
      · exact absurd lowD_zero h
      · exact h'
    by_cases h2 : 0 < n / 10
    · have h3 := ih (n / 10) (by omega) (lowD_ne h2)
      have e : (lowD n).getLast h = (lowD (n / 10)).getLast (lowD_ne h2) := by
        have : ∀ l (hl : l ≠ []), l = n % 10 :: lowD (n / 10) → l.getLast hl = (lowD (n / 10)).getLast (lowD_ne h2) := by
          intro l hl el; subst el; exact List.getLast_cons (lowD_ne h2)
        exact this _ h (lowD_pos hn)
      rw [e]; exact h3
    · have e : (lowD n).getLast h = n % 10 := by
        have : ∀ l (hl : l ≠ []), l = [n % 10] → l.getLast hl = n % 10 := by
          intro l hl el; subst el; rfl
        exact this _ h (by rw [lowD_pos hn, show n / 10 = 0 by omega, lowD_zero])
      rw [e]; omega
def natTxt (n : Nat) : List UInt8 := if n = 0 then [48] else asc (lowD n)
def intTxt (z : Int) : List UInt8 := (if z < 0 then [45] else []) ++ natTxt z.natAbs
theorem asc_pad_top {p : Nat} (h0 : 0 < p) (h : p < 1000000000) : (asc (padD 9 p)).dropWhile (· == 48) = asc (lowD p) := by
  obtain ⟨e, _⟩ := padD_low 9 p h
  rw [e, asc_append]
  have hz : asc (List.replicate (9 - (lowD p).length) 0) = List.replicate (9 - (lowD p).length) 48 := by simp [asc]
  rw [hz]
  have hd : ∀ (n : Nat) (l : List UInt8), (List.replicate n 48 ++ l).dropWhile (· == 48) = l.dropWhile (· == 48) := by
    intro n l
    induction n with
    | zero => rfl
    | succ n ih => rw [List.replicate_succ, List.cons_append, List.dropWhile_cons]; simp [ih]
  rw [hd]
  have hne := lowD_ne h0
  have hl := lowD_last p hne
  have hlt := lowD_lt p _ (List.getLast_mem hne)
  have e2 : asc (lowD p) = UInt8.ofNat (48 + (lowD p).getLast hne) :: asc (lowD p).dropLast := by
    conv => lhs; rw [← List.dropLast_concat_getLast hne]
    rw [asc_append]; rfl
  have h3 : (UInt8.ofNat (48 + (lowD p).getLast hne) == 48) = false := by
    rw [beq_eq_false_iff_ne]
    intro h
    have := congrArg UInt8.toNat h
    rw [UInt8.toNat_ofNat'] at this
    have h48 : (48 : UInt8).toNat = 48 := rfl
    rw [h48] at this
    omega
  rw [e2, List.dropWhile_cons, if_neg]
  intro h
  have h4 : (UInt8.ofNat (48 + (lowD p).getLast hne) == 48) = true := h
  rw [h3] at h4; cases h4
theorem lowP_cons {p : Nat} {l : List Nat} (h : l ≠ []) : lowP (p :: l) = padD 9 p ++ lowP l := by
  cases l with
  | nil => exact absurd rfl h
  | cons q l => rfl
theorem asc_len (l : List Nat) : (asc l).length = l.length := by simp [asc]
end Go.Proofs.YtbmaffijncapiaaGreatDoor.Num

/- Arguments as they come in, opened: a program; rows of int64; what their bulk gives. -/
namespace Go.Proofs.YtbmaffijncapiaaGreatDoor
open Go.ChangeShapes Go.WideShapes Go.ChangeAt Go.RowKit Go.Joins Go.Deep
set_option linter.unusedVariables false
set_option linter.unusedSimpArgs false
namespace bulks
theorem one_le {H : Type} (d : DataW H) : 1 ≤ Rows.uptoBulk d := by
  cases d with
  | lit l => cases l <;> simp [Rows.uptoBulk]
  | nil => simp [Rows.uptoBulk]
  | ptr d => simp [Rows.uptoBulk]
  | slice elems spare => simp [Rows.uptoBulk]
  | agg parts => simp [Rows.uptoBulk]
  | iface t d => simp [Rows.uptoBulk]
  | map entries => simp [Rows.uptoBulk]
  | held h => simp [Rows.uptoBulk]
theorem length_le {H : Type} (l : List (DataW H)) : l.length ≤ Rows.uptoBulkAll l := by
  induction l with
  | nil => simp [Rows.uptoBulkAll]
  | cons x r ih => have := one_le x; simp only [Rows.uptoBulkAll, List.length_cons]; omega
theorem sum_le {H : Type} {α : Type} (f : α → DataW H) (n : α → Nat) : ∀ (l : List α), (∀ x ∈ l, n x + 1 ≤ Rows.uptoBulk (f x)) → (l.map n).sum + l.length ≤ Rows.uptoBulkAll (l.map f)
  | [], _ => by simp [Rows.uptoBulkAll]
  | x :: r, h => by
    have h1 := sum_le f n r (fun y hy => h y (List.mem_cons_of_mem _ hy))
    have h2 := h x (List.mem_cons_self ..)
    simp only [List.map_cons, List.sum_cons, List.length_cons, Rows.uptoBulkAll]; omega
end bulks
section
variable {H : Type} {enc : TypeId × Value → H} {P : Program} {w : World} {base : Nat} {spare : Nat → Bool} {held : Bool}
end
theorem addr_plain {w : World} {a : Addr} {v : Value} (h : w.cell? a = some v) : a = ⟨a.block, a.off, none⟩ := by
  obtain ⟨b, o, s⟩ := a
  cases s with
  | none => rfl
  | some s =>
    simp only [World.cell?] at h
    split at h <;> simp at h
theorem add_plain (b o k : Nat) : (⟨b, o, none⟩ : Addr).add k = ⟨b, o + k, none⟩ := by
  unfold Addr.add; split
  · subst_vars; rfl
  · rfl
theorem plain_at {w : World} {a : Addr} {v : Value} (h : w.cell? (a.add 0) = some v) : ∃ b o, a = ⟨b, o, none⟩ := by
  have h2 : w.cell? a = some v := by simpa [Addr.add] using h
  exact ⟨_, _, addr_plain h2⟩
section
variable {H : Type} {enc : TypeId × Value → H} {W : World} {b0 : Nat} {r : Reach} {v : Value} {d : DataW H} {p : List MemPlace}
theorem i64_of {n : Int} (h : (Lit.int .i64 n).wf = true) : I64 n := by
  have h1 := (Lit.wf_int_iff .i64 n).1 h
  have e1 : IntKind.i64.min = -9223372036854775808 := by decide
  have e2 : IntKind.i64.max = 9223372036854775807 := by decide
  rw [e1, e2] at h1
  exact h1
end
end Go.Proofs.YtbmaffijncapiaaGreatDoor

