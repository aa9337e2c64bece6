/- Plain laws: how what divides both coordinates is put together. -/
import Derived.Test.YtefoljempkpmgaaPtLaw
namespace Go.Proofs.Ytefoljempkpmgaa.Pt

/-- the search: k and -k, from 0 on -/
def bzs (a b g : Int) : Nat → Nat → Option (Int × Int)
  | 0, _ => none
  | f + 1, k =>
    if (g - (k : Int) * a).tmod b = 0 then some ((k : Int), (g - (k : Int) * a).tdiv b)
    else if (g + (k : Int) * a).tmod b = 0 then some (-(k : Int), (g + (k : Int) * a).tdiv b)
    else bzs a b g f (k + 1)
def bz (a b : Int) : Option (Int × Int) := bzs a b (Int.gcd a b) 17 0
def bzOk (a b : Int) : Bool := if b = 0 then true else
  match bz a b with
  | some (u, v) => decide (u * a + v * b = (Int.gcd a b : Int) ∧ -16 ≤ u ∧ u ≤ 16 ∧ -16 ≤ v ∧ v ≤ 16)
  | none => false
theorem bz_some (a b : Int) (h : PIn a b) (hb : b ≠ 0) : ∃ u v, bz a b = some (u, v) ∧ u * a + v * b = (Int.gcd a b : Int) ∧ -16 ≤ u ∧ u ≤ 16 ∧ -16 ≤ v ∧ v ≤ 16 := by
  have := fin_all (p := bzOk) (by decide +kernel) a b h
  unfold bzOk at this
  rw [if_neg hb] at this
  split at this
  · rename_i u v e
    exact ⟨u, v, e, by simpa using this⟩
  · cases this
/-- where the search stands -/
def At (a b : Int) (k : Nat) : Prop := k ≤ 17 ∧ bzs a b (Int.gcd a b) (17 - k) k = bz a b
theorem At.zero (a b : Int) : At a b 0 := ⟨by omega, rfl⟩
theorem At.lt {a b : Int} {k : Nat} {u v : Int} (h : At a b k) (hs : bz a b = some (u, v)) : k ≤ 16 := by
  apply Nat.le_of_not_lt; intro hk
  have hk : k = 17 := by have := h.1; omega
  subst hk
  have := h.2
  rw [hs] at this
  simp [bzs] at this
theorem At.unf {a b : Int} {k : Nat} (h : At a b k) (hk : k ≤ 16) : bz a b =
    if ((Int.gcd a b : Int) - (k : Int) * a).tmod b = 0 then some ((k : Int), ((Int.gcd a b : Int) - (k : Int) * a).tdiv b)
    else if ((Int.gcd a b : Int) + (k : Int) * a).tmod b = 0 then some (-(k : Int), ((Int.gcd a b : Int) + (k : Int) * a).tdiv b)
    else bzs a b (Int.gcd a b) (17 - (k + 1)) (k + 1) := by
  rw [← h.2, show 17 - k = (17 - (k + 1)) + 1 from by omega, bzs]
theorem At.plus {a b : Int} {k : Nat} {u v : Int} (h : At a b k) (hs : bz a b = some (u, v)) (ht : ((Int.gcd a b : Int) - (k : Int) * a).tmod b = 0) : u = k ∧ v = ((Int.gcd a b : Int) - (k : Int) * a).tdiv b := by
  have := h.unf (h.lt hs)
  rw [if_pos ht, hs] at this
  simp at this; exact this
theorem At.minus {a b : Int} {k : Nat} {u v : Int} (h : At a b k) (hs : bz a b = some (u, v)) (hf : ¬ ((Int.gcd a b : Int) - (k : Int) * a).tmod b = 0) (ht : ((Int.gcd a b : Int) + (k : Int) * a).tmod b = 0) : u = -(k : Int) ∧ v = ((Int.gcd a b : Int) + (k : Int) * a).tdiv b := by
  have := h.unf (h.lt hs)
  rw [if_neg hf, if_pos ht, hs] at this
  simp at this; exact this
theorem At.next {a b : Int} {k : Nat} {u v : Int} (h : At a b k) (hs : bz a b = some (u, v)) (hf : ¬ ((Int.gcd a b : Int) - (k : Int) * a).tmod b = 0) (hg : ¬ ((Int.gcd a b : Int) + (k : Int) * a).tmod b = 0) : At a b (k + 1) := by
  have hk := h.lt hs
  have := h.unf hk
  rw [if_neg hf, if_neg hg] at this
  exact ⟨by omega, this.symm⟩
/-- the same on the other side: for a search that asks k and -k at 0 alike -/
theorem gcd_zero_iff (a b : Int) : (Int.gcd a b : Int) = 0 ↔ a = 0 ∧ b = 0 := by
  have : (Int.gcd a b : Int) = 0 ↔ Int.gcd a b = 0 := by omega
  rw [this, Int.gcd_eq_zero_iff]
end Go.Proofs.Ytefoljempkpmgaa.Pt
