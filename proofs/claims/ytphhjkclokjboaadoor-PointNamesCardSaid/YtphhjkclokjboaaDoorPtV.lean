/- A list of points that came in. -/
import Derived.Test.YtphhjkclokjboaaDoorLib
namespace Go.Proofs.YtphhjkclokjboaaDoor
open Go.ChangeShapes Go.WideShapes Go.ChangeAt Go.RowKit
/-- a row of points in memory -/
def PtsIn (w : World) (b off n : Nat) (f : Nat → Int × Int) : Prop := ∀ k, k < n → w.cell? ⟨b, off + k * 2, none⟩ = some (.int .i64 (f k).1) ∧ w.cell? ⟨b, off + k * 2 + 1, none⟩ = some (.int .i64 (f k).2)
/-- a list of points that came in -/
def PtsV (w : World) (a : Option Addr) (n cap : Nat) (f : Nat → Int × Int) : Prop := n = 0 ∨ ∃ b off, a = some ⟨b, off, none⟩ ∧ n ≤ cap ∧ PtsIn w b off n f
theorem PtsV.keep {w w' : World} {a : Option Addr} {n cap : Nat} {f : Nat → Int × Int} (h : PtsV w a n cap f) (hb : Below w.heap.size w w') : PtsV w' a n cap f := by
  rcases h with h | ⟨b, off, h1, h2, h3⟩
  · exact .inl h
  · exact .inr ⟨b, off, h1, h2, fun k hk => ⟨bkeep hb (h3 k hk).1, bkeep hb (h3 k hk).2⟩⟩
end Go.Proofs.YtphhjkclokjboaaDoor
