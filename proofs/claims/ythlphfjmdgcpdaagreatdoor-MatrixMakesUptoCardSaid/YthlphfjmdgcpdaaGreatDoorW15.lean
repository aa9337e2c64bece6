/- Texts of this seat, laid together: VwE, VwB, EwA, EwB, RtA, RtB, RtC, ExD, VmF, VmG, VmH, ExE. Each opens with its own remark, which says what it proves, and under which conditions. -/
import Derived.Test.YthlphfjmdgcpdaaGreatDoorW13
import Derived.Test.YthlphfjmdgcpdaaGreatDoorW03
import Derived.Deep.DeepFit
import Derived.Deep.RegionLaw
import Derived.Deep.DrawnRows
import Derived.Test.YthlphfjmdgcpdaaGreatDoorW11
import Derived.Test.YthlphfjmdgcpdaaGreatDoorW14
import Derived.Test.YthlphfjmdgcpdaaGreatDoorW07
import Derived.Test.YthlphfjmdgcpdaaGreatDoorW12
import Derived.Laws.CopyRow
import Derived.Laws.Rows
import Derived.Laws.Tables
import Derived.Deep.Cut
import Derived.Deep.DeepCutAuto
import Derived.Deep.LoopGhost
set_option linter.unusedVariables false
set_option linter.unusedSimpArgs false
/- vm's laws: long; the document's example. -/
namespace Go.Proofs.YthlphfjmdgcpdaaGreatDoor
open Num
open Go.ChangeShapes Go.WideShapes Go.ChangeAt Go.RowKit
set_option linter.unusedVariables false
set_option linter.unusedSimpArgs false
end Go.Proofs.YthlphfjmdgcpdaaGreatDoor

/- vm's laws: the numbers that come in, as the reference's blocks. -/
namespace Go.Proofs.YthlphfjmdgcpdaaGreatDoor
open Num
open Go.ChangeShapes Go.WideShapes Go.ChangeAt Go.RowKit
set_option linter.unusedVariables false
set_option linter.unusedSimpArgs false
end Go.Proofs.YthlphfjmdgcpdaaGreatDoor

/- exact's laws: long; numbers that come in as rows of both. -/
namespace Go.Proofs.YthlphfjmdgcpdaaGreatDoor
open Num
open Go.ChangeShapes Go.WideShapes Go.ChangeAt Go.RowKit
set_option linter.unusedVariables false
set_option linter.unusedSimpArgs false
end Go.Proofs.YthlphfjmdgcpdaaGreatDoor

/- exact's laws: numbers that come in, as rows of both; grids of both. -/
namespace Go.Proofs.YthlphfjmdgcpdaaGreatDoor
open Num
open Go.ChangeShapes Go.WideShapes Go.ChangeAt Go.RowKit
set_option linter.unusedVariables false
set_option linter.unusedSimpArgs false
attribute [local go_sem ↓] Go.wp_at_zero Go.wp_at_succ
theorem OwnF.kp {R : World → Value → Int → Prop} {E : TypeId} {w0 wr w' : World} {v : Value} {n : Nat} {f : Nat → Int} {S : TypeId → Prop} (hR : Lims R) (h : OwnF R E w0 wr v n f) (k : Kp S wr w') (hs : S 121) (hE : S E) (hb : Below w0.heap.size w0 w') : OwnF R E w0 w' v n f := by
  obtain ⟨xs, ⟨h1, _⟩, h2⟩ := h
  refine ⟨xs, ⟨owns_kp h1 k hE, hb⟩, fun j hj => ?_⟩
  obtain ⟨nb, a, len, c, k1, k2, k3⟩ := h2 j hj
  exact ⟨nb, a, len, c, k1, k2, hR _ _ _ _ k3 (k.lim hs)⟩
theorem OwnF.grown {R : World → Value → Int → Prop} {E : TypeId} {w0 wr w' : World} {v : Value} {n : Nat} {f : Nat → Int} (h : OwnF R E w0 wr v n f) (ho : Out (fun k => v.ownBlock = some k) wr w') : Kp (· ≠ E) wr w' :=
  Kp.out ho (fun q t hq ht hne => by
    obtain ⟨xs, h1, _⟩ := h
    rw [own_typ h1 hq] at ht
    exact hne (Option.some.inj ht).symm)
theorem OwnL.kp {α : Type} {S S' : TypeId → Prop} {T : TypeId} {Pr : World → Value → α → Prop} {w0 wr w' : World} {v : Value} {g : List α} (hP : Prs S Pr) (h : OwnL T Pr w0 wr v g) (k : Kp S' wr w') (hs : ∀ t, S t → S' t) (hT : S' T) (hb : Below w0.heap.size w0 w') : OwnL T Pr w0 w' v g := by
  obtain ⟨xs, ⟨h1, _⟩, h2⟩ := h
  refine ⟨xs, ⟨owns_kp h1 k hT, hb⟩, fun j hj => ?_⟩
  obtain ⟨u, hu, hr⟩ := h2 j hj
  exact ⟨u, hu, hP.kp hr (k.weak hs)⟩
end Go.Proofs.YthlphfjmdgcpdaaGreatDoor

/- The reference's rows: Combine, Add, Sub, Scale, Zero. -/
namespace Go.Proofs.YthlphfjmdgcpdaaGreatDoor
open Num
open Go.ChangeShapes Go.WideShapes Go.ChangeAt Go.RowKit
set_option linter.unusedVariables false
set_option linter.unusedSimpArgs false
attribute [local go_sem ↓] Go.wp_at_zero Go.wp_at_succ
end Go.Proofs.YthlphfjmdgcpdaaGreatDoor

/- The reference's rows: Over; what an instruction makes of rows (do). -/
namespace Go.Proofs.YthlphfjmdgcpdaaGreatDoor
open Num
open Go.ChangeShapes Go.WideShapes Go.ChangeAt Go.RowKit
set_option linter.unusedVariables false
set_option linter.unusedSimpArgs false
attribute [local go_sem ↓] Go.wp_at_zero Go.wp_at_succ
end Go.Proofs.YthlphfjmdgcpdaaGreatDoor

/- The reference's rows: constant; what an instruction makes of rows (do). -/
namespace Go.Proofs.YthlphfjmdgcpdaaGreatDoor
open Num
open Go.ChangeShapes Go.WideShapes Go.ChangeAt Go.RowKit
set_option linter.unusedVariables false
set_option linter.unusedSimpArgs false
attribute [local go_sem ↓] Go.wp_at_zero Go.wp_at_succ
/-- the reference's registers in a block that may be written -/
structure RegsQ (w : World) (rb : Nat) (g : Grid) : Prop where
  free : Free w rb
  ty : typOf w rb = some 33
  cell : ∀ k, k < g.length → ∃ u, w.cell? ⟨rb, k, none⟩ = some u ∧ RRow 0 w u (g.getD k [])
theorem RegsQ.keep {rb : Nat} {w w' : World} {g : Grid} (h : RegsQ w rb g) (k : Below w.heap.size w w') : RegsQ w' rb g :=
  ⟨h.free.keep k, typ_keep h.ty k, fun j hj => by obtain ⟨u, hu, hr⟩ := h.cell j hj; exact ⟨u, bkeep k hu, hr.keep lims_ref k⟩⟩
theorem RegsQ.step {rb nt : Nat} {w : World} {g : Grid} {v : Value} {r : List Int} (h : RegsQ w rb g) (hv : RRow 0 w v r) (ht : nt < g.length) : RegsQ (w.setCell ⟨rb, nt, none⟩ v) rb (g.set nt r) := by
  have hk : Kp (· ≠ 33) w (w.setCell ⟨rb, nt, none⟩ v) := (Kp.refl _ w).set (fun t ht => by rw [h.ty] at ht; cases ht; exact fun k => k rfl) _
  refine ⟨h.free.set _ _, by rw [typ_set]; exact h.ty, fun k hk' => ?_⟩
  rw [List.length_set] at hk'
  by_cases e : nt = k
  · subst e
    obtain ⟨u, hu, _⟩ := h.cell nt hk'
    refine ⟨v, cell_here hu _, ?_⟩
    have : (g.set nt r).getD nt [] = r := by simp [hk']
    rw [this]
    exact hv.kp lims_ref hk (by decide) (by decide)
  · obtain ⟨u, hu, hr⟩ := h.cell k hk'
    refine ⟨u, cell_far hu (fun e2 => e (by cases e2; rfl)) _, ?_⟩
    have : (g.set nt r).getD k [] = g.getD k [] := by simp [List.getElem?_set_ne e]
    rw [this]
    exact hr.kp lims_ref hk (by decide) (by decide)
end Go.Proofs.YthlphfjmdgcpdaaGreatDoor

/- exact: a new row of noughts, into which a row of numbers is copied. -/
namespace Go.Proofs.YthlphfjmdgcpdaaGreatDoor
open Num
open Go.ChangeShapes Go.WideShapes Go.ChangeAt Go.RowKit
set_option linter.unusedVariables false
set_option linter.unusedSimpArgs false
section
variable {ops : Array Oper} {o : Oper} {a : Act} {Q : Exit → Act → World → Prop} {w : World} {d x : Operand}
end
end Go.Proofs.YthlphfjmdgcpdaaGreatDoor

/- vm: New. -/
namespace Go.Proofs.YthlphfjmdgcpdaaGreatDoor
open Num
open Go.ChangeShapes Go.WideShapes Go.ChangeAt Go.RowKit
set_option linter.unusedVariables false
set_option linter.unusedSimpArgs false
attribute [local go_sem ↓] Go.wp_at_zero Go.wp_at_succ
/-- blocks fit a program -/
structure FitsG (ins : Int) (g : Grid) : Prop where
  len : (g.length : Int) = ins
  rect : Rect (g.getD 0 []).length g
  m : (g.getD 0 []).length ≤ 4096
abbrev GridV (w : World) (v : Value) (g : Grid) : Prop := IsL 59 (PRow 0) 0 w v g
end Go.Proofs.YthlphfjmdgcpdaaGreatDoor

/- vm: Next, Done, Outs. -/
namespace Go.Proofs.YthlphfjmdgcpdaaGreatDoor
open Num
open Go.ChangeShapes Go.WideShapes Go.ChangeAt Go.RowKit
set_option linter.unusedVariables false
set_option linter.unusedSimpArgs false
attribute [local go_sem ↓] Go.wp_at_zero Go.wp_at_succ
section
variable {base b rb rc : Nat} {ins regs : Int} {code : List Ins} {outs : List Int} {g : Grid} {n : Nat}
end
end Go.Proofs.YthlphfjmdgcpdaaGreatDoor

/- vm: Run. -/
namespace Go.Proofs.YthlphfjmdgcpdaaGreatDoor
open Num
open Go.ChangeShapes Go.WideShapes Go.ChangeAt Go.RowKit
set_option linter.unusedVariables false
set_option linter.unusedSimpArgs false
end Go.Proofs.YthlphfjmdgcpdaaGreatDoor

/- exact: right, Run. -/
namespace Go.Proofs.YthlphfjmdgcpdaaGreatDoor
open Num
open Go.ChangeShapes Go.WideShapes Go.ChangeAt Go.RowKit
set_option linter.unusedVariables false
set_option linter.unusedSimpArgs false
attribute [local go_sem ↓] Go.wp_at_zero Go.wp_at_succ
end Go.Proofs.YthlphfjmdgcpdaaGreatDoor

