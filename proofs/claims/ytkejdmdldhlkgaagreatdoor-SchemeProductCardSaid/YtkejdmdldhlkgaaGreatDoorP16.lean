/- Texts of this seat, laid together: ExP, ExG, ExH, ExB, ExC, ExK, VwE, VwB, EwA, EwB, RtA, RtB. Each opens with its own remark, which says what it proves, and under which conditions. -/
import Derived.Test.YtkejdmdldhlkgaaGreatDoorP15
import Derived.Test.YtkejdmdldhlkgaaGreatDoorP04
import Derived.Deep.LoopGhost
import Derived.Deep.Cut
import Derived.Deep.DeepCutAuto
import Derived.Test.YtkejdmdldhlkgaaGreatDoorP07
import Derived.Test.YtkejdmdldhlkgaaGreatDoorP14
import Derived.Deep.DeepFit
import Derived.Deep.RegionLaw
import Derived.Deep.DrawnRows
import Derived.Test.YtkejdmdldhlkgaaGreatDoorP13
import Derived.Test.YtkejdmdldhlkgaaGreatDoorP12
set_option linter.unusedVariables false
set_option linter.unusedSimpArgs false
/- exact, in plain Lean: what a program makes of numbers; columns of a grid. -/
namespace Go.Proofs.YtkejdmdldhlkgaaGreatDoor
open Num
set_option linter.unusedVariables false
set_option linter.unusedSimpArgs false
/-- the registers behind n instructions, each of which holds a number; none: one of them has failed -/
def afterN (code : List Ins) (r : List Int) : Nat → Option (List Int)
  | 0 => some r
  | n + 1 => (afterN code r n).bind fun s => (opI (code.getD n default) (s.getD (code.getD n default).a.toNat 0) (s.getD (code.getD n default).b.toNat 0)).map fun x => s.set (code.getD n default).to.toNat x
theorem afterN_mono {code : List Ins} {r : List Int} {n m : Nat} (h : afterN code r n = none) (hm : n ≤ m) : afterN code r m = none := by
  induction m with
  | zero => obtain rfl : n = 0 := by omega
            exact h
  | succ m ih =>
    by_cases e : n = m + 1
    · subst e; exact h
    · unfold afterN; rw [ih (by omega)]; rfl
end Go.Proofs.YtkejdmdldhlkgaaGreatDoor

/- exact: what an instruction does to rows (do at []integer.Int). -/
namespace Go.Proofs.YtkejdmdldhlkgaaGreatDoor
open Num
open Go.ChangeShapes Go.WideShapes Go.ChangeAt Go.RowKit
set_option linter.unusedVariables false
set_option linter.unusedSimpArgs false
attribute [local go_sem ↓] Go.wp_at_zero Go.wp_at_succ
/-- the registers in a block that may be written -/
structure RegsP (base : Nat) (w : World) (rb : Nat) (g : Grid) : Prop where
  free : Free w rb
  ty : typOf w rb = some 54
  cell : ∀ k, k < g.length → ∃ u, w.cell? ⟨rb, k, none⟩ = some u ∧ PRow base w u (g.getD k [])
theorem RegsP.rebase {base base' rb : Nat} {w : World} {g : Grid} (h : RegsP base w rb g) (hb : base' ≤ base) : RegsP base' w rb g := ⟨h.free, h.ty, fun j hj => by obtain ⟨u, hu, hr⟩ := h.cell j hj; exact ⟨u, hu, hr.rebase hb⟩⟩
theorem RegsP.keep {base rb : Nat} {w w' : World} {g : Grid} (h : RegsP base w rb g) (k : Below w.heap.size w w') : RegsP base w' rb g :=
  ⟨h.free.keep k, typ_keep h.ty k, fun j hj => by obtain ⟨u, hu, hr⟩ := h.cell j hj; exact ⟨u, bkeep k hu, hr.keep lims_int k⟩⟩
/-- one of them is set -/
theorem RegsP.step {base rb nt : Nat} {w : World} {g : Grid} {v : Value} {r : List Int} (h : RegsP base w rb g) (hv : PRow base w v r) (ht : nt < g.length) : RegsP base (w.setCell ⟨rb, nt, none⟩ v) rb (g.set nt r) := by
  have hk : Kp (· ≠ 54) w (w.setCell ⟨rb, nt, none⟩ v) := (Kp.refl _ w).set (fun t ht => by rw [h.ty] at ht; cases ht; exact fun k => k rfl) _
  refine ⟨h.free.set _ _, by rw [typ_set]; exact h.ty, fun k hk' => ?_⟩
  rw [List.length_set] at hk'
  by_cases e : nt = k
  · subst e
    obtain ⟨u, hu, _⟩ := h.cell nt hk'
    refine ⟨v, cell_here hu _, ?_⟩
    have : (g.set nt r).getD nt [] = r := by simp [hk']
    rw [this]
    exact hv.kp lims_int hk (by decide) (by decide)
  · obtain ⟨u, hu, hr⟩ := h.cell k hk'
    refine ⟨u, cell_far hu (fun e2 => e (by cases e2; rfl)) _, ?_⟩
    have : (g.set nt r).getD k [] = g.getD k [] := by simp [List.getElem?_set_ne e]
    rw [this]
    exact hr.kp lims_int hk (by decide) (by decide)
end Go.Proofs.YtkejdmdldhlkgaaGreatDoor

/- exact: run on rows. -/
namespace Go.Proofs.YtkejdmdldhlkgaaGreatDoor
open Num
open Go.ChangeShapes Go.WideShapes Go.ChangeAt Go.RowKit
set_option linter.unusedVariables false
set_option linter.unusedSimpArgs false
attribute [local go_sem ↓] Go.wp_at_zero Go.wp_at_succ
end Go.Proofs.YtkejdmdldhlkgaaGreatDoor

/- exact: what an instruction does to numbers (do). -/
namespace Go.Proofs.YtkejdmdldhlkgaaGreatDoor
open Num
open Go.ChangeShapes Go.WideShapes Go.ChangeAt Go.RowKit
set_option linter.unusedVariables false
set_option linter.unusedSimpArgs false
attribute [local go_sem ↓] Go.wp_at_zero Go.wp_at_succ
end Go.Proofs.YtkejdmdldhlkgaaGreatDoor

/- exact: run on numbers. -/
namespace Go.Proofs.YtkejdmdldhlkgaaGreatDoor
open Num
open Go.ChangeShapes Go.WideShapes Go.ChangeAt Go.RowKit
set_option linter.unusedVariables false
set_option linter.unusedSimpArgs false
attribute [local go_sem ↓] Go.wp_at_zero Go.wp_at_succ
end Go.Proofs.YtkejdmdldhlkgaaGreatDoor

/- exact: run on numbers, told to a loop's body. -/
namespace Go.Proofs.YtkejdmdldhlkgaaGreatDoor
open Num
open Go.ChangeShapes Go.WideShapes Go.ChangeAt Go.RowKit
set_option linter.unusedVariables false
set_option linter.unusedSimpArgs false
attribute [local go_sem ↓] Go.wp_at_zero Go.wp_at_succ
/-- how many instructions are told -/
structure ToldM (code : List Ins) (r : List Int) (m : Nat) : Prop where
  le : m ≤ code.length
  has : ∃ s, afterN code r m = some s
  stop : m < code.length → afterN code r (m + 1) = none
theorem ToldM.lt {code : List Ins} {r : List Int} {m n : Nat} (h : ToldM code r m) (hn : n < code.length) {s : List Int} (e : afterN code r (n + 1) = some s) (hm : n ≤ m) : n < m := by
  rcases Nat.lt_or_ge n m with h1 | h1
  · exact h1
  · obtain rfl : n = m := by omega
    rw [h.stop hn] at e; cases e
theorem ToldM.eq {code : List Ins} {r : List Int} {m n : Nat} (h : ToldM code r m) (e : afterN code r (n + 1) = none) (hm : n ≤ m) : n = m := by
  rcases Nat.lt_or_ge n m with h1 | h1
  · obtain ⟨s, hs⟩ := h.has
    rw [afterN_mono e (show n + 1 ≤ m by omega)] at hs; cases hs
  · omega
theorem typ_cells {w : World} {q : Nat} {t : TypeId} (h : typOf w q = some t) : ∃ o : Obj, w.heap[q]? = some o ∧ o.isCells = true := by
  unfold typOf at h
  cases e : w.heap[q]? with
  | none => rw [e] at h; cases h
  | some o =>
    rw [e] at h
    cases o with
    | cells c t' f => exact ⟨_, rfl, rfl⟩
    | _ => cases h
theorem typ_outK {X : Nat → Prop} {a b : World} {g : Nat} {t : TypeId} (h : typOf a g = some t) (ho : Out X a b) (hx : ¬ X g) : typOf b g = some t := by
  rw [typ_of_block (w := a) (ho.block g (typ_lt h) hx)]; exact h
end Go.Proofs.YtkejdmdldhlkgaaGreatDoor

/- vm's laws: long; the document's example. -/
namespace Go.Proofs.YtkejdmdldhlkgaaGreatDoor
open Num
open Go.ChangeShapes Go.WideShapes Go.ChangeAt Go.RowKit
set_option linter.unusedVariables false
set_option linter.unusedSimpArgs false
end Go.Proofs.YtkejdmdldhlkgaaGreatDoor

/- vm's laws: the numbers that come in, as the reference's blocks. -/
namespace Go.Proofs.YtkejdmdldhlkgaaGreatDoor
open Num
open Go.ChangeShapes Go.WideShapes Go.ChangeAt Go.RowKit
set_option linter.unusedVariables false
set_option linter.unusedSimpArgs false
end Go.Proofs.YtkejdmdldhlkgaaGreatDoor

/- exact's laws: long; numbers that come in as rows of both. -/
namespace Go.Proofs.YtkejdmdldhlkgaaGreatDoor
open Num
open Go.ChangeShapes Go.WideShapes Go.ChangeAt Go.RowKit
set_option linter.unusedVariables false
set_option linter.unusedSimpArgs false
end Go.Proofs.YtkejdmdldhlkgaaGreatDoor

/- exact's laws: numbers that come in, as rows of both; grids of both. -/
namespace Go.Proofs.YtkejdmdldhlkgaaGreatDoor
open Num
open Go.ChangeShapes Go.WideShapes Go.ChangeAt Go.RowKit
set_option linter.unusedVariables false
set_option linter.unusedSimpArgs false
attribute [local go_sem ↓] Go.wp_at_zero Go.wp_at_succ
theorem OwnF.kp {R : World → Value → Int → Prop} {E : TypeId} {w0 wr w' : World} {v : Value} {n : Nat} {f : Nat → Int} {S : TypeId → Prop} (hR : Lims R) (h : OwnF R E w0 wr v n f) (k : Kp S wr w') (hs : S 104) (hE : S E) (hb : Below w0.heap.size w0 w') : OwnF R E w0 w' v n f := by
  obtain ⟨xs, ⟨h1, _⟩, h2⟩ := h
  refine ⟨xs, ⟨owns_kp h1 k hE, hb⟩, fun j hj => ?_⟩
  obtain ⟨nb, a, len, c, k1, k2, k3⟩ := h2 j hj
  exact ⟨nb, a, len, c, k1, k2, hR _ _ _ _ k3 (k.lim hs)⟩
theorem OwnF.grown {R : World → Value → Int → Prop} {E : TypeId} {w0 wr w' : World} {v : Value} {n : Nat} {f : Nat → Int} (h : OwnF R E w0 wr v n f) (ho : Out (fun k => v.ownBlock = some k) wr w') : Kp (· ≠ E) wr w' :=
  Kp.out ho (fun q t hq ht hne => by
    obtain ⟨xs, h1, _⟩ := h
    rw [own_typ h1 hq] at ht
    exact hne (Option.some.inj ht).symm)
theorem OwnL.kp {α : Type} {S S' : TypeId → Prop} {T : TypeId} {Pr : World → Value → α → Prop} {w0 wr w' : World} {v : Value} {g : List α} (hP : Prs S Pr) (h : OwnL T Pr w0 wr v g) (k : Kp S' wr w') (hs : ∀ t, S t → S' t) (hT : S' T) (hb : Below w0.heap.size w0 w') : OwnL T Pr w0 w' v g := by
  obtain ⟨xs, ⟨h1, _⟩, h2⟩ := h
  refine ⟨xs, ⟨owns_kp h1 k hT, hb⟩, fun j hj => ?_⟩
  obtain ⟨u, hu, hr⟩ := h2 j hj
  exact ⟨u, hu, hP.kp hr (k.weak hs)⟩
end Go.Proofs.YtkejdmdldhlkgaaGreatDoor

/- The reference's rows: Combine, Add, Sub, Scale, Zero. -/
namespace Go.Proofs.YtkejdmdldhlkgaaGreatDoor
open Num
open Go.ChangeShapes Go.WideShapes Go.ChangeAt Go.RowKit
set_option linter.unusedVariables false
set_option linter.unusedSimpArgs false
attribute [local go_sem ↓] Go.wp_at_zero Go.wp_at_succ
end Go.Proofs.YtkejdmdldhlkgaaGreatDoor

/- The reference's rows: Over; what an instruction makes of rows (do). -/
namespace Go.Proofs.YtkejdmdldhlkgaaGreatDoor
open Num
open Go.ChangeShapes Go.WideShapes Go.ChangeAt Go.RowKit
set_option linter.unusedVariables false
set_option linter.unusedSimpArgs false
attribute [local go_sem ↓] Go.wp_at_zero Go.wp_at_succ
end Go.Proofs.YtkejdmdldhlkgaaGreatDoor

