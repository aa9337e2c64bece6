/- Texts of this seat, laid together: ExD, VmF, VmG, VmH, ExE, ExI, RtD, ExM, ExJ, ExL, ExN, ExO. Each opens with its own remark, which says what it proves, and under which conditions. -/
import Derived.Test.YtkejdmdldhlkgaaDoorP08
import Derived.Test.YtkejdmdldhlkgaaDoorP14
import Derived.Test.YtkejdmdldhlkgaaDoorP05
import Derived.Laws.CopyRow
import Derived.Laws.Rows
import Derived.Laws.Tables
import Derived.Test.YtkejdmdldhlkgaaDoorP13
import Derived.Deep.DrawnRows
import Derived.Deep.RegionLaw
import Derived.Deep.Cut
import Derived.Deep.DeepCutAuto
import Derived.Deep.LoopGhost
import Derived.Test.YtkejdmdldhlkgaaDoorP15
import Derived.Shelf.RegionOpen
set_option linter.unusedVariables false
set_option linter.unusedSimpArgs false
/- exact: a new row of noughts, into which a row of numbers is copied. -/
namespace Go.Proofs.YtkejdmdldhlkgaaDoor
open Num
open Go.ChangeShapes Go.WideShapes Go.ChangeAt Go.RowKit
set_option linter.unusedVariables false
set_option linter.unusedSimpArgs false
section
variable {ops : Array Oper} {o : Oper} {a : Act} {Q : Exit → Act → World → Prop} {w : World} {d x : Operand}
end
end Go.Proofs.YtkejdmdldhlkgaaDoor

/- vm: New. -/
namespace Go.Proofs.YtkejdmdldhlkgaaDoor
open Num
open Go.ChangeShapes Go.WideShapes Go.ChangeAt Go.RowKit
set_option linter.unusedVariables false
set_option linter.unusedSimpArgs false
attribute [local go_sem ↓] Go.wp_at_zero Go.wp_at_succ
/-- blocks fit a program -/
structure FitsG (ins : Int) (g : Grid) : Prop where
  len : (g.length : Int) = ins
  rect : Rect (g.getD 0 []).length g
  m : (g.getD 0 []).length ≤ 4096
abbrev GridV (w : World) (v : Value) (g : Grid) : Prop := IsL 42 (PRow 0) 0 w v g
end Go.Proofs.YtkejdmdldhlkgaaDoor

/- vm: Next, Done, Outs. -/
namespace Go.Proofs.YtkejdmdldhlkgaaDoor
open Num
open Go.ChangeShapes Go.WideShapes Go.ChangeAt Go.RowKit
set_option linter.unusedVariables false
set_option linter.unusedSimpArgs false
attribute [local go_sem ↓] Go.wp_at_zero Go.wp_at_succ
section
variable {base b rb rc : Nat} {ins regs : Int} {code : List Ins} {outs : List Int} {g : Grid} {n : Nat}
end
end Go.Proofs.YtkejdmdldhlkgaaDoor

/- vm: Run. -/
namespace Go.Proofs.YtkejdmdldhlkgaaDoor
open Num
open Go.ChangeShapes Go.WideShapes Go.ChangeAt Go.RowKit
set_option linter.unusedVariables false
set_option linter.unusedSimpArgs false
end Go.Proofs.YtkejdmdldhlkgaaDoor

/- exact: right, Run. -/
namespace Go.Proofs.YtkejdmdldhlkgaaDoor
open Num
open Go.ChangeShapes Go.WideShapes Go.ChangeAt Go.RowKit
set_option linter.unusedVariables false
set_option linter.unusedSimpArgs false
attribute [local go_sem ↓] Go.wp_at_zero Go.wp_at_succ
end Go.Proofs.YtkejdmdldhlkgaaDoor

/- exact: laid: the registers over a grid. -/
namespace Go.Proofs.YtkejdmdldhlkgaaDoor
open Num
open Go.ChangeShapes Go.WideShapes Go.ChangeAt Go.RowKit
set_option linter.unusedVariables false
set_option linter.unusedSimpArgs false
attribute [local go_sem ↓] Go.wp_at_zero Go.wp_at_succ
/-- one register is set, to a row in a new block -/
theorem RegsP.put {w W : World} {base rb k : Nat} {G : Grid} {u : Value} {r : List Int} (h : RegsP base w rb G) (ho : Out (fun q => q = rb ∨ q = w.heap.size) w W) (hf : Free W rb) (ht : typOf W rb = some 42)
    (hc : ∀ j, j ≠ k → ∀ v, w.cell? ⟨rb, j, none⟩ = some v → W.cell? ⟨rb, j, none⟩ = some v) (hk : W.cell? ⟨rb, k, none⟩ = some u) (hu : PRow base W u r) : RegsP base W rb (G.set k r) := by
  have hkp : Kp (· ≠ 42) w W := Kp.out ho (fun q t hq ht' hs => by
    rcases hq with rfl | rfl
    · rw [h.ty] at ht'; exact hs (Option.some.inj ht').symm
    · exact absurd (typ_lt ht') (by omega))
  refine ⟨hf, ht, fun j hj => ?_⟩
  rw [List.length_set] at hj
  by_cases e : k = j
  · subst e
    exact ⟨u, hk, by rw [show (G.set k r).getD k [] = r by simp [hj]]; exact hu⟩
  · obtain ⟨v, hv, hr⟩ := h.cell j hj
    exact ⟨v, hc j (Ne.symm e) v hv, by rw [show (G.set k r).getD j [] = G.getD j [] by simp [List.getElem?_set_ne e]]; exact hr.kp lims_int hkp (by decide) (by decide)⟩
end Go.Proofs.YtkejdmdldhlkgaaDoor

/- The reference: Follow: a program over a grid. -/
namespace Go.Proofs.YtkejdmdldhlkgaaDoor
open Num
open Go.ChangeShapes Go.WideShapes Go.ChangeAt Go.RowKit
set_option linter.unusedVariables false
set_option linter.unusedSimpArgs false
attribute [local go_sem ↓] Go.wp_at_zero Go.wp_at_succ
/-- the row that the n-th instruction sets -/
def toldR (code : List Ins) (g : Grid) (n : Nat) : List Int :=
  match after code g n with
  | some h => (stepR (code.getD n default) (h.getD (code.getD n default).a.toNat []) (h.getD (code.getD n default).b.toNat [])).getD []
  | none => []
/-- the rows that the first n instructions set -/
def told (code : List Ins) (g : Grid) (n : Nat) : Grid := (List.range n).map (toldR code g)
/-- a list of the call's own (from base on), built by append; base is free -/
def OwnLB {α : Type} (T : TypeId) (Pr : World → Value → α → Prop) (base : Nat) (w : World) (v : Value) (g : List α) : Prop :=
  ∃ xs, w.ownsRow base T 1 v g.length xs ∧ ∀ k (hk : k < g.length), ∃ u, xs[k]? = some u ∧ Pr w u g[k]
section
variable {α : Type} {S S' : TypeId → Prop} {T : TypeId} {Pr : World → Value → α → Prop} {base : Nat} {w0 wr w' : World} {v u : Value} {g : List α} {y : α}
theorem OwnLB.nil (T : TypeId) (Pr : World → Value → α → Prop) (base : Nat) (w : World) : OwnLB T Pr base w (.slice none 0 0) [] := ⟨[], World.ownsRow_nil _ _ _ _, fun k hk => absurd hk (by simp)⟩
theorem OwnLB.keep (hP : Prs S Pr) (h : OwnLB T Pr base wr v g) (hb : Below wr.heap.size wr w') : OwnLB T Pr base w' v g := by
  obtain ⟨xs, h1, h2⟩ := h
  refine ⟨xs, owns_kp (S := fun _ => True) h1 (Kp.of_below _ hb) trivial, fun k hk => ?_⟩
  obtain ⟨u, hu, hr⟩ := h2 k hk
  exact ⟨u, hu, hP.kp hr (Kp.of_below _ hb)⟩
theorem OwnLB.ex (h : OwnLB T Pr base wr v g) : ∃ a c, v = .slice a g.length c := by
  obtain ⟨xs, ⟨_, h1⟩, _⟩ := h
  rcases h1 with ⟨rfl, h0⟩ | ⟨b, cap, cur, rfl, _⟩
  · exact ⟨none, 0, by rw [h0]⟩
  · exact ⟨_, _, rfl⟩
theorem OwnLB.set (hP : Prs S Pr) (h : OwnLB T Pr base wr v g) {p : Addr} {t : TypeId} (ht : typOf wr p.block = some t) (h2 : ¬ S t) (hp : p.block < base) (y : Value) : OwnLB T Pr base (wr.setCell p y) v g := by
  obtain ⟨xs, hO, hx⟩ := h
  have hk : Kp S wr (wr.setCell p y) := (Kp.refl _ _).set (fun t' ht' => by rw [ht] at ht'; cases ht'; exact h2) y
  refine ⟨xs, ownsRow_setCell_other hO ?_ y, fun k hk' => ?_⟩
  · intro hb
    have := (hO.lt _ hb).1
    omega
  · obtain ⟨u, hu, hr⟩ := hx k hk'
    exact ⟨u, hu, hP.kp hr hk⟩
end
section
variable {α : Type} {P : Program} {TT T : TypeId} {bytes : Nat} {S : TypeId → Prop} {Pr : World → Value → α → Prop} {ops : Array Oper} {o : Oper} {a : Act} {Q : Exit → Act → World → Prop} {base : Nat} {wr : World} {v u : Value} {g : List α} {y : α} {s x : Operand} {cc gb : Nat}
end
end Go.Proofs.YtkejdmdldhlkgaaDoor

/- exact: run on rows, told to a loop's body. -/
namespace Go.Proofs.YtkejdmdldhlkgaaDoor
open Num
open Go.ChangeShapes Go.WideShapes Go.ChangeAt Go.RowKit
set_option linter.unusedVariables false
set_option linter.unusedSimpArgs false
attribute [local go_sem ↓] Go.wp_at_zero Go.wp_at_succ
/-- a row that lies in none of the blocks S -/
def PRowX (S : Nat → Prop) (w : World) (v : Value) (l : List Int) : Prop := PRow 0 w v l ∧ (l = [] ∨ ∀ b, rowBlk v = some b → ¬ S b)
section
variable {S S' : Nat → Prop} {w w' : World} {v : Value} {l : List Int} {base : Nat}
theorem PRowX.keep (h : PRowX S w v l) (k : Below w.heap.size w w') : PRowX S w' v l := ⟨h.1.keep lims_int k, h.2⟩
theorem Soil.lt (h : Soil S w) {q : Nat} (hq : S q) : q < w.heap.size := by obtain ⟨t, ht, _⟩ := h q hq; exact typ_lt ht
theorem PRowX.of (h : PRow base w v l) (hS : ∀ q, S q → q < base) : PRowX S w v l := by
  refine ⟨h.rebase (Nat.zero_le _), ?_⟩
  obtain ⟨a, c, rfl, _, _, h4⟩ := h
  rcases h4 with h4 | ⟨b, off, rfl, hb, _⟩
  · exact .inl h4
  · refine .inr fun q hq hs => ?_
    simp [rowBlk] at hq
    subst hq
    have := hS _ hs
    omega
theorem OutT.lim (h : OutT S w w') (hS : Soil S w) : Lim w w' := fun q ht => by
  have hq : ¬ S q := fun hs => by
    obtain ⟨t, h1, h2⟩ := hS q hs
    rw [ht] at h1; cases h1; exact h2 rfl
  have e := h.1.block q (typ_lt ht) hq
  exact ⟨by rw [typ_of_block (w := w) e]; exact ht, fun o n hc => by rw [World.cell?_of_block (w := w) e]; exact hc⟩
theorem PRowX.told (h : PRowX S w v l) (ho : OutT S w w') (hS : Soil S w) (hg : Grew S S' w) : PRowX S' w' v l := by
  obtain ⟨⟨a, c, rfl, h1, h2, h4⟩, hx⟩ := h
  rcases h4 with h4 | ⟨b, off, rfl, hb, ht, hi⟩
  · exact ⟨⟨a, c, rfl, h1, h2, .inl h4⟩, .inl h4⟩
  · rcases hx with hx | hx
    · exact ⟨⟨_, c, rfl, h1, h2, .inl hx⟩, .inl hx⟩
    · have hn : ¬ S b := hx b rfl
      have e := ho.1.block b (typ_lt ht) hn
      refine ⟨⟨_, c, rfl, h1, h2, .inr ⟨b, off, rfl, hb, by rw [typ_of_block (w := w) e]; exact ht, hi.stay lims_int e (ho.lim hS)⟩⟩, .inr fun q hq hs => ?_⟩
      simp [rowBlk] at hq
      subst hq
      rcases hg _ hs with h | h
      · exact hn h
      · have := typ_lt ht; omega
end
/-- the registers in a block that may be written; their rows lie in none of the blocks S -/
structure RegsX (S : Nat → Prop) (w : World) (rb : Nat) (g : Grid) : Prop where
  free : Free w rb
  ty : typOf w rb = some 42
  cell : ∀ k, k < g.length → ∃ u, w.cell? ⟨rb, k, none⟩ = some u ∧ PRowX S w u (g.getD k [])
section
variable {S S' : Nat → Prop} {w w' : World} {rb base : Nat} {g : Grid}
theorem RegsX.regs (h : RegsX S w rb g) : RegsP 0 w rb g := ⟨h.free, h.ty, fun k hk => by obtain ⟨u, hu, hr⟩ := h.cell k hk; exact ⟨u, hu, hr.1⟩⟩
theorem RegsX.keep (h : RegsX S w rb g) (k : Below w.heap.size w w') : RegsX S w' rb g :=
  ⟨h.free.keep k, typ_keep h.ty k, fun j hj => by obtain ⟨u, hu, hr⟩ := h.cell j hj; exact ⟨u, bkeep k hu, hr.keep k⟩⟩
theorem RegsX.of (h : RegsP base w rb g) (hS : ∀ q, S q → q < base) : RegsX S w rb g :=
  ⟨h.free, h.ty, fun j hj => by obtain ⟨u, hu, hr⟩ := h.cell j hj; exact ⟨u, hu, .of hr hS⟩⟩
theorem RegsX.told (h : RegsX S w rb g) (hr : ¬ S rb) (ho : OutT S w w') (hS : Soil S w) (hg : Grew S S' w) : RegsX S' w' rb g :=
  ⟨h.free.out ho.1 hr, typ_outK h.ty ho.1 hr, fun j hj => by obtain ⟨u, hu, hr'⟩ := h.cell j hj; exact ⟨u, okeep ho.1 hu hr, hr'.told ho hS hg⟩⟩
theorem RegsX.step {nt : Nat} {v : Value} {r : List Int} (h : RegsX S w rb g) (hv : PRowX S w v r) (ht : nt < g.length) : RegsX S (w.setCell ⟨rb, nt, none⟩ v) rb (g.set nt r) := by
  have hk : Kp (· ≠ 42) w (w.setCell ⟨rb, nt, none⟩ v) := (Kp.refl _ w).set (fun t ht => by rw [h.ty] at ht; cases ht; exact fun k => k rfl) _
  have hp : ∀ {u : Value} {l : List Int}, PRowX S w u l → PRowX S (w.setCell ⟨rb, nt, none⟩ v) u l := fun h => ⟨h.1.kp lims_int hk (by decide) (by decide), h.2⟩
  refine ⟨h.free.set _ _, by rw [typ_set]; exact h.ty, fun k hk' => ?_⟩
  rw [List.length_set] at hk'
  by_cases e : nt = k
  · subst e
    obtain ⟨u, hu, _⟩ := h.cell nt hk'
    refine ⟨v, cell_here hu _, ?_⟩
    have : (g.set nt r).getD nt [] = r := by simp [hk']
    rw [this]
    exact hp hv
  · obtain ⟨u, hu, hr⟩ := h.cell k hk'
    refine ⟨u, cell_far hu (fun e2 => e (by cases e2; rfl)) _, ?_⟩
    have : (g.set nt r).getD k [] = g.getD k [] := by simp [List.getElem?_set_ne e]
    rw [this]
    exact hp hr
end
/-- how many instructions are told -/
structure ToldG (code : List Ins) (g : Grid) (m : Nat) : Prop where
  le : m ≤ code.length
  has : ∃ h, after code g m = some h
  stop : m < code.length → after code g (m + 1) = none
theorem ToldG.lt {code : List Ins} {g h : Grid} {m n : Nat} (t : ToldG code g m) (hn : n < code.length) (e : after code g (n + 1) = some h) (hm : n ≤ m) : n < m := by
  rcases Nat.lt_or_ge n m with h1 | h1
  · exact h1
  · obtain rfl : n = m := by omega
    rw [t.stop hn] at e; cases e
theorem ToldG.eq {code : List Ins} {g : Grid} {m n : Nat} (t : ToldG code g m) (e : after code g (n + 1) = none) (hm : n ≤ m) : n = m := by
  rcases Nat.lt_or_ge n m with h1 | h1
  · obtain ⟨s, hs⟩ := t.has
    rw [after_mono e (show n + 1 ≤ m by omega)] at hs; cases hs
  · omega
end Go.Proofs.YtkejdmdldhlkgaaDoor

/- exact: Rows, Judge. -/
namespace Go.Proofs.YtkejdmdldhlkgaaDoor
open Num
open Go.ChangeShapes Go.WideShapes Go.ChangeAt Go.RowKit
set_option linter.unusedVariables false
set_option linter.unusedSimpArgs false
attribute [local go_sem ↓] Go.wp_at_zero Go.wp_at_succ
/-- a row of the call's own, in a block from lo on; behind which block the next may lie -/
def RowLH (w : World) (v : Value) (x : List Int × Nat × Nat) : Prop := RowO IsInt 37 x.2.1 w v x.1 ∧ x.2.2 = (rowBlk v).elim 0 (· + 1)
/-- rows in blocks that lie one behind the other -/
def AscLH (gs : List (List Int × Nat × Nat)) : Prop := ∀ i j (hi : i < gs.length) (hj : j < gs.length), i < j → gs[i].2.2 ≤ gs[j].2.1
theorem RowLH.hi {w : World} {v : Value} {x : List Int × Nat × Nat} (h : RowLH w v x) : x.2.2 ≤ w.heap.size := by
  rw [h.2]
  cases e : rowBlk v with
  | none => exact Nat.zero_le _
  | some b => exact typ_lt (rowO_blk h.1 e).2
theorem OwnL.mapd {α β : Type} {T : TypeId} {Pr : World → Value → α → Prop} {Pr' : World → Value → β → Prop} {w0 wr : World} {v : Value} {g : List α} (f : α → β) (h : OwnL T Pr w0 wr v g) (hf : ∀ u x, x ∈ g → Pr wr u x → Pr' wr u (f x)) : OwnL T Pr' w0 wr v (g.map f) := by
  obtain ⟨xs, h1, h2⟩ := h
  refine ⟨xs, by rw [List.length_map]; exact h1, fun k hk => ?_⟩
  rw [List.length_map] at hk
  obtain ⟨u, hu, hp⟩ := h2 k hk
  exact ⟨u, hu, by rw [List.getElem_map]; exact hf _ _ (List.getElem_mem hk) hp⟩
/-- what Rows answers -/
def ExRowsPost (ins regs : Int) (code : List Ins) (outs : List Int) (g : Grid) (w : World) (e : Ending) (w' : World) : Prop :=
  ((¬ ProgOk ins regs code outs ∧ e = .returned (.tuple #[.slice none 0 0, .int .i64 0, .int .i64 80])) ∨
   (ProgOk ins regs code outs ∧ ¬ FitsG ins g ∧ e = .returned (.tuple #[.slice none 0 0, .int .i64 0, .int .i64 5])) ∨
   (ProgOk ins regs code outs ∧ FitsG ins g ∧ ∃ (k : Nat) (h : Grid), k < code.length ∧ after code (startG g regs.toNat (g.getD 0 []).length) k = some h ∧ after code (startG g regs.toNat (g.getD 0 []).length) (k + 1) = none ∧ e = .returned (.tuple #[.slice none 0 0, .int .i64 k, .int .i64 20])) ∨
   (ProgOk ins regs code outs ∧ FitsG ins g ∧ ∃ (h : Grid) (v : Value), after code (startG g regs.toNat (g.getD 0 []).length) code.length = some h ∧ e = .returned (.tuple #[v, .int .i64 0, .int .i64 0]) ∧ OwnL 42 (RowO IsInt 37 w.heap.size) w w' v (outsG outs h))) ∧ Below w.heap.size w w'
/-- the same; its rows lie one behind the other -/
def ExRowsPostX (ins regs : Int) (code : List Ins) (outs : List Int) (g : Grid) (w : World) (e : Ending) (w' : World) : Prop :=
  ((¬ ProgOk ins regs code outs ∧ e = .returned (.tuple #[.slice none 0 0, .int .i64 0, .int .i64 80])) ∨
   (ProgOk ins regs code outs ∧ ¬ FitsG ins g ∧ e = .returned (.tuple #[.slice none 0 0, .int .i64 0, .int .i64 5])) ∨
   (ProgOk ins regs code outs ∧ FitsG ins g ∧ ∃ (k : Nat) (h : Grid), k < code.length ∧ after code (startG g regs.toNat (g.getD 0 []).length) k = some h ∧ after code (startG g regs.toNat (g.getD 0 []).length) (k + 1) = none ∧ e = .returned (.tuple #[.slice none 0 0, .int .i64 k, .int .i64 20])) ∨
   (ProgOk ins regs code outs ∧ FitsG ins g ∧ ∃ (h : Grid) (v : Value) (gs : List (List Int × Nat × Nat)), after code (startG g regs.toNat (g.getD 0 []).length) code.length = some h ∧ e = .returned (.tuple #[v, .int .i64 0, .int .i64 0]) ∧ gs.map (·.1) = outsG outs h ∧ AscLH gs ∧ (∀ x ∈ gs, w.heap.size ≤ x.2.1) ∧ OwnL 42 RowLH w w' v gs)) ∧ Below w.heap.size w w'
theorem ExRowsPostX.plain {ins regs : Int} {code : List Ins} {outs : List Int} {g : Grid} {w : World} {e : Ending} {w' : World} (h : ExRowsPostX ins regs code outs g w e w') : ExRowsPost ins regs code outs g w e w' := by
  obtain ⟨h, hB⟩ := h
  refine ⟨?_, hB⟩
  rcases h with h | h | h | ⟨h1, h2, h, v, gs, h3, h4, h5, h6, h7, h8⟩
  · exact .inl h
  · exact .inr (.inl h)
  · exact .inr (.inr (.inl h))
  · refine .inr (.inr (.inr ⟨h1, h2, h, v, h3, h4, ?_⟩))
    rw [← h5]
    exact h8.mapd _ fun u x hx hr => hr.1.rebase (h7 x hx)
end Go.Proofs.YtkejdmdldhlkgaaDoor

/- exact: Trace: what its iterator tells. -/
namespace Go.Proofs.YtkejdmdldhlkgaaDoor
open Num
open Go.ChangeShapes Go.WideShapes Go.ChangeAt Go.RowKit
set_option linter.unusedVariables false
set_option linter.unusedSimpArgs false
attribute [local go_sem ↓] Go.wp_at_zero Go.wp_at_succ
/-- what the iterator finds -/
structure TraceIn (n0 : Nat) (X0 : Nat → Prop) (pb xb : Nat) (ins regs : Int) (ca oa : Option Addr) (cc oc : Nat) (code : List Ins) (outs : List Int) (v : Value) (l : List Int) (W : World) : Prop where
  p0 : W.cell? ⟨pb, 0, none⟩ = some (.int .i64 ins)
  p1 : W.cell? ⟨pb, 1, none⟩ = some (.int .i64 regs)
  p2 : W.cell? ⟨pb, 2, none⟩ = some (.slice ca code.length cc)
  p3 : W.cell? ⟨pb, 3, none⟩ = some (.slice oa outs.length oc)
  x0 : W.cell? ⟨xb, 0, none⟩ = some v
  hc : InsV W ca cc code
  ho : IntsV W oa oc outs
  hv : PRow 0 W v l
  lt : ∀ q, X0 q → q < n0
  le : n0 ≤ W.heap.size
  ty : ∀ q, X0 q → typOf W q = some 3
  nc : ∀ b off, ca = some ⟨b, off, none⟩ → 0 < code.length → ¬ X0 b
section
variable {n0 : Nat} {X0 : Nat → Prop} {pb xb : Nat} {ins regs : Int} {ca oa : Option Addr} {cc oc : Nat} {code : List Ins} {outs : List Int} {v : Value} {l : List Int} {W W' : World}
theorem TraceIn.keep (h : TraceIn n0 X0 pb xb ins regs ca oa cc oc code outs v l W) (k : Below W.heap.size W W') : TraceIn n0 X0 pb xb ins regs ca oa cc oc code outs v l W' :=
  ⟨bkeep k h.p0, bkeep k h.p1, bkeep k h.p2, bkeep k h.p3, bkeep k h.x0, h.hc.keep k, h.ho.keep k, h.hv.keep lims_int k, h.lt, Nat.le_trans h.le k.size, fun q hq => typ_keep (h.ty q hq) k, h.nc⟩
end
end Go.Proofs.YtkejdmdldhlkgaaDoor

/- exact: Steps: what its iterator tells. -/
namespace Go.Proofs.YtkejdmdldhlkgaaDoor
open Num
open Go.ChangeShapes Go.WideShapes Go.ChangeAt Go.RowKit
set_option linter.unusedVariables false
set_option linter.unusedSimpArgs false
attribute [local go_sem ↓] Go.wp_at_zero Go.wp_at_succ
/-- what is told: the k-th row, in memory of its own -/
def AR (n0 : Nat) (T : Nat → List Int) (k : Nat) (args : Array Value) (X : World) : Prop := ∃ v base, args = #[.int .i64 (k : Int), v] ∧ n0 ≤ base ∧ RowO IsInt 37 base X v (T k)
/-- the block of what is told -/
def XsR (args : Array Value) (q : Nat) : Prop := ∃ v, args[1]? = some v ∧ rowBlk v = some q
theorem AR.cells {n0 : Nat} {T : Nat → List Int} {k q : Nat} {args : Array Value} {X : World} (h : AR n0 T k args X) (hq : XsR args q) : ∃ o, X.heap[q]? = some o ∧ o.isCells = true := by
  obtain ⟨v, base, rfl, _, hr⟩ := h
  obtain ⟨v', e, hb⟩ := hq
  simp at e
  subst e
  exact typ_cells (rowO_blk hr hb).2
theorem OutT.base {S X : Nat → Prop} {a b c : World} (k : Below a.heap.size a b) (h : OutT (fun q => S q ∨ X q) b c) (hx : ∀ q, X q → a.heap.size ≤ q) (hS : ∀ q, S q → q < a.heap.size) : OutT S a c := by
  refine ⟨⟨h.1.os.trans k.os, h.1.tape.trans k.tape, h.1.output.trans k.output, Nat.le_trans k.size h.1.size, fun q hq hs => (h.1.block q (Nat.lt_of_lt_of_le hq k.size) fun e => ?_).trans (k.block q hq)⟩, fun q hq hl => ?_⟩
  · rcases e with e | e
    · exact hs e
    · have := hx q e; omega
  · rw [h.2 q (.inl hq) (Nat.lt_of_lt_of_le hl k.size)]
    unfold typOf; rw [k.block q hl]
/-- what the iterator finds -/
structure StepsIn (n0 : Nat) (S0 : Nat → Prop) (pb xb : Nat) (ins regs : Int) (ca oa : Option Addr) (cc oc : Nat) (code : List Ins) (outs : List Int) (v : Value) (g : Grid) (W : World) : Prop where
  p0 : W.cell? ⟨pb, 0, none⟩ = some (.int .i64 ins)
  p1 : W.cell? ⟨pb, 1, none⟩ = some (.int .i64 regs)
  p2 : W.cell? ⟨pb, 2, none⟩ = some (.slice ca code.length cc)
  p3 : W.cell? ⟨pb, 3, none⟩ = some (.slice oa outs.length oc)
  x0 : W.cell? ⟨xb, 0, none⟩ = some v
  hc : InsV W ca cc code
  ho : IntsV W oa oc outs
  hv : GridV W v g
  hm : (g.getD 0 []).length ≤ 1099511627775
  lt : ∀ q, S0 q → q < n0
  le : n0 ≤ W.heap.size
  nc : ∀ b off, ca = some ⟨b, off, none⟩ → 0 < code.length → ¬ S0 b
section
variable {n0 : Nat} {S0 : Nat → Prop} {pb xb : Nat} {ins regs : Int} {ca oa : Option Addr} {cc oc : Nat} {code : List Ins} {outs : List Int} {v : Value} {g : Grid} {W W' : World}
theorem StepsIn.keep (h : StepsIn n0 S0 pb xb ins regs ca oa cc oc code outs v g W) (k : Below W.heap.size W W') : StepsIn n0 S0 pb xb ins regs ca oa cc oc code outs v g W' :=
  ⟨bkeep k h.p0, bkeep k h.p1, bkeep k h.p2, bkeep k h.p3, bkeep k h.x0, h.hc.keep k, h.ho.keep k, h.hv.keep (prs_row lims_int _ _) k, h.hm, h.lt, Nat.le_trans h.le k.size, h.nc⟩
end
end Go.Proofs.YtkejdmdldhlkgaaDoor

/- exact: Widest. -/
namespace Go.Proofs.YtkejdmdldhlkgaaDoor
open Num
open Go.ChangeShapes Go.WideShapes Go.ChangeAt Go.RowKit
set_option linter.unusedVariables false
set_option linter.unusedSimpArgs false
attribute [local go_sem ↓] Go.wp_at_zero Go.wp_at_succ
attribute [local go_sem] Oper.semAt_some
/-- a variable in memory that holds a number -/
def VarI (ub : Nat) (m : Int) (W : World) : Prop := typOf W ub = some 37 ∧ ∃ n a ln c, W.cell? ⟨ub, 0, none⟩ = some (.bool n) ∧ W.cell? ⟨ub, 1, none⟩ = some (.slice a ln c) ∧ W.frozen? ⟨ub, 0, none⟩ = false ∧ W.frozen? ⟨ub, 1, none⟩ = false ∧ IsInt W (.agg #[.bool n, .slice a ln c]) m
theorem VarI.keep {ub : Nat} {m : Int} {W V : World} (h : VarI ub m W) (k : Below W.heap.size W V) : VarI ub m V := by
  obtain ⟨ht, n, a, ln, c, h0, h1, f0, f1, hi⟩ := h
  exact ⟨typ_keep ht k, n, a, ln, c, bkeep k h0, bkeep k h1, bkeepf k h0 f0, bkeepf k h1 f1, hi.keep k⟩
theorem VarI.put {ub : Nat} {m z : Int} {W : World} {n : Bool} {a : Option Addr} {ln c : Nat} (h : VarI ub m W) (hi : IsInt W (.agg #[.bool n, .slice a ln c]) z) : VarI ub z ((W.setCell ⟨ub, 0, none⟩ (.bool n)).setCell ⟨ub, 1, none⟩ (.slice a ln c)) := by
  obtain ⟨ht, n', a', ln', c', h0, h1, f0, f1, _⟩ := h
  refine ⟨by rw [typ_set, typ_set]; exact ht, n, a, ln, c, cell_far (cell_here h0 _) (by simp) _, cell_here (cell_far h1 (by simp) _) _, ?_, ?_, hi.put2 h0 h1 _ _⟩
  · rw [World.frozen?_setCell, World.frozen?_setCell]; exact f0
  · rw [World.frozen?_setCell, World.frozen?_setCell]; exact f1
end Go.Proofs.YtkejdmdldhlkgaaDoor

