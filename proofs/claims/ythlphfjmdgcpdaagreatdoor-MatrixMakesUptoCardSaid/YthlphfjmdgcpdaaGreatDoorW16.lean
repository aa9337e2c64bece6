/- Texts of this seat, laid together: ExI, RtD, ExM, ExJ, ExL, ExN, ExO, RwG, MxA, Vo. Each opens with its own remark, which says what it proves, and under which conditions. -/
import Derived.Test.YthlphfjmdgcpdaaGreatDoorW14
import Derived.Test.YthlphfjmdgcpdaaGreatDoorW15
import Derived.Deep.RegionLaw
import Derived.Deep.LoopGhost
import Derived.Test.YthlphfjmdgcpdaaGreatDoorW10
import Derived.Shelf.RegionOpen
import Derived.Test.YthlphfjmdgcpdaaGreatDoorRows
import Derived.Test.YthlphfjmdgcpdaaGreatDoorW13
import Derived.Lib.SmallJoins
import Derived.Deep.Slices
import Derived.Deep.Matrix
import Derived.Deep.Fields
import Derived.ChangeSame
import Derived.DataShut
set_option linter.unusedVariables false
set_option linter.unusedSimpArgs false
/- exact: laid: the registers over a grid. -/
namespace Go.Proofs.YthlphfjmdgcpdaaGreatDoor
open Num
open Go.ChangeShapes Go.WideShapes Go.ChangeAt Go.RowKit
set_option linter.unusedVariables false
set_option linter.unusedSimpArgs false
attribute [local go_sem ↓] Go.wp_at_zero Go.wp_at_succ
theorem typ_out {X : Nat → Prop} {a b : World} {g : Nat} {t : TypeId} (h : typOf a g = some t) (ho : Out X a b) (hx : ¬ X g) : typOf b g = some t := by
  rw [typ_of_block (w := a) (ho.block g (typ_lt h) hx)]; exact h
/-- one register is set, to a row in a new block -/
theorem RegsP.put {w W : World} {base rb k : Nat} {G : Grid} {u : Value} {r : List Int} (h : RegsP base w rb G) (ho : Out (fun q => q = rb ∨ q = w.heap.size) w W) (hf : Free W rb) (ht : typOf W rb = some 59)
    (hc : ∀ j, j ≠ k → ∀ v, w.cell? ⟨rb, j, none⟩ = some v → W.cell? ⟨rb, j, none⟩ = some v) (hk : W.cell? ⟨rb, k, none⟩ = some u) (hu : PRow base W u r) : RegsP base W rb (G.set k r) := by
  have hkp : Kp (· ≠ 59) w W := Kp.out ho (fun q t hq ht' hs => by
    rcases hq with rfl | rfl
    · rw [h.ty] at ht'; exact hs (Option.some.inj ht').symm
    · exact absurd (typ_lt ht') (by omega))
  refine ⟨hf, ht, fun j hj => ?_⟩
  rw [List.length_set] at hj
  by_cases e : k = j
  · subst e
    exact ⟨u, hk, by rw [show (G.set k r).getD k [] = r by simp [hj]]; exact hu⟩
  · obtain ⟨v, hv, hr⟩ := h.cell j hj
    exact ⟨v, hc j (Ne.symm e) v hv, by rw [show (G.set k r).getD j [] = G.getD j [] by simp [List.getElem?_set_ne e]]; exact hr.kp lims_int hkp (by decide) (by decide)⟩
end Go.Proofs.YthlphfjmdgcpdaaGreatDoor

/- The reference: Follow: a program over a grid. -/
namespace Go.Proofs.YthlphfjmdgcpdaaGreatDoor
open Num
open Go.ChangeShapes Go.WideShapes Go.ChangeAt Go.RowKit
set_option linter.unusedVariables false
set_option linter.unusedSimpArgs false
attribute [local go_sem ↓] Go.wp_at_zero Go.wp_at_succ
/-- the row that the n-th instruction sets -/
def toldR (code : List Ins) (g : Grid) (n : Nat) : List Int :=
  match after code g n with
  | some h => (stepR (code.getD n default) (h.getD (code.getD n default).a.toNat []) (h.getD (code.getD n default).b.toNat [])).getD []
  | none => []
/-- the rows that the first n instructions set -/
def told (code : List Ins) (g : Grid) (n : Nat) : Grid := (List.range n).map (toldR code g)
/-- a list of the call's own (from base on), built by append; base is free -/
def OwnLB {α : Type} (T : TypeId) (Pr : World → Value → α → Prop) (base : Nat) (w : World) (v : Value) (g : List α) : Prop :=
  ∃ xs, w.ownsRow base T 1 v g.length xs ∧ ∀ k (hk : k < g.length), ∃ u, xs[k]? = some u ∧ Pr w u g[k]
section
variable {α : Type} {S S' : TypeId → Prop} {T : TypeId} {Pr : World → Value → α → Prop} {base : Nat} {w0 wr w' : World} {v u : Value} {g : List α} {y : α}
theorem OwnLB.nil (T : TypeId) (Pr : World → Value → α → Prop) (base : Nat) (w : World) : OwnLB T Pr base w (.slice none 0 0) [] := ⟨[], World.ownsRow_nil _ _ _ _, fun k hk => absurd hk (by simp)⟩
theorem OwnLB.keep (hP : Prs S Pr) (h : OwnLB T Pr base wr v g) (hb : Below wr.heap.size wr w') : OwnLB T Pr base w' v g := by
  obtain ⟨xs, h1, h2⟩ := h
  refine ⟨xs, owns_kp (S := fun _ => True) h1 (Kp.of_below _ hb) trivial, fun k hk => ?_⟩
  obtain ⟨u, hu, hr⟩ := h2 k hk
  exact ⟨u, hu, hP.kp hr (Kp.of_below _ hb)⟩
theorem OwnLB.ex (h : OwnLB T Pr base wr v g) : ∃ a c, v = .slice a g.length c := by
  obtain ⟨xs, ⟨_, h1⟩, _⟩ := h
  rcases h1 with ⟨rfl, h0⟩ | ⟨b, cap, cur, rfl, _⟩
  · exact ⟨none, 0, by rw [h0]⟩
  · exact ⟨_, _, rfl⟩
theorem OwnLB.set (hP : Prs S Pr) (h : OwnLB T Pr base wr v g) {p : Addr} {t : TypeId} (ht : typOf wr p.block = some t) (h2 : ¬ S t) (hp : p.block < base) (y : Value) : OwnLB T Pr base (wr.setCell p y) v g := by
  obtain ⟨xs, hO, hx⟩ := h
  have hk : Kp S wr (wr.setCell p y) := (Kp.refl _ _).set (fun t' ht' => by rw [ht] at ht'; cases ht'; exact h2) y
  refine ⟨xs, ownsRow_setCell_other hO ?_ y, fun k hk' => ?_⟩
  · intro hb
    have := (hO.lt _ hb).1
    omega
  · obtain ⟨u, hu, hr⟩ := hx k hk'
    exact ⟨u, hu, hP.kp hr hk⟩
end
section
variable {α : Type} {P : Program} {TT T : TypeId} {bytes : Nat} {S : TypeId → Prop} {Pr : World → Value → α → Prop} {ops : Array Oper} {o : Oper} {a : Act} {Q : Exit → Act → World → Prop} {base : Nat} {wr : World} {v u : Value} {g : List α} {y : α} {s x : Operand} {cc gb : Nat}
end
theorem RegsQ.grown {wr w' : World} {rb base : Nat} {g : Grid} (h : RegsQ wr rb g) (hk : Kp (· ≠ 33) wr w') (ho : Out (fun k => base ≤ k) wr w') (hb : rb < base) : RegsQ w' rb g := by
  have hx : ¬ (base ≤ rb) := by omega
  exact ⟨h.free.out ho hx, typ_out h.ty ho hx, fun j hj => by
    obtain ⟨u, hu, hr⟩ := h.cell j hj
    exact ⟨u, okeep ho hu hx, hr.kp lims_ref hk (by decide) (by decide)⟩⟩
end Go.Proofs.YthlphfjmdgcpdaaGreatDoor

/- exact: run on rows, told to a loop's body. -/
namespace Go.Proofs.YthlphfjmdgcpdaaGreatDoor
open Num
open Go.ChangeShapes Go.WideShapes Go.ChangeAt Go.RowKit
set_option linter.unusedVariables false
set_option linter.unusedSimpArgs false
attribute [local go_sem ↓] Go.wp_at_zero Go.wp_at_succ
/-- a row that lies in none of the blocks S -/
def PRowX (S : Nat → Prop) (w : World) (v : Value) (l : List Int) : Prop := PRow 0 w v l ∧ (l = [] ∨ ∀ b, rowBlk v = some b → ¬ S b)
section
variable {S S' : Nat → Prop} {w w' : World} {v : Value} {l : List Int} {base : Nat}
theorem PRowX.keep (h : PRowX S w v l) (k : Below w.heap.size w w') : PRowX S w' v l := ⟨h.1.keep lims_int k, h.2⟩
theorem Soil.lt (h : Soil S w) {q : Nat} (hq : S q) : q < w.heap.size := by obtain ⟨t, ht, _⟩ := h q hq; exact typ_lt ht
theorem PRowX.of (h : PRow base w v l) (hS : ∀ q, S q → q < base) : PRowX S w v l := by
  refine ⟨h.rebase (Nat.zero_le _), ?_⟩
  obtain ⟨a, c, rfl, _, _, h4⟩ := h
  rcases h4 with h4 | ⟨b, off, rfl, hb, _⟩
  · exact .inl h4
  · refine .inr fun q hq hs => ?_
    simp [rowBlk] at hq
    subst hq
    have := hS _ hs
    omega
theorem OutT.lim (h : OutT S w w') (hS : Soil S w) : Lim w w' := fun q ht => by
  have hq : ¬ S q := fun hs => by
    obtain ⟨t, h1, h2⟩ := hS q hs
    rw [ht] at h1; cases h1; exact h2 rfl
  have e := h.1.block q (typ_lt ht) hq
  exact ⟨by rw [typ_of_block (w := w) e]; exact ht, fun o n hc => by rw [World.cell?_of_block (w := w) e]; exact hc⟩
theorem PRowX.told (h : PRowX S w v l) (ho : OutT S w w') (hS : Soil S w) (hg : Grew S S' w) : PRowX S' w' v l := by
  obtain ⟨⟨a, c, rfl, h1, h2, h4⟩, hx⟩ := h
  rcases h4 with h4 | ⟨b, off, rfl, hb, ht, hi⟩
  · exact ⟨⟨a, c, rfl, h1, h2, .inl h4⟩, .inl h4⟩
  · rcases hx with hx | hx
    · exact ⟨⟨_, c, rfl, h1, h2, .inl hx⟩, .inl hx⟩
    · have hn : ¬ S b := hx b rfl
      have e := ho.1.block b (typ_lt ht) hn
      refine ⟨⟨_, c, rfl, h1, h2, .inr ⟨b, off, rfl, hb, by rw [typ_of_block (w := w) e]; exact ht, hi.stay lims_int e (ho.lim hS)⟩⟩, .inr fun q hq hs => ?_⟩
      simp [rowBlk] at hq
      subst hq
      rcases hg _ hs with h | h
      · exact hn h
      · have := typ_lt ht; omega
end
/-- the registers in a block that may be written; their rows lie in none of the blocks S -/
structure RegsX (S : Nat → Prop) (w : World) (rb : Nat) (g : Grid) : Prop where
  free : Free w rb
  ty : typOf w rb = some 59
  cell : ∀ k, k < g.length → ∃ u, w.cell? ⟨rb, k, none⟩ = some u ∧ PRowX S w u (g.getD k [])
section
variable {S S' : Nat → Prop} {w w' : World} {rb base : Nat} {g : Grid}
theorem RegsX.regs (h : RegsX S w rb g) : RegsP 0 w rb g := ⟨h.free, h.ty, fun k hk => by obtain ⟨u, hu, hr⟩ := h.cell k hk; exact ⟨u, hu, hr.1⟩⟩
theorem RegsX.keep (h : RegsX S w rb g) (k : Below w.heap.size w w') : RegsX S w' rb g :=
  ⟨h.free.keep k, typ_keep h.ty k, fun j hj => by obtain ⟨u, hu, hr⟩ := h.cell j hj; exact ⟨u, bkeep k hu, hr.keep k⟩⟩
theorem RegsX.of (h : RegsP base w rb g) (hS : ∀ q, S q → q < base) : RegsX S w rb g :=
  ⟨h.free, h.ty, fun j hj => by obtain ⟨u, hu, hr⟩ := h.cell j hj; exact ⟨u, hu, .of hr hS⟩⟩
theorem RegsX.told (h : RegsX S w rb g) (hr : ¬ S rb) (ho : OutT S w w') (hS : Soil S w) (hg : Grew S S' w) : RegsX S' w' rb g :=
  ⟨h.free.out ho.1 hr, typ_outK h.ty ho.1 hr, fun j hj => by obtain ⟨u, hu, hr'⟩ := h.cell j hj; exact ⟨u, okeep ho.1 hu hr, hr'.told ho hS hg⟩⟩
theorem RegsX.step {nt : Nat} {v : Value} {r : List Int} (h : RegsX S w rb g) (hv : PRowX S w v r) (ht : nt < g.length) : RegsX S (w.setCell ⟨rb, nt, none⟩ v) rb (g.set nt r) := by
  have hk : Kp (· ≠ 59) w (w.setCell ⟨rb, nt, none⟩ v) := (Kp.refl _ w).set (fun t ht => by rw [h.ty] at ht; cases ht; exact fun k => k rfl) _
  have hp : ∀ {u : Value} {l : List Int}, PRowX S w u l → PRowX S (w.setCell ⟨rb, nt, none⟩ v) u l := fun h => ⟨h.1.kp lims_int hk (by decide) (by decide), h.2⟩
  refine ⟨h.free.set _ _, by rw [typ_set]; exact h.ty, fun k hk' => ?_⟩
  rw [List.length_set] at hk'
  by_cases e : nt = k
  · subst e
    obtain ⟨u, hu, _⟩ := h.cell nt hk'
    refine ⟨v, cell_here hu _, ?_⟩
    have : (g.set nt r).getD nt [] = r := by simp [hk']
    rw [this]
    exact hp hv
  · obtain ⟨u, hu, hr⟩ := h.cell k hk'
    refine ⟨u, cell_far hu (fun e2 => e (by cases e2; rfl)) _, ?_⟩
    have : (g.set nt r).getD k [] = g.getD k [] := by simp [List.getElem?_set_ne e]
    rw [this]
    exact hp hr
end
/-- how many instructions are told -/
structure ToldG (code : List Ins) (g : Grid) (m : Nat) : Prop where
  le : m ≤ code.length
  has : ∃ h, after code g m = some h
  stop : m < code.length → after code g (m + 1) = none
theorem ToldG.lt {code : List Ins} {g h : Grid} {m n : Nat} (t : ToldG code g m) (hn : n < code.length) (e : after code g (n + 1) = some h) (hm : n ≤ m) : n < m := by
  rcases Nat.lt_or_ge n m with h1 | h1
  · exact h1
  · obtain rfl : n = m := by omega
    rw [t.stop hn] at e; cases e
theorem ToldG.eq {code : List Ins} {g : Grid} {m n : Nat} (t : ToldG code g m) (e : after code g (n + 1) = none) (hm : n ≤ m) : n = m := by
  rcases Nat.lt_or_ge n m with h1 | h1
  · obtain ⟨s, hs⟩ := t.has
    rw [after_mono e (show n + 1 ≤ m by omega)] at hs; cases hs
  · omega
end Go.Proofs.YthlphfjmdgcpdaaGreatDoor

/- exact: Rows, Judge. -/
namespace Go.Proofs.YthlphfjmdgcpdaaGreatDoor
open Num
open Go.ChangeShapes Go.WideShapes Go.ChangeAt Go.RowKit
set_option linter.unusedVariables false
set_option linter.unusedSimpArgs false
attribute [local go_sem ↓] Go.wp_at_zero Go.wp_at_succ
/-- a row of the call's own, in a block from lo on; behind which block the next may lie -/
def RowLH (w : World) (v : Value) (x : List Int × Nat × Nat) : Prop := RowO IsInt 36 x.2.1 w v x.1 ∧ x.2.2 = (rowBlk v).elim 0 (· + 1)
/-- rows in blocks that lie one behind the other -/
def AscLH (gs : List (List Int × Nat × Nat)) : Prop := ∀ i j (hi : i < gs.length) (hj : j < gs.length), i < j → gs[i].2.2 ≤ gs[j].2.1
theorem RowLH.hi {w : World} {v : Value} {x : List Int × Nat × Nat} (h : RowLH w v x) : x.2.2 ≤ w.heap.size := by
  rw [h.2]
  cases e : rowBlk v with
  | none => exact Nat.zero_le _
  | some b => exact typ_lt (rowO_blk h.1 e).2
theorem OwnL.mapd {α β : Type} {T : TypeId} {Pr : World → Value → α → Prop} {Pr' : World → Value → β → Prop} {w0 wr : World} {v : Value} {g : List α} (f : α → β) (h : OwnL T Pr w0 wr v g) (hf : ∀ u x, x ∈ g → Pr wr u x → Pr' wr u (f x)) : OwnL T Pr' w0 wr v (g.map f) := by
  obtain ⟨xs, h1, h2⟩ := h
  refine ⟨xs, by rw [List.length_map]; exact h1, fun k hk => ?_⟩
  rw [List.length_map] at hk
  obtain ⟨u, hu, hp⟩ := h2 k hk
  exact ⟨u, hu, by rw [List.getElem_map]; exact hf _ _ (List.getElem_mem hk) hp⟩
/-- what Rows answers -/
def ExRowsPost (ins regs : Int) (code : List Ins) (outs : List Int) (g : Grid) (w : World) (e : Ending) (w' : World) : Prop :=
  ((¬ ProgOk ins regs code outs ∧ e = .returned (.tuple #[.slice none 0 0, .int .i64 0, .int .i64 80])) ∨
   (ProgOk ins regs code outs ∧ ¬ FitsG ins g ∧ e = .returned (.tuple #[.slice none 0 0, .int .i64 0, .int .i64 5])) ∨
   (ProgOk ins regs code outs ∧ FitsG ins g ∧ ∃ (k : Nat) (h : Grid), k < code.length ∧ after code (startG g regs.toNat (g.getD 0 []).length) k = some h ∧ after code (startG g regs.toNat (g.getD 0 []).length) (k + 1) = none ∧ e = .returned (.tuple #[.slice none 0 0, .int .i64 k, .int .i64 20])) ∨
   (ProgOk ins regs code outs ∧ FitsG ins g ∧ ∃ (h : Grid) (v : Value), after code (startG g regs.toNat (g.getD 0 []).length) code.length = some h ∧ e = .returned (.tuple #[v, .int .i64 0, .int .i64 0]) ∧ OwnL 59 (RowO IsInt 36 w.heap.size) w w' v (outsG outs h))) ∧ Below w.heap.size w w'
/-- the same; its rows lie one behind the other -/
def ExRowsPostX (ins regs : Int) (code : List Ins) (outs : List Int) (g : Grid) (w : World) (e : Ending) (w' : World) : Prop :=
  ((¬ ProgOk ins regs code outs ∧ e = .returned (.tuple #[.slice none 0 0, .int .i64 0, .int .i64 80])) ∨
   (ProgOk ins regs code outs ∧ ¬ FitsG ins g ∧ e = .returned (.tuple #[.slice none 0 0, .int .i64 0, .int .i64 5])) ∨
   (ProgOk ins regs code outs ∧ FitsG ins g ∧ ∃ (k : Nat) (h : Grid), k < code.length ∧ after code (startG g regs.toNat (g.getD 0 []).length) k = some h ∧ after code (startG g regs.toNat (g.getD 0 []).length) (k + 1) = none ∧ e = .returned (.tuple #[.slice none 0 0, .int .i64 k, .int .i64 20])) ∨
   (ProgOk ins regs code outs ∧ FitsG ins g ∧ ∃ (h : Grid) (v : Value) (gs : List (List Int × Nat × Nat)), after code (startG g regs.toNat (g.getD 0 []).length) code.length = some h ∧ e = .returned (.tuple #[v, .int .i64 0, .int .i64 0]) ∧ gs.map (·.1) = outsG outs h ∧ AscLH gs ∧ (∀ x ∈ gs, w.heap.size ≤ x.2.1) ∧ OwnL 59 RowLH w w' v gs)) ∧ Below w.heap.size w w'
theorem ExRowsPostX.plain {ins regs : Int} {code : List Ins} {outs : List Int} {g : Grid} {w : World} {e : Ending} {w' : World} (h : ExRowsPostX ins regs code outs g w e w') : ExRowsPost ins regs code outs g w e w' := by
  obtain ⟨h, hB⟩ := h
  refine ⟨?_, hB⟩
  rcases h with h | h | h | ⟨h1, h2, h, v, gs, h3, h4, h5, h6, h7, h8⟩
  · exact .inl h
  · exact .inr (.inl h)
  · exact .inr (.inr (.inl h))
  · refine .inr (.inr (.inr ⟨h1, h2, h, v, h3, h4, ?_⟩))
    rw [← h5]
    exact h8.mapd _ fun u x hx hr => hr.1.rebase (h7 x hx)
end Go.Proofs.YthlphfjmdgcpdaaGreatDoor

/- exact: Trace: what its iterator tells. -/
namespace Go.Proofs.YthlphfjmdgcpdaaGreatDoor
open Num
open Go.ChangeShapes Go.WideShapes Go.ChangeAt Go.RowKit
set_option linter.unusedVariables false
set_option linter.unusedSimpArgs false
attribute [local go_sem ↓] Go.wp_at_zero Go.wp_at_succ
/-- what the iterator finds -/
structure TraceIn (n0 : Nat) (X0 : Nat → Prop) (pb xb : Nat) (ins regs : Int) (ca oa : Option Addr) (cc oc : Nat) (code : List Ins) (outs : List Int) (v : Value) (l : List Int) (W : World) : Prop where
  p0 : W.cell? ⟨pb, 0, none⟩ = some (.int .i64 ins)
  p1 : W.cell? ⟨pb, 1, none⟩ = some (.int .i64 regs)
  p2 : W.cell? ⟨pb, 2, none⟩ = some (.slice ca code.length cc)
  p3 : W.cell? ⟨pb, 3, none⟩ = some (.slice oa outs.length oc)
  x0 : W.cell? ⟨xb, 0, none⟩ = some v
  hc : InsV W ca cc code
  ho : IntsV W oa oc outs
  hv : PRow 0 W v l
  lt : ∀ q, X0 q → q < n0
  le : n0 ≤ W.heap.size
  ty : ∀ q, X0 q → typOf W q = some 3
  nc : ∀ b off, ca = some ⟨b, off, none⟩ → 0 < code.length → ¬ X0 b
section
variable {n0 : Nat} {X0 : Nat → Prop} {pb xb : Nat} {ins regs : Int} {ca oa : Option Addr} {cc oc : Nat} {code : List Ins} {outs : List Int} {v : Value} {l : List Int} {W W' : World}
theorem TraceIn.keep (h : TraceIn n0 X0 pb xb ins regs ca oa cc oc code outs v l W) (k : Below W.heap.size W W') : TraceIn n0 X0 pb xb ins regs ca oa cc oc code outs v l W' :=
  ⟨bkeep k h.p0, bkeep k h.p1, bkeep k h.p2, bkeep k h.p3, bkeep k h.x0, h.hc.keep k, h.ho.keep k, h.hv.keep lims_int k, h.lt, Nat.le_trans h.le k.size, fun q hq => typ_keep (h.ty q hq) k, h.nc⟩
end
end Go.Proofs.YthlphfjmdgcpdaaGreatDoor

/- exact: Steps: what its iterator tells. -/
namespace Go.Proofs.YthlphfjmdgcpdaaGreatDoor
open Num
open Go.ChangeShapes Go.WideShapes Go.ChangeAt Go.RowKit
set_option linter.unusedVariables false
set_option linter.unusedSimpArgs false
attribute [local go_sem ↓] Go.wp_at_zero Go.wp_at_succ
/-- what is told: the k-th row, in memory of its own -/
def AR (n0 : Nat) (T : Nat → List Int) (k : Nat) (args : Array Value) (X : World) : Prop := ∃ v base, args = #[.int .i64 (k : Int), v] ∧ n0 ≤ base ∧ RowO IsInt 36 base X v (T k)
/-- the block of what is told -/
def XsR (args : Array Value) (q : Nat) : Prop := ∃ v, args[1]? = some v ∧ rowBlk v = some q
theorem AR.cells {n0 : Nat} {T : Nat → List Int} {k q : Nat} {args : Array Value} {X : World} (h : AR n0 T k args X) (hq : XsR args q) : ∃ o, X.heap[q]? = some o ∧ o.isCells = true := by
  obtain ⟨v, base, rfl, _, hr⟩ := h
  obtain ⟨v', e, hb⟩ := hq
  simp at e
  subst e
  exact typ_cells (rowO_blk hr hb).2
theorem OutT.base {S X : Nat → Prop} {a b c : World} (k : Below a.heap.size a b) (h : OutT (fun q => S q ∨ X q) b c) (hx : ∀ q, X q → a.heap.size ≤ q) (hS : ∀ q, S q → q < a.heap.size) : OutT S a c := by
  refine ⟨⟨h.1.os.trans k.os, h.1.tape.trans k.tape, h.1.output.trans k.output, Nat.le_trans k.size h.1.size, fun q hq hs => (h.1.block q (Nat.lt_of_lt_of_le hq k.size) fun e => ?_).trans (k.block q hq)⟩, fun q hq hl => ?_⟩
  · rcases e with e | e
    · exact hs e
    · have := hx q e; omega
  · rw [h.2 q (.inl hq) (Nat.lt_of_lt_of_le hl k.size)]
    unfold typOf; rw [k.block q hl]
/-- what the iterator finds -/
structure StepsIn (n0 : Nat) (S0 : Nat → Prop) (pb xb : Nat) (ins regs : Int) (ca oa : Option Addr) (cc oc : Nat) (code : List Ins) (outs : List Int) (v : Value) (g : Grid) (W : World) : Prop where
  p0 : W.cell? ⟨pb, 0, none⟩ = some (.int .i64 ins)
  p1 : W.cell? ⟨pb, 1, none⟩ = some (.int .i64 regs)
  p2 : W.cell? ⟨pb, 2, none⟩ = some (.slice ca code.length cc)
  p3 : W.cell? ⟨pb, 3, none⟩ = some (.slice oa outs.length oc)
  x0 : W.cell? ⟨xb, 0, none⟩ = some v
  hc : InsV W ca cc code
  ho : IntsV W oa oc outs
  hv : GridV W v g
  hm : (g.getD 0 []).length ≤ 1099511627775
  lt : ∀ q, S0 q → q < n0
  le : n0 ≤ W.heap.size
  nc : ∀ b off, ca = some ⟨b, off, none⟩ → 0 < code.length → ¬ S0 b
section
variable {n0 : Nat} {S0 : Nat → Prop} {pb xb : Nat} {ins regs : Int} {ca oa : Option Addr} {cc oc : Nat} {code : List Ins} {outs : List Int} {v : Value} {g : Grid} {W W' : World}
theorem StepsIn.keep (h : StepsIn n0 S0 pb xb ins regs ca oa cc oc code outs v g W) (k : Below W.heap.size W W') : StepsIn n0 S0 pb xb ins regs ca oa cc oc code outs v g W' :=
  ⟨bkeep k h.p0, bkeep k h.p1, bkeep k h.p2, bkeep k h.p3, bkeep k h.x0, h.hc.keep k, h.ho.keep k, h.hv.keep (prs_row lims_int _ _) k, h.hm, h.lt, Nat.le_trans h.le k.size, h.nc⟩
end
end Go.Proofs.YthlphfjmdgcpdaaGreatDoor

/- exact: Widest. -/
namespace Go.Proofs.YthlphfjmdgcpdaaGreatDoor
open Num
open Go.ChangeShapes Go.WideShapes Go.ChangeAt Go.RowKit
set_option linter.unusedVariables false
set_option linter.unusedSimpArgs false
attribute [local go_sem ↓] Go.wp_at_zero Go.wp_at_succ
attribute [local go_sem] Oper.semAt_some
/-- a variable in memory that holds a number -/
def VarI (ub : Nat) (m : Int) (W : World) : Prop := typOf W ub = some 36 ∧ ∃ n a ln c, W.cell? ⟨ub, 0, none⟩ = some (.bool n) ∧ W.cell? ⟨ub, 1, none⟩ = some (.slice a ln c) ∧ W.frozen? ⟨ub, 0, none⟩ = false ∧ W.frozen? ⟨ub, 1, none⟩ = false ∧ IsInt W (.agg #[.bool n, .slice a ln c]) m
theorem VarI.keep {ub : Nat} {m : Int} {W V : World} (h : VarI ub m W) (k : Below W.heap.size W V) : VarI ub m V := by
  obtain ⟨ht, n, a, ln, c, h0, h1, f0, f1, hi⟩ := h
  exact ⟨typ_keep ht k, n, a, ln, c, bkeep k h0, bkeep k h1, bkeepf k h0 f0, bkeepf k h1 f1, hi.keep k⟩
theorem VarI.put {ub : Nat} {m z : Int} {W : World} {n : Bool} {a : Option Addr} {ln c : Nat} (h : VarI ub m W) (hi : IsInt W (.agg #[.bool n, .slice a ln c]) z) : VarI ub z ((W.setCell ⟨ub, 0, none⟩ (.bool n)).setCell ⟨ub, 1, none⟩ (.slice a ln c)) := by
  obtain ⟨ht, n', a', ln', c', h0, h1, f0, f1, _⟩ := h
  refine ⟨by rw [typ_set, typ_set]; exact ht, n, a, ln, c, cell_far (cell_here h0 _) (by simp) _, cell_here (cell_far h1 (by simp) _) _, ?_, ?_, hi.put2 h0 h1 _ _⟩
  · rw [World.frozen?_setCell, World.frozen?_setCell]; exact f0
  · rw [World.frozen?_setCell, World.frozen?_setCell]; exact f1
end Go.Proofs.YthlphfjmdgcpdaaGreatDoor

/- integer: Sum; row: Dot. -/
namespace Go.Proofs.YthlphfjmdgcpdaaGreatDoor
open Num
open Go.ChangeShapes Go.WideShapes Go.ChangeAt Go.RowKit
set_option linter.unusedVariables false
set_option linter.unusedSimpArgs false
attribute [local go_sem ↓] Go.wp_at_zero Go.wp_at_succ
/-- the sum of all -/
def sumL (l : List Int) : Int := l.foldl (· + ·) 0
theorem sumL_snoc (l : List Int) (x : Int) : sumL (l ++ [x]) = sumL l + x := by simp [sumL]
theorem sumL_take {l : List Int} {j : Nat} (hj : j < l.length) : sumL (l.take (j + 1)) = sumL (l.take j) + l.getD j 0 := by
  rw [List.take_succ_eq_append_getElem hj, sumL_snoc]; simp [hj]
theorem sumL_bd {l : List Int} {k : Nat} (h : ∀ j, Bd k (l.getD j 0)) : ∀ j, j ≤ l.length → Bd (k + j) (sumL (l.take j)) := by
  intro j
  induction j with
  | zero => intro _; exact bd_zero
  | succ j ih =>
    intro hj
    rw [sumL_take (by omega)]
    exact (Bd.add (ih (by omega)) ((h j).mono (by omega))).mono (by omega)
/-- the sum of the products -/
def dotL (a b : List Int) : Int := sumL (List.zipWith (fun x y => x * y) a b)
set_option maxRecDepth 100000 in
set_option maxHeartbeats 4000000 in
theorem sum_c (v : Value) (l : List Int) (k : Nat) (w : World) (hv : PRow 0 w v l) (hl : l.length ≤ 1099511627775) (hb : ∀ j, Bd k (l.getD j 0)) (hk : k + l.length ≤ 17179869184) :
    Calls Tryz.prog 135 #[v] w fun e w' => (∃ u, e = .returned u ∧ IsInt w' u (sumL l)) ∧ Below w.heap.size w w' := by
  have HV := Lib.hid hv
  have HBD := Lib.hid hb
  obtain ⟨va, vc, rfl, -⟩ := hv
  clear hb
  have hB := Below.refl w.heap.size w
  go_enter Tryz.func135, Tryz.ntmps135
  go_wp2
  refine wp_name fun w0 hW0 => ?_
  have hB0 : Below w.heap.size w w0 := by rw [hW0]; repeat (first | exact Below.refl _ _ | exact hB | refine Below.drew ?_ | refine below_drewN ?_ _ | refine bset ?_ (by simp <;> omega) _ | refine bal ?_ _)
  have HR0 := Lib.hid (show w0.cell? ⟨w.heap.size, 0, none⟩ = some (.bool false) ∧ w0.cell? ⟨w.heap.size, 1, none⟩ = some (.slice none 0 0) ∧ w0.frozen? ⟨w.heap.size, 0, none⟩ = false ∧ w0.frozen? ⟨w.heap.size, 1, none⟩ = false from by rw [hW0]; simp [go_sem])
  have HM0 := Lib.hid (show VarI (w.heap.size + 1) 0 w0 from by rw [hW0]; exact ⟨typ_fresh (by simp), false, none, 0, 0, by simp [go_sem], by simp [go_sem], by simp [go_sem], by simp [go_sem], isInt_zero _⟩)
  clear hW0
  go_loopw [8] (fun x wr => ∃ j : Nat, j ≤ l.length ∧ x = .int .i64 j ∧ Below w.heap.size w wr ∧ Hid (wr.cell? ⟨w.heap.size, 0, none⟩ = some (.bool false) ∧ wr.cell? ⟨w.heap.size, 1, none⟩ = some (.slice none 0 0) ∧ wr.frozen? ⟨w.heap.size, 0, none⟩ = false ∧ wr.frozen? ⟨w.heap.size, 1, none⟩ = false) ∧ Hid (VarI (w.heap.size + 1) (sumL (l.take j)) wr)) (fun x _ => l.length - (intOf x).toNat)
  case atStart => exact ⟨0, Nat.zero_le _, rfl, hB0, HR0, HM0⟩
  case round =>
    obtain ⟨j, hj, rfl, hBr, HR, hM⟩ := hrel
    obtain ⟨-, n0, a0, ln0, c0, m0, m1, m0f, m1f, hi0⟩ := hM.out
    obtain ⟨r0, r1, r0f, r1f⟩ := HR.out
    have HI0 := Lib.hid hi0
    have zm := cell_lt m0
    have zr := cell_lt r0
    have HR' := HR
    clear hi0 HR
    by_cases hlt : j < l.length
    · have hltI : (j : Int) < (l.length : Int) := by omega
      obtain ⟨a', c', he, -, vr⟩ := (HV.out.keep lims_int hBr).view
      obtain ⟨rfl, -, rfl⟩ := Value.slice.inj he
      obtain ⟨b, off, n2, a2, l2, cc2, rfl, d0, d1, hi⟩ := vr j hlt
      have HW := Lib.hid (sumL_take hlt)
      have bs := sumL_bd HBD.out j (by omega)
      have bj := (HBD.out j).mono (show k ≤ k + j by omega)
      obtain ⟨x, hx⟩ : ∃ x, l.getD j 0 = x := ⟨_, rfl⟩
      rw [hx] at hi HW bj
      obtain ⟨m, hm⟩ : ∃ m, sumL (l.take j) = m := ⟨_, rfl⟩
      rw [hm] at HI0 HW hM bs
      have zd := cell_lt d0
      have ac := fun W (h : Below wr.heap.size wr W) => addI_c _ _ m x (k + j) W (HI0.out.keep h) (hi.keep h) bs bj (by omega)
      clear hx hm he vr hi
      have hBw := Below.refl wr.heap.size wr
      go_wp2_with fail
      refine (ac _ (by repeat (first | exact Below.refl _ _ | exact hBw | refine Below.drew ?_ | refine below_drewN ?_ _ | refine bset ?_ (by simp <;> omega) _ | refine bal ?_ _))).mono ?_
      rintro e w2 ⟨⟨u, rfl, hu⟩, hb2⟩
      have hb2' : Below wr.heap.size wr w2 := bthen (by repeat (first | exact Below.refl _ _ | exact hBw | refine Below.drew ?_ | refine below_drewN ?_ _ | refine bset ?_ (by simp <;> omega) _ | refine bal ?_ _)) hb2
      have HU := Lib.hid hu
      obtain ⟨nu, au, cu, lu, rfl, -⟩ := hu
      unfold iv at *
      have HV2 := Lib.hid ((hM.out.keep hb2').put HU.out)
      replace r0f := bkeepf hb2' r0 r0f
      replace r1f := bkeepf hb2' r1 r1f
      replace m0f := bkeepf hb2' m0 m0f
      replace m1f := bkeepf hb2' m1 m1f
      replace r0 := bkeep hb2' r0
      replace r1 := bkeep hb2' r1
      replace m0 := bkeep hb2' m0
      replace m1 := bkeep hb2' m1
      have hB2 := bthen hBr hb2'
      clear ac d0 d1 bs bj hb2
      go_wp2
      refine ⟨⟨j + 1, by omega, by go_num, bset (bset hB2 (by show w.heap.size ≤ w.heap.size + 1; omega) _) (by show w.heap.size ≤ w.heap.size + 1; omega) _, Lib.hid ⟨cell_far (cell_far r0 (addr_ne (by omega)) _) (addr_ne (by omega)) _, cell_far (cell_far r1 (addr_ne (by omega)) _) (addr_ne (by omega)) _, ?_, ?_⟩, Lib.hid (by rw [HW.out]; exact HV2.out)⟩, by simp [intOf]; omega⟩
      · rw [World.frozen?_setCell, World.frozen?_setCell]; exact r0f
      · rw [World.frozen?_setCell, World.frozen?_setCell]; exact r1f
    · obtain rfl : j = l.length := by omega
      rw [List.take_length] at HI0
      have hp := Lib.hid (HI0.out.put2 r0 r1)
      go_wp2
      refine bodyPost_ret (v := .agg #[.bool n0, .slice a0 ln0 c0]) (by simp [results, Tryz.results135, go_sem, *]) rfl ⟨⟨_, rfl, hp.out _ _⟩, ?_⟩
      repeat (first | exact Below.refl _ _ | exact hBr | refine Below.drew ?_ | refine below_drewN ?_ _ | refine bset ?_ (by simp <;> omega) _ | refine bal ?_ _)
theorem zip_bd {la lb : List Int} {k m : Nat} (ba : ∀ j, Bd k (la.getD j 0)) (bb : ∀ j, Bd m (lb.getD j 0)) : ∀ j, Bd (k + m) ((List.zipWith (fun x y => x * y) la lb).getD j 0) := fun j => by
  by_cases h : j < la.length ∧ j < lb.length
  · rw [zip_getD h.1 h.2]; exact Bd.mul (ba j) (bb j)
  · rw [List.getD_eq_getElem?_getD, List.getElem?_eq_none (by simp; omega)]; exact bd_zero
set_option maxRecDepth 100000 in
set_option maxHeartbeats 2000000 in
theorem dot_c (va vb : Value) (la lb : List Int) (k m : Nat) (w : World) (ha : PRow 0 w va la) (hb : PRow 0 w vb lb) (hl : la.length ≤ 1099511627775) (he : la.length = lb.length) (ba : ∀ j, Bd k (la.getD j 0)) (bb : ∀ j, Bd m (lb.getD j 0)) (hk : k + m + la.length ≤ 17179869184) :
    Calls Tryz.prog 97 #[va, vb] w fun e w' => (∃ u, e = .returned (.tuple #[u, .int .i64 0]) ∧ IsInt w' u (dotL la lb)) ∧ Below w.heap.size w w' := by
  have eF : Enters Tryz.prog 95 := ens Tryz.func95 (by kernel_rfl) rfl
  have hz : (List.zipWith (fun x y => x * y) la lb).length = la.length := by rw [List.length_zipWith]; omega
  have bc := fun W (hB : Below w.heap.size w W) => both_yes va vb la lb (List.zipWith (fun x y => x * y) la lb) 95 #[] #[] W (ha.keep lims_int hB) (hb.keep lims_int hB) hl he hz eF (fun j W1 u1 u2 hj _ h1 h2 => by
    have hc := mul_c u1 u2 (la.getD j 0) (lb.getD j 0) k m W1 h1 h2 (ba j) (bb j) (by omega) (by omega)
    rw [zip_getD hj (by omega)]
    exact hc)
  have HBC := Lib.hid bc
  have HZB := Lib.hid (zip_bd ba bb)
  have HZ := Lib.hid hz
  obtain ⟨aa, ca, rfl, -⟩ := ha
  obtain ⟨ab, cb, rfl, -⟩ := hb
  obtain ⟨L, hL⟩ : ∃ L, List.zipWith (fun x y => x * y) la lb = L := ⟨_, rfl⟩
  unfold dotL
  rw [hL] at HBC HZB HZ ⊢
  clear bc hz eF ba bb he hL
  have hB := Below.refl w.heap.size w
  go_enter Tryz.func97, Tryz.ntmps97
  go_wp2_with fail
  refine (HBC.out _ (by repeat (first | exact Below.refl _ _ | exact hB | refine Below.drew ?_ | refine below_drewN ?_ _ | refine bset ?_ (by simp <;> omega) _ | refine bal ?_ _))).mono ?_
  rintro e w1 ⟨⟨u, rfl, hu⟩, hb1⟩
  have r0 : w1.cell? ⟨w.heap.size, 0, none⟩ = some (.bool false) := bkc hb1
  have zr0 := cell_lt r0
  have r0f : w1.frozen? ⟨w.heap.size, 0, none⟩ = false := bkcf (v := .bool false) hb1
  have r1 : w1.cell? ⟨w.heap.size, 1, none⟩ = some (.slice none 0 0) := bkc hb1
  have r1f : w1.frozen? ⟨w.heap.size, 1, none⟩ = false := bkcf (v := .slice none 0 0) hb1
  have hB : Below w.heap.size w w1 := bthen (by repeat (first | exact Below.refl _ _ | exact hB | refine Below.drew ?_ | refine below_drewN ?_ _ | refine bset ?_ (by simp <;> omega) _ | refine bal ?_ _)) hb1
  have hz : w.heap.size ≤ w1.heap.size := hB.size
  have sc := fun W (h : Below w1.heap.size w1 W) => sum_c u L (k + m) W ((hu.row.rebase (Nat.zero_le _)).keep lims_int h) (by rw [HZ.out]; omega) HZB.out (by rw [HZ.out]; omega)
  obtain ⟨ua, un, uc, rfl⟩ : ∃ a n c, u = Value.slice a n c := by obtain ⟨a, c, h⟩ := hu.ex; exact ⟨a, _, c, h⟩
  have hw1 := Below.refl w1.heap.size w1
  clear HBC hu
  go_wp2_with fail
  refine (sc _ (by repeat (first | exact Below.refl _ _ | exact hw1 | refine Below.drew ?_ | refine below_drewN ?_ _ | refine bset ?_ (by simp <;> omega) _ | refine bal ?_ _))).mono ?_
  rintro e w2 ⟨⟨u2, rfl, hu2⟩, hb2⟩
  have r0 : w2.cell? ⟨w.heap.size, 0, none⟩ = some (.bool false) := bkc hb2
  have zr0 := cell_lt r0
  have r0f : w2.frozen? ⟨w.heap.size, 0, none⟩ = false := bkcf (v := .bool false) hb2
  have r1 : w2.cell? ⟨w.heap.size, 1, none⟩ = some (.slice none 0 0) := bkc hb2
  have r1f : w2.frozen? ⟨w.heap.size, 1, none⟩ = false := bkcf (v := .slice none 0 0) hb2
  have hB : Below w.heap.size w w2 := bthen (by repeat (first | exact Below.refl _ _ | exact hB | refine Below.drew ?_ | refine below_drewN ?_ _ | refine bset ?_ (by simp <;> omega) _ | refine bal ?_ _)) hb2
  have hz : w.heap.size ≤ w2.heap.size := hB.size
  have hp := Lib.hid (hu2.put2 r0 r1)
  obtain ⟨n2, a2, c2, l2, rfl, -⟩ := hu2
  unfold iv at *
  clear sc
  go_wp2
  refine bodyPost_ret (v := .tuple #[.agg #[.bool n2, .slice a2 l2.length c2], .int .i64 0]) (by simp [results, Tryz.results97, go_sem, *]) rfl ⟨⟨_, rfl, hp.out _ _⟩, ?_⟩
  repeat (first | exact Below.refl _ _ | exact hB | refine Below.drew ?_ | refine below_drewN ?_ _ | refine bset ?_ (by simp <;> omega) _ | refine bal ?_ _)
end Go.Proofs.YthlphfjmdgcpdaaGreatDoor

/- matrix: matrices as values; filled. -/
namespace Go.Proofs.YthlphfjmdgcpdaaGreatDoor
open Num
open Go.ChangeShapes Go.WideShapes Go.ChangeAt Go.RowKit
set_option linter.unusedVariables false
set_option linter.unusedSimpArgs false
attribute [local go_sem ↓] Go.wp_at_zero Go.wp_at_succ
/-- a table of numbers -/
def tab (n m : Nat) (f : Nat → Nat → Int) : Grid := (List.range n).map fun i => (List.range m).map (f i)
theorem tab_len (n m : Nat) (f : Nat → Nat → Int) : (tab n m f).length = n := by simp [tab]
theorem tab_row {n m : Nat} {f : Nat → Nat → Int} {i : Nat} (h : i < n) : (tab n m f).getD i [] = (List.range m).map (f i) := by simp [tab, h]
theorem tab_rowlen {n m : Nat} {f : Nat → Nat → Int} {i : Nat} (h : i < n) : ((tab n m f).getD i []).length = m := by rw [tab_row h]; simp
theorem tab_at {n m : Nat} {f : Nat → Nat → Int} {i j : Nat} (h : i < n) (hj : j < m) : ((tab n m f).getD i []).getD j 0 = f i j := by rw [tab_row h]; simp [hj]
/-- a matrix as a value: its rows lie in blocks from base on -/
def IsM (base : Nat) (w : World) (v : Value) (g : Grid) : Prop := ∃ a c, v = .agg #[.slice a g.length c] ∧ IsL 59 (PRow base) base w (.slice a g.length c) g
theorem prs_prow (base : Nat) : Prs (fun t => t = 121 ∨ t = 36) (PRow base) := prs_row lims_int _ _
theorem IsM.keep {base : Nat} {w w' : World} {v : Value} {g : Grid} (h : IsM base w v g) (k : Below w.heap.size w w') : IsM base w' v g := by
  obtain ⟨a, c, e, h⟩ := h; exact ⟨a, c, e, h.keep (prs_prow base) k⟩
theorem IsM.rebase {base base' : Nat} {w : World} {v : Value} {g : Grid} (h : IsM base w v g) (hb : base' ≤ base) : IsM base' w v g := by
  obtain ⟨a, c, e, h⟩ := h; exact ⟨a, c, e, (h.rebase hb).mono fun u x hx => hx.rebase hb⟩
theorem IsM.nil (base : Nat) (w : World) : IsM base w (.agg #[.slice none 0 0]) [] := ⟨none, 0, rfl, IsL.nil _ _ _ _⟩
/-- a function value that tells the number at a place -/
def FnF (f : Nat → Nat → Int) (n m F : Nat) (caps : Array Value) (w : World) : Prop :=
  ∀ W i j, i < n → j < m → Below w.heap.size w W → Calls Tryz.prog F (#[.int .i64 (i : Nat), .int .i64 (j : Nat)] ++ caps) W fun e w' => (∃ v, e = .returned v ∧ IsInt w' v (f i j)) ∧ Below W.heap.size W w'
theorem range_snoc {α : Type} (f : Nat → α) (n : Nat) : (List.range (n + 1)).map f = (List.range n).map f ++ [f n] := by rw [List.range_succ, List.map_append]; rfl
theorem range_getD (f : Nat → Int) {n k : Nat} (h : k < n) : ((List.range n).map f).getD k 0 = f k := by simp [h]
theorem snoc_fn (f : Nat → Int) (j : Nat) : ∀ k, k < j + 1 → (fun i => if i = j then f j else f i) k = f k := by
  intro k hk; dsimp only; split
  · subst_vars; rfl
  · rfl
theorem typ_alloc {w : World} {o : Obj} {b : Nat} {t : TypeId} (h : typOf w b = some t) : typOf (w.alloc o) b = some t := typ_keep h (bal (Below.refl _ _) _)
set_option maxRecDepth 100000 in
set_option maxHeartbeats 8000000 in
theorem filled_c (n m : Nat) (f : Nat → Nat → Int) (F : Nat) (caps : Array Value) (w : World) (hF : FnF f n m F caps w) (eF : Enters Tryz.prog F) (hn : n ≤ 1099511627776) (hm : m ≤ 1099511627775) :
    Calls Tryz.prog 76 #[.int .i64 (n : Nat), .int .i64 (m : Nat), .func (.func F) #[] caps] w fun e w' => (∃ v, e = .returned v ∧ IsM w.heap.size w' v (tab n m f)) ∧ Below w.heap.size w w' := by
  have HF := Lib.hid hF
  clear hF
  have hB := Below.refl w.heap.size w
  unfold Enters at eF
  go_enter Tryz.func76, Tryz.ntmps76
  go_wp2
  refine wp_name fun w0 hW0 => ?_
  have hB0 : Below w.heap.size w w0 := by rw [hW0]; repeat (first | exact Below.refl _ _ | exact hB | refine Below.drew ?_ | refine below_drewN ?_ _ | refine bset ?_ (by simp <;> omega) _ | refine bal ?_ _)
  have HR0 := Lib.hid (show w0.cell? ⟨w.heap.size, 0, none⟩ = some (.slice none 0 0) ∧ w0.frozen? ⟨w.heap.size, 0, none⟩ = false ∧ w0.cell? ⟨w.heap.size + 1, 0, none⟩ = some (.slice none 0 0) ∧ w0.frozen? ⟨w.heap.size + 1, 0, none⟩ = false from by rw [hW0]; simp [go_sem])
  have HT0 := Lib.hid (show typOf w0 w.heap.size = some 27 ∧ typOf w0 (w.heap.size + 1) = some 27 from by
    rw [hW0]; exact ⟨typ_alloc (typ_fresh rfl), typ_fresh (by simp)⟩)
  clear hW0
  go_loopw [12] (fun x wr => ∃ i : Nat, i ≤ n ∧ x = .int .i64 i ∧ Below w.heap.size w wr ∧ Hid (wr.cell? ⟨w.heap.size, 0, none⟩ = some (.slice none 0 0) ∧ wr.frozen? ⟨w.heap.size, 0, none⟩ = false ∧ wr.frozen? ⟨w.heap.size + 1, 0, none⟩ = false ∧ typOf wr w.heap.size = some 27 ∧ typOf wr (w.heap.size + 1) = some 27) ∧ Hid (∃ v, wr.cell? ⟨w.heap.size + 1, 0, none⟩ = some v ∧ OwnL 59 (PRow w.heap.size) w wr v (tab i m f))) (fun x _ => n - (intOf x).toNat)
  case atStart => exact ⟨0, Nat.zero_le _, rfl, hB0, Lib.hid ⟨HR0.out.1, HR0.out.2.1, HR0.out.2.2.2, HT0.out.1, HT0.out.2⟩, Lib.hid ⟨_, HR0.out.2.2.1, OwnL.nil _ _ hB0⟩⟩
  case round =>
    obtain ⟨i, hi, rfl, hBr, HR, HO⟩ := hrel
    obtain ⟨v, o0, hO⟩ := HO.out
    obtain ⟨r0, r0f, o0f, t0, t1⟩ := HR.out
    obtain ⟨oa, oc, hvv⟩ := hO.ex
    rw [tab_len] at hvv
    subst hvv
    have HO := Lib.hid hO
    have HTT := Lib.hid (And.intro t0 t1)
    clear hO t0 t1 HR
    have zr := cell_lt r0
    have zo := cell_lt o0
    by_cases hlt : i < n
    · have hltI : (i : Int) < (n : Int) := by omega
      obtain ⟨wq, hwq⟩ : ∃ wq, wr = wq := ⟨_, rfl⟩
      rw [hwq] at HO HTT hBr r0 r0f o0 o0f zr zo ⊢
      clear hwq
      have hBq := Below.refl wq.heap.size wq
      go_wp2
      go_loopw [9, 16] (fun v x wr => ∃ j : Nat, j ≤ m ∧ x = .int .i64 j ∧ Hid (OwnF IsInt 36 wq wr v j (f i))) (fun _ x _ => m - (intOf x).toNat)
      case atStart => exact ⟨0, Nat.zero_le _, rfl, Lib.hid (OwnF.nil _ _ _ hBq)⟩
      case round =>
        obtain ⟨j, hj, rfl, hF⟩ := hrel
        by_cases hlt2 : j < m
        · have hltJ : (j : Int) < (m : Int) := by omega
          have hbF := hF.out.bel
          have fc := fun W (h : Below wr.heap.size wr W) => HF.out W i j hlt hlt2 (bthen hBr (bthen hbF h))
          obtain ⟨fa, fcp, hfv⟩ : ∃ a c, _ = Value.slice a j c := by obtain ⟨a, c, h, _⟩ := hF.out.view; exact ⟨a, c, h⟩
          subst hfv
          have HSN := Lib.hid (snoc_fn (f i) j)
          obtain ⟨z, hz⟩ : ∃ z, f i j = z := ⟨_, rfl⟩
          rw [hz] at fc HSN
          clear hz
          have hBw := Below.refl wr.heap.size wr
          go_wp2_with fail
          go_at_fn F
          refine (fc _ (by repeat (first | exact Below.refl _ _ | exact hBw | refine Below.drew ?_ | refine below_drewN ?_ _ | refine bset ?_ (by simp <;> omega) _ | refine bal ?_ _))).mono ?_
          rintro e w5 ⟨⟨v5, rfl, hi5⟩, hb5⟩
          have hB5 : Below wr.heap.size wr w5 := bthen (by repeat (first | exact Below.refl _ _ | exact hBw | refine Below.drew ?_ | refine below_drewN ?_ _ | refine bset ?_ (by simp <;> omega) _ | refine bal ?_ _)) hb5
          have HF5 := Lib.hid (hF.out.below lims_int hB5)
          have HI5 := Lib.hid hi5
          obtain ⟨n5, a5, c5, l5, rfl, -⟩ := hi5
          unfold iv at *
          clear fc
          go_wp2_with (at_builtin; refine app_num elInt (by decide) lims_int (by rfl) (by rfl) HF5.out HI5.out (by rfl) (by rfl) (by omega) ?_)
          intro v' w8 hF8 _ _
          have HF8 := Lib.hid (hF8.congr' HSN.out)
          clear hF8
          go_wp2
          exact ⟨⟨j + 1, by omega, by go_num, HF8⟩, by simp [intOf]; omega⟩
        · obtain rfl : j = m := by omega
          have hbF := hF.out.bel
          have HRO := Lib.hid (show PRow w.heap.size wr _ ((List.range j).map (f i)) from (OwnF.row (w0 := wq) (l := (List.range j).map (f i)) (by
            rw [List.length_map, List.length_range]
            exact hF.out.congr' fun k hk => (range_getD (f i) hk).symm)).rebase hBr.size)
          obtain ⟨fa, fc, hfv⟩ : ∃ a c, _ = Value.slice a j c := by obtain ⟨a, c, h, _⟩ := hF.out.view; exact ⟨a, c, h⟩
          subst hfv
          have HOW := Lib.hid (HO.out.below (prs_prow _) hbF)
          have o0f := bkeepf hbF o0 o0f
          have r0f := bkeepf hbF r0 r0f
          have o0 := bkeep hbF o0
          have r0 := bkeep hbF r0
          have HT2 := Lib.hid (And.intro (typ_keep HTT.out.1 hbF) (typ_keep HTT.out.2 hbF))
          clear HTT HO
          have zo2 := cell_lt o0
          go_wp2_with (at_builtin; refine appL elRow (prs_prow _) (by decide) (by rfl) (by rfl) (HOW.out.below (prs_prow _) (bal (Below.refl _ _) _)) (HRO.out.keep lims_int (bal (Below.refl _ _) _)) (by rfl) (by rfl) (cell_new rfl rfl) (by rw [tab_len]; omega) (by rw [tab_len]; unfold maxLen; omega) ?_)
          intro v' w8 hO8 hk8
          have ha8 : Kp (· ≠ 59) wr w8 := ((Kp.refl _ wr).alloc _).trans hk8
          have o08 := ha8.cell HT2.out.2 (by decide) o0
          have o08f := ha8.frz HT2.out.2 (by decide) o0f
          have r08 := ha8.cell HT2.out.1 (by decide) r0
          have r08f := ha8.frz HT2.out.1 (by decide) r0f
          have HT8 := Lib.hid (And.intro (ha8.typ HT2.out.1 (by decide)) (ha8.typ HT2.out.2 (by decide)))
          have HO8 := Lib.hid hO8
          have hb8 := hO8.bel
          obtain ⟨a8, c8, hv8⟩ := hO8.ex
          rw [show (tab i j f ++ [(List.range j).map (f i)]) = tab (i + 1) j f from by unfold tab; rw [range_snoc]] at HO8 hv8
          rw [tab_len] at hv8
          subst hv8
          clear hO8 hk8 ha8 HT2 o0 o0f r0 r0f HRO HOW
          go_wp2
          refine ⟨⟨i + 1, by omega, by go_num, bset hb8 (by show w.heap.size ≤ w.heap.size + 1; omega) _, Lib.hid ⟨cell_far r08 (addr_ne (by omega)) _, by rw [World.frozen?_setCell]; exact r08f, by rw [World.frozen?_setCell]; exact o08f, by rw [typ_set]; exact HT8.out.1, by rw [typ_set]; exact HT8.out.2⟩, Lib.hid ⟨_, cell_here o08 _, HO8.out.set (prs_prow _) (p := ⟨w.heap.size + 1, 0, none⟩) HT8.out.2 (by decide) (by decide) (by show w.heap.size ≤ w.heap.size + 1; omega) _⟩⟩, by simp [intOf]; omega⟩
    · obtain rfl : i = n := by omega
      have HL := Lib.hid (HO.out.isL)
      clear HO
      go_wp2
      refine bodyPost_ret (v := .agg #[.slice oa i oc]) (by simp [results, Tryz.results76, go_sem, *]) rfl ⟨⟨_, rfl, ?_⟩, ?_⟩
      · refine ⟨oa, oc, by rw [tab_len], ?_⟩
        rw [tab_len]
        exact IsL.kp (S' := fun t => t ≠ 27) (prs_prow _) HL.out ((Kp.refl _ _).set (p := ⟨w.heap.size, 0, none⟩) (fun t ht => by rw [HTT.out.1] at ht; cases ht; exact fun h => h rfl) _) (fun t ht => by rcases ht with rfl | rfl <;> decide) (by decide)
      · exact bset hBr (by show w.heap.size ≤ w.heap.size; omega) _
end Go.Proofs.YthlphfjmdgcpdaaGreatDoor

/- Arguments as they come in, opened: a program; rows of int64; what their bulk gives. -/
namespace Go.Proofs.YthlphfjmdgcpdaaGreatDoor
open Go.ChangeShapes Go.WideShapes Go.ChangeAt Go.RowKit Go.Joins Go.Deep
set_option linter.unusedVariables false
set_option linter.unusedSimpArgs false
namespace bulks
theorem one_le {H : Type} (d : DataW H) : 1 ≤ Rows.uptoBulk d := by
  cases d with
  | lit l => cases l <;> simp [Rows.uptoBulk]
  | nil => simp [Rows.uptoBulk]
  | ptr d => simp [Rows.uptoBulk]
  | slice elems spare => simp [Rows.uptoBulk]
  | agg parts => simp [Rows.uptoBulk]
  | iface t d => simp [Rows.uptoBulk]
  | map entries => simp [Rows.uptoBulk]
  | held h => simp [Rows.uptoBulk]
theorem length_le {H : Type} (l : List (DataW H)) : l.length ≤ Rows.uptoBulkAll l := by
  induction l with
  | nil => simp [Rows.uptoBulkAll]
  | cons x r ih => have := one_le x; simp only [Rows.uptoBulkAll, List.length_cons]; omega
/-- a list made by a function: its parts' sizes, and how many they are -/
theorem sum_le {H : Type} {α : Type} (f : α → DataW H) (n : α → Nat) : ∀ (l : List α), (∀ x ∈ l, n x + 1 ≤ Rows.uptoBulk (f x)) → (l.map n).sum + l.length ≤ Rows.uptoBulkAll (l.map f)
  | [], _ => by simp [Rows.uptoBulkAll]
  | x :: r, h => by
    have h1 := sum_le f n r (fun y hy => h y (List.mem_cons_of_mem _ hy))
    have h2 := h x (List.mem_cons_self ..)
    simp only [List.map_cons, List.sum_cons, List.length_cons, Rows.uptoBulkAll]; omega
end bulks
section
variable {H : Type} {enc : TypeId × Value → H} {P : Program} {w : World} {base : Nat} {spare : Nat → Bool} {held : Bool}
end
/-- what an address is, of which a cell is known -/
theorem addr_plain {w : World} {a : Addr} {v : Value} (h : w.cell? a = some v) : a = ⟨a.block, a.off, none⟩ := by
  obtain ⟨b, o, s⟩ := a
  cases s with
  | none => rfl
  | some s =>
    simp only [World.cell?] at h
    split at h <;> simp at h
theorem add_plain (b o k : Nat) : (⟨b, o, none⟩ : Addr).add k = ⟨b, o + k, none⟩ := by
  unfold Addr.add; split
  · subst_vars; rfl
  · rfl
/-- an address, the first cell behind which is known -/
theorem plain_at {w : World} {a : Addr} {v : Value} (h : w.cell? (a.add 0) = some v) : ∃ b o, a = ⟨b, o, none⟩ := by
  have h2 : w.cell? a = some v := by simpa [Addr.add] using h
  exact ⟨_, _, addr_plain h2⟩
section
variable {H : Type} {enc : TypeId × Value → H} {W : World} {b0 : Nat} {r : Reach} {v : Value} {d : DataW H} {p : List MemPlace}
theorem i64_of {n : Int} (h : (Lit.int .i64 n).wf = true) : I64 n := by
  have h1 := (Lit.wf_int_iff .i64 n).1 h
  have e1 : IntKind.i64.min = -9223372036854775808 := by decide
  have e2 : IntKind.i64.max = 9223372036854775807 := by decide
  rw [e1, e2] at h1
  exact h1
end
end Go.Proofs.YthlphfjmdgcpdaaGreatDoor

