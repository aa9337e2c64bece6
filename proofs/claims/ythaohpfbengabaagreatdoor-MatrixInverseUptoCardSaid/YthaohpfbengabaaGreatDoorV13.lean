/- Texts of this seat, laid together: ExJ, ExL, ExN, ExO, RwG, MxA, GrT, Jn. Each opens with its own remark, which says what it proves, and under which conditions. -/
import Derived.Test.YthaohpfbengabaaGreatDoorV12
import Derived.Test.YthaohpfbengabaaGreatDoorV11
import Derived.Deep.RegionLaw
import Derived.Shelf.RegionOpen
import Derived.Test.YthaohpfbengabaaGreatDoorV10
import Derived.Test.YthaohpfbengabaaGreatDoorV01
import Derived.StillTail
import Derived.Deep.Quiet
import Derived.Test.YthaohpfbengabaaGreatDoorV03
import Derived.Shelf.Strings.OnBuilder
set_option linter.unusedVariables false
set_option linter.unusedSimpArgs false
/- exact: Rows, Judge. -/
namespace Go.Proofs.YthaohpfbengabaaGreatDoor
open Num
open Go.ChangeShapes Go.WideShapes Go.ChangeAt Go.RowKit
set_option linter.unusedVariables false
set_option linter.unusedSimpArgs false
attribute [local go_sem ↓] Go.wp_at_zero Go.wp_at_succ
/-- a row of the call's own, in a block from lo on; behind which block the next may lie -/
def RowLH (w : World) (v : Value) (x : List Int × Nat × Nat) : Prop := RowO IsInt 36 x.2.1 w v x.1 ∧ x.2.2 = (rowBlk v).elim 0 (· + 1)
/-- rows in blocks that lie one behind the other -/
def AscLH (gs : List (List Int × Nat × Nat)) : Prop := ∀ i j (hi : i < gs.length) (hj : j < gs.length), i < j → gs[i].2.2 ≤ gs[j].2.1
theorem RowLH.hi {w : World} {v : Value} {x : List Int × Nat × Nat} (h : RowLH w v x) : x.2.2 ≤ w.heap.size := by
  rw [h.2]
  cases e : rowBlk v with
  | none => exact Nat.zero_le _
  | some b => exact typ_lt (rowO_blk h.1 e).2
theorem OwnL.mapd {α β : Type} {T : TypeId} {Pr : World → Value → α → Prop} {Pr' : World → Value → β → Prop} {w0 wr : World} {v : Value} {g : List α} (f : α → β) (h : OwnL T Pr w0 wr v g) (hf : ∀ u x, x ∈ g → Pr wr u x → Pr' wr u (f x)) : OwnL T Pr' w0 wr v (g.map f) := by
  obtain ⟨xs, h1, h2⟩ := h
  refine ⟨xs, by rw [List.length_map]; exact h1, fun k hk => ?_⟩
  rw [List.length_map] at hk
  obtain ⟨u, hu, hp⟩ := h2 k hk
  exact ⟨u, hu, by rw [List.getElem_map]; exact hf _ _ (List.getElem_mem hk) hp⟩
/-- what Rows answers -/
def ExRowsPost (ins regs : Int) (code : List Ins) (outs : List Int) (g : Grid) (w : World) (e : Ending) (w' : World) : Prop :=
  ((¬ ProgOk ins regs code outs ∧ e = .returned (.tuple #[.slice none 0 0, .int .i64 0, .int .i64 80])) ∨
   (ProgOk ins regs code outs ∧ ¬ FitsG ins g ∧ e = .returned (.tuple #[.slice none 0 0, .int .i64 0, .int .i64 5])) ∨
   (ProgOk ins regs code outs ∧ FitsG ins g ∧ ∃ (k : Nat) (h : Grid), k < code.length ∧ after code (startG g regs.toNat (g.getD 0 []).length) k = some h ∧ after code (startG g regs.toNat (g.getD 0 []).length) (k + 1) = none ∧ e = .returned (.tuple #[.slice none 0 0, .int .i64 k, .int .i64 20])) ∨
   (ProgOk ins regs code outs ∧ FitsG ins g ∧ ∃ (h : Grid) (v : Value), after code (startG g regs.toNat (g.getD 0 []).length) code.length = some h ∧ e = .returned (.tuple #[v, .int .i64 0, .int .i64 0]) ∧ OwnL 59 (RowO IsInt 36 w.heap.size) w w' v (outsG outs h))) ∧ Below w.heap.size w w'
/-- the same; its rows lie one behind the other -/
def ExRowsPostX (ins regs : Int) (code : List Ins) (outs : List Int) (g : Grid) (w : World) (e : Ending) (w' : World) : Prop :=
  ((¬ ProgOk ins regs code outs ∧ e = .returned (.tuple #[.slice none 0 0, .int .i64 0, .int .i64 80])) ∨
   (ProgOk ins regs code outs ∧ ¬ FitsG ins g ∧ e = .returned (.tuple #[.slice none 0 0, .int .i64 0, .int .i64 5])) ∨
   (ProgOk ins regs code outs ∧ FitsG ins g ∧ ∃ (k : Nat) (h : Grid), k < code.length ∧ after code (startG g regs.toNat (g.getD 0 []).length) k = some h ∧ after code (startG g regs.toNat (g.getD 0 []).length) (k + 1) = none ∧ e = .returned (.tuple #[.slice none 0 0, .int .i64 k, .int .i64 20])) ∨
   (ProgOk ins regs code outs ∧ FitsG ins g ∧ ∃ (h : Grid) (v : Value) (gs : List (List Int × Nat × Nat)), after code (startG g regs.toNat (g.getD 0 []).length) code.length = some h ∧ e = .returned (.tuple #[v, .int .i64 0, .int .i64 0]) ∧ gs.map (·.1) = outsG outs h ∧ AscLH gs ∧ (∀ x ∈ gs, w.heap.size ≤ x.2.1) ∧ OwnL 59 RowLH w w' v gs)) ∧ Below w.heap.size w w'
theorem ExRowsPostX.plain {ins regs : Int} {code : List Ins} {outs : List Int} {g : Grid} {w : World} {e : Ending} {w' : World} (h : ExRowsPostX ins regs code outs g w e w') : ExRowsPost ins regs code outs g w e w' := by
  obtain ⟨h, hB⟩ := h
  refine ⟨?_, hB⟩
  rcases h with h | h | h | ⟨h1, h2, h, v, gs, h3, h4, h5, h6, h7, h8⟩
  · exact .inl h
  · exact .inr (.inl h)
  · exact .inr (.inr (.inl h))
  · refine .inr (.inr (.inr ⟨h1, h2, h, v, h3, h4, ?_⟩))
    rw [← h5]
    exact h8.mapd _ fun u x hx hr => hr.1.rebase (h7 x hx)
end Go.Proofs.YthaohpfbengabaaGreatDoor

/- exact: Trace: what its iterator tells. -/
namespace Go.Proofs.YthaohpfbengabaaGreatDoor
open Num
open Go.ChangeShapes Go.WideShapes Go.ChangeAt Go.RowKit
set_option linter.unusedVariables false
set_option linter.unusedSimpArgs false
attribute [local go_sem ↓] Go.wp_at_zero Go.wp_at_succ
/-- what the iterator finds -/
structure TraceIn (n0 : Nat) (X0 : Nat → Prop) (pb xb : Nat) (ins regs : Int) (ca oa : Option Addr) (cc oc : Nat) (code : List Ins) (outs : List Int) (v : Value) (l : List Int) (W : World) : Prop where
  p0 : W.cell? ⟨pb, 0, none⟩ = some (.int .i64 ins)
  p1 : W.cell? ⟨pb, 1, none⟩ = some (.int .i64 regs)
  p2 : W.cell? ⟨pb, 2, none⟩ = some (.slice ca code.length cc)
  p3 : W.cell? ⟨pb, 3, none⟩ = some (.slice oa outs.length oc)
  x0 : W.cell? ⟨xb, 0, none⟩ = some v
  hc : InsV W ca cc code
  ho : IntsV W oa oc outs
  hv : PRow 0 W v l
  lt : ∀ q, X0 q → q < n0
  le : n0 ≤ W.heap.size
  ty : ∀ q, X0 q → typOf W q = some 3
  nc : ∀ b off, ca = some ⟨b, off, none⟩ → 0 < code.length → ¬ X0 b
section
variable {n0 : Nat} {X0 : Nat → Prop} {pb xb : Nat} {ins regs : Int} {ca oa : Option Addr} {cc oc : Nat} {code : List Ins} {outs : List Int} {v : Value} {l : List Int} {W W' : World}
theorem TraceIn.keep (h : TraceIn n0 X0 pb xb ins regs ca oa cc oc code outs v l W) (k : Below W.heap.size W W') : TraceIn n0 X0 pb xb ins regs ca oa cc oc code outs v l W' :=
  ⟨bkeep k h.p0, bkeep k h.p1, bkeep k h.p2, bkeep k h.p3, bkeep k h.x0, h.hc.keep k, h.ho.keep k, h.hv.keep lims_int k, h.lt, Nat.le_trans h.le k.size, fun q hq => typ_keep (h.ty q hq) k, h.nc⟩
end
end Go.Proofs.YthaohpfbengabaaGreatDoor

/- exact: Steps: what its iterator tells. -/
namespace Go.Proofs.YthaohpfbengabaaGreatDoor
open Num
open Go.ChangeShapes Go.WideShapes Go.ChangeAt Go.RowKit
set_option linter.unusedVariables false
set_option linter.unusedSimpArgs false
attribute [local go_sem ↓] Go.wp_at_zero Go.wp_at_succ
/-- what is told: the k-th row, in memory of its own -/
def AR (n0 : Nat) (T : Nat → List Int) (k : Nat) (args : Array Value) (X : World) : Prop := ∃ v base, args = #[.int .i64 (k : Int), v] ∧ n0 ≤ base ∧ RowO IsInt 36 base X v (T k)
/-- the block of what is told -/
def XsR (args : Array Value) (q : Nat) : Prop := ∃ v, args[1]? = some v ∧ rowBlk v = some q
theorem AR.cells {n0 : Nat} {T : Nat → List Int} {k q : Nat} {args : Array Value} {X : World} (h : AR n0 T k args X) (hq : XsR args q) : ∃ o, X.heap[q]? = some o ∧ o.isCells = true := by
  obtain ⟨v, base, rfl, _, hr⟩ := h
  obtain ⟨v', e, hb⟩ := hq
  simp at e
  subst e
  exact typ_cells (rowO_blk hr hb).2
theorem OutT.base {S X : Nat → Prop} {a b c : World} (k : Below a.heap.size a b) (h : OutT (fun q => S q ∨ X q) b c) (hx : ∀ q, X q → a.heap.size ≤ q) (hS : ∀ q, S q → q < a.heap.size) : OutT S a c := by
  refine ⟨⟨h.1.os.trans k.os, h.1.tape.trans k.tape, h.1.output.trans k.output, Nat.le_trans k.size h.1.size, fun q hq hs => (h.1.block q (Nat.lt_of_lt_of_le hq k.size) fun e => ?_).trans (k.block q hq)⟩, fun q hq hl => ?_⟩
  · rcases e with e | e
    · exact hs e
    · have := hx q e; omega
  · rw [h.2 q (.inl hq) (Nat.lt_of_lt_of_le hl k.size)]
    unfold typOf; rw [k.block q hl]
/-- what the iterator finds -/
structure StepsIn (n0 : Nat) (S0 : Nat → Prop) (pb xb : Nat) (ins regs : Int) (ca oa : Option Addr) (cc oc : Nat) (code : List Ins) (outs : List Int) (v : Value) (g : Grid) (W : World) : Prop where
  p0 : W.cell? ⟨pb, 0, none⟩ = some (.int .i64 ins)
  p1 : W.cell? ⟨pb, 1, none⟩ = some (.int .i64 regs)
  p2 : W.cell? ⟨pb, 2, none⟩ = some (.slice ca code.length cc)
  p3 : W.cell? ⟨pb, 3, none⟩ = some (.slice oa outs.length oc)
  x0 : W.cell? ⟨xb, 0, none⟩ = some v
  hc : InsV W ca cc code
  ho : IntsV W oa oc outs
  hv : GridV W v g
  hm : (g.getD 0 []).length ≤ 1099511627775
  lt : ∀ q, S0 q → q < n0
  le : n0 ≤ W.heap.size
  nc : ∀ b off, ca = some ⟨b, off, none⟩ → 0 < code.length → ¬ S0 b
section
variable {n0 : Nat} {S0 : Nat → Prop} {pb xb : Nat} {ins regs : Int} {ca oa : Option Addr} {cc oc : Nat} {code : List Ins} {outs : List Int} {v : Value} {g : Grid} {W W' : World}
theorem StepsIn.keep (h : StepsIn n0 S0 pb xb ins regs ca oa cc oc code outs v g W) (k : Below W.heap.size W W') : StepsIn n0 S0 pb xb ins regs ca oa cc oc code outs v g W' :=
  ⟨bkeep k h.p0, bkeep k h.p1, bkeep k h.p2, bkeep k h.p3, bkeep k h.x0, h.hc.keep k, h.ho.keep k, h.hv.keep (prs_row lims_int _ _) k, h.hm, h.lt, Nat.le_trans h.le k.size, h.nc⟩
end
end Go.Proofs.YthaohpfbengabaaGreatDoor

/- exact: Widest. -/
namespace Go.Proofs.YthaohpfbengabaaGreatDoor
open Num
open Go.ChangeShapes Go.WideShapes Go.ChangeAt Go.RowKit
set_option linter.unusedVariables false
set_option linter.unusedSimpArgs false
attribute [local go_sem ↓] Go.wp_at_zero Go.wp_at_succ
attribute [local go_sem] Oper.semAt_some
/-- a variable in memory that holds a number -/
def VarI (ub : Nat) (m : Int) (W : World) : Prop := typOf W ub = some 36 ∧ ∃ n a ln c, W.cell? ⟨ub, 0, none⟩ = some (.bool n) ∧ W.cell? ⟨ub, 1, none⟩ = some (.slice a ln c) ∧ W.frozen? ⟨ub, 0, none⟩ = false ∧ W.frozen? ⟨ub, 1, none⟩ = false ∧ IsInt W (.agg #[.bool n, .slice a ln c]) m
theorem VarI.keep {ub : Nat} {m : Int} {W V : World} (h : VarI ub m W) (k : Below W.heap.size W V) : VarI ub m V := by
  obtain ⟨ht, n, a, ln, c, h0, h1, f0, f1, hi⟩ := h
  exact ⟨typ_keep ht k, n, a, ln, c, bkeep k h0, bkeep k h1, bkeepf k h0 f0, bkeepf k h1 f1, hi.keep k⟩
theorem VarI.put {ub : Nat} {m z : Int} {W : World} {n : Bool} {a : Option Addr} {ln c : Nat} (h : VarI ub m W) (hi : IsInt W (.agg #[.bool n, .slice a ln c]) z) : VarI ub z ((W.setCell ⟨ub, 0, none⟩ (.bool n)).setCell ⟨ub, 1, none⟩ (.slice a ln c)) := by
  obtain ⟨ht, n', a', ln', c', h0, h1, f0, f1, _⟩ := h
  refine ⟨by rw [typ_set, typ_set]; exact ht, n, a, ln, c, cell_far (cell_here h0 _) (by simp) _, cell_here (cell_far h1 (by simp) _) _, ?_, ?_, hi.put2 h0 h1 _ _⟩
  · rw [World.frozen?_setCell, World.frozen?_setCell]; exact f0
  · rw [World.frozen?_setCell, World.frozen?_setCell]; exact f1
end Go.Proofs.YthaohpfbengabaaGreatDoor

/- integer: Sum; row: Dot. -/
namespace Go.Proofs.YthaohpfbengabaaGreatDoor
open Num
open Go.ChangeShapes Go.WideShapes Go.ChangeAt Go.RowKit
set_option linter.unusedVariables false
set_option linter.unusedSimpArgs false
attribute [local go_sem ↓] Go.wp_at_zero Go.wp_at_succ
/-- the sum of all -/
def sumL (l : List Int) : Int := l.foldl (· + ·) 0
theorem sumL_snoc (l : List Int) (x : Int) : sumL (l ++ [x]) = sumL l + x := by simp [sumL]
theorem sumL_take {l : List Int} {j : Nat} (hj : j < l.length) : sumL (l.take (j + 1)) = sumL (l.take j) + l.getD j 0 := by
  rw [List.take_succ_eq_append_getElem hj, sumL_snoc]; simp [hj]
theorem sumL_bd {l : List Int} {k : Nat} (h : ∀ j, Bd k (l.getD j 0)) : ∀ j, j ≤ l.length → Bd (k + j) (sumL (l.take j)) := by
  intro j
  induction j with
  | zero => intro _; exact bd_zero
  | succ j ih =>
    intro hj
    rw [sumL_take (by omega)]
    exact (Bd.add (ih (by omega)) ((h j).mono (by omega))).mono (by omega)
/-- the sum of the products -/
def dotL (a b : List Int) : Int := sumL (List.zipWith (fun x y => x * y) a b)
set_option maxRecDepth 100000 in
set_option maxHeartbeats 4000000 in
theorem sum_c (v : Value) (l : List Int) (k : Nat) (w : World) (hv : PRow 0 w v l) (hl : l.length ≤ 1099511627775) (hb : ∀ j, Bd k (l.getD j 0)) (hk : k + l.length ≤ 17179869184) :
    Calls Tryz.prog 146 #[v] w fun e w' => (∃ u, e = .returned u ∧ IsInt w' u (sumL l)) ∧ Below w.heap.size w w' := by
  have HV := Lib.hid hv
  have HBD := Lib.hid hb
  obtain ⟨va, vc, rfl, -⟩ := hv
  clear hb
  have hB := Below.refl w.heap.size w
  go_enter Tryz.func146, Tryz.ntmps146
  go_wp2
  refine wp_name fun w0 hW0 => ?_
  have hB0 : Below w.heap.size w w0 := by rw [hW0]; repeat (first | exact Below.refl _ _ | exact hB | refine Below.drew ?_ | refine below_drewN ?_ _ | refine bset ?_ (by simp <;> omega) _ | refine bal ?_ _)
  have HR0 := Lib.hid (show w0.cell? ⟨w.heap.size, 0, none⟩ = some (.bool false) ∧ w0.cell? ⟨w.heap.size, 1, none⟩ = some (.slice none 0 0) ∧ w0.frozen? ⟨w.heap.size, 0, none⟩ = false ∧ w0.frozen? ⟨w.heap.size, 1, none⟩ = false from by rw [hW0]; simp [go_sem])
  have HM0 := Lib.hid (show VarI (w.heap.size + 1) 0 w0 from by rw [hW0]; exact ⟨typ_fresh (by simp), false, none, 0, 0, by simp [go_sem], by simp [go_sem], by simp [go_sem], by simp [go_sem], isInt_zero _⟩)
  clear hW0
  go_loopw [8] (fun x wr => ∃ j : Nat, j ≤ l.length ∧ x = .int .i64 j ∧ Below w.heap.size w wr ∧ Hid (wr.cell? ⟨w.heap.size, 0, none⟩ = some (.bool false) ∧ wr.cell? ⟨w.heap.size, 1, none⟩ = some (.slice none 0 0) ∧ wr.frozen? ⟨w.heap.size, 0, none⟩ = false ∧ wr.frozen? ⟨w.heap.size, 1, none⟩ = false) ∧ Hid (VarI (w.heap.size + 1) (sumL (l.take j)) wr)) (fun x _ => l.length - (intOf x).toNat)
  case atStart => exact ⟨0, Nat.zero_le _, rfl, hB0, HR0, HM0⟩
  case round =>
    obtain ⟨j, hj, rfl, hBr, HR, hM⟩ := hrel
    obtain ⟨-, n0, a0, ln0, c0, m0, m1, m0f, m1f, hi0⟩ := hM.out
    obtain ⟨r0, r1, r0f, r1f⟩ := HR.out
    have HI0 := Lib.hid hi0
    have zm := cell_lt m0
    have zr := cell_lt r0
    have HR' := HR
    clear hi0 HR
    by_cases hlt : j < l.length
    · have hltI : (j : Int) < (l.length : Int) := by omega
      obtain ⟨a', c', he, -, vr⟩ := (HV.out.keep lims_int hBr).view
      obtain ⟨rfl, -, rfl⟩ := Value.slice.inj he
      obtain ⟨b, off, n2, a2, l2, cc2, rfl, d0, d1, hi⟩ := vr j hlt
      have HW := Lib.hid (sumL_take hlt)
      have bs := sumL_bd HBD.out j (by omega)
      have bj := (HBD.out j).mono (show k ≤ k + j by omega)
      obtain ⟨x, hx⟩ : ∃ x, l.getD j 0 = x := ⟨_, rfl⟩
      rw [hx] at hi HW bj
      obtain ⟨m, hm⟩ : ∃ m, sumL (l.take j) = m := ⟨_, rfl⟩
      rw [hm] at HI0 HW hM bs
      have zd := cell_lt d0
      have ac := fun W (h : Below wr.heap.size wr W) => addI_c _ _ m x (k + j) W (HI0.out.keep h) (hi.keep h) bs bj (by omega)
      clear hx hm he vr hi
      have hBw := Below.refl wr.heap.size wr
      go_wp2_with fail
      refine (ac _ (by repeat (first | exact Below.refl _ _ | exact hBw | refine Below.drew ?_ | refine below_drewN ?_ _ | refine bset ?_ (by simp <;> omega) _ | refine bal ?_ _))).mono ?_
      rintro e w2 ⟨⟨u, rfl, hu⟩, hb2⟩
      have hb2' : Below wr.heap.size wr w2 := bthen (by repeat (first | exact Below.refl _ _ | exact hBw | refine Below.drew ?_ | refine below_drewN ?_ _ | refine bset ?_ (by simp <;> omega) _ | refine bal ?_ _)) hb2
      have HU := Lib.hid hu
      obtain ⟨nu, au, cu, lu, rfl, -⟩ := hu
      unfold iv at *
      have HV2 := Lib.hid ((hM.out.keep hb2').put HU.out)
      replace r0f := bkeepf hb2' r0 r0f
      replace r1f := bkeepf hb2' r1 r1f
      replace m0f := bkeepf hb2' m0 m0f
      replace m1f := bkeepf hb2' m1 m1f
      replace r0 := bkeep hb2' r0
      replace r1 := bkeep hb2' r1
      replace m0 := bkeep hb2' m0
      replace m1 := bkeep hb2' m1
      have hB2 := bthen hBr hb2'
      clear ac d0 d1 bs bj hb2
      go_wp2
      refine ⟨⟨j + 1, by omega, by go_num, bset (bset hB2 (by show w.heap.size ≤ w.heap.size + 1; omega) _) (by show w.heap.size ≤ w.heap.size + 1; omega) _, Lib.hid ⟨cell_far (cell_far r0 (addr_ne (by omega)) _) (addr_ne (by omega)) _, cell_far (cell_far r1 (addr_ne (by omega)) _) (addr_ne (by omega)) _, ?_, ?_⟩, Lib.hid (by rw [HW.out]; exact HV2.out)⟩, by simp [intOf]; omega⟩
      · rw [World.frozen?_setCell, World.frozen?_setCell]; exact r0f
      · rw [World.frozen?_setCell, World.frozen?_setCell]; exact r1f
    · obtain rfl : j = l.length := by omega
      rw [List.take_length] at HI0
      have hp := Lib.hid (HI0.out.put2 r0 r1)
      go_wp2
      refine bodyPost_ret (v := .agg #[.bool n0, .slice a0 ln0 c0]) (by simp [results, Tryz.results146, go_sem, *]) rfl ⟨⟨_, rfl, hp.out _ _⟩, ?_⟩
      repeat (first | exact Below.refl _ _ | exact hBr | refine Below.drew ?_ | refine below_drewN ?_ _ | refine bset ?_ (by simp <;> omega) _ | refine bal ?_ _)
theorem zip_bd {la lb : List Int} {k m : Nat} (ba : ∀ j, Bd k (la.getD j 0)) (bb : ∀ j, Bd m (lb.getD j 0)) : ∀ j, Bd (k + m) ((List.zipWith (fun x y => x * y) la lb).getD j 0) := fun j => by
  by_cases h : j < la.length ∧ j < lb.length
  · rw [zip_getD h.1 h.2]; exact Bd.mul (ba j) (bb j)
  · rw [List.getD_eq_getElem?_getD, List.getElem?_eq_none (by simp; omega)]; exact bd_zero
set_option maxRecDepth 100000 in
set_option maxHeartbeats 2000000 in
theorem dot_c (va vb : Value) (la lb : List Int) (k m : Nat) (w : World) (ha : PRow 0 w va la) (hb : PRow 0 w vb lb) (hl : la.length ≤ 1099511627775) (he : la.length = lb.length) (ba : ∀ j, Bd k (la.getD j 0)) (bb : ∀ j, Bd m (lb.getD j 0)) (hk : k + m + la.length ≤ 17179869184) :
    Calls Tryz.prog 101 #[va, vb] w fun e w' => (∃ u, e = .returned (.tuple #[u, .int .i64 0]) ∧ IsInt w' u (dotL la lb)) ∧ Below w.heap.size w w' := by
  have eF : Enters Tryz.prog 95 := ens Tryz.func95 (by kernel_rfl) rfl
  have hz : (List.zipWith (fun x y => x * y) la lb).length = la.length := by rw [List.length_zipWith]; omega
  have bc := fun W (hB : Below w.heap.size w W) => both_yes va vb la lb (List.zipWith (fun x y => x * y) la lb) 95 #[] #[] W (ha.keep lims_int hB) (hb.keep lims_int hB) hl he hz eF (fun j W1 u1 u2 hj _ h1 h2 => by
    have hc := mul_c u1 u2 (la.getD j 0) (lb.getD j 0) k m W1 h1 h2 (ba j) (bb j) (by omega) (by omega)
    rw [zip_getD hj (by omega)]
    exact hc)
  have HBC := Lib.hid bc
  have HZB := Lib.hid (zip_bd ba bb)
  have HZ := Lib.hid hz
  obtain ⟨aa, ca, rfl, -⟩ := ha
  obtain ⟨ab, cb, rfl, -⟩ := hb
  obtain ⟨L, hL⟩ : ∃ L, List.zipWith (fun x y => x * y) la lb = L := ⟨_, rfl⟩
  unfold dotL
  rw [hL] at HBC HZB HZ ⊢
  clear bc hz eF ba bb he hL
  have hB := Below.refl w.heap.size w
  go_enter Tryz.func101, Tryz.ntmps101
  go_wp2_with fail
  refine (HBC.out _ (by repeat (first | exact Below.refl _ _ | exact hB | refine Below.drew ?_ | refine below_drewN ?_ _ | refine bset ?_ (by simp <;> omega) _ | refine bal ?_ _))).mono ?_
  rintro e w1 ⟨⟨u, rfl, hu⟩, hb1⟩
  have r0 : w1.cell? ⟨w.heap.size, 0, none⟩ = some (.bool false) := bkc hb1
  have zr0 := cell_lt r0
  have r0f : w1.frozen? ⟨w.heap.size, 0, none⟩ = false := bkcf (v := .bool false) hb1
  have r1 : w1.cell? ⟨w.heap.size, 1, none⟩ = some (.slice none 0 0) := bkc hb1
  have r1f : w1.frozen? ⟨w.heap.size, 1, none⟩ = false := bkcf (v := .slice none 0 0) hb1
  have hB : Below w.heap.size w w1 := bthen (by repeat (first | exact Below.refl _ _ | exact hB | refine Below.drew ?_ | refine below_drewN ?_ _ | refine bset ?_ (by simp <;> omega) _ | refine bal ?_ _)) hb1
  have hz : w.heap.size ≤ w1.heap.size := hB.size
  have sc := fun W (h : Below w1.heap.size w1 W) => sum_c u L (k + m) W ((hu.row.rebase (Nat.zero_le _)).keep lims_int h) (by rw [HZ.out]; omega) HZB.out (by rw [HZ.out]; omega)
  obtain ⟨ua, un, uc, rfl⟩ : ∃ a n c, u = Value.slice a n c := by obtain ⟨a, c, h⟩ := hu.ex; exact ⟨a, _, c, h⟩
  have hw1 := Below.refl w1.heap.size w1
  clear HBC hu
  go_wp2_with fail
  refine (sc _ (by repeat (first | exact Below.refl _ _ | exact hw1 | refine Below.drew ?_ | refine below_drewN ?_ _ | refine bset ?_ (by simp <;> omega) _ | refine bal ?_ _))).mono ?_
  rintro e w2 ⟨⟨u2, rfl, hu2⟩, hb2⟩
  have r0 : w2.cell? ⟨w.heap.size, 0, none⟩ = some (.bool false) := bkc hb2
  have zr0 := cell_lt r0
  have r0f : w2.frozen? ⟨w.heap.size, 0, none⟩ = false := bkcf (v := .bool false) hb2
  have r1 : w2.cell? ⟨w.heap.size, 1, none⟩ = some (.slice none 0 0) := bkc hb2
  have r1f : w2.frozen? ⟨w.heap.size, 1, none⟩ = false := bkcf (v := .slice none 0 0) hb2
  have hB : Below w.heap.size w w2 := bthen (by repeat (first | exact Below.refl _ _ | exact hB | refine Below.drew ?_ | refine below_drewN ?_ _ | refine bset ?_ (by simp <;> omega) _ | refine bal ?_ _)) hb2
  have hz : w.heap.size ≤ w2.heap.size := hB.size
  have hp := Lib.hid (hu2.put2 r0 r1)
  obtain ⟨n2, a2, c2, l2, rfl, -⟩ := hu2
  unfold iv at *
  clear sc
  go_wp2
  refine bodyPost_ret (v := .tuple #[.agg #[.bool n2, .slice a2 l2.length c2], .int .i64 0]) (by simp [results, Tryz.results101, go_sem, *]) rfl ⟨⟨_, rfl, hp.out _ _⟩, ?_⟩
  repeat (first | exact Below.refl _ _ | exact hB | refine Below.drew ?_ | refine below_drewN ?_ _ | refine bset ?_ (by simp <;> omega) _ | refine bal ?_ _)
end Go.Proofs.YthaohpfbengabaaGreatDoor

/- matrix: matrices as values; filled. -/
namespace Go.Proofs.YthaohpfbengabaaGreatDoor
open Num
open Go.ChangeShapes Go.WideShapes Go.ChangeAt Go.RowKit
set_option linter.unusedVariables false
set_option linter.unusedSimpArgs false
attribute [local go_sem ↓] Go.wp_at_zero Go.wp_at_succ
/-- a table of numbers -/
def tab (n m : Nat) (f : Nat → Nat → Int) : Grid := (List.range n).map fun i => (List.range m).map (f i)
theorem tab_len (n m : Nat) (f : Nat → Nat → Int) : (tab n m f).length = n := by simp [tab]
theorem tab_row {n m : Nat} {f : Nat → Nat → Int} {i : Nat} (h : i < n) : (tab n m f).getD i [] = (List.range m).map (f i) := by simp [tab, h]
theorem tab_rowlen {n m : Nat} {f : Nat → Nat → Int} {i : Nat} (h : i < n) : ((tab n m f).getD i []).length = m := by rw [tab_row h]; simp
theorem tab_at {n m : Nat} {f : Nat → Nat → Int} {i j : Nat} (h : i < n) (hj : j < m) : ((tab n m f).getD i []).getD j 0 = f i j := by rw [tab_row h]; simp [hj]
theorem tab_congr {n m : Nat} {f g : Nat → Nat → Int} (h : ∀ i j, i < n → j < m → f i j = g i j) : tab n m f = tab n m g := by
  unfold tab
  refine List.map_congr_left fun i hi => List.map_congr_left fun j hj => h i j (by simpa using hi) (by simpa using hj)
/-- a matrix as a value: its rows lie in blocks from base on -/
def IsM (base : Nat) (w : World) (v : Value) (g : Grid) : Prop := ∃ a c, v = .agg #[.slice a g.length c] ∧ IsL 59 (PRow base) base w (.slice a g.length c) g
theorem prs_prow (base : Nat) : Prs (fun t => t = 133 ∨ t = 36) (PRow base) := prs_row lims_int _ _
theorem IsM.keep {base : Nat} {w w' : World} {v : Value} {g : Grid} (h : IsM base w v g) (k : Below w.heap.size w w') : IsM base w' v g := by
  obtain ⟨a, c, e, h⟩ := h; exact ⟨a, c, e, h.keep (prs_prow base) k⟩
theorem IsM.rebase {base base' : Nat} {w : World} {v : Value} {g : Grid} (h : IsM base w v g) (hb : base' ≤ base) : IsM base' w v g := by
  obtain ⟨a, c, e, h⟩ := h; exact ⟨a, c, e, (h.rebase hb).mono fun u x hx => hx.rebase hb⟩
theorem IsM.nil (base : Nat) (w : World) : IsM base w (.agg #[.slice none 0 0]) [] := ⟨none, 0, rfl, IsL.nil _ _ _ _⟩
/-- a function value that tells the number at a place -/
def FnF (f : Nat → Nat → Int) (n m F : Nat) (caps : Array Value) (w : World) : Prop :=
  ∀ W i j, i < n → j < m → Below w.heap.size w W → Calls Tryz.prog F (#[.int .i64 (i : Nat), .int .i64 (j : Nat)] ++ caps) W fun e w' => (∃ v, e = .returned v ∧ IsInt w' v (f i j)) ∧ Below W.heap.size W w'
theorem range_snoc {α : Type} (f : Nat → α) (n : Nat) : (List.range (n + 1)).map f = (List.range n).map f ++ [f n] := by rw [List.range_succ, List.map_append]; rfl
theorem range_getD (f : Nat → Int) {n k : Nat} (h : k < n) : ((List.range n).map f).getD k 0 = f k := by simp [h]
theorem snoc_fn (f : Nat → Int) (j : Nat) : ∀ k, k < j + 1 → (fun i => if i = j then f j else f i) k = f k := by
  intro k hk; dsimp only; split
  · subst_vars; rfl
  · rfl
theorem typ_alloc {w : World} {o : Obj} {b : Nat} {t : TypeId} (h : typOf w b = some t) : typOf (w.alloc o) b = some t := typ_keep h (bal (Below.refl _ _) _)
set_option maxRecDepth 100000 in
set_option maxHeartbeats 8000000 in
theorem filled_c (n m : Nat) (f : Nat → Nat → Int) (F : Nat) (caps : Array Value) (w : World) (hF : FnF f n m F caps w) (eF : Enters Tryz.prog F) (hn : n ≤ 1099511627776) (hm : m ≤ 1099511627775) :
    Calls Tryz.prog 89 #[.int .i64 (n : Nat), .int .i64 (m : Nat), .func (.func F) #[] caps] w fun e w' => (∃ v, e = .returned v ∧ IsM w.heap.size w' v (tab n m f)) ∧ Below w.heap.size w w' := by
  have HF := Lib.hid hF
  clear hF
  have hB := Below.refl w.heap.size w
  unfold Enters at eF
  go_enter Tryz.func89, Tryz.ntmps89
  go_wp2
  refine wp_name fun w0 hW0 => ?_
  have hB0 : Below w.heap.size w w0 := by rw [hW0]; repeat (first | exact Below.refl _ _ | exact hB | refine Below.drew ?_ | refine below_drewN ?_ _ | refine bset ?_ (by simp <;> omega) _ | refine bal ?_ _)
  have HR0 := Lib.hid (show w0.cell? ⟨w.heap.size, 0, none⟩ = some (.slice none 0 0) ∧ w0.frozen? ⟨w.heap.size, 0, none⟩ = false ∧ w0.cell? ⟨w.heap.size + 1, 0, none⟩ = some (.slice none 0 0) ∧ w0.frozen? ⟨w.heap.size + 1, 0, none⟩ = false from by rw [hW0]; simp [go_sem])
  have HT0 := Lib.hid (show typOf w0 w.heap.size = some 27 ∧ typOf w0 (w.heap.size + 1) = some 27 from by
    rw [hW0]; exact ⟨typ_alloc (typ_fresh rfl), typ_fresh (by simp)⟩)
  clear hW0
  go_loopw [12] (fun x wr => ∃ i : Nat, i ≤ n ∧ x = .int .i64 i ∧ Below w.heap.size w wr ∧ Hid (wr.cell? ⟨w.heap.size, 0, none⟩ = some (.slice none 0 0) ∧ wr.frozen? ⟨w.heap.size, 0, none⟩ = false ∧ wr.frozen? ⟨w.heap.size + 1, 0, none⟩ = false ∧ typOf wr w.heap.size = some 27 ∧ typOf wr (w.heap.size + 1) = some 27) ∧ Hid (∃ v, wr.cell? ⟨w.heap.size + 1, 0, none⟩ = some v ∧ OwnL 59 (PRow w.heap.size) w wr v (tab i m f))) (fun x _ => n - (intOf x).toNat)
  case atStart => exact ⟨0, Nat.zero_le _, rfl, hB0, Lib.hid ⟨HR0.out.1, HR0.out.2.1, HR0.out.2.2.2, HT0.out.1, HT0.out.2⟩, Lib.hid ⟨_, HR0.out.2.2.1, OwnL.nil _ _ hB0⟩⟩
  case round =>
    obtain ⟨i, hi, rfl, hBr, HR, HO⟩ := hrel
    obtain ⟨v, o0, hO⟩ := HO.out
    obtain ⟨r0, r0f, o0f, t0, t1⟩ := HR.out
    obtain ⟨oa, oc, hvv⟩ := hO.ex
    rw [tab_len] at hvv
    subst hvv
    have HO := Lib.hid hO
    have HTT := Lib.hid (And.intro t0 t1)
    clear hO t0 t1 HR
    have zr := cell_lt r0
    have zo := cell_lt o0
    by_cases hlt : i < n
    · have hltI : (i : Int) < (n : Int) := by omega
      obtain ⟨wq, hwq⟩ : ∃ wq, wr = wq := ⟨_, rfl⟩
      rw [hwq] at HO HTT hBr r0 r0f o0 o0f zr zo ⊢
      clear hwq
      have hBq := Below.refl wq.heap.size wq
      go_wp2
      go_loopw [9, 16] (fun v x wr => ∃ j : Nat, j ≤ m ∧ x = .int .i64 j ∧ Hid (OwnF IsInt 36 wq wr v j (f i))) (fun _ x _ => m - (intOf x).toNat)
      case atStart => exact ⟨0, Nat.zero_le _, rfl, Lib.hid (OwnF.nil _ _ _ hBq)⟩
      case round =>
        obtain ⟨j, hj, rfl, hF⟩ := hrel
        by_cases hlt2 : j < m
        · have hltJ : (j : Int) < (m : Int) := by omega
          have hbF := hF.out.bel
          have fc := fun W (h : Below wr.heap.size wr W) => HF.out W i j hlt hlt2 (bthen hBr (bthen hbF h))
          obtain ⟨fa, fcp, hfv⟩ : ∃ a c, _ = Value.slice a j c := by obtain ⟨a, c, h, _⟩ := hF.out.view; exact ⟨a, c, h⟩
          subst hfv
          have HSN := Lib.hid (snoc_fn (f i) j)
          obtain ⟨z, hz⟩ : ∃ z, f i j = z := ⟨_, rfl⟩
          rw [hz] at fc HSN
          clear hz
          have hBw := Below.refl wr.heap.size wr
          go_wp2_with fail
          go_at_fn F
          refine (fc _ (by repeat (first | exact Below.refl _ _ | exact hBw | refine Below.drew ?_ | refine below_drewN ?_ _ | refine bset ?_ (by simp <;> omega) _ | refine bal ?_ _))).mono ?_
          rintro e w5 ⟨⟨v5, rfl, hi5⟩, hb5⟩
          have hB5 : Below wr.heap.size wr w5 := bthen (by repeat (first | exact Below.refl _ _ | exact hBw | refine Below.drew ?_ | refine below_drewN ?_ _ | refine bset ?_ (by simp <;> omega) _ | refine bal ?_ _)) hb5
          have HF5 := Lib.hid (hF.out.below lims_int hB5)
          have HI5 := Lib.hid hi5
          obtain ⟨n5, a5, c5, l5, rfl, -⟩ := hi5
          unfold iv at *
          clear fc
          go_wp2_with (at_builtin; refine app_num elInt (by decide) lims_int (by rfl) (by rfl) HF5.out HI5.out (by rfl) (by rfl) (by omega) ?_)
          intro v' w8 hF8 _ _
          have HF8 := Lib.hid (hF8.congr' HSN.out)
          clear hF8
          go_wp2
          exact ⟨⟨j + 1, by omega, by go_num, HF8⟩, by simp [intOf]; omega⟩
        · obtain rfl : j = m := by omega
          have hbF := hF.out.bel
          have HRO := Lib.hid (show PRow w.heap.size wr _ ((List.range j).map (f i)) from (OwnF.row (w0 := wq) (l := (List.range j).map (f i)) (by
            rw [List.length_map, List.length_range]
            exact hF.out.congr' fun k hk => (range_getD (f i) hk).symm)).rebase hBr.size)
          obtain ⟨fa, fc, hfv⟩ : ∃ a c, _ = Value.slice a j c := by obtain ⟨a, c, h, _⟩ := hF.out.view; exact ⟨a, c, h⟩
          subst hfv
          have HOW := Lib.hid (HO.out.below (prs_prow _) hbF)
          have o0f := bkeepf hbF o0 o0f
          have r0f := bkeepf hbF r0 r0f
          have o0 := bkeep hbF o0
          have r0 := bkeep hbF r0
          have HT2 := Lib.hid (And.intro (typ_keep HTT.out.1 hbF) (typ_keep HTT.out.2 hbF))
          clear HTT HO
          have zo2 := cell_lt o0
          go_wp2_with (at_builtin; refine appL elRow (prs_prow _) (by decide) (by rfl) (by rfl) (HOW.out.below (prs_prow _) (bal (Below.refl _ _) _)) (HRO.out.keep lims_int (bal (Below.refl _ _) _)) (by rfl) (by rfl) (cell_new rfl rfl) (by rw [tab_len]; omega) (by rw [tab_len]; unfold maxLen; omega) ?_)
          intro v' w8 hO8 hk8
          have ha8 : Kp (· ≠ 59) wr w8 := ((Kp.refl _ wr).alloc _).trans hk8
          have o08 := ha8.cell HT2.out.2 (by decide) o0
          have o08f := ha8.frz HT2.out.2 (by decide) o0f
          have r08 := ha8.cell HT2.out.1 (by decide) r0
          have r08f := ha8.frz HT2.out.1 (by decide) r0f
          have HT8 := Lib.hid (And.intro (ha8.typ HT2.out.1 (by decide)) (ha8.typ HT2.out.2 (by decide)))
          have HO8 := Lib.hid hO8
          have hb8 := hO8.bel
          obtain ⟨a8, c8, hv8⟩ := hO8.ex
          rw [show (tab i j f ++ [(List.range j).map (f i)]) = tab (i + 1) j f from by unfold tab; rw [range_snoc]] at HO8 hv8
          rw [tab_len] at hv8
          subst hv8
          clear hO8 hk8 ha8 HT2 o0 o0f r0 r0f HRO HOW
          go_wp2
          refine ⟨⟨i + 1, by omega, by go_num, bset hb8 (by show w.heap.size ≤ w.heap.size + 1; omega) _, Lib.hid ⟨cell_far r08 (addr_ne (by omega)) _, by rw [World.frozen?_setCell]; exact r08f, by rw [World.frozen?_setCell]; exact o08f, by rw [typ_set]; exact HT8.out.1, by rw [typ_set]; exact HT8.out.2⟩, Lib.hid ⟨_, cell_here o08 _, HO8.out.set (prs_prow _) (p := ⟨w.heap.size + 1, 0, none⟩) HT8.out.2 (by decide) (by decide) (by show w.heap.size ≤ w.heap.size + 1; omega) _⟩⟩, by simp [intOf]; omega⟩
    · obtain rfl : i = n := by omega
      have HL := Lib.hid (HO.out.isL)
      clear HO
      go_wp2
      refine bodyPost_ret (v := .agg #[.slice oa i oc]) (by simp [results, Tryz.results89, go_sem, *]) rfl ⟨⟨_, rfl, ?_⟩, ?_⟩
      · refine ⟨oa, oc, by rw [tab_len], ?_⟩
        rw [tab_len]
        exact IsL.kp (S' := fun t => t ≠ 27) (prs_prow _) HL.out ((Kp.refl _ _).set (p := ⟨w.heap.size, 0, none⟩) (fun t ht => by rw [HTT.out.1] at ht; cases ht; exact fun h => h rfl) _) (fun t ht => by rcases ht with rfl | rfl <;> decide) (by decide)
      · exact bset hBr (by show w.heap.size ≤ w.heap.size; omega) _
end Go.Proofs.YthaohpfbengabaaGreatDoor

/- A region that draws its order: a head whose calls answer what their arguments say and only make memory, and a tail whose order is forced: one walk. -/
namespace Go.Proofs.YthaohpfbengabaaGreatDoor
open Go.ChangeShapes Go.WideShapes Go.ChangeAt Go.RowKit
set_option linter.unusedVariables false
set_option linter.unusedSimpArgs false
section
variable {P : Program} {ops : Array Oper} {md : Region.Mode} {C : World → Prop}
/-- whatever is picked of the head's operations, each quiet in the class; then L -/
def headQ (P : Program) (md : Region.Mode) (ops : Array Oper) (C : World → Prop) (n : Nat) (L : Array Bool → Act → Prop) : Nat → Array Bool → Act → Prop
  | 0, ls, a => L ls a
  | f + 1, ls, a => Region.ready md ops ls ≠ [] ∧ ∀ i ∈ Region.ready md ops ls, i < n ∧ qOp P ops C i (headQ P md ops C n L f (ls.setIfInBounds i true)) a
theorem headQ_any {n g : Nat} {L : Array Bool → Act → Prop} {Q : Exit → Act → World → Prop} (hL : ∀ ls a w, C w → L ls a → wpAny P md ops Q g ls a w) :
    ∀ (f : Nat) (ls : Array Bool) (a : Act) (w : World), C w → headQ P md ops C n L f ls a → wpAny P md ops Q (f + g) ls a w := by
  intro f
  induction f with
  | zero => intro ls a w hw h; rw [Nat.zero_add]; exact hL _ _ _ hw h
  | succ f ih =>
    intro ls a w hw h
    rw [Nat.add_right_comm]
    exact ⟨fun h0 => absurd h0 h.1, fun i hi => wpOp_of_qOp hw (fun a' w' hw' k => ih _ a' w' hw' k) (h.2 i hi).2⟩
theorem headQ_first {n i : Nat} {oi : Oper} {v : Value} {L : Array Bool → Act → Prop} (hi : ops[i]? = some oi) (hsel : ∀ (j : Nat) (o : Oper) cs b, ops[j]? = some o → o.op ≠ .select cs b)
    (hs : Region.sinkB md ops n = true) (hc : Region.chainB md ops n = true) (hn : n < ops.size) (hin : i < n) (hdone : ∀ ls a, L ls a → ∀ j ∈ Region.ready md ops ls, n ≤ j) :
    ∀ (f : Nat) (ls : Array Bool) (a : Act), HeadInv md ops n ls →
      (∀ j oj, ops[j]? = some oj → j ≠ i → ls.getD j true = false → (∀ e ∈ oj.after, Region.binds md e = true → e.on ≠ i) → oi.apart ops oj = true) →
      i ∈ Region.ready md ops ls → YieldsIn P ops C oi v a → headQ P md ops C n L f (ls.setIfInBounds i true) (a.put oi.dst v) → headQ P md ops C n L (f + 1) ls a := by
  have below : ∀ ls, HeadInv md ops n ls → i ∈ Region.ready md ops ls → ∀ j ∈ Region.ready md ops ls, j < n := fun ls inv hr j hj => by
    apply Nat.lt_of_not_le
    intro hge
    exact tail_waits hs hc hn inv _ i rfl hin (mem_ready.1 hr).1 j hge hj
  intro f
  induction f with
  | zero =>
    intro ls a inv _ hr hy H
    refine ⟨fun h => (by rw [h] at hr; cases hr), fun j hj => ⟨below ls inv hr j hj, ?_⟩⟩
    by_cases e : j = i
    · subst e; exact hy.qOp hi H
    · have h1 := hdone _ _ H j (ready_mono hj e)
      have h2 := below ls inv hr j hj
      omega
  | succ f ih =>
    intro ls a inv hfree hr hy H
    refine ⟨fun h => (by rw [h] at hr; cases hr), fun j hj => ⟨below ls inv hr j hj, ?_⟩⟩
    by_cases e : j = i
    · subst e; exact hy.qOp hi H
    · have hjn := below ls inv hr j hj
      have h1 := (H.2 j (ready_mono hj e)).2
      obtain ⟨hjun, oj, hoj, hall⟩ := mem_ready.1 hj
      have hno : ∀ d ∈ oj.after, Region.binds md d = true → d.on ≠ i := fun d hd hb he => by
        have h2 := hall d hd hb
        rw [he, getD_both (mem_ready.1 hr).1] at h2
        cases h2
      have h2 := qOp_put hoj (hfree j oj hoj e hjun hno) (fun cs b => hsel i oi cs b hi) (fun cs b => hsel j oj cs b hoj) hy h1
      refine qOp_mono (fun a' h3 => ih (ls.setIfInBounds j true) a' (inv.set hj hjn) (fun k ok hk hki hun hnk => hfree k ok hk hki ?_ hnk) (ready_mono hr (Ne.symm e)) h3.1 (by rw [Array.setIfInBounds_comm _ _ e]; exact h3.2)) h2
      by_cases hjk : j = k
      · subst hjk; exact hjun
      · rw [getD_set_ne true hjk] at hun; exact hun
theorem headQ_lex {n g : Nat} {Lq : Act → Prop} (hsel : Region.noSelect ops = true) (hs : Region.sinkB md ops n = true) (hc : Region.chainB md ops n = true) (hn : n < ops.size) :
    ∀ (l : List Oper) (k : Nat) (ls : Array Bool) (a : Act), (∀ j, j < l.length → l[j]? = ops[k + j]?) → k + l.length = n → HeadInv md ops n ls →
    Region.lexHead md ops g l.length k ls = true → wpQuiet P ops C Lq l a → headQ P md ops C n (fun ls' a' => Region.seqB md ops g n ls' = true ∧ Lq a') l.length ls a := by
  intro l
  induction l with
  | nil =>
    intro k ls a _ hk _ hB h
    have e : k = n := by simpa using hk
    subst e
    exact ⟨by simpa [Region.lexHead] using hB, h⟩
  | cons o l ih =>
    intro k ls a hl hk inv hB h
    have h0 : ops[k]? = some o := by simpa using (hl 0 (by simp)).symm
    simp only [List.length_cons, Region.lexHead, Bool.and_eq_true] at hB
    have hkn : k < n := by simp only [List.length_cons] at hk; omega
    have hr : k ∈ Region.ready md ops ls := by simpa using hB.1.1
    have hq : qOp P ops C k (wpQuiet P ops C Lq l) a := by unfold qOp; simp only [h0]; exact h
    obtain ⟨v, hy, hK⟩ := yieldsIn_of_qOp h0 hq
    refine headQ_first h0 (Region.noSelect_spec hsel) hs hc hn hkn (fun ls' a' hL => seqB_ready hL.1) l.length ls a inv (Region.free_spec h0 hB.1.2) hr hy ?_
    exact ih (k + 1) _ _ (fun j hj => by have := hl (j + 1) (by simp; omega); simpa [Nat.add_assoc, Nat.add_comm 1 j] using this) (by simp only [List.length_cons] at hk; omega) (inv.set hr hkn) hB.2 hK
end
/-- the law: a quiet head, n operations, in a class of worlds; a tail in one order -/
theorem wp_region_quiet_tail {P : Program} {C : World → Prop} {id : Nat} {Q : Exit → Act → World → Prop} {a : Act} {w : World} {l : List Oper} (n : Nat) (hm : P.follows .mixedOrders = true) (hB : Region.lexTailB .any l.toArray n = true) (hC : C { w with drawn := w.drawn + 1 })
    (h : wpQuiet P l.toArray C (fun a' => ∀ w', C w' → wpList P l.toArray Q (l.drop n) a' w') (l.take n) a) : (Code.region id l.toArray true).wp P Q a w := by
  simp only [Region.lexTailB, Bool.and_eq_true, decide_eq_true_eq] at hB
  obtain ⟨⟨⟨⟨hsel, hn⟩, hs⟩, hc⟩, hlex⟩ := hB
  have hn' : n < l.length := by simpa using hn
  have ht : (l.take n).length = n := by rw [List.length_take]; omega
  have hd : (l.drop n).length = l.toArray.size - n := by simp
  have inv0 : HeadInv .any l.toArray n (Array.replicate l.toArray.size false) :=
    ⟨by simp, fun j oj _ hl => (by rw [getD_replicate_false] at hl; cases hl), fun t _ k => getD_in (by simpa using k) (getD_replicate_false _ _)⟩
  have H := headQ_lex (md := .any) (g := l.toArray.size - n) hsel hs hc hn (l.take n) 0 _ a (fun j hj => by
    have hj' : j < n := by rw [ht] at hj; exact hj
    simp [hj']) (by simpa using ht) inv0 (by rw [ht]; exact hlex) h
  refine wp_region_any hm ?_
  have := headQ_any (Q := Q) (g := l.toArray.size - n) (fun ls a' w' hw' hL => by
    have := wpAny_of_seq (md := .any) (Q' := Q) (l.drop n) n ls a' w' (fun j => by simp [List.getElem?_drop]) (by rw [hd]; exact hL.1) (hL.2 w' hw')
    rwa [hd] at this) _ _ _ _ hC H
  rw [ht, show n + (l.toArray.size - n) = l.toArray.size by omega] at this
  exact this
/-- the head's worlds grow -/
theorem wp_region_grow_tail {P : Program} {id : Nat} {Q : Exit → Act → World → Prop} {a : Act} {w : World} {l : List Oper} (n : Nat) (hm : P.follows .mixedOrders = true) (hB : Region.lexTailB .any l.toArray n = true)
    (h : wpQuiet P l.toArray (fun w' => ∃ s, w' = grow w s) (fun a' => ∀ w', Below w.heap.size w w' → wpList P l.toArray Q (l.drop n) a' w') (l.take n) a) : (Code.region id l.toArray true).wp P Q a w := by
  have e : (fun a' => ∀ w', Below w.heap.size w w' → wpList P l.toArray Q (l.drop n) a' w') = (fun a' => ∀ w', (∃ s, w' = grow w s) → wpList P l.toArray Q (l.drop n) a' w') := by
    funext a'
    exact propext ⟨fun h w' ⟨s, hs⟩ => h w' (hs ▸ s.below), fun h w' hb => h w' ⟨⟨w', hb⟩, rfl⟩⟩
  rw [e] at h
  exact wp_region_quiet_tail (C := fun w' => ∃ s, w' = grow w s) n hm hB ⟨⟨w.drew, (Below.refl _ _).drew⟩, rfl⟩ h
end Go.Proofs.YthaohpfbengabaaGreatDoor

/- strings.Join, laid from the shelf; lists of texts. -/
namespace Go.Proofs.YthaohpfbengabaaGreatDoor
open Num
open Go.ChangeShapes Go.WideShapes Go.ChangeAt Go.RowKit
set_option linter.unusedVariables false
set_option linter.unusedSimpArgs false
def jn_lays156_ren : Go.Shelf.Ren := ⟨fun | 156 => 85 | 165 => 135 | 166 => 136 | 169 => 137 | 240 => 164 | 241 => 165 | 276 => 179 | 277 => 180 | n => n, fun | 0 => 0 | 3 => 3 | 4 => 4 | 5 => 5 | 9 => 9 | 20 => 20 | 31 => 135 | 37 => 163 | 70 => 179 | 72 => 181 | 75 => 184 | 76 => 185 | 80 => 66 | 127 => 210 | 164 => 223 | n => n, fun n => n⟩
theorem jn_lays156 : Go.Proofs.Lays.n156 Tryz.prog jn_lays156_ren := {
  mixed := by kernel_rfl
  f156 := Tryz.func85.trans (congrArg some (by kernel_rfl))
  f165 := Tryz.func135.trans (congrArg some (by kernel_rfl))
  f166 := Tryz.func136.trans (congrArg some (by kernel_rfl))
  f169 := Tryz.func137.trans (congrArg some (by kernel_rfl))
  f240 := Tryz.func164.trans (congrArg some (by kernel_rfl))
  f241 := Tryz.func165.trans (congrArg some (by kernel_rfl))
  f276 := Tryz.func179.trans (congrArg some (by kernel_rfl))
  f277 := Tryz.func180.trans (congrArg some (by kernel_rfl))
  t0 := Tryz.underlying0
  a0 := Tryz.isAgg0
  z0 := Tryz.sizeOf0
  v0 := Tryz.zeroValue0
  t3 := Tryz.underlying3
  a3 := Tryz.isAgg3
  z3 := Tryz.sizeOf3
  v3 := Tryz.zeroValue3
  t4 := Tryz.underlying4
  a4 := Tryz.isAgg4
  z4 := Tryz.sizeOf4
  v4 := Tryz.zeroValue4
  t9 := Tryz.underlying9
  a9 := Tryz.isAgg9
  z9 := Tryz.sizeOf9
  v9 := Tryz.zeroValue9
  t20 := Tryz.underlying20
  a20 := Tryz.isAgg20
  z20 := Tryz.sizeOf20
  v20 := Tryz.zeroValue20
  t31 := Tryz.underlying135
  a31 := Tryz.isAgg135
  z31 := Tryz.sizeOf135
  v31 := Tryz.zeroValue135
  t37 := Tryz.underlying163
  a37 := Tryz.isAgg163
  z37 := Tryz.sizeOf163
  v37 := Tryz.zeroValue163
  t70 := Tryz.underlying179
  a70 := Tryz.isAgg179
  z70 := Tryz.sizeOf179
  v70 := Tryz.zeroValue179
  t72 := Tryz.underlying181
  a72 := Tryz.isAgg181
  z72 := Tryz.sizeOf181
  v72 := Tryz.zeroValue181
  t75 := Tryz.underlying184
  a75 := Tryz.isAgg184
  z75 := Tryz.sizeOf184
  v75 := Tryz.zeroValue184
  t76 := Tryz.underlying185
  a76 := Tryz.isAgg185
  z76 := Tryz.sizeOf185
  v76 := Tryz.zeroValue185
  t127 := Tryz.underlying210
  a127 := Tryz.isAgg210
  z127 := Tryz.sizeOf210
  v127 := Tryz.zeroValue210
  t164 := Tryz.underlying223
  a164 := Tryz.isAgg223
  z164 := Tryz.sizeOf223
  v164 := Tryz.zeroValue223 }
theorem jn_Builder_Extra : Go.Proofs.Builder.Extra Tryz.prog jn_lays156_ren := {
  sizeBuilder := by kernel_rfl
  liesBuilder := by kernel_rfl
  t5 := Tryz.underlying5
  a5 := Tryz.isAgg5
  z5 := Tryz.sizeOf5
  v5 := Tryz.zeroValue5
  infoByte := by kernel_rfl
  cellsByte := by kernel_rfl
  sizeByte := by kernel_rfl
  neB5 := by decide }
/-- a text in a list of texts -/
def PTx (w : World) (u : Value) (x : List UInt8) : Prop := u = .string ⟨x.toArray⟩
theorem prs_ptx : Prs (fun _ => False) PTx := ⟨fun h => by cases h; rfl, fun h _ => h⟩
theorem infoStr : (Tryz.prog.info? 9).map (fun i => (i.zero, i.size, i.bytes)) = some (some (.string ⟨#[]⟩), 1, 16) := by kernel_rfl
theorem elStr : Elt Tryz.prog 135 9 1 16 := Elt.mk' Tryz.underlying135 infoStr rfl (by decide) (by decide)
theorem txt_back (L : List (List UInt8)) : (L.map fun x => (⟨x.toArray⟩ : ByteArray)).map (·.data.toList) = L := by
  rw [List.map_map]; conv => rhs; rw [← List.map_id L]
  rfl
theorem join_c (v : Value) (L : List (List UInt8)) (base : Nat) (w : World) (hv : IsL 9 PTx base w v L) (hN : L.length ≤ 140737488355328) (hlen : (Lib.join L [32]).length ≤ 140737488355328) :
    Calls Tryz.prog 85 #[v, .string ⟨#[32]⟩] w fun e w' => e = .returned (.string ⟨(Lib.join L [32]).toArray⟩) ∧ Below w.heap.size w w' := by
  obtain ⟨a, c, rfl, hcap, hvw⟩ := hv.view
  cases L with
  | nil =>
    have h := (Any.strings_Join_none jn_lays156 jn_Builder_Extra a c ⟨#[32]⟩ w).mono fun e w' ⟨he, hw⟩ => (⟨he, hw ▸ Below.refl _ _⟩ : _ ∧ Below w.heap.size w w')
    exact h
  | cons x L =>
    obtain ⟨b, off, u, rfl, hu, -⟩ := hvw 0 (by simp)
    have h := Any.strings_Join jn_lays156 jn_Builder_Extra b off c ((x :: L).map fun x => (⟨x.toArray⟩ : ByteArray)) ⟨#[32]⟩ w (fun j y hj => by
      rw [List.getElem?_map] at hj
      obtain ⟨z, hz, rfl⟩ := Option.map_eq_some_iff.1 hj
      obtain ⟨hj', rfl⟩ := List.getElem?_eq_some_iff.1 hz
      obtain ⟨b2, off2, u2, e2, hu2, hp⟩ := hvw j hj'
      cases e2
      rw [← show u2 = _ from hp]; exact hu2) (cell_lt hu) (by simpa using hN) (by simpa using hcap) (by rw [txt_back]; exact hlen)
    rw [txt_back, List.length_map] at h
    exact h
end Go.Proofs.YthaohpfbengabaaGreatDoor

