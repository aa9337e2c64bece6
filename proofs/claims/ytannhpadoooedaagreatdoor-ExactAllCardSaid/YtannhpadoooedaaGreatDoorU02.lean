/- Texts of this seat, laid together (what the earlier ones leave out): EwI, Vo, Wo. Each opens with its own remark, which says what it proves, and under which conditions. -/
import Derived.Test.YtannhpadoooedaaGreatDoorQ01
import Derived.Test.YtannhpadoooedaaGreatDoorQ02
import Derived.Test.YtannhpadoooedaaGreatDoorQ03
import Derived.Test.YtannhpadoooedaaGreatDoorQ04
import Derived.Test.YtannhpadoooedaaGreatDoorQ05
import Derived.Test.YtannhpadoooedaaGreatDoorQ06
import Derived.Test.YtannhpadoooedaaGreatDoorQ07
import Derived.Test.YtannhpadoooedaaGreatDoorQ08
import Derived.Test.YtannhpadoooedaaGreatDoorQ09
import Derived.Test.YtannhpadoooedaaGreatDoorQ10
import Derived.Test.YtannhpadoooedaaGreatDoorQ11
import Derived.Test.YtannhpadoooedaaGreatDoorQ12
import Derived.Test.YtannhpadoooedaaGreatDoorQ13
import Derived.Test.YtannhpadoooedaaGreatDoorU01
import Derived.WalkKit
import Derived.ProofKit
import Derived.OpenShut
import Derived.Deep.QuietTactic
import Derived.BigQuiet
import Derived.Outline
import Derived.Lib.Hide
import Derived.WalkSmall
import Derived.WalkSpells
import Derived.WalkLawsBesides
import Derived.Deep.RegionWith
import Derived.Deep.RegionHeld3
import Derived.Laws.CopyOwn
import Derived.Shelf.Small.Bits
import Derived.Laws.AppendOwn
import Derived.Deep.AppendLies
import Derived.OneCell
import Derived.Laws.BitsAllLaws
import Derived.Shelf.Spec.TrailingZeros
import Derived.Shelf.Strings.Builder1
import Derived.Shelf.Strings.Trim
import Derived.Deep.Cut
import Derived.Deep.DeepCutAuto
import Derived.ArgAppend
import Derived.Deep.DeepFit
import Derived.RegionTactic
import Derived.ChangeAlike
import Derived.Laws.OwnMore
import Derived.Deep.Onto
import Derived.Deep.RegionLaw
import Derived.Deep.DrawnRows
import Derived.Shelf.Abstract
import Derived.Laws.EntriesVeiled
import Derived.Deep.LoopGhost
import Derived.Laws.CopyRow
import Derived.Laws.Rows
import Derived.Laws.Tables
import Derived.Laws.IdiomStrings
import Derived.Laws.BytesArg
import Derived.RangeFuncNested
import Derived.RangeFuncBound
import Derived.RangeFuncCalls
import Derived.RangeFuncLeaves
import Derived.Shelf.RegionOpen
import Derived.OwnWalkIn
import Derived.TacticsInMore
import Derived.LoopNIn
import Derived.LoopIn
import Derived.Laws.RangeString
import Derived.Lib.OthersKept
import Derived.Maps.AppendAt
import Derived.Lib.SmallJoins
import Derived.Deep.Slices
import Derived.Deep.Matrix
import Derived.Deep.Fields
import Derived.ChangeSame
import Derived.DataShut
import Derived.SizedLaws
set_option linter.unusedVariables false
set_option linter.unusedSimpArgs false
/- ExactAll: whatever numbers the columns stand for. -/
namespace Go.Proofs.YtannhpadoooedaaGreatDoor
open Num
open Go.ChangeShapes Go.WideShapes Go.ChangeAt Go.RowKit
attribute [local go_sem ↓] Go.wp_at_zero Go.wp_at_succ
attribute [local go_sem] Oper.semAt_some
theorem madeAll {g : Grid} {c : List Int} {w : World} {e : Ending} {w' : World} (h : MadePost g c w e w') :
    (∃ (a : Option Addr) (n cp : Nat) (x : Int), e = .returned (.tuple #[.slice a n cp, .int .i64 x]) ∧ Hid (((∀ i, i < g.length → (g.getD i []).length = c.length) ∧ n = (dotsG g c).length ∧ x = 0 ∧ RowO IsInt 48 w.heap.size w' (.slice a n cp) (dotsG g c)) ∨ ((∃ i, i < g.length ∧ (g.getD i []).length ≠ c.length) ∧ n = 0 ∧ x = 5))) ∧ Below w.heap.size w w' := by
  obtain ⟨h, hB⟩ := h
  refine ⟨?_, hB⟩
  rcases h with ⟨h1, u, rfl, hu⟩ | ⟨h1, rfl⟩
  · obtain ⟨a, cp, rfl⟩ := hu.ex
    exact ⟨_, _, _, _, rfl, Lib.hid (.inl ⟨h1, rfl, rfl, hu⟩)⟩
  · exact ⟨_, _, _, _, rfl, Lib.hid (.inr ⟨h1, rfl, rfl⟩)⟩
theorem exRunAll2 {ins regs : Int} {code : List Ins} {outs l : List Int} {w : World} {e : Ending} {w' : World} (h : ExRunPost ins regs code outs l w e w') :
    (∃ (a : Option Addr) (n c : Nat) (q x : Int), e = .returned (.tuple #[.slice a n c, .int .i64 q, .int .i64 x]) ∧ Hid ((¬ ProgOk ins regs code outs ∧ n = 0 ∧ q = 0 ∧ x = 80) ∨ (ProgOk ins regs code outs ∧ (l.length : Int) ≠ ins ∧ n = 0 ∧ q = 0 ∧ x = 5) ∨
      (ProgOk ins regs code outs ∧ (l.length : Int) = ins ∧ ∃ (m : Nat) (s : List Int), m < code.length ∧ afterN code (startN l regs.toNat) m = some s ∧ afterN code (startN l regs.toNat) (m + 1) = none ∧ n = 0 ∧ q = m ∧ x = 20) ∨
      (ProgOk ins regs code outs ∧ (l.length : Int) = ins ∧ ∃ (s : List Int), afterN code (startN l regs.toNat) code.length = some s ∧ n = outs.length ∧ q = 0 ∧ x = 0 ∧ OwnF IsInt 48 w w' (.slice a n c) outs.length (fun k => (outsN outs s).getD k 0)))) ∧ Below w.heap.size w w' := by
  obtain ⟨h, hB⟩ := h
  refine ⟨?_, hB⟩
  rcases h with ⟨h1, rfl⟩ | ⟨h1, h2, rfl⟩ | ⟨h1, h2, m, s, h3, h4, h5, rfl⟩ | ⟨h1, h2, s, v, h3, rfl, h4⟩
  · exact ⟨_, _, _, _, _, rfl, Lib.hid (.inl ⟨h1, rfl, rfl, rfl⟩)⟩
  · exact ⟨_, _, _, _, _, rfl, Lib.hid (.inr (.inl ⟨h1, h2, rfl, rfl, rfl⟩))⟩
  · exact ⟨_, _, _, _, _, rfl, Lib.hid (.inr (.inr (.inl ⟨h1, h2, m, s, h3, h4, h5, rfl, rfl, rfl⟩)))⟩
  · obtain ⟨a, c, rfl, _⟩ := h4.view
    exact ⟨_, _, _, _, _, rfl, Lib.hid (.inr (.inr (.inr ⟨h1, h2, s, h3, rfl, rfl, rfl, h4⟩)))⟩
def IsL2 (w : World) (v : Value) (l : List Int) : Prop := PRow 0 w v l
theorem isL2_of {w0 w : World} {v : Value} {n : Nat} {l : List Int} (h : OwnF IsInt 48 w0 w v n (fun k => l.getD k 0)) (hn : l.length = n) : IsL2 w v l := by
  subst hn
  exact h.row.rebase (Nat.zero_le _)
theorem rowsOk {ins regs : Int} {code : List Ins} {outs : List Int} {g h : Grid} {w : World} {e : Ending} {w' : World} (hok : ProgOk ins regs code outs) (hfi : FitsG ins g) (hh : after code (startG g regs.toNat (g.getD 0 []).length) code.length = some h) (hp : ExRowsPost ins regs code outs g w e w') :
    (∃ a cp, e = .returned (.tuple #[.slice a outs.length cp, .int .i64 0, .int .i64 0]) ∧ IsL 29 (PRow 0) 0 w' (.slice a outs.length cp) (outsG outs h)) ∧ Below w.heap.size w w' := by
  obtain ⟨hp, hB⟩ := hp
  refine ⟨?_, hB⟩
  rcases hp with ⟨h1, _⟩ | ⟨_, h1, _⟩ | ⟨_, _, k, s, h1, h2, h3, _⟩ | ⟨_, _, s, v, h1, rfl, h2⟩
  · exact absurd hok h1
  · exact absurd hfi h1
  · rw [after_mono h3 (show k + 1 ≤ code.length by omega)] at hh; cases hh
  · rw [hh] at h1
    cases h1
    obtain ⟨a, cp, hv⟩ := h2.ex
    rw [show (outsG outs h).length = outs.length by simp [outsG]] at hv
    subst hv
    exact ⟨a, cp, rfl, (h2.isL.mono fun u x hr => hr.row.rebase (Nat.zero_le _)).rebase (Nat.zero_le _)⟩
set_option maxRecDepth 100000 in
set_option maxHeartbeats 2000000 in
theorem trace_c2 (ins regs : Int) (ca oa : Option Addr) (cl cc ol oc : Nat) (v : Value) (l : List Int) (w : World) (hv : PRow 0 w v l) :
    Calls Tryz.prog 14 #[.agg #[.int .i64 ins, .int .i64 regs, .slice ca cl cc, .slice oa ol oc], v] w fun e w' => ∃ pb xb, e = .returned (.func (.func 60) #[] #[.pointer (some ⟨pb, 0, none⟩), .pointer (some ⟨xb, 0, none⟩)]) ∧
      (w'.cell? ⟨pb, 0, none⟩ = some (.int .i64 ins) ∧ w'.cell? ⟨pb, 1, none⟩ = some (.int .i64 regs) ∧ w'.cell? ⟨pb, 2, none⟩ = some (.slice ca cl cc) ∧ w'.cell? ⟨pb, 3, none⟩ = some (.slice oa ol oc) ∧ w'.cell? ⟨xb, 0, none⟩ = some v) ∧ Below w.heap.size w w' := by
  obtain ⟨va, vc, rfl, -⟩ := hv
  have hB := Below.refl w.heap.size w
  go_enter Tryz.func14, Tryz.ntmps14
  go_wp2
  go_ret
  exact ⟨_, _, rfl, ⟨by simp [go_sem], by simp [go_sem], by simp [go_sem], by simp [go_sem], by simp [go_sem]⟩, by repeat (first | exact Below.refl _ _ | exact hB | refine Below.drew ?_ | refine below_drewN ?_ _ | refine bset ?_ (by simp <;> omega) _ | refine bal ?_ _)⟩
theorem put_cell2 {X : World} {l B i : Nat} {o o' : Obj} {v : Value} (h : X.heap[l]? = some o) (ho : o.isCells = false) (hc : X.cell? ⟨B, i, none⟩ = some v) : (X.putObj l o').cell? ⟨B, i, none⟩ = some v := by
  have e : B ≠ l := fun e => by
    subst e
    obtain ⟨o2, h2, c2⟩ := cells_of_cell hc
    have h2' : X.heap[B]? = some o2 := h2
    rw [h] at h2'; cases h2'; rw [ho] at c2; cases c2
  rw [World.cell?_of_block (w := X) (World.putObj_heap_other e)]; exact hc
def BoxI (T : Nat → Int) (S : Array Value) (k : Nat) (args : Array Value) (a' : Act) (X : World) : Prop :=
  ∃ (B : Nat) (nb : Bool) (ad : Option Addr) (n c : Nat), X.cell? ⟨B, 0, none⟩ = some (.bool nb) ∧ X.cell? ⟨B, 1, none⟩ = some (.slice ad n c) ∧ IsInt X (.agg #[.bool nb, .slice ad n c]) (T k) ∧
    a' = { tmps := ((((S.setIfInBounds 220 (.int .i64 (k : Int))).setIfInBounds 221 (.agg #[.bool nb, .slice ad n c])).setIfInBounds 35 (.int .i64 (k : Int))).setIfInBounds 36 (.pointer (some ⟨B, 0, none⟩))), defers := [] }
theorem BoxI.put {T : Nat → Int} {S : Array Value} {k : Nat} {args : Array Value} {a' : Act} {X : World} {l : Nat} {o o' : Obj} (h : X.heap[l]? = some o) (ho : o.isCells = false) (b : BoxI T S k args a' X) : BoxI T S k args a' (X.putObj l o') := by
  obtain ⟨B, nb, ad, n, c, c0, c1, hi, e⟩ := b
  exact ⟨B, nb, ad, n, c, put_cell2 h ho c0, put_cell2 h ho c1, hi.lim ((kp_put h ho).lim trivial), e⟩
def AtI (T : Nat → List Int) (V : Array Value) (k : Nat) (args : Array Value) (S : Nat → Prop) (a' : Act) (X : World) : Prop :=
  ∃ v, PRow 0 X v (T k) ∧ a' = { tmps := ((V.setIfInBounds 205 (.int .i64 (k : Int))).setIfInBounds 206 v).setIfInBounds 31 v, defers := [] }
theorem col_view {w : World} {a : Option Addr} {n cp : Nat} {L : List Int} (h : IsL 31 (RRow 0) 0 w (.slice a n cp) (colOf L)) {i : Nat} (hi : i < L.length) :
    ∃ b o rb ro tc nb na nl nc, a = some ⟨b, o, none⟩ ∧ w.cell? ⟨b, o + i, none⟩ = some (.slice (some ⟨rb, ro, none⟩) 1 tc) ∧ w.cell? ⟨rb, ro, none⟩ = some (.bool nb) ∧ w.cell? ⟨rb, ro + 1, none⟩ = some (.slice na nl nc) ∧ IsRef w (.agg #[.bool nb, .slice na nl nc]) (L.getD i 0) := by
  obtain ⟨a', c', he, -, vr⟩ := h.view
  obtain ⟨rfl, -, rfl⟩ := Value.slice.inj he
  have hi' : i < (colOf L).length := by rw [colOf_len]; exact hi
  obtain ⟨b, o, u, rfl, c0, hr⟩ := vr i hi'
  rw [show (colOf L)[i] = (colOf L).getD i [] by simp [hi'], colOf_get hi] at hr
  obtain ⟨a2, c2, rfl, -, vr2⟩ := hr.view
  obtain ⟨rb, ro, nb, na, nl, nc, rfl, d0, d1, hri⟩ := vr2 0 (by simp)
  exact ⟨b, o, rb, ro, c2, nb, na, nl, nc, rfl, c0, by simpa using d0, by simpa using d1, by simpa using hri⟩
set_option maxRecDepth 100000 in
set_option maxHeartbeats 32000000 in
theorem exactAll_h (ins regs : Int) (ca oa : Option Addr) (cc oc : Nat) (code : List Ins) (outs : List Int) (v : Value) (g : Grid) (vc : Value) (c : List Int) (w : World) (hc : InsV w ca cc code) (ho : IntsV w oa oc outs) (hg : GridI w v g)
    (hl : ∀ k, k < g.length → (g.getD k []).length ≤ 1152921504606846976) (hv : RowI w vc c) (hcl : c.length ≤ 1152921504606846976) :
    Calls Tryz.prog 9 #[.agg #[.int .i64 ins, .int .i64 regs, .slice ca code.length cc, .slice oa outs.length oc], v, vc] w fun e w' => e = .returned (.bool true) ∧ Below w.heap.size w w' := by
  have lc := fun W (h : Below w.heap.size w W) => long10_c ins regs ca oa cc outs.length oc code v vc g c.length W (hc.keep h) (hg.keep h) hl (by obtain ⟨a, cp, e, _⟩ := hv; exact ⟨a, cp, e⟩) hcl
  have rc := fun W (h : Below w.heap.size w W) => rright_c ins regs ca oa cc oc code outs W (hc.keep h) (ho.keep h)
  have HC := Lib.hid (And.intro hc ho)
  have HG := Lib.hid hg
  have HV := Lib.hid hv
  have HBD := Lib.hid hg.bd
  obtain ⟨ga, gc, rfl, hgv⟩ := hg
  obtain ⟨va, vcp, rfl, hvr⟩ := hv
  have HBC := Lib.hid (show ∀ j, Bd 64 (c.getD j 0) from fun j => by
    by_cases hj : j < c.length
    · obtain ⟨_, _, _, _, h⟩ := hvr j hj
      unfold I64 at h; unfold Bd; omega
    · rw [List.getD_eq_getElem?_getD, List.getElem?_eq_none (by omega)]; exact bd_zero)
  have HGV := Lib.hid hgv
  clear hc ho hgv hvr hl hcl
  have hB := Below.refl w.heap.size w
  refine calls_of_wp_marks Tryz.func9 rfl ?_
  simp only [Tryz.ntmps9, List.size_toArray, List.length_cons, List.length_nil, Nat.reduceAdd, Nat.reduceSub, Array.replicate_succ, Array.replicate_zero, List.push_toArray, List.append_toArray, List.nil_append, List.cons_append]
  go_wp2_with fail
  refine (live_c _).mono ?_
  rintro e w1 ⟨rfl, hb1⟩
  have p0 : w1.cell? ⟨w.heap.size, 0, none⟩ = some (.int .i64 ins) := bkc hb1
  have zp0 := cell_lt p0
  have p1 : w1.cell? ⟨w.heap.size, 1, none⟩ = some (.int .i64 regs) := bkc hb1
  have p2 : w1.cell? ⟨w.heap.size, 2, none⟩ = some (.slice ca code.length cc) := bkc hb1
  have p3 : w1.cell? ⟨w.heap.size, 3, none⟩ = some (.slice oa outs.length oc) := bkc hb1
  have r0 : w1.cell? ⟨w.heap.size + 1, 0, none⟩ = some (.bool false) := bkc hb1
  have zr0 := cell_lt r0
  have r0f : w1.frozen? ⟨w.heap.size + 1, 0, none⟩ = false := bkcf (v := .bool false) hb1
  have hB : Below w.heap.size w w1 := bthen belA hb1
  have hz : w.heap.size ≤ w1.heap.size := hB.size
  go_wp2_with fail
  refine (lc _ belA).mono ?_
  rintro e w2 ⟨b2, rfl, hs2, hb2⟩
  have p0 : w2.cell? ⟨w.heap.size, 0, none⟩ = some (.int .i64 ins) := bkc hb2
  have zp0 := cell_lt p0
  have p1 : w2.cell? ⟨w.heap.size, 1, none⟩ = some (.int .i64 regs) := bkc hb2
  have p2 : w2.cell? ⟨w.heap.size, 2, none⟩ = some (.slice ca code.length cc) := bkc hb2
  have p3 : w2.cell? ⟨w.heap.size, 3, none⟩ = some (.slice oa outs.length oc) := bkc hb2
  have r0 : w2.cell? ⟨w.heap.size + 1, 0, none⟩ = some (.bool false) := bkc hb2
  have zr0 := cell_lt r0
  have r0f : w2.frozen? ⟨w.heap.size + 1, 0, none⟩ = false := bkcf (v := .bool false) hb2
  have hB : Below w.heap.size w w2 := bthen belA hb2
  have hz : w.heap.size ≤ w2.heap.size := hB.size
  clear lc
  cases b2 with
  | true =>
    go_wp2
    refine ⟨.bool true, ?_, rfl, bset hB (by show w.heap.size ≤ w.heap.size + 1; omega) _⟩
    simp [results, Tryz.results9, go_sem, cell_here r0 (.bool true)]
  | false =>
    have HSH := Lib.hid (hs2.out rfl)
    have hgl : sumG g + g.length ≤ 400 := by have := HSH.out.1; omega
    have hcl : c.length ≤ 400 := by have := HSH.out.1; omega
    clear hs2
    have HRL := Lib.hid (show ∀ k, k < g.length → (g.getD k []).length ≤ 400 from fun k hk => by have := sumG_le hk; omega)
    have gx := fun W (h : Below w.heap.size w W) => grids10_c (.slice ga g.length gc) g W (HG.out.keep h) hgl
    go_wp2_with fail
    refine (gx _ belA).mono ?_
    rintro e w3 ⟨⟨va3, vb3, f3, rfl, hf3, hO3, hQ3⟩, hb3⟩
    have p0 : w3.cell? ⟨w.heap.size, 0, none⟩ = some (.int .i64 ins) := bkc hb3
    have zp0 := cell_lt p0
    have p1 : w3.cell? ⟨w.heap.size, 1, none⟩ = some (.int .i64 regs) := bkc hb3
    have p2 : w3.cell? ⟨w.heap.size, 2, none⟩ = some (.slice ca code.length cc) := bkc hb3
    have p3 : w3.cell? ⟨w.heap.size, 3, none⟩ = some (.slice oa outs.length oc) := bkc hb3
    have r0 : w3.cell? ⟨w.heap.size + 1, 0, none⟩ = some (.bool false) := bkc hb3
    have zr0 := cell_lt r0
    have r0f : w3.frozen? ⟨w.heap.size + 1, 0, none⟩ = false := bkcf (v := .bool false) hb3
    have hB : Below w.heap.size w w3 := bthen belA hb3
    have hz : w.heap.size ≤ w3.heap.size := hB.size
    have HIN := Lib.hid ((hO3.isL.mono fun u x hr => (hr.row.rebase (Nat.zero_le _))).rebase (Nat.zero_le _) : GridV w3 va3 g)
    have HIQ := Lib.hid ((hQ3.isL.mono fun u x hr => (hr.row.rebase (Nat.zero_le _))).rebase (Nat.zero_le _) : GridQ w3 vb3 g)
    have HEV := Lib.hid hf3
    obtain ⟨a3, c3, rfl⟩ := hO3.ex
    obtain ⟨a4, c4, rfl⟩ := hQ3.ex
    clear hO3 hQ3 hf3 gx
    have hw3 := Below.refl w3.heap.size w3
    have rx := fun W (h : Below w.heap.size w W) => rows10_c (.slice va c.length vcp) c W (HV.out.keep h) hcl
    go_wp2_with fail
    refine (rx _ belA).mono ?_
    rintro e w4 ⟨xv, yv, rfl, hx4, hy4, hb4⟩
    have hb34 : Below w3.heap.size w3 w4 := bthen belA hb4
    have p0 : w4.cell? ⟨w.heap.size, 0, none⟩ = some (.int .i64 ins) := bkc hb4
    have zp0 := cell_lt p0
    have p1 : w4.cell? ⟨w.heap.size, 1, none⟩ = some (.int .i64 regs) := bkc hb4
    have p2 : w4.cell? ⟨w.heap.size, 2, none⟩ = some (.slice ca code.length cc) := bkc hb4
    have p3 : w4.cell? ⟨w.heap.size, 3, none⟩ = some (.slice oa outs.length oc) := bkc hb4
    have r0 : w4.cell? ⟨w.heap.size + 1, 0, none⟩ = some (.bool false) := bkc hb4
    have zr0 := cell_lt r0
    have r0f : w4.frozen? ⟨w.heap.size + 1, 0, none⟩ = false := bkcf (v := .bool false) hb4
    have hB : Below w.heap.size w w4 := bthen belA hb4
    have hz : w.heap.size ≤ w4.heap.size := hB.size
    have HX := Lib.hid (hx4.row.rebase (Nat.zero_le _))
    have HY := Lib.hid (hy4.row.rebase (Nat.zero_le _))
    obtain ⟨a5, c5, rfl⟩ := hx4.ex
    obtain ⟨a6, c6, rfl⟩ := hy4.ex
    clear rx hx4 hy4
    have hw4 := Below.refl w4.heap.size w4
    have mx := fun W (h4 : Below w4.heap.size w4 W) => exMade_c (.slice a3 g.length c3) (.slice a5 c.length c5) g c 64 64 W (HIN.out.keep (prs_row lims_int _ _) (bthen hb34 h4)) (HX.out.keep lims_int h4) (by omega) (fun i hi => by have := HRL.out i hi; omega) (by omega) HBD.out HBC.out (by omega)
    go_wp2_with fail
    refine (mx _ belA).mono ?_
    rintro e w5 hp5
    obtain ⟨⟨a7, n7, c7, x7, rfl, HM⟩, hb5⟩ := madeAll hp5
    have hb45 : Below w4.heap.size w4 w5 := bthen belA hb5
    have p0 : w5.cell? ⟨w.heap.size, 0, none⟩ = some (.int .i64 ins) := bkc hb5
    have zp0 := cell_lt p0
    have p1 : w5.cell? ⟨w.heap.size, 1, none⟩ = some (.int .i64 regs) := bkc hb5
    have p2 : w5.cell? ⟨w.heap.size, 2, none⟩ = some (.slice ca code.length cc) := bkc hb5
    have p3 : w5.cell? ⟨w.heap.size, 3, none⟩ = some (.slice oa outs.length oc) := bkc hb5
    have r0 : w5.cell? ⟨w.heap.size + 1, 0, none⟩ = some (.bool false) := bkc hb5
    have zr0 := cell_lt r0
    have r0f : w5.frozen? ⟨w.heap.size + 1, 0, none⟩ = false := bkcf (v := .bool false) hb5
    have x0 : w5.cell? ⟨w4.heap.size, 0, none⟩ = some (.slice a5 c.length c5) := bkc hb5
    have zx0 := cell_lt x0
    have hB : Below w.heap.size w w5 := bthen belA hb5
    have hz : w.heap.size ≤ w5.heap.size := hB.size
    clear mx hp5
    have hb35 := bthen hb34 hb45
    have hw5 := Below.refl w5.heap.size w5
    go_wp2
    go_loopw [9, 14] (fun x y wr => ∃ (i : Nat) (b : Bool), i ≤ g.length ∧ y = .int .i64 i ∧ x = .bool b ∧ Hid (b = true ↔ f3 = true ∧ ∀ k, k < i → (g.getD k []).length = c.length) ∧ Hid (Below w5.heap.size w5 wr)) (fun _ y _ => g.length - (intOf y).toNat)
    case atStart => exact ⟨0, f3, Nat.zero_le _, rfl, rfl, Lib.hid ⟨fun h => ⟨h, fun k hk => by omega⟩, fun h => h.1⟩, Lib.hid belA⟩
    case round =>
      obtain ⟨i, b, hi, rfl, rfl, hb, hO⟩ := hrel
      by_cases hlt : i < g.length
      · have hltI : (i : Int) < (g.length : Int) := by omega
        obtain ⟨ob, oo, u, rfl, o0, ⟨ua, uc, rfl, -⟩⟩ := HGV.out i hlt
        replace o0 := bkeep (bthen hB hO.out) o0
        have zo := cell_lt o0
        obtain ⟨n, hn⟩ : ∃ n, (g.getD i []).length = n := ⟨_, rfl⟩
        rw [hn] at o0
        have HN := Lib.hid hn
        have hBw := Below.refl wr.heap.size wr
        clear hn
        cases b with
        | false =>
          have HBF := Lib.hid (show false = true ↔ f3 = true ∧ ∀ k, k < i + 1 → (g.getD k []).length = c.length from ⟨fun h => (by cases h), fun h => hb.out.2 ⟨h.1, fun k hk => h.2 k (by omega)⟩⟩)
          clear hb
          go_wp2
          exact ⟨⟨i + 1, false, by omega, by go_num, rfl, HBF, Lib.hid (by have hBq := hO.out; first | exact hBq | (repeat (first | exact Below.refl _ _ | exact hBq | refine Below.drew ?_ | refine below_drewN ?_ _ | refine bset ?_ (by simp <;> omega) _ | refine bal ?_ _)))⟩, by simp [intOf]; omega⟩
        | true =>
          by_cases hlc : n = c.length
          · have hd : ((n : Int) == (c.length : Int)) = true := by simp; omega
            have hd2 : (n == c.length) = true := by simp; omega
            have HBF := Lib.hid (show true = true ↔ f3 = true ∧ ∀ k, k < i + 1 → (g.getD k []).length = c.length from ⟨fun _ => ⟨(hb.out.1 rfl).1, fun k hk => by
              by_cases e : k = i
              · subst e; rw [HN.out, hlc]
              · exact (hb.out.1 rfl).2 k (by omega)⟩, fun _ => rfl⟩)
            clear hb hlc
            go_wp2
            exact ⟨⟨i + 1, true, by omega, by go_num, by simp, HBF, Lib.hid (by have hBq := hO.out; first | exact hBq | (repeat (first | exact Below.refl _ _ | exact hBq | refine Below.drew ?_ | refine below_drewN ?_ _ | refine bset ?_ (by simp <;> omega) _ | refine bal ?_ _)))⟩, by simp [intOf]; omega⟩
          · have hd : ((n : Int) == (c.length : Int)) = false := by simp; omega
            have hd2 : (n == c.length) = false := by simp; omega
            have HBF := Lib.hid (show false = true ↔ f3 = true ∧ ∀ k, k < i + 1 → (g.getD k []).length = c.length from ⟨fun h => (by cases h), fun h => absurd (HN.out.symm.trans (h.2 i (by omega))) hlc⟩)
            clear hb hlc
            go_wp2
            exact ⟨⟨i + 1, false, by omega, by go_num, by simp, HBF, Lib.hid (by have hBq := hO.out; first | exact hBq | (repeat (first | exact Below.refl _ _ | exact hBq | refine Below.drew ?_ | refine below_drewN ?_ _ | refine bset ?_ (by simp <;> omega) _ | refine bal ?_ _)))⟩, by simp [intOf]; omega⟩
      · obtain rfl : i = g.length := by omega
        obtain ⟨w6, hw6E⟩ : ∃ w6, wr = w6 := ⟨_, rfl⟩
        have hb56 : Below w5.heap.size w5 w6 := by rw [← hw6E]; exact hO.out
        rw [hw6E]
        clear hw6E hO
        have p0 := bkeep hb56 p0
        have p1 := bkeep hb56 p1
        have p2 := bkeep hb56 p2
        have p3 := bkeep hb56 p3
        have r0f := bkeepf hb56 r0 r0f
        have r0 := bkeep hb56 r0
        have x0 := bkeep hb56 x0
        have hB := bthen hB hb56
        have zp6 := cell_lt p0
        have zr6 := cell_lt r0
        have zx6 := cell_lt x0
        have hb46 := bthen hb45 hb56
        have hb36 := bthen hb35 hb56
        have hw6 := Below.refl w6.heap.size w6
        cases b with
        | false =>
          obtain ⟨hn, hx⟩ : n7 = 0 ∧ x7 = 5 := by
            rcases HM.out with ⟨h1, -⟩ | ⟨-, h2, h3⟩
            · have : false = true := hb.out.2 ⟨HEV.out.2 (fun k hk => by rw [h1 k hk, h1 0 (by omega)]), h1⟩
              cases this
            · exact ⟨h2, h3⟩
          clear hb HM
          subst hn hx
          go_wp2_with fail
          refine (live_c _).mono ?_
          rintro e w7 ⟨rfl, hb7⟩
          have hb67 := bthen (show Below w6.heap.size w6 _ by repeat (first | exact Below.refl _ _ | exact hw6 | refine Below.drew ?_ | refine below_drewN ?_ _ | refine bset ?_ (by simp <;> omega) _ | refine bal ?_ _)) hb7
          have r0f := bkeepf hb67 r0 r0f
          have r0 := bkeep hb67 r0
          have hB := bthen hB hb67
          have zr7 := cell_lt r0
          go_wp2
          refine ⟨.bool true, ?_, rfl, bset hB (by show w.heap.size ≤ w.heap.size + 1; omega) _⟩
          simp [results, Tryz.results9, go_sem, cell_here r0 (.bool true)]
        | true =>
          have HAL := Lib.hid (hb.out.1 rfl).2
          obtain ⟨hn, hx, hro⟩ : n7 = (dotsG g c).length ∧ x7 = 0 ∧ ∃ W, Below w4.heap.size w4 W ∧ RowO IsInt 48 W.heap.size w5 (.slice a7 n7 c7) (dotsG g c) := by
            rcases HM.out with ⟨_, h2, h3, h4⟩ | ⟨⟨k, hk, h1⟩, -⟩
            · exact ⟨h2, h3, _, by first | assumption | (repeat (first | exact Below.refl _ _ | exact hw4 | refine Below.drew ?_ | refine below_drewN ?_ _ | refine bset ?_ (by simp <;> omega) _ | refine bal ?_ _)), h4⟩
            · exact absurd (HAL.out k hk) h1
          obtain ⟨_, _, hro⟩ := hro
          have HDB := Lib.hid (show ∀ j, Bd 600 ((dotsG g c).getD j 0) from fun j => by rw [dotsG_get]; exact (dotL_bd (n := 400) (HBD.out j) HBC.out (by omega)).mono (by omega))
          have hDl := dotsG_len g c
          have HRW := Lib.hid (hro.row.rebase (Nat.zero_le _))
          clear hb HM hro
          subst hn hx
          obtain ⟨D, hD⟩ : ∃ D, dotsG g c = D := ⟨_, rfl⟩
          have HD := Lib.hid hD
          rw [hD] at HDB hDl HRW ⊢
          have HDL := Lib.hid hDl
          have hD4 : D.length ≤ 400 := by omega
          clear hD hDl
          have qx := fun W (h6 : Below w6.heap.size w6 W) => rmade_c (.slice a4 g.length c4) (.slice a6 c.length c6) g c 64 64 W ((HIQ.out.keep (prs_row lims_ref _ _) hb36).keep (prs_row lims_ref _ _) h6) ((HY.out.keep lims_ref hb46).keep lims_ref h6) (by omega) HAL.out (by omega) HBD.out HBC.out (by omega)
          rw [HD.out] at qx
          go_wp2_with fail
          refine (qx _ belA).mono ?_
          rintro e w7 ⟨⟨um, rfl, hum⟩, hb7⟩
          have hb67 : Below w6.heap.size w6 w7 := bthen (show Below w6.heap.size w6 _ by repeat (first | exact Below.refl _ _ | exact hw6 | refine Below.drew ?_ | refine below_drewN ?_ _ | refine bset ?_ (by simp <;> omega) _ | refine bal ?_ _)) hb7
          have HMD := Lib.hid (hum.isL.rebase (Nat.zero_le _))
          obtain ⟨am, cm, hume⟩ := hum.ex
          rw [colOf_len] at hume
          subst hume
          have hw7 := Below.refl w7.heap.size w7
          clear qx hum hb7
          go_wp2_with fail
          refine (live_c _).mono ?_
          rintro e w8 ⟨rfl, hb8⟩
          have hb78 : Below w7.heap.size w7 w8 := bthen (show Below w7.heap.size w7 _ by repeat (first | exact Below.refl _ _ | exact hw7 | refine Below.drew ?_ | refine below_drewN ?_ _ | refine bset ?_ (by simp <;> omega) _ | refine bal ?_ _)) hb8
          have hb68 := bthen hb67 hb78
          have hb58 := bthen hb56 hb68
          have hb48 := bthen hb45 hb58
          have hb38 := bthen hb34 hb48
          have p0 := bkeep hb68 p0
          have p1 := bkeep hb68 p1
          have p2 := bkeep hb68 p2
          have p3 := bkeep hb68 p3
          have r0f := bkeepf hb68 r0 r0f
          have r0 := bkeep hb68 r0
          have x0 := bkeep hb68 x0
          have hB := bthen hB hb68
          have hz := hB.size
          have zp8 := cell_lt p0
          have zr8 := cell_lt r0
          have zx8 := cell_lt x0
          have hw8 := Below.refl w8.heap.size w8
          go_wp2
          go_loopw [16] (fun x wr => ∃ j : Nat, j ≤ D.length ∧ x = .int .i64 j ∧ Hid (Below w8.heap.size w8 wr)) (fun x _ => D.length - (intOf x).toNat)
          case atStart => exact ⟨0, Nat.zero_le _, rfl, Lib.hid belA⟩
          case round =>
            obtain ⟨j, hj, rfl, hO⟩ := hrel
            obtain ⟨w9, rfl⟩ : ∃ w9, w9 = wr := ⟨_, rfl⟩
            have hb89 : Below w8.heap.size w8 w9 := hO.out
            by_cases hlt : j < D.length
            · have hltI : (j : Int) < (D.length : Int) := by omega
              obtain ⟨a', c', heq, -, vr⟩ := (HRW.out.keep lims_int (bthen hb58 hb89)).view
              obtain ⟨rfl, -, rfl⟩ := Value.slice.inj heq
              obtain ⟨xb0, xo0, xn, xa, xl, xc, rfl, c0, c1, hxi⟩ := vr j hlt
              obtain ⟨b, o, rb, ro, tc, nb, na, nl, nc, rfl, q0, d0, d1, hri⟩ := col_view (HMD.out.keep (prs_row lims_ref _ _) (bthen hb78 hb89)) hlt
              have htb := HDB.out j
              obtain ⟨t, htE⟩ : ∃ t, D.getD j 0 = t := ⟨_, rfl⟩
              rw [htE] at hri hxi htb
              have oc1 := fun W (h : Below w9.heap.size w9 W) => one_c _ _ t t 600 W (hxi.keep h) (hri.keep h) htb (by omega)
              rw [show decide (t = t) = true by simp] at oc1
              have zc0 := cell_lt c0
              have zq0 := cell_lt q0
              have zd0 := cell_lt d0
              clear hri hxi htb htE vr heq
              have hB := bthen hB hb89
              go_wp2
              refine wp_region_grow (w := w9) (by kernel_rfl) (by kernel_rfl) ?_
              have c0g : ∀ gs, (grow w9 gs).cell? ⟨xb0, xo0 + j * 2, none⟩ = some (.bool xn) := fun gs => bkeep gs.below c0
              have c1g : ∀ gs, (grow w9 gs).cell? ⟨xb0, xo0 + j * 2 + 1, none⟩ = some (.slice xa xl xc) := fun gs => bkeep gs.below c1
              have q0g : ∀ gs, (grow w9 gs).cell? ⟨b, o + j, none⟩ = some (.slice (some ⟨rb, ro, none⟩) 1 tc) := fun gs => bkeep gs.below q0
              have d0g : ∀ gs, (grow w9 gs).cell? ⟨rb, ro, none⟩ = some (.bool nb) := fun gs => bkeep gs.below d0
              have d1g : ∀ gs, (grow w9 gs).cell? ⟨rb, ro + 1, none⟩ = some (.slice na nl nc) := fun gs => bkeep gs.below d1
              repeat (go_big_quiet_step ((first | (go_at_call 17; exact grow_of (oc1 _ (Grows.below _))) | fail)))
              refine wpQuiet_nil ?_
              intro w11 hb11
              clear c0g
              clear c1g
              clear q0g
              clear d0g
              clear d1g
              have c0 : w11.cell? ⟨xb0, xo0 + j * 2, none⟩ = some (.bool xn) := bkc hb11
              have zc0 := cell_lt c0
              have c1 : w11.cell? ⟨xb0, xo0 + j * 2 + 1, none⟩ = some (.slice xa xl xc) := bkc hb11
              have q0 : w11.cell? ⟨b, o + j, none⟩ = some (.slice (some ⟨rb, ro, none⟩) 1 tc) := bkc hb11
              have zq0 := cell_lt q0
              have d0 : w11.cell? ⟨rb, ro, none⟩ = some (.bool nb) := bkc hb11
              have zd0 := cell_lt d0
              have d1 : w11.cell? ⟨rb, ro + 1, none⟩ = some (.slice na nl nc) := bkc hb11
              have hB : Below w.heap.size w w11 := bthen belA hb11
              have hz : w.heap.size ≤ w11.heap.size := hB.size
              go_wp2
              exact ⟨⟨j + 1, by omega, by go_num, Lib.hid (bthen hb89 hb11)⟩, by simp [intOf]; omega⟩
            · obtain rfl : j = D.length := by omega
              have p0 := bkeep hb89 p0
              have p1 := bkeep hb89 p1
              have p2 := bkeep hb89 p2
              have p3 := bkeep hb89 p3
              have r0f := bkeepf hb89 r0 r0f
              have r0 := bkeep hb89 r0
              have x0 := bkeep hb89 x0
              have hB := bthen hB hb89
              have hz := hB.size
              have zp9 := cell_lt p0
              have zr9 := cell_lt r0
              have zx9 := cell_lt x0
              have hw9 := Below.refl w9.heap.size w9
              have hb39 := bthen hb38 hb89
              have hb49 := bthen hb48 hb89
              have hb59 := bthen hb58 hb89
              clear hO
              go_wp2_with fail
              refine (rc _ belA).mono ?_
              rintro e w10 ⟨b10, rfl, hr10, hb10⟩
              have hb910 : Below w9.heap.size w9 w10 := bthen belA hb10
              have p0 := bkeep hb910 p0
              have p1 := bkeep hb910 p1
              have p2 := bkeep hb910 p2
              have p3 := bkeep hb910 p3
              have r0f := bkeepf hb910 r0 r0f
              have r0 := bkeep hb910 r0
              have x0 := bkeep hb910 x0
              have hB := bthen hB hb910
              have hz := hB.size
              have HR10 := Lib.hid hr10
              have zp10 := cell_lt p0
              have zr10 := cell_lt r0
              have zx10 := cell_lt x0
              have hw10 := Below.refl w10.heap.size w10
              clear rc hr10 hb10
              cases b10 with
              | false =>
                go_wp2
                refine ⟨.bool true, ?_, rfl, bset hB (by show w.heap.size ≤ w.heap.size + 1; omega) _⟩
                simp [results, Tryz.results9, go_sem, cell_here r0 (.bool true)]
              | true =>
                have HOK := Lib.hid (show ProgOk ins regs code outs from by have := HR10.out; simpa using this)
                by_cases hle : (g.length : Int) = ins
                · have hleI : ((g.length : Int) != ins) = false := by simp; exact hle
                  have HLE := Lib.hid hle
                  clear hle
                  obtain ⟨R, hR⟩ : ∃ R : Nat, regs = R := ⟨regs.toNat, by have := HOK.out.i1; have := HOK.out.i2; omega⟩
                  have hg0 : 0 < g.length := by have := HOK.out.i1; have := HLE.out; omega
                  have hgR : g.length ≤ R := by have := HOK.out.i2; have := HLE.out; omega
                  have hR128 : R ≤ 128 := by have := HOK.out.r1; omega
                  have hcl60 := HOK.out.c1
                  have hol := HOK.out.o2
                  subst hR
                  have HMM := Lib.hid (show (g.getD 0 []).length = c.length from HAL.out 0 hg0)
                  have HFI := Lib.hid (show FitsG ins g from ⟨HLE.out, fun k hk => by rw [HAL.out k hk, HMM.out], by rw [HMM.out]; omega⟩)
                  have HRE := Lib.hid (show Rect c.length g from HAL.out)
                  have HSL := Lib.hid (startG_len (n := c.length) hgR)
                  have HSR := Lib.hid (startG_rect (regs := R) HRE.out)
                  have HSB := Lib.hid (startG_bd (regs := R) (n := c.length) HBD.out)
                  have HIO := Lib.hid (show ∀ n, n < code.length → InsOk (code.getD n default) R from fun n hn => by have := ins_of HOK.out hn; rwa [Int.toNat_natCast] at this)
                  have HDS := Lib.hid (show dotsG (startG g R c.length) c = startN D R by rw [dotsG_start, HD.out])
                  have HAD := Lib.hid (fun (n : Nat) (h : Grid) (hn : n ≤ code.length) (e : after code (startG g R c.length) n = some h) => (show afterN code (startN D R) n = some (dotsG h c) by rw [← HDS.out]; exact after_dot HSR.out HSL.out rfl HIO.out hn e))
                  have hb310 := bthen hb39 hb910
                  have hb410 := bthen hb49 hb910
                  have hb510 := bthen hb59 hb910
                  have jx := fun W (h : Below w.heap.size w W) (h10 : Below w10.heap.size w10 W) => exJudge_c ins (R : Int) ca oa cc oc code outs (.slice a3 g.length c3) g 64 W (HC.out.1.keep h) (HC.out.2.keep h) ((HIN.out.keep (prs_row lims_int _ _) hb310).keep (prs_row lims_int _ _) h10) (by rw [HMM.out]; omega) HBD.out (by omega)
                  go_wp2_with fail
                  refine (jx _ belA belA).mono ?_
                  rintro e w11 hp11
                  obtain ⟨⟨q, x, rfl, HJ⟩, hb11⟩ := judgeV hp11
                  have hb1011 : Below w10.heap.size w10 w11 := bthen belA hb11
                  have p0 := bkeep hb1011 p0
                  have p1 := bkeep hb1011 p1
                  have p2 := bkeep hb1011 p2
                  have p3 := bkeep hb1011 p3
                  have r0f := bkeepf hb1011 r0 r0f
                  have r0 := bkeep hb1011 r0
                  have x0 := bkeep hb1011 x0
                  have hB := bthen hB hb1011
                  have hz := hB.size
                  have zp11 := cell_lt p0
                  have zr11 := cell_lt r0
                  have zx11 := cell_lt x0
                  have hw11 := Below.refl w11.heap.size w11
                  clear jx hp11 hb11
                  have rx := fun W (h : Below w.heap.size w W) (h11 : Below w11.heap.size w11 W) => exRun_c ins (R : Int) ca oa cc oc code outs (.slice a7 D.length c7) D 600 W (HC.out.1.keep h) (HC.out.2.keep h) ((HRW.out.keep lims_int (bthen hb510 hb1011)).keep lims_int h11) (by omega) HDB.out (by omega)
                  go_wp2_with fail
                  refine (rx _ belA belA).mono ?_
                  rintro e w12 hp12
                  obtain ⟨⟨a12, n12, c12, q12, x12, rfl, HRN⟩, hb12⟩ := exRunAll2 hp12
                  have hb1112 : Below w11.heap.size w11 w12 := bthen belA hb12
                  have p0 := bkeep hb1112 p0
                  have p1 := bkeep hb1112 p1
                  have p2 := bkeep hb1112 p2
                  have p3 := bkeep hb1112 p3
                  have r0f := bkeepf hb1112 r0 r0f
                  have r0 := bkeep hb1112 r0
                  have x0 := bkeep hb1112 x0
                  have hB := bthen hB hb1112
                  have hz := hB.size
                  have zp12 := cell_lt p0
                  have zr12 := cell_lt r0
                  have zx12 := cell_lt x0
                  have hw12 := Below.refl w12.heap.size w12
                  have hb1012 := bthen hb1011 hb1112
                  have hb312 := bthen hb310 hb1012
                  have hb412 := bthen hb410 hb1012
                  have hb512 := bthen hb510 hb1012
                  have hle2 : (D.length : Int) = ins := by have := HLE.out; have := HDL.out; omega
                  have HLE2 := Lib.hid hle2
                  clear rx hp12 hle2
                  have hjj : (∃ (k : Nat) (h : Grid), k < code.length ∧ after code (startG g R c.length) k = some h ∧ after code (startG g R c.length) (k + 1) = none ∧ q = k ∧ x = 20) ∨ ((∃ h : Grid, after code (startG g R c.length) code.length = some h) ∧ q = 0 ∧ x = 0) := by
                    rcases HJ.out with ⟨h, _⟩ | ⟨_, h, _⟩ | ⟨_, _, h⟩ | ⟨_, _, h⟩
                    · exact absurd HOK.out h
                    · exact absurd HFI.out h
                    · rw [Int.toNat_natCast, HMM.out] at h; exact .inl h
                    · rw [Int.toNat_natCast, HMM.out] at h; exact .inr h
                  rcases hjj with ⟨k, hk, hkl, hk1, hk2, rfl, rfl⟩ | ⟨⟨hh, hhe⟩, rfl, rfl⟩
                  · have hrr : x12 = 0 ∨ ∃ m : Nat, k ≤ m ∧ q12 = m ∧ x12 = 20 := by
                      rcases HRN.out with ⟨h, _⟩ | ⟨_, h, _⟩ | ⟨_, _, m, s, hm, h1, h2, _, h3, h4⟩ | ⟨_, _, s, _, _, _, h4, _⟩
                      · exact absurd HOK.out h
                      · exact absurd HLE2.out h
                      · refine .inr ⟨m, ?_, h3, h4⟩
                        rw [Int.toNat_natCast] at h2
                        rcases Nat.lt_or_ge m k with h5 | h5
                        · exfalso
                          cases e1 : after code (startG g R c.length) (m + 1) with
                          | none => rw [after_mono e1 (show m + 1 ≤ k by omega)] at hk1; cases hk1
                          | some h6 => rw [HAD.out (m + 1) h6 (by omega) e1] at h2; cases h2
                        · exact h5
                      · exact .inl h4
                    clear HRN HJ
                    rcases hrr with rfl | ⟨m, hkm, rfl, rfl⟩
                    · go_wp2
                      refine ⟨.bool true, ?_, rfl, bset hB (by show w.heap.size ≤ w.heap.size + 1; omega) _⟩
                      simp [results, Tryz.results9, go_sem, cell_here r0 (.bool true)]
                    · have hkmI : (k : Int) ≤ (m : Int) := by omega
                      go_wp2
                      refine ⟨.bool true, ?_, rfl, bset hB (by show w.heap.size ≤ w.heap.size + 1; omega) _⟩
                      simp [results, Tryz.results9, go_sem, cell_here r0 (.bool true)]
                  · have hrr : q12 = 0 ∧ x12 = 0 ∧ n12 = outs.length ∧ IsL2 w12 (.slice a12 n12 c12) (dotsG (outsG outs hh) c) := by
                      have hfull := HAD.out code.length hh (Nat.le_refl _) hhe
                      rcases HRN.out with ⟨h, _⟩ | ⟨_, h, _⟩ | ⟨_, _, m, s, hm, h1, h2, _⟩ | ⟨_, _, s, h1, h2, h3, h4, h5⟩
                      · exact absurd HOK.out h
                      · exact absurd HLE2.out h
                      · rw [Int.toNat_natCast] at h2
                        rw [afterN_mono h2 (show m + 1 ≤ code.length by omega)] at hfull; cases hfull
                      · rw [Int.toNat_natCast, hfull] at h1
                        cases h1
                        rw [outsN_dot] at h5
                        exact ⟨h3, h4, h2, by subst h2; exact isL2_of h5 (by simp [dotsG, outsG])⟩
                    obtain ⟨hq0, hx0, hn0, ho12⟩ := hrr
                    have HO12 := Lib.hid ho12
                    have HHE := Lib.hid hhe
                    have hbo := outsG_bd (after_bd HSB.out (cs_of HOK.out) (Nat.le_refl _) hhe) outs
                    have HBO := Lib.hid hbo
                    clear HRN HJ hhe hbo ho12
                    subst hq0 hx0 hn0
                    have hol2 : (dotsG (outsG outs hh) c).length = outs.length := by simp [dotsG, outsG]
                    have HOL := Lib.hid hol2
                    clear hol2
                    have wx := fun W (h : Below w.heap.size w W) (h12 : Below w12.heap.size w12 W) => exRows_c ins (R : Int) ca oa cc oc code outs (.slice a3 g.length c3) g 64 W (HC.out.1.keep h) (HC.out.2.keep h) ((HIN.out.keep (prs_row lims_int _ _) hb312).keep (prs_row lims_int _ _) h12) (by rw [HMM.out]; omega) HBD.out (by omega)
                    go_wp2_with fail
                    refine (wx _ belA belA).mono ?_
                    rintro e w13 hp13
                    obtain ⟨⟨a13, c13, rfl, hw13L⟩, hb13⟩ := rowsOk HOK.out HFI.out (by rw [Int.toNat_natCast, HMM.out]; exact HHE.out) hp13
                    have HWL := Lib.hid hw13L
                    have hb1213 : Below w12.heap.size w12 w13 := bthen belA hb13
                    have p0 := bkeep hb1213 p0
                    have p1 := bkeep hb1213 p1
                    have p2 := bkeep hb1213 p2
                    have p3 := bkeep hb1213 p3
                    have r0f := bkeepf hb1213 r0 r0f
                    have r0 := bkeep hb1213 r0
                    have x0 := bkeep hb1213 x0
                    have hB := bthen hB hb1213
                    have hz := hB.size
                    have zp13 := cell_lt p0
                    have zr13 := cell_lt r0
                    have zx13 := cell_lt x0
                    have hw13 := Below.refl w13.heap.size w13
                    have hb413 := bthen hb412 hb1213
                    have hb313 := bthen hb312 hb1213
                    have hb513 := bthen hb512 hb1213
                    clear wx hp13 hw13L hb13
                    go_wp2
                    go_loopw [26] (fun x wr => ∃ i : Nat, i ≤ outs.length ∧ x = .int .i64 i ∧ Hid (Below w13.heap.size w13 wr)) (fun x _ => outs.length - (intOf x).toNat)
                    case atStart => exact ⟨0, Nat.zero_le _, rfl, Lib.hid belA⟩
                    case round =>
                      obtain ⟨i, hi, rfl, hO⟩ := hrel
                      obtain ⟨w14, rfl⟩ : ∃ w14, w14 = wr := ⟨_, rfl⟩
                      have hb1314 : Below w13.heap.size w13 w14 := hO.out
                      have hB14 := bthen hB hb1314
                      by_cases hlt : i < outs.length
                      · have hltI : (i : Int) < (outs.length : Int) := by omega
                        have hil : i < (outsG outs hh).length := by simpa [outsG] using hlt
                        obtain ⟨a', c', he, -, vr⟩ := (HWL.out.keep (prs_row lims_int _ _) hb1314).view
                        rw [show (outsG outs hh).length = outs.length by simp [outsG]] at he
                        obtain ⟨rfl, -, rfl⟩ := Value.slice.inj he
                        obtain ⟨ob, oo, u, rfl, o0, hru⟩ := vr i hil
                        obtain ⟨a', c', he, -, vr⟩ := (IsRow.keep lims_int HO12.out (bthen hb1213 hb1314)).view
                        rw [HOL.out] at he
                        obtain ⟨rfl, -, rfl⟩ := Value.slice.inj he
                        obtain ⟨sb, so, on, oa', ol', oc', rfl, s0, s1, hoi⟩ := vr i (by rw [HOL.out]; exact hlt)
                        rw [dotsG_get, show (outsG outs hh).getD i [] = (outsG outs hh)[i] by simp [hil]] at hoi
                        have hbr := HBO.out i
                        rw [show (outsG outs hh).getD i [] = (outsG outs hh)[i] by simp [hil]] at hbr
                        have hlr : (outsG outs hh)[i].length = c.length := outsG_len (after_rect HSR.out HSL.out (fun n hn => by have h1 := (HIO.out n hn).a0; have h2 := (HIO.out n hn).a1; omega) (Nat.le_refl _) HHE.out) (fun j hj => by
                          have := HOK.out.os j hj
                          rw [after_len HHE.out, HSL.out]; omega) i hil
                        obtain ⟨L, hL⟩ : ∃ L, (outsG outs hh)[i] = L := ⟨_, rfl⟩
                        rw [hL] at hru hbr hlr hoi
                        obtain ⟨t, ht⟩ : ∃ t, dotL L c = t := ⟨_, rfl⟩
                        have HLR := Lib.hid (And.intro hlr (And.intro hru hbr))
                        have HOI := Lib.hid (show IsInt w14 (.agg #[.bool on, .slice oa' ol' oc']) t by rw [← ht]; exact hoi)
                        have dc := fun W (h : Below w14.heap.size w14 W) => dot_c u (.slice a5 c.length c5) L c (64 + 65 * code.length) 64 W (HLR.out.2.1.keep lims_int h) ((HX.out.keep lims_int (bthen hb413 hb1314)).keep lims_int h) (by rw [HLR.out.1]; omega) HLR.out.1 HLR.out.2.2 HBC.out (by rw [HLR.out.1]; omega)
                        rw [ht] at dc
                        obtain ⟨ua, uc, rfl, -⟩ := hru
                        have x14 := bkeep hb1314 x0
                        have zo := cell_lt o0
                        have zx := cell_lt x14
                        have HS := Lib.hid (show ∀ W, Below w14.heap.size w14 W → W.cell? ⟨ob, oo + i, none⟩ = some (.slice ua L.length uc) ∧ W.cell? ⟨w4.heap.size, 0, none⟩ = some (.slice a5 c.length c5) from fun W h => ⟨bkeep h o0, bkeep h x14⟩)
                        have hBw := Below.refl w14.heap.size w14
                        clear he vr hil hlr hbr hL hoi ht x0
                        go_wp2
                        go_region_held3 (fun w' => w'.cell? ⟨ob, oo + i, none⟩ = some (.slice ua L.length uc) ∧ w'.cell? ⟨w4.heap.size, 0, none⟩ = some (.slice a5 c.length c5))
                          (first | (refine HS.out _ ?_; (repeat (first | exact Below.refl _ _ | exact hBw | refine Below.drew ?_ | refine below_drewN ?_ _ | refine bset ?_ (by simp <;> omega) _ | refine bal ?_ _)); done) | (refine HS.out _ ?_; (repeat (first | exact Below.refl _ _ | exact hB5 | refine Below.drew ?_ | refine below_drewN ?_ _ | refine bset ?_ (by simp <;> omega) _ | refine bal ?_ _)); done) | fail)
                          (first
                            | (go_at_call 52; (with_reducible show Calls _ _ _ (World.drew (World.alloc _ _)) _); refine (dc _ ?_).mono ?_; (repeat (first | exact Below.refl _ _ | exact hBw | refine Below.drew ?_ | refine below_drewN ?_ _ | refine bset ?_ (by simp <;> omega) _ | refine bal ?_ _)); rintro e w15 ⟨⟨v5, rfl, hv5⟩, hb15⟩; have hB5 : Below w14.heap.size w14 w15 := bthen belA hb15; have HVV := Lib.hid hv5; obtain ⟨n5, a5', c5', l5, rfl, -⟩ := hv5; obtain ⟨b0, b1, b0f, b1f⟩ := box2 hb15; unfold iv at *)
                            | (go_at_call 52; refine (dc _ ?_).mono ?_; (repeat (first | exact Below.refl _ _ | exact hBw | refine Below.drew ?_ | refine below_drewN ?_ _ | refine bset ?_ (by simp <;> omega) _ | refine bal ?_ _)); rintro e w15 ⟨⟨v5, rfl, hv5⟩, hb15⟩; have hB5 : Below w14.heap.size w14 w15 := bthen belA hb15; have HVV := Lib.hid hv5; obtain ⟨n5, a5', c5', l5, rfl, -⟩ := hv5; unfold iv at *)
                            | fail)
                        · go_upto_region 36 with (fail)
                          refine wp_name fun w16 hW6 => ?_
                          have hb6 : Below w14.heap.size w14 w16 := by rw [hW6]; exact bal hB5 _
                          have q0 : w16.cell? ⟨w15.heap.size, 0, none⟩ = some (.bool n5) := by rw [hW6]; exact cell_new rfl rfl
                          have q1 : w16.cell? ⟨w15.heap.size, 1, none⟩ = some (.slice a5' l5.length c5') := by rw [hW6]; exact cell_new rfl rfl
                          have HV6 : Hid (IsInt w16 (.agg #[.bool n5, .slice a5' l5.length c5']) t) := Lib.hid (by rw [hW6]; exact HVV.out.keep (bal (Below.refl _ _) _))
                          clear hW6 dc HS
                          have cc := fun W (h : Below w16.heap.size w16 W) => cmp_c (.agg #[.bool n5, .slice a5' l5.length c5']) (.agg #[.bool on, .slice oa' ol' oc']) t t W (HV6.out.keep h) ((HOI.out.keep hb6).keep h)
                          rw [show cmpI t t = 0 by simp [cmpI]] at cc
                          have s0 := bkeep hb6 s0
                          have s1 := bkeep hb6 s1
                          have zs := cell_lt s0
                          have zq := cell_lt q0
                          have hB := bthen hB14 hb6
                          refine wp_region_grow (w := w16) (by kernel_rfl) (by kernel_rfl) ?_
                          have q0g : ∀ gs, (grow w16 gs).cell? ⟨w15.heap.size, 0, none⟩ = some (.bool n5) := fun gs => bkeep gs.below q0
                          have q1g : ∀ gs, (grow w16 gs).cell? ⟨w15.heap.size, 1, none⟩ = some (.slice a5' l5.length c5') := fun gs => bkeep gs.below q1
                          have s0g : ∀ gs, (grow w16 gs).cell? ⟨sb, so + i * 2, none⟩ = some (.bool on) := fun gs => bkeep gs.below s0
                          have s1g : ∀ gs, (grow w16 gs).cell? ⟨sb, so + i * 2 + 1, none⟩ = some (.slice oa' ol' oc') := fun gs => bkeep gs.below s1
                          repeat (go_big_quiet_step ((first | (go_at_call 42; exact grow_of (cc _ (Grows.below _))) | fail)))
                          refine wpQuiet_nil ?_
                          intro w18 hb18
                          clear q0g
                          clear q1g
                          clear s0g
                          clear s1g
                          have q0 : w18.cell? ⟨w15.heap.size, 0, none⟩ = some (.bool n5) := bkc hb18
                          have zq0 := cell_lt q0
                          have q1 : w18.cell? ⟨w15.heap.size, 1, none⟩ = some (.slice a5' l5.length c5') := bkc hb18
                          have s0 : w18.cell? ⟨sb, so + i * 2, none⟩ = some (.bool on) := bkc hb18
                          have zs0 := cell_lt s0
                          have s1 : w18.cell? ⟨sb, so + i * 2 + 1, none⟩ = some (.slice oa' ol' oc') := bkc hb18
                          have hB : Below w.heap.size w w18 := bthen belA hb18
                          have hz : w.heap.size ≤ w18.heap.size := hB.size
                          go_wp2
                          exact ⟨⟨i + 1, by omega, by go_num, Lib.hid (bthen hO.out (bthen hb6 hb18))⟩, by simp [intOf]; omega⟩
                        · go_upto_region 36 with (fail)
                          refine wp_name fun w16 hW6 => ?_
                          have hb6 : Below w14.heap.size w14 w16 := by rw [hW6]; exact bset (bset hB5 (Nat.le_refl _) _) (Nat.le_refl _) _
                          have q0 : w16.cell? ⟨w14.heap.size, 0, none⟩ = some (.bool n5) := by rw [hW6]; exact cell_far (cell_here b0 _) (by simp) _
                          have q1 : w16.cell? ⟨w14.heap.size, 1, none⟩ = some (.slice a5' l5.length c5') := by rw [hW6]; exact cell_here (cell_far b1 (by simp) _) _
                          have HV6 : Hid (IsInt w16 (.agg #[.bool n5, .slice a5' l5.length c5']) t) := Lib.hid (by rw [hW6]; exact HVV.out.put2 b0 b1 _ _)
                          clear hW6 dc HS
                          have cc := fun W (h : Below w16.heap.size w16 W) => cmp_c (.agg #[.bool n5, .slice a5' l5.length c5']) (.agg #[.bool on, .slice oa' ol' oc']) t t W (HV6.out.keep h) ((HOI.out.keep hb6).keep h)
                          rw [show cmpI t t = 0 by simp [cmpI]] at cc
                          have s0 := bkeep hb6 s0
                          have s1 := bkeep hb6 s1
                          have zs := cell_lt s0
                          have zq := cell_lt q0
                          have hB := bthen hB14 hb6
                          refine wp_region_grow (w := w16) (by kernel_rfl) (by kernel_rfl) ?_
                          have q0g : ∀ gs, (grow w16 gs).cell? ⟨w14.heap.size, 0, none⟩ = some (.bool n5) := fun gs => bkeep gs.below q0
                          have q1g : ∀ gs, (grow w16 gs).cell? ⟨w14.heap.size, 1, none⟩ = some (.slice a5' l5.length c5') := fun gs => bkeep gs.below q1
                          have s0g : ∀ gs, (grow w16 gs).cell? ⟨sb, so + i * 2, none⟩ = some (.bool on) := fun gs => bkeep gs.below s0
                          have s1g : ∀ gs, (grow w16 gs).cell? ⟨sb, so + i * 2 + 1, none⟩ = some (.slice oa' ol' oc') := fun gs => bkeep gs.below s1
                          repeat (go_big_quiet_step ((first | (go_at_call 42; exact grow_of (cc _ (Grows.below _))) | fail)))
                          refine wpQuiet_nil ?_
                          intro w18 hb18
                          clear q0g
                          clear q1g
                          clear s0g
                          clear s1g
                          have q0 : w18.cell? ⟨w14.heap.size, 0, none⟩ = some (.bool n5) := bkc hb18
                          have zq0 := cell_lt q0
                          have q1 : w18.cell? ⟨w14.heap.size, 1, none⟩ = some (.slice a5' l5.length c5') := bkc hb18
                          have s0 : w18.cell? ⟨sb, so + i * 2, none⟩ = some (.bool on) := bkc hb18
                          have zs0 := cell_lt s0
                          have s1 : w18.cell? ⟨sb, so + i * 2 + 1, none⟩ = some (.slice oa' ol' oc') := bkc hb18
                          have hB : Below w.heap.size w w18 := bthen belA hb18
                          have hz : w.heap.size ≤ w18.heap.size := hB.size
                          go_wp2
                          exact ⟨⟨i + 1, by omega, by go_num, Lib.hid (bthen hO.out (bthen hb6 hb18))⟩, by simp [intOf]; omega⟩
                      · obtain rfl : i = outs.length := by omega
                        have p0 := bkeep hb1314 p0
                        have p1 := bkeep hb1314 p1
                        have p2 := bkeep hb1314 p2
                        have p3 := bkeep hb1314 p3
                        have r0f := bkeepf hb1314 r0 r0f
                        have r0 := bkeep hb1314 r0
                        have x0 := bkeep hb1314 x0
                        have hB := bthen hB hb1314
                        have hz := hB.size
                        have zp14 := cell_lt p0
                        have zr14 := cell_lt r0
                        have zx14 := cell_lt x0
                        have hw14 := Below.refl w14.heap.size w14
                        have hb414 := bthen hb413 hb1314
                        have hb314 := bthen hb313 hb1314
                        have hb514 := bthen hb513 hb1314
                        have sx := fun W (h : Below w14.heap.size w14 W) => steps_c ins (R : Int) ca oa code.length cc outs.length oc (.slice a3 g.length c3) g W ((HIN.out.keep (prs_row lims_int _ _) hb314).keep (prs_row lims_int _ _) h)
                        clear hO
                        go_wp2_with fail
                        refine (sx _ belA).mono ?_
                        rintro e w20 ⟨pb, xb, rfl, hst, hb20⟩
                        have hb1420 : Below w14.heap.size w14 w20 := bthen belA hb20
                        have d0 : w20.cell? ⟨w14.heap.size, 0, none⟩ = some (.slice none 0 0) := bkeep hb20 (by first | exact cell_new rfl rfl | exact cell_drew (cell_new rfl rfl))
                        have d0f : w20.frozen? ⟨w14.heap.size, 0, none⟩ = false := bkeepf hb20 (by first | exact cell_new rfl rfl | exact cell_drew (cell_new rfl rfl)) (by simp [go_sem])
                        have hdt : typOf w20 w14.heap.size = some 29 := typ_keep (typ_fresh (by simp)) hb20
                        have p0 := bkeep hb1420 p0
                        have p1 := bkeep hb1420 p1
                        have p2 := bkeep hb1420 p2
                        have p3 := bkeep hb1420 p3
                        have r0f := bkeepf hb1420 r0 r0f
                        have r0 := bkeep hb1420 r0
                        have x0 := bkeep hb1420 x0
                        have hB := bthen hB hb1420
                        have hz := hB.size
                        have hb320 := bthen hb314 hb1420
                        have hb420 := bthen hb414 hb1420
                        have hb520 := bthen hb514 hb1420
                        have hdz : w14.heap.size < w20.heap.size := cell_lt d0
                        have HTG := Lib.hid (show ToldG code (startG g R c.length) code.length from ⟨Nat.le_refl _, ⟨hh, HHE.out⟩, fun h => absurd h (Nat.lt_irrefl _)⟩)
                        have SY := steps_yes (n0 := w20.heap.size) (S0 := fun q => q = w14.heap.size) (pb := pb) (xb := xb) (ins := ins) (regs := (R : Int)) (ca := ca) (oa := oa) (cc := cc) (oc := oc) (code := code) (outs := outs) (v := .slice a3 g.length c3) (g := g) (M := code.length) (K := 64) HOK.out HFI.out HMM.out (by rw [Int.toNat_natCast]; exact HTG.out) HBD.out (by omega)
                        rw [Int.toNat_natCast] at SY
                        have HSY := Lib.hid SY
                        have HSI := Lib.hid (show StepsIn w20.heap.size (fun q => q = w14.heap.size) pb xb ins (R : Int) ca oa cc oc code outs (.slice a3 g.length c3) g w20 from
                          ⟨hst.1, hst.2.1, hst.2.2.1, hst.2.2.2.1, hst.2.2.2.2, HC.out.1.keep hB, HC.out.2.keep hB, HIN.out.keep (prs_row lims_int _ _) hb320, by rw [HMM.out]; omega, fun q hq => by subst hq; exact hdz, Nat.le_refl _, fun b off e hl hq => by
                            rcases HC.out.1 with h0 | ⟨b', off', h1, _, h3⟩
                            · rw [h0] at hl; simp at hl
                            · rw [e] at h1; cases h1
                              have := cell_lt (h3 0 hl).c0
                              have := hB14.size
                              omega⟩)
                        have HD20 := Lib.hid (show DotS w20 w14.heap.size (fun j => dotL (toldR code (startG g R c.length) j) c) 0 (fun q => q = w14.heap.size) w20 from
                          ⟨.slice none 0 0, by funext q; simp [Value.ownBlock], d0, d0f, hdt, ⟨[], World.ownsRow_nil _ _ _ _, fun k hk => absurd hk (by omega)⟩, Out.refl _ _⟩)
                        have HX20 := Lib.hid x0
                        have HR20 := Lib.hid (And.intro r0 r0f)
                        have HP20 := Lib.hid (And.intro p0 (And.intro p1 (And.intro p2 p3)))
                        have HB20 := Lib.hid hB
                        have hx4 : w4.heap.size < w14.heap.size := zx14
                        have hrz : w.heap.size + 1 < w14.heap.size := zr14
                        clear hst hb20 SY sx d0 d0f hdt x0 r0 r0f p0 p1 p2 p3
                        go_wp2
                        refine wp_rangeD (gf := 90) (lb := #[.pointer (some ⟨pb, 0, none⟩), .pointer (some ⟨xb, 0, none⟩)]) (by simp [Act.eval]) (enters_of Tryz.func90 (by kernel_rfl) rfl)
                          HSY.out (Nat.le_refl _) (fun W h => HSI.out.keep h) (fun _ _ _ h => by obtain ⟨v, base, rfl, _⟩ := h; rfl)
                          (fun k S W => DotS w20 w14.heap.size (fun j => dotL (toldR code (startG g R c.length) j) c) k S W) (fun _ _ _ _ => False)
                          (fun k S X Y h c => h.clo c) (fun _ _ _ _ _ h _ => h.elim)
                          (fun k S X h => h.soil) (fun _ _ _ _ h => h.elim) HD20.out
                          (fun T k args S a' X => AtI (toldR code (startG g R c.length)) T k args S a' X) (fun k args S a' X l o o' _ h1 h2 h => by
                            obtain ⟨v, hv, e⟩ := h
                            exact ⟨v, hv.kp lims_int (kp_put h1 h2) trivial trivial, e⟩)
                          (fun k args X q h hq => h.cells hq) ?assignA ?bodyA ?doneA (fun _ _ _ _ _ _ _ h => h.elim)
                        case assignA =>
                          rintro y k args S X Kk hk hi ⟨v, base, rfl, -, hv⟩ hxs hKk
                          have HV := Lib.hid (hv.row.rebase (Nat.zero_le _))
                          obtain ⟨va, vc, rfl⟩ := hv.ex
                          gi_wp2
                          refine hKk _ _ (Below.refl _ _) hi ⟨_, HV.out, by simp⟩
                        case bodyA =>
                          rintro y k args S a' w21 hk ⟨v, rfl, hD21⟩ ⟨u, hu, rfl⟩
                          have HD21 := Lib.hid hD21
                          have x21 := okeep hD21.out HX20.out (by omega)
                          have zx21 := cell_lt x21
                          have hlr := toldR_len HSR.out HSL.out (fun n hn => by have h1 := (HIO.out n hn).a0; have h2 := (HIO.out n hn).a1; omega) (Nat.le_refl _) HHE.out hk
                          have hbr := toldR_bd HSB.out (cs_of HOK.out) (Nat.le_refl _) HHE.out hk (by rw [HSL.out]; have h1 := (HIO.out k hk).t0; have h2 := (HIO.out k hk).t1; omega)
                          have hb421 : Below w4.heap.size w4 w21 := hb420.trans (hD21.out.to_below (fun q hq _ e => by omega) hb420.size)
                          obtain ⟨L, hL⟩ : ∃ L, toldR code (startG g R c.length) k = L := ⟨_, rfl⟩
                          have HLL := Lib.hid hL
                          rw [hL] at hu hlr hbr
                          have HLR := Lib.hid (And.intro hlr (And.intro hu hbr))
                          have dc := fun W (h : Below w21.heap.size w21 W) => dot_c u (.slice a5 c.length c5) L c (64 + 65 * (k + 1)) 64 W (HLR.out.2.1.keep lims_int h) ((HX.out.keep lims_int hb421).keep lims_int h) (by rw [HLR.out.1]; omega) HLR.out.1 HLR.out.2.2 HBC.out (by rw [HLR.out.1]; omega)
                          obtain ⟨z, hz⟩ : ∃ z, dotL L c = z := ⟨_, rfl⟩
                          have HZ := Lib.hid hz
                          rw [hz] at dc
                          obtain ⟨ua, uc, rfl, -⟩ := hu
                          obtain ⟨va, vc, rfl⟩ := hD21.ex
                          have e21 := hD21.c0
                          have e21f := hD21.f0
                          have ze21 := cell_lt e21
                          simp only [List.setIfInBounds_toArray, List.set_cons_succ, List.set_cons_zero]
                          have hBw := Below.refl w21.heap.size w21
                          obtain ⟨xs, hown, hnum⟩ := hD21.own
                          have OWN := Lib.hid (fun W (h : Below w21.heap.size w21 W) => And.intro (own_below (w0 := w20) hown h) (hnum.lim (.of_below h)))
                          clear hlr hbr hL hz hD21 hown hnum
                          gi_wp2_with (first
                            | (refine ⟨trivial, ?_⟩; refine CallsIn.mono (callsIn_wide.2 (dc _ ?_)) ?_; (repeat (first | exact Below.refl _ _ | exact hBw | refine Below.drew ?_ | refine below_drewN ?_ _ | refine bset ?_ (by simp <;> omega) _ | refine bal ?_ _)); rintro e w22 ⟨⟨v5, rfl, hv5⟩, hb22⟩; have hb2122 : Below w21.heap.size w21 w22 := bthen belA hb22; have HVV := Lib.hid hv5; have e22 := bkeep hb2122 e21; have e22f := bkeepf hb2122 e21 e21f; have ze22 := cell_lt e22; obtain ⟨n5, a5', c5', l5, rfl, -⟩ := hv5; unfold iv at *)
                            | (gi_at_builtin; refine app_numIn (f := fun j => dotL (toldR code (startG g R c.length) j) c) (by rfl) (by rfl) (OWN.out _ ?_).1 (OWN.out _ ?_).2 (HVV.out.keep ?_) (by rfl) (by rfl) (cell_new (by simp) rfl) (cell_new (by simp) rfl) ?_ ?_ ?_; (exact bthen hb2122 (bal (bal (Below.refl _ _) _) _)); (exact bthen hb2122 (bal (bal (Below.refl _ _) _) _)); (exact bal (bal (Below.refl _ _) _) _); (have := HD21.out.out.size; have := hb2122.size; simp; omega); omega; intro v' w' xs' h1 h2 hg hl hty hq; obtain ⟨va', vc', rfl⟩ := own_ex2 h1; have HNX := Lib.hid (DotV.next HD21.out hdz (bthen hb2122 (bal (bal (Below.refl _ _) _) _)) h1 h2 (by show z = dotL (toldR code (startG g R c.length) k) c; rw [HLL.out, HZ.out]) hg hl hty hq); clear h1 h2 hg hl hty hq; have e23 := HNX.out.1.1; have e23f := HNX.out.1.2; have ze23 := cell_lt e23)
                            | fail)
                          exact ⟨HNX.out.2.1.or, HNX.out.2.2⟩
                        case doneA =>
                          rintro D1 S Y1 hD1 ⟨v, -, hDV⟩ hK1
                          obtain ⟨va, vc, rfl⟩ := hDV.ex
                          have hb5Y : Below w5.heap.size w5 Y1 := hb520.trans (hDV.out.to_below (fun q hq _ e => by have := hb514.size; omega) hb520.size)
                          have hBY : Below w.heap.size w Y1 := HB20.out.trans (hDV.out.to_below (fun q hq _ e => by have := hB.size; omega) HB20.out.size)
                          have p0 := okeep hDV.out HP20.out.1 (by omega)
                          have p1 := okeep hDV.out HP20.out.2.1 (by omega)
                          have p2 := okeep hDV.out HP20.out.2.2.1 (by omega)
                          have p3 := okeep hDV.out HP20.out.2.2.2 (by omega)
                          have r0f := okeepf hDV.out HR20.out.1 HR20.out.2 (by omega)
                          have r0 := okeep hDV.out HR20.out.1 (by omega)
                          have zp := cell_lt p0
                          have zr := cell_lt r0
                          have HDV := Lib.hid hDV
                          have HK1 := Lib.hid hK1
                          have hD1l := (Array.getElem?_eq_some_iff.1 hK1).1
                          have hdY : w14.heap.size < Y1.heap.size := cell_lt hDV.c0
                          have hwY := Below.refl Y1.heap.size Y1
                          have tx := fun W (h : Below Y1.heap.size Y1 W) => trace_c2 ins (R : Int) ca oa code.length cc outs.length oc (.slice a7 D.length c7) D W ((HRW.out.keep lims_int hb5Y).keep lims_int h)
                          clear hK1 hDV
                          go_wp2_with fail
                          refine (tx _ belA).mono ?_
                          rintro e w23 ⟨pb2, xb2, rfl, htc, hb23⟩
                          have hbY23 : Below Y1.heap.size Y1 w23 := bthen belA hb23
                          have i0 : w23.cell? ⟨Y1.heap.size, 0, none⟩ = some (.int .i64 ((0 : Nat) : Int)) := bkeep hb23 (by first | exact cell_new rfl rfl | exact cell_drew (cell_new rfl rfl))
                          have i0f : w23.frozen? ⟨Y1.heap.size, 0, none⟩ = false := bkeepf hb23 (by first | exact cell_new rfl rfl | exact cell_drew (cell_new rfl rfl)) (by simp [go_sem])
                          have hti : typOf w23 Y1.heap.size = some 3 := typ_keep (typ_fresh (by simp)) hb23
                          have hiz : Y1.heap.size < w23.heap.size := cell_lt i0
                          have HTM := Lib.hid (show ToldM code (startN D R) code.length from ⟨Nat.le_refl _, ⟨_, HAD.out code.length hh (Nat.le_refl _) HHE.out⟩, fun h => absurd h (Nat.lt_irrefl _)⟩)
                          have HTI := Lib.hid (show TraceIn w23.heap.size (fun q => q = Y1.heap.size) pb2 xb2 ins (R : Int) ca oa cc oc code outs (.slice a7 D.length c7) D w23 from
                            ⟨htc.1, htc.2.1, htc.2.2.1, htc.2.2.2.1, htc.2.2.2.2, HC.out.1.keep (bthen hBY hbY23), HC.out.2.keep (bthen hBY hbY23), HRW.out.keep lims_int (bthen hb5Y hbY23), fun q hq => by subst hq; exact hiz, Nat.le_refl _, fun q hq => by subst hq; exact hti, fun b off e hl hq => by
                              rcases HC.out.1 with h0 | ⟨b', off', h1, _, h3⟩
                              · rw [h0] at hl; simp at hl
                              · rw [e] at h1; cases h1
                                have := cell_lt (h3 0 hl).c0
                                have := hBY.size
                                omega⟩)
                          have HRV := Lib.hid (show RunV w23 Y1.heap.size 0 w23 from ⟨i0, i0f, hti, Out.refl _ _⟩)
                          have HDR := Lib.hid (show PRow 0 w23 (.slice va (dotsG (told code (startG g R c.length) code.length) c).length vc) (dotsG (told code (startG g R c.length) code.length) c) from by
                            obtain ⟨xs, h1, h2⟩ := (HDV.out.keep hbY23).own
                            have hlen : (dotsG (told code (startG g R c.length) code.length) c).length = code.length := by rw [dotsG_len, told_len]
                            refine (RowO.row (base := w20.heap.size) ⟨xs, by rw [hlen]; exact h1, fun k hk => ?_⟩).rebase (Nat.zero_le _)
                            rw [hlen] at hk
                            obtain ⟨nb, a, len, c', k1, k2, k3⟩ := h2 k hk
                            refine ⟨nb, a, len, c', k1, k2, ?_⟩
                            rw [dotsG_get, show (told code (startG g R c.length) code.length).getD k [] = toldR code (startG g R c.length) k by simp [told, hk]]
                            exact k3)
                          have HDC := Lib.hid (bkeep hbY23 HDV.out.c0)
                          have HR23 := Lib.hid (And.intro (bkeep hbY23 r0) (bkeepf hbY23 r0 r0f))
                          have HB23 := Lib.hid (bthen hBY hbY23)
                          have HK23 := Lib.hid ((hbY23.block D1 hD1l).trans HK1.out)
                          have hsY := hbY23.size
                          clear htc hb23 tx i0 i0f hti r0 r0f p0 p1 p2 p3
                          go_wp2
                          refine wp_rangeV (gf := 60) (lb := #[.pointer (some ⟨pb2, 0, none⟩), .pointer (some ⟨xb2, 0, none⟩)]) (by simp [Act.eval]) (enters_of Tryz.func60 (by kernel_rfl) rfl)
                            (trace_yes (n0 := w23.heap.size) (X0 := fun q => q = Y1.heap.size) (M := code.length) (K := 600) HOK.out HLE2.out (by rw [Int.toNat_natCast]; exact HTM.out) HDB.out (by omega)) (fun X o h => (Below.refl _ _).alloc h o) (fun X l o o' h1 h2 h3 h4 => belowK_b (Nat.le_refl _) X l o o' h1 h2 h3 h4)
                            (fun W h => HTI.out.keep h) (fun _ _ _ h => by obtain ⟨v, rfl, _⟩ := h; rfl)
                            (fun k W => RunV w23 Y1.heap.size k W) (fun c k W => False) (fun k X Y h c => h.low hiz c) (fun c k X Y h d => h.elim) HRV.out
                            (fun T k args a' X => BoxI (toldN code (startN D R)) T k args a' X) (fun k args a' X l o o' _ h1 h2 b => BoxI.put h1 h2 b) (fun k args X q h _ hq => by subst hq; exact cells_of_cell h.i0)
                            ?assignB ?bodyB ?doneB ?stopB
                          case stopB =>
                            intro D2 c k w24 _ _ hi _
                            exact hi.elim
                          case assignB =>
                            rintro y k args X K hk hi ⟨v, rfl, hv⟩ hK
                            rw [Int.toNat_natCast] at hv
                            have HVV := Lib.hid hv
                            obtain ⟨n1, a1, c1, l1, rfl, -⟩ := hv
                            unfold iv at *
                            gi_wp2
                            refine hK _ _ (bal (Below.refl _ _) _) (hi.low hiz (bal (Below.refl _ _) _ |>.mono (by have := hi.out.size; omega))) ⟨X.heap.size, n1, a1, l1.length, c1, cell_new rfl rfl, cell_new rfl rfl, HVV.out.keep (bal (Below.refl _ _) _), by simp⟩
                          case bodyB =>
                            rintro y k args a' w6 hk hi ⟨B, nb, ad, bn, bc, c0, c1, hbi, rfl⟩
                            have HI := Lib.hid hi
                            obtain ⟨i0, i0f, hti, hout⟩ := hi
                            have hkp : Kp (· ≠ 3) w23 w6 := Kp.out hout (fun q t hq ht hne => by subst hq; rw [HRV.out.ty] at ht; exact hne (Option.some.inj ht).symm)
                            have e0 := okeep hout HDC.out (by omega)
                            have hlen : (dotsG (told code (startG g R c.length) code.length) c).length = code.length := by rw [dotsG_len, told_len]
                            obtain ⟨a', c', heq, -, vr⟩ := (HDR.out.kp lims_int hkp (by decide) (by decide)).view
                            obtain ⟨rfl, -, rfl⟩ := Value.slice.inj heq
                            obtain ⟨sb, so, sn, sa, sl, sc, rfl, s0, s1, hsi⟩ := vr k (by rw [hlen]; exact hk)
                            have htd := told_dot HSR.out HSL.out rfl HIO.out HHE.out hk
                            rw [HDS.out] at htd
                            rw [dotsG_get, show (told code (startG g R c.length) code.length).getD k [] = toldR code (startG g R c.length) k by simp [told, hk], ← htd] at hsi
                            obtain ⟨t, htE⟩ : ∃ t, toldN code (startN D R) k = t := ⟨_, rfl⟩
                            rw [htE] at hbi hsi
                            have cc := fun W (h : Below w6.heap.size w6 W) => cmp_c _ _ t t W (hbi.keep h) (hsi.keep h)
                            rw [show cmpI t t = 0 by simp [cmpI]] at cc
                            have hki : (k : Int) < (code.length : Int) := by omega
                            have hkd : decide (code.length ≤ k) = false := by simp; omega
                            have hkk : ((k : Int) != (k : Int)) = false := by simp
                            simp only [List.setIfInBounds_toArray, List.set_cons_succ, List.set_cons_zero]
                            have hB : Below w.heap.size w w6 := HB23.out.trans (hout.to_below (fun q hq _ e => by have := hBY.size; omega) HB23.out.size)
                            have zi0 := cell_lt i0
                            have ze0 := cell_lt e0
                            have zs0 := cell_lt s0
                            have zc0 := cell_lt c0
                            clear hbi hsi htE hout htd vr heq hlen hkp hti
                            have hn1 : w14.heap.size ≠ Y1.heap.size := by omega
                            have hn2 : Y1.heap.size ≠ w14.heap.size := by omega
                            gi_wp2
                            refine wpInR_region_grow (w := w6) (by kernel_rfl) (by kernel_rfl) (by kernel_rfl) ?_
                            have c0g : ∀ gs, (grow w6 gs).cell? ⟨B, 0, none⟩ = some (.bool nb) := fun gs => bkeep gs.below c0
                            have c1g : ∀ gs, (grow w6 gs).cell? ⟨B, 1, none⟩ = some (.slice ad bn bc) := fun gs => bkeep gs.below c1
                            have i0g : ∀ gs, (grow w6 gs).cell? ⟨Y1.heap.size, 0, none⟩ = some (.int .i64 (k : Int)) := fun gs => bkeep gs.below i0
                            have e0g : ∀ gs, (grow w6 gs).cell? ⟨w14.heap.size, 0, none⟩ = some (.slice (some ⟨sb, so, none⟩) code.length vc) := fun gs => bkeep gs.below e0
                            have s0g : ∀ gs, (grow w6 gs).cell? ⟨sb, so + k * 2, none⟩ = some (.bool sn) := fun gs => bkeep gs.below s0
                            have s1g : ∀ gs, (grow w6 gs).cell? ⟨sb, so + k * 2 + 1, none⟩ = some (.slice sa sl sc) := fun gs => bkeep gs.below s1
                            repeat (go_big_quiet_step ((first | (go_at_call 42; exact grow_of (cc _ (Grows.below _))) | fail)))
                            refine wpQuiet_nil ?_
                            intro w7 hb7
                            clear c0g
                            clear c1g
                            clear i0g
                            clear e0g
                            clear s0g
                            clear s1g
                            have c0 : w7.cell? ⟨B, 0, none⟩ = some (.bool nb) := bkc hb7
                            have zc0 := cell_lt c0
                            have c1 : w7.cell? ⟨B, 1, none⟩ = some (.slice ad bn bc) := bkc hb7
                            have i0 : w7.cell? ⟨Y1.heap.size, 0, none⟩ = some (.int .i64 (k : Int)) := bkc hb7
                            have zi0 := cell_lt i0
                            have i0f : w7.frozen? ⟨Y1.heap.size, 0, none⟩ = false := bkcf (v := .int .i64 (k : Int)) hb7
                            have e0 : w7.cell? ⟨w14.heap.size, 0, none⟩ = some (.slice (some ⟨sb, so, none⟩) code.length vc) := bkc hb7
                            have ze0 := cell_lt e0
                            have s0 : w7.cell? ⟨sb, so + k * 2, none⟩ = some (.bool sn) := bkc hb7
                            have zs0 := cell_lt s0
                            have s1 : w7.cell? ⟨sb, so + k * 2 + 1, none⟩ = some (.slice sa sl sc) := bkc hb7
                            have hB : Below w.heap.size w w7 := bthen belA hb7
                            have hz : w.heap.size ≤ w7.heap.size := hB.size
                            gi_wp2
                            have hstp := HI.out.step hb7
                            exact ⟨hstp.2, hstp.1⟩
                          case doneB =>
                            intro D2 w24 hD2 hi hK2
                            obtain ⟨i0, i0f, hti, hout⟩ := hi
                            have e0 := okeep hout HDC.out (by omega)
                            have r0 := okeep hout HR23.out.1 (by have := hBY.size; omega)
                            have r0f := okeepf hout HR23.out.1 HR23.out.2 (by have := hBY.size; omega)
                            have hB24 : Below w.heap.size w w24 := HB23.out.trans (hout.to_below (fun q hq _ e => by have := hBY.size; omega) HB23.out.size)
                            have HKA := Lib.hid ((hout.block D1 (by omega) (by have := HK23.out; intro e; subst e; have h2 := HRV.out.ty; rw [typ_none this rfl] at h2; cases h2)).trans HK23.out)
                            have HKB := Lib.hid hK2
                            have hD2l := (Array.getElem?_eq_some_iff.1 hK2).1
                            have hs24 := hout.size
                            have hbs := hBY.size
                            have zi := cell_lt i0
                            have ze := cell_lt e0
                            have zr := cell_lt r0
                            have hD12 : D1 < D2 := by omega
                            have hD1w : w.heap.size + 1 < D1 := by omega
                            have hD2w : w.heap.size + 1 < D2 := by omega
                            clear hK2 hout hti
                            go_wp2
                            refine ⟨by simp, .inl ⟨_, _, rfl, run_takeDeferred (b := D2) (ds := []) ?_, by simp, .inl ⟨_, _, rfl, run_takeDeferred (b := D1) (ds := []) ?_, ?_⟩⟩⟩
                            · exact (Below.heap_setCell _ _ _ D2 (by simp; omega)).trans HKB.out
                            · exact (put_other _ (by omega)).trans ((Below.heap_setCell _ _ _ D1 (by simp; omega)).trans HKA.out)
                            · have hfin := cell_put (D := D1) (cell_put (D := D2) (cell_here r0 (.bool true)) (by simp; omega) (.deferred none)) (by simp; omega) (.deferred none)
                              refine ⟨.bool true, ?_, rfl, b_put (b_put (bset hB24 (by show w.heap.size ≤ w.heap.size + 1; omega) _) (by omega) _) (by omega) _⟩
                              simp [results, Tryz.results9, go_sem, hfin]
                · have hleI : ((g.length : Int) != ins) = true := by simp; exact hle
                  clear hle
                  go_wp2
                  refine ⟨.bool true, ?_, rfl, bset hB (by show w.heap.size ≤ w.heap.size + 1; omega) _⟩
                  simp [results, Tryz.results9, go_sem, cell_here r0 (.bool true)]
end Go.Proofs.YtannhpadoooedaaGreatDoor

/- Arguments as they come in, opened: a program; rows of int64; what their bulk gives. -/
namespace Go.Proofs.YtannhpadoooedaaGreatDoor
open Go.ChangeShapes Go.WideShapes Go.ChangeAt Go.RowKit Go.Joins Go.Deep
namespace bulks
theorem one_le {H : Type} (d : DataW H) : 1 ≤ Rows.uptoBulk d := by
  cases d with
  | lit l => cases l <;> simp [Rows.uptoBulk]
  | nil => simp [Rows.uptoBulk]
  | ptr d => simp [Rows.uptoBulk]
  | slice elems spare => simp [Rows.uptoBulk]
  | agg parts => simp [Rows.uptoBulk]
  | iface t d => simp [Rows.uptoBulk]
  | map entries => simp [Rows.uptoBulk]
  | held h => simp [Rows.uptoBulk]
theorem length_le {H : Type} (l : List (DataW H)) : l.length ≤ Rows.uptoBulkAll l := by
  induction l with
  | nil => simp [Rows.uptoBulkAll]
  | cons x r ih => have := one_le x; simp only [Rows.uptoBulkAll, List.length_cons]; omega
end bulks
section
variable {H : Type} {enc : TypeId × Value → H} {P : Program} {w : World} {base : Nat} {spare : Nat → Bool} {held : Bool}
theorem open_slice_fields {t e : TypeId} {fs : Array Field} {fuel : Nat} {cs : List Value} {x : DataW H × List MemPlace} (ht : P.underlying t = some (.slice e)) (he : P.underlying e = some (.struct fs))
    (hone : oneCellFields P fs = true) (hC : P.cellsOf e = fs.size) (h : DataW.trod enc P w base spare held fuel t cs = some x) :
    (cs = [.slice none 0 0] ∧ x = (.nil, [])) ∨
    ∃ (a : Addr) (len cap m : Nat) (D : Nat → DataW H) (Pl : Nat → List MemPlace), cs = [.slice (some a) len cap] ∧ base ≤ a.block ∧ len ≤ cap ∧ cap ≤ maxLen ∧ m = (if spare a.block then cap else len) ∧
      x = (.slice ((List.range len).map D) ((List.range (m - len)).map fun j => D (len + j)), MemPlace.row a (m * fs.size) ++ (List.range m).flatMap Pl) ∧
      ∀ i, i < m → ∃ (ys : List (DataW H × List MemPlace)) (n : Nat), D i = .agg (ys.map (·.1)) ∧ Pl i = ys.flatMap (·.2) ∧ ys.length = fs.size ∧
        ∀ (j : Nat) (f : Field), fs[j]? = some f → ∃ (v : Value) (y : DataW H × List MemPlace), w.cell? (a.add (i * fs.size + j)) = some v ∧ ys[j]? = some y ∧ DataW.trod enc P w base spare held n f.type [v] = some y := by
  rcases open_slice ht h with h0 | ⟨a, len, cap, m, n, D, Pl, hcs, hb, hl, hm, hmm, hx, hi⟩
  · exact .inl h0
  · refine .inr ⟨a, len, cap, m, D, Pl, hcs, hb, hl, hm, hmm, by rw [hC] at hx; exact hx, fun i him => ?_⟩
    obtain ⟨cs', hc, ht'⟩ := hi i him
    rw [hC] at hc
    obtain ⟨ys, n', hn', hy, hlen, hyl, hf⟩ := DataW.trod_struct he ht'
    obtain ⟨_, hcl, hat⟩ := World.cells?_some hc
    simp only [Prod.mk.injEq] at hy
    refine ⟨ys, n', hy.1, hy.2, hyl, fun j f hj => ?_⟩
    obtain ⟨ho, hk⟩ := hone_of hone j f hj
    have hjl : j < fs.size := (Array.getElem?_eq_some_iff.1 hj).1
    have hcell := hat j hjl
    have hv : cs'[j]? = some (cs'[j]'(by omega)) := List.getElem?_eq_getElem (by omega)
    have h1 := hf j f hj
    rw [ho, hk] at h1
    have hone' : (cs'.drop j).take 1 = [cs'[j]'(by omega)] := by
      rw [List.drop_eq_getElem_cons (by omega)]
      rfl
    rw [hone'] at h1
    have hys : ys[j]? = some (ys[j]'(by omega)) := List.getElem?_eq_getElem (by omega)
    refine ⟨_, _, ?_, hys, h1.trans hys⟩
    rw [← Go.Deep.add_add, hcell, hv]
end
theorem addr_plain {w : World} {a : Addr} {v : Value} (h : w.cell? a = some v) : a = ⟨a.block, a.off, none⟩ := by
  obtain ⟨b, o, s⟩ := a
  cases s with
  | none => rfl
  | some s =>
    simp only [World.cell?] at h
    split at h <;> simp at h
theorem add_plain (b o k : Nat) : (⟨b, o, none⟩ : Addr).add k = ⟨b, o + k, none⟩ := by
  unfold Addr.add; split
  · subst_vars; rfl
  · rfl
theorem plain_at {w : World} {a : Addr} {v : Value} (h : w.cell? (a.add 0) = some v) : ∃ b o, a = ⟨b, o, none⟩ := by
  have h2 : w.cell? a = some v := by simpa [Addr.add] using h
  exact ⟨_, _, addr_plain h2⟩
section
variable {H : Type} {enc : TypeId × Value → H} {W : World} {b0 : Nat} {r : Reach} {v : Value} {d : DataW H} {p : List MemPlace}
theorem i64_of {n : Int} (h : (Lit.int .i64 n).wf = true) : I64 n := by
  have h1 := (Lit.wf_int_iff .i64 n).1 h
  have e1 : IntKind.i64.min = -9223372036854775808 := by decide
  have e2 : IntKind.i64.max = 9223372036854775807 := by decide
  rw [e1, e2] at h1
  exact h1
theorem open_intsV {fuel : Nat} {v : Value} {y : DataW H × List MemPlace} (h : DataW.trod enc Tryz.prog W 0 (fun _ => true) true fuel 23 [v] = some y) :
    ∃ a c L, v = .slice a (List.length L) c ∧ IntsV W a c L ∧ (a = none → L = []) ∧ L.length ≤ Rows.uptoBulk y.1 := by
  rcases open_ints Tryz.underlying23 Tryz.underlying3 (by kernel_rfl) h with ⟨hcs, rfl⟩ | ⟨a, len, cap, zs, hcs, _, hl, hm, hz, rfl, hc, hw⟩
  · simp at hcs; subst hcs
    exact ⟨_, _, [], rfl, .inl rfl, fun _ => rfl, by simp⟩
  · simp at hcs; subst hcs
    simp only [if_true] at hz
    have hlen : (zs.take len).length = len := by rw [List.length_take]; omega
    refine ⟨some a, cap, zs.take len, by rw [hlen], ?_, (fun e => by cases e), ?_⟩
    · by_cases h0 : len = 0
      · exact .inl (by subst h0; simp)
      · obtain ⟨b, o, rfl⟩ := plain_at (hc 0 (by omega))
        refine .inr ⟨b, o, rfl, by rw [hlen]; exact hl, fun k hk => ?_⟩
        rw [hlen] at hk
        have h9 := hc k (by omega)
        rw [add_plain] at h9
        rw [h9, List.getD_eq_getElem?_getD, List.getD_eq_getElem?_getD, List.getElem?_take_of_lt hk]
    · have := bulks.length_le (H := H) (lits .i64 (zs.take len))
      simp only [lits, List.length_map] at this
      simp only [Rows.uptoBulk, lits]; omega
theorem cells_ins : Tryz.prog.cellsOf 76 = 5 := by kernel_rfl
theorem open_insV {fuel : Nat} {v : Value} {y : DataW H × List MemPlace} (h : DataW.trod enc Tryz.prog W 0 (fun _ => true) true fuel 22 [v] = some y) :
    ∃ a c L, v = .slice a (List.length L) c ∧ InsV W a c L ∧ (a = none → L = []) ∧ L.length ≤ Rows.uptoBulk y.1 := by
  rcases open_slice_fields Tryz.underlying22 Tryz.underlying76 (by kernel_rfl) cells_ins h with ⟨hcs, rfl⟩ | ⟨x, n, c, m, D, Pl, hcs, _, hl, hm, hmm, rfl, hcell⟩
  · simp at hcs; subst hcs
    exact ⟨_, _, [], rfl, .inl rfl, fun _ => rfl, by simp⟩
  · simp at hcs; subst hcs
    simp only [if_true] at hmm
    subst hmm
    have hall : ∀ i, i < m → ∃ q : Ins, W.cell? (x.add (i * 5)) = some (.int .i64 q.op) ∧ W.cell? (x.add (i * 5 + 1)) = some (.int .i64 q.to) ∧ W.cell? (x.add (i * 5 + 2)) = some (.int .i64 q.a) ∧ W.cell? (x.add (i * 5 + 3)) = some (.int .i64 q.b) ∧ W.cell? (x.add (i * 5 + 4)) = some (.int .i64 q.c) := by
      intro i hi
      obtain ⟨ys, k, _, _, _, hf⟩ := hcell i hi
      obtain ⟨u0, y0, c0, _, t0⟩ := hf 0 _ rfl
      obtain ⟨u1, y1, c1, _, t1⟩ := hf 1 _ rfl
      obtain ⟨u2, y2, c2, _, t2⟩ := hf 2 _ rfl
      obtain ⟨u3, y3, c3, _, t3⟩ := hf 3 _ rfl
      obtain ⟨u4, y4, c4, _, t4⟩ := hf 4 _ rfl
      obtain ⟨a0, e0, _, _⟩ := DataW.trod_int Tryz.underlying3 t0
      obtain ⟨a1, e1, _, _⟩ := DataW.trod_int Tryz.underlying3 t1
      obtain ⟨a2, e2, _, _⟩ := DataW.trod_int Tryz.underlying3 t2
      obtain ⟨a3, e3, _, _⟩ := DataW.trod_int Tryz.underlying3 t3
      obtain ⟨a4, e4, _, _⟩ := DataW.trod_int Tryz.underlying3 t4
      simp at e0 e1 e2 e3 e4
      subst e0 e1 e2 e3 e4
      exact ⟨⟨a0, a1, a2, a3, a4⟩, c0, c1, c2, c3, c4⟩
    have hf : ∃ f : Nat → Ins, ∀ i, i < m → W.cell? (x.add (i * 5)) = some (.int .i64 (f i).op) ∧ W.cell? (x.add (i * 5 + 1)) = some (.int .i64 (f i).to) ∧ W.cell? (x.add (i * 5 + 2)) = some (.int .i64 (f i).a) ∧ W.cell? (x.add (i * 5 + 3)) = some (.int .i64 (f i).b) ∧ W.cell? (x.add (i * 5 + 4)) = some (.int .i64 (f i).c) := by
      refine ⟨fun i => if hi : i < m then (hall i hi).choose else default, fun i hi => ?_⟩
      simp only [dif_pos hi]
      exact (hall i hi).choose_spec
    obtain ⟨f, hf⟩ := hf
    refine ⟨some x, m, (List.range n).map f, by simp, ?_, (fun e => by cases e), ?_⟩
    · by_cases h0 : n = 0
      · exact .inl (by subst h0; simp)
      · obtain ⟨b, o, rfl⟩ := plain_at (by have := (hf 0 (by omega)).1; simpa using this)
        refine .inr ⟨b, o, rfl, by simpa using hl, fun k hk => ?_⟩
        rw [List.length_map, List.length_range] at hk
        obtain ⟨c0, c1, c2, c3, c4⟩ := hf k (by omega)
        rw [add_plain] at c0 c1 c2 c3 c4
        have e : ((List.range n).map f).getD k default = f k := by simp [hk]
        rw [e]
        exact ⟨c0, c1, c2, c3, c4⟩
    · have := bulks.length_le (H := H) ((List.range n).map D)
      simp only [List.length_map, List.length_range] at this ⊢
      simp only [Rows.uptoBulk]; omega
theorem cells_prog : Tryz.prog.cellsOf 25 = 4 := by kernel_rfl
set_option maxRecDepth 100000 in
theorem open_prog (hv : Value.okWide Tryz.prog W r b0 25 v) (h : DataW.Trod enc Tryz.prog W 0 (fun _ => true) true 25 v d p) :
    ∃ ins regs ca oa cc oc code outs, v = .agg #[.int .i64 ins, .int .i64 regs, .slice ca (List.length code) cc, .slice oa (List.length outs) oc] ∧ InsV W ca cc code ∧ IntsV W oa oc outs ∧ (ca = none → code = []) ∧ (oa = none → outs = []) ∧ code.length + outs.length ≤ Rows.uptoBulk d := by
  obtain ⟨v0, v1, v2, v3, y0, y1, y2, y3, n, rfl, rfl, rfl, t0, t1, t2, t3⟩ := open_agg4 Tryz.underlying25 (by kernel_rfl) cells_prog hv h
  obtain ⟨a0, e0, rfl, _⟩ := DataW.trod_int Tryz.underlying3 t0
  obtain ⟨a1, e1, rfl, _⟩ := DataW.trod_int Tryz.underlying3 t1
  simp at e0 e1
  subst e0 e1
  obtain ⟨ca, cc, code, rfl, hc, hcn, hcl⟩ := open_insV t2
  obtain ⟨oa, oc, outs, rfl, ho, hon, hol⟩ := open_intsV t3
  exact ⟨a0, a1, ca, oa, cc, oc, code, outs, rfl, hc, ho, hcn, hon, by simp only [Rows.uptoBulk, Rows.uptoBulkAll]; omega⟩
end
end Go.Proofs.YtannhpadoooedaaGreatDoor

/- Arguments as they come in, whatever their bulk: rows of int64, each of which lies in memory. -/
namespace Go.Proofs.YtannhpadoooedaaGreatDoor
open Go.ChangeShapes Go.WideShapes Go.ChangeAt Go.RowKit Go.Joins Go.Deep
section
variable {H : Type} {enc : TypeId × Value → H} {W : World} {b0 : Nat} {r : Reach} {v : Value} {d : DataW H} {p : List MemPlace}
theorem weightsAll_mem {P : Program} {e : TypeId} : ∀ {l : List (DataW H)} {d : DataW H} {n : Nat}, d ∈ l → n ∈ d.weights P e → n ∈ DataW.weightsAll P e l
  | x :: l, d, n, hd, hn => by
    rw [DataW.weightsAll]
    rcases List.mem_cons.1 hd with rfl | h
    · exact List.mem_append.2 (.inl hn)
    · exact List.mem_append.2 (.inr (weightsAll_mem h hn))
theorem bytes_i64 : Tryz.prog.bytesOf 2 = 8 := by kernel_rfl
set_option maxRecDepth 100000 in
theorem open_i64rows_w (hv : Value.okWide Tryz.prog W r b0 52 v) (h : DataW.Trod enc Tryz.prog W 0 (fun _ => true) true 52 v d p) (hw : ∀ n ∈ d.weights Tryz.prog 52, n ≤ reachBytes) :
    ∃ g, GridI W v g ∧ ∀ k, k < g.length → (g.getD k []).length ≤ 1152921504606846976 := by
  obtain ⟨a, n, cap, rfl⟩ := okWide_slice Tryz.underlying52 hv
  obtain ⟨fuel, hf⟩ := h
  rcases open_int_rows Tryz.underlying52 Tryz.underlying26 Tryz.underlying2 (by kernel_rfl) (by kernel_rfl) hf with ⟨hcs, hx⟩ | ⟨x, len, c, A, L, C, Z, hcs, _, hl, hm, hx, hr⟩
  · simp [Value.cells] at hcs
    obtain ⟨rfl, rfl, rfl⟩ := hcs
    exact ⟨[], ⟨_, _, rfl, fun k hk => absurd hk (by simp)⟩, fun k hk => absurd hk (by simp)⟩
  · simp [Value.cells] at hcs
    obtain ⟨rfl, rfl, rfl⟩ := hcs
    simp only [Prod.mk.injEq] at hx
    have hlen : ∀ r, r < n → ((Z r).take (L r)).length = L r := fun r hr' => by
      obtain ⟨_, h1, _, h2, _⟩ := hr r (by omega)
      rw [List.length_take]; omega
    refine ⟨(List.range n).map fun r => (Z r).take (L r), ⟨_, _, by rw [List.length_map, List.length_range], fun k hk => ?_⟩, fun k hk => ?_⟩
    · rw [List.length_map, List.length_range] at hk
      obtain ⟨h1, h2, h3, h4, h5, h6, h7⟩ := hr k (by omega)
      obtain ⟨b, o, rfl⟩ := plain_at (hr 0 (by omega)).1
      rw [add_plain] at h1
      refine ⟨b, o, _, rfl, h1, ?_⟩
      have e : ((List.range n).map fun r => (Z r).take (L r)).getD k [] = (Z k).take (L k) := by simp [hk]
      rw [e]
      refine ⟨A k, C k, by rw [hlen k hk], fun j hj => ?_⟩
      rw [hlen k hk] at hj
      cases hA : A k with
      | none => have := h6 hA; omega
      | some a' =>
        obtain ⟨_, h8⟩ := h7 a' hA
        have h9 := h8 j (by omega)
        obtain ⟨b', o', rfl⟩ := plain_at (h8 0 (by omega))
        rw [add_plain] at h9
        have e2 : ((Z k).take (L k)).getD j 0 = (Z k).getD j 0 := by
          rw [List.getD_eq_getElem?_getD, List.getD_eq_getElem?_getD, List.getElem?_take_of_lt hj]
        rw [e2]
        refine ⟨b', o', rfl, h9, ?_⟩
        refine i64_of (h5 _ ?_)
        rw [List.getD_eq_getElem?_getD, List.getElem?_eq_getElem (by omega)]
        exact List.getElem_mem _
    · rw [List.length_map, List.length_range] at hk
      obtain ⟨h1, h2, h3, h4, h5, h6, h7⟩ := hr k (by omega)
      have e : ((List.range n).map fun r => (Z r).take (L r)).getD k [] = (Z k).take (L k) := by simp [hk]
      rw [e, hlen k hk]
      cases hA : A k with
      | none => have := h6 hA; omega
      | some a' =>
        have hmem : ((lits (H := H) .i64 ((Z k).take (L k))).length + (lits (H := H) .i64 ((Z k).drop (L k))).length) * Tryz.prog.bytesOf 2 ∈ d.weights Tryz.prog 52 := by
          rw [hx.1]
          simp only [DataW.weights, Tryz.underlying52]
          refine List.mem_cons.2 (.inr (List.mem_append.2 (.inl (weightsAll_mem (d := intRow .i64 (A k) (L k) (Z k)) (List.mem_map.2 ⟨k, by simpa using hk, rfl⟩) ?_))))
          rw [hA]
          simp only [intRow, DataW.weights, Tryz.underlying26]
          exact List.mem_cons.2 (.inl rfl)
        have h8 := hw _ hmem
        have h9 := reachBytes_lt
        have h10 := hlen k hk
        rw [bytes_i64] at h8
        simp only [lits, List.length_map] at h8
        rw [h10] at h8
        omega
set_option maxRecDepth 100000 in
theorem open_i64row_w (hv : Value.okWide Tryz.prog W r b0 26 v) (h : DataW.Trod enc Tryz.prog W 0 (fun _ => true) true 26 v d p) (hw : ∀ n ∈ d.weights Tryz.prog 26, n ≤ reachBytes) :
    ∃ l, RowI W v l ∧ l.length ≤ 1152921504606846976 := by
  obtain ⟨a, n, cap, rfl⟩ := okWide_slice Tryz.underlying26 hv
  obtain ⟨fuel, hf⟩ := h
  rcases open_ints Tryz.underlying26 Tryz.underlying2 (by kernel_rfl) hf with ⟨hcs, hx⟩ | ⟨a', len, c, zs, hcs, _, hl, hm, hz, hx, hc, hwf⟩
  · simp [Value.cells] at hcs
    obtain ⟨rfl, rfl, rfl⟩ := hcs
    exact ⟨[], ⟨_, _, rfl, fun k hk => absurd hk (by simp)⟩, by simp⟩
  · simp [Value.cells] at hcs
    obtain ⟨rfl, rfl, rfl⟩ := hcs
    simp only [if_true] at hz
    simp only [Prod.mk.injEq] at hx
    have hlen : (zs.take n).length = n := by rw [List.length_take]; omega
    refine ⟨zs.take n, ⟨_, _, by rw [hlen], fun k hk => ?_⟩, ?_⟩
    · rw [hlen] at hk
      obtain ⟨b, o, rfl⟩ := plain_at (hc 0 (by omega))
      have h9 := hc k (by omega)
      rw [add_plain] at h9
      have e2 : (zs.take n).getD k 0 = zs.getD k 0 := by rw [List.getD_eq_getElem?_getD, List.getD_eq_getElem?_getD, List.getElem?_take_of_lt hk]
      rw [e2]
      refine ⟨b, o, rfl, h9, i64_of (hwf _ ?_)⟩
      rw [List.getD_eq_getElem?_getD, List.getElem?_eq_getElem (by omega)]
      exact List.getElem_mem _
    · have hmem : ((lits (H := H) .i64 (zs.take n)).length + (lits (H := H) .i64 (zs.drop n)).length) * Tryz.prog.bytesOf 2 ∈ d.weights Tryz.prog 26 := by
        rw [hx.1]
        simp only [DataW.weights, Tryz.underlying26]
        exact List.mem_cons.2 (.inl rfl)
      have h8 := hw _ hmem
      have h9 := reachBytes_lt
      rw [bytes_i64] at h8
      simp only [lits, List.length_map] at h8
      rw [hlen] at h8 ⊢
      omega
end
end Go.Proofs.YtannhpadoooedaaGreatDoor

