/- Texts of this seat, laid together: PrgF, VmD, VmE, ExA, ExD, VmF, VmG, VmH, Iter, Rng. Each opens with its own remark, which says what it proves, and under which conditions. -/
import Derived.Test.YtdllbdfchloijaaGreatDoorV12
import Derived.Deep.RegionWith
import Derived.Test.YtdllbdfchloijaaGreatDoorV06
import Derived.Test.YtdllbdfchloijaaGreatDoorV11
import Derived.OneCell
import Derived.Deep.DrawnRows
import Derived.Deep.RegionLaw
import Derived.Deep.Cut
import Derived.Deep.DeepCutAuto
import Derived.Test.YtdllbdfchloijaaGreatDoorV05
import Derived.Laws.CopyRow
import Derived.Laws.Rows
import Derived.Laws.Tables
import Derived.Deep.LoopGhost
import Derived.Test.YtdllbdfchloijaaGreatDoorV01
import Derived.RangeFuncNested
import Derived.RangeFuncBound
import Derived.RangeFuncCalls
import Derived.RangeFuncLeaves
import Derived.Shelf.Abstract
import Derived.Shelf.RegionOpen
import Derived.OwnWalkIn
import Derived.TacticsInMore
import Derived.LoopNIn
import Derived.LoopIn
import Derived.Test.YtdllbdfchloijaaGreatDoorV02
set_option linter.unusedVariables false
set_option linter.unusedSimpArgs false
/- prog: Copy. -/
namespace Go.Proofs.YtdllbdfchloijaaGreatDoor
open Go.ChangeShapes Go.WideShapes Go.ChangeAt Go.RowKit
set_option linter.unusedVariables false
set_option linter.unusedSimpArgs false
section
variable {w w0 : World} {a : Option Addr} {cap B C : Nat} {t : TypeId}
theorem InsV.far6 {L : List Ins} (h : InsV w a cap L) (hq : ∀ p, a = some p → p.block ≠ B ∧ p.block ≠ B + 1) (v0 v1 v2 v3 v4 v5 : Value) : InsV ((((((w.setCell ⟨B, 2, none⟩ v0).setCell ⟨B, 3, none⟩ v1).setCell ⟨B + 1, 0, none⟩ v2).setCell ⟨B + 1, 1, none⟩ v3).setCell ⟨B + 1, 2, none⟩ v4).setCell ⟨B + 1, 3, none⟩ v5) a cap L := by
  have h1 : ∀ p, a = some p → p.block ≠ B := fun p e => (hq p e).1
  have h2 : ∀ p, a = some p → p.block ≠ B + 1 := fun p e => (hq p e).2
  exact InsV.far (InsV.far (InsV.far (InsV.far (InsV.far (InsV.far h (q := ⟨B, 2, none⟩) h1 v0) (q := ⟨B, 3, none⟩) h1 v1) (q := ⟨B + 1, 0, none⟩) h2 v2) (q := ⟨B + 1, 1, none⟩) h2 v3) (q := ⟨B + 1, 2, none⟩) h2 v4) (q := ⟨B + 1, 3, none⟩) h2 v5
theorem IntsV.far6 {L : List Int} (h : IntsV w a cap L) (hq : ∀ p, a = some p → p.block ≠ B ∧ p.block ≠ B + 1) (v0 v1 v2 v3 v4 v5 : Value) : IntsV ((((((w.setCell ⟨B, 2, none⟩ v0).setCell ⟨B, 3, none⟩ v1).setCell ⟨B + 1, 0, none⟩ v2).setCell ⟨B + 1, 1, none⟩ v3).setCell ⟨B + 1, 2, none⟩ v4).setCell ⟨B + 1, 3, none⟩ v5) a cap L := by
  have h1 : ∀ p, a = some p → p.block ≠ B := fun p e => (hq p e).1
  have h2 : ∀ p, a = some p → p.block ≠ B + 1 := fun p e => (hq p e).2
  exact IntsV.far (IntsV.far (IntsV.far (IntsV.far (IntsV.far (IntsV.far h (q := ⟨B, 2, none⟩) h1 v0) (q := ⟨B, 3, none⟩) h1 v1) (q := ⟨B + 1, 0, none⟩) h2 v2) (q := ⟨B + 1, 1, none⟩) h2 v3) (q := ⟨B + 1, 2, none⟩) h2 v4) (q := ⟨B + 1, 3, none⟩) h2 v5
theorem FromA.far6 (h : FromA C t w a) (v0 v1 v2 v3 v4 v5 : Value) : FromA C t ((((((w.setCell ⟨B, 2, none⟩ v0).setCell ⟨B, 3, none⟩ v1).setCell ⟨B + 1, 0, none⟩ v2).setCell ⟨B + 1, 1, none⟩ v3).setCell ⟨B + 1, 2, none⟩ v4).setCell ⟨B + 1, 3, none⟩ v5) a := (((((h.set _ _).set _ _).set _ _).set _ _).set _ _).set _ _
theorem below_far6 (h : Below w0.heap.size w0 w) (hB : w0.heap.size ≤ B) (v0 v1 v2 v3 v4 v5 : Value) : Below w0.heap.size w0 ((((((w.setCell ⟨B, 2, none⟩ v0).setCell ⟨B, 3, none⟩ v1).setCell ⟨B + 1, 0, none⟩ v2).setCell ⟨B + 1, 1, none⟩ v3).setCell ⟨B + 1, 2, none⟩ v4).setCell ⟨B + 1, 3, none⟩ v5) :=
  bset (bset (bset (bset (bset (bset h (p := ⟨B, 2, none⟩) hB v0) (p := ⟨B, 3, none⟩) hB v1) (p := ⟨B + 1, 0, none⟩) (Nat.le_succ_of_le hB) v2) (p := ⟨B + 1, 1, none⟩) (Nat.le_succ_of_le hB) v3) (p := ⟨B + 1, 2, none⟩) (Nat.le_succ_of_le hB) v4) (p := ⟨B + 1, 3, none⟩) (Nat.le_succ_of_le hB) v5
end
set_option maxRecDepth 100000 in
set_option maxHeartbeats 4000000 in
theorem copy_c (ins regs : Int) (ca oa : Option Addr) (cc oc : Nat) (code : List Ins) (outs : List Int) (w : World) (hc : InsV w ca cc code) (ho : IntsV w oa oc outs) (hcn : ca = none → code = []) (hon : oa = none → outs = []) (h1 : code.length ≤ 1099511627776) (h2 : outs.length ≤ 1099511627776) :
    Calls Tryz.prog 62 #[.agg #[.int .i64 ins, .int .i64 regs, .slice ca code.length cc, .slice oa outs.length oc]] w fun e w' => (∃ ca' cc' oa' oc', e = .returned (.agg #[.int .i64 ins, .int .i64 regs, .slice ca' code.length cc', .slice oa' outs.length oc']) ∧ InsV w' ca' cc' code ∧ IntsV w' oa' oc' outs ∧ FromA w.heap.size 39 w' ca' ∧ FromA w.heap.size 3 w' oa') ∧ Below w.heap.size w w' := by
  have k1 := fun W (h : Below w.heap.size w W) => cloneIns_c ca cc code W (hc.keep h) hcn h1
  have k2 := fun W (h : Below w.heap.size w W) => cloneInts_c oa oc outs W (ho.keep h) hon h2
  have hB := Below.refl w.heap.size w
  go_enter Tryz.func62, Tryz.ntmps62
  go_wp2
  refine wp_name fun w0 hW0 => ?_
  have p0 : w0.cell? ⟨w.heap.size, 0, none⟩ = some (.int .i64 ins) := by rw [hW0]; exact (by first | assumption | exact cell_new (by with_reducible first | rfl | (simp; done) | (simp; omega)) rfl | (repeat (first | assumption | exact cell_new (by with_reducible first | rfl | (simp; done) | (simp; omega)) rfl | refine cell_alloc ?_ _ | refine cell_drew ?_ | refine cell_drewN ?_ _ | refine cell_far ?_ (by simp) _ | (refine cell_far ?_ (by simp <;> omega) _))) | simp [go_sem, *])
  have zp0 := cell_lt p0
  have p1 : w0.cell? ⟨w.heap.size, 1, none⟩ = some (.int .i64 regs) := by rw [hW0]; exact (by first | assumption | exact cell_new (by with_reducible first | rfl | (simp; done) | (simp; omega)) rfl | (repeat (first | assumption | exact cell_new (by with_reducible first | rfl | (simp; done) | (simp; omega)) rfl | refine cell_alloc ?_ _ | refine cell_drew ?_ | refine cell_drewN ?_ _ | refine cell_far ?_ (by simp) _ | (refine cell_far ?_ (by simp <;> omega) _))) | simp [go_sem, *])
  have p2f : w0.frozen? ⟨w.heap.size, 2, none⟩ = false := by rw [hW0]; simp [go_sem, *]
  have p2 : w0.cell? ⟨w.heap.size, 2, none⟩ = some (.slice ca code.length cc) := by rw [hW0]; exact (by first | assumption | exact cell_new (by with_reducible first | rfl | (simp; done) | (simp; omega)) rfl | (repeat (first | assumption | exact cell_new (by with_reducible first | rfl | (simp; done) | (simp; omega)) rfl | refine cell_alloc ?_ _ | refine cell_drew ?_ | refine cell_drewN ?_ _ | refine cell_far ?_ (by simp) _ | (refine cell_far ?_ (by simp <;> omega) _))) | simp [go_sem, *])
  have p3f : w0.frozen? ⟨w.heap.size, 3, none⟩ = false := by rw [hW0]; simp [go_sem, *]
  have p3 : w0.cell? ⟨w.heap.size, 3, none⟩ = some (.slice oa outs.length oc) := by rw [hW0]; exact (by first | assumption | exact cell_new (by with_reducible first | rfl | (simp; done) | (simp; omega)) rfl | (repeat (first | assumption | exact cell_new (by with_reducible first | rfl | (simp; done) | (simp; omega)) rfl | refine cell_alloc ?_ _ | refine cell_drew ?_ | refine cell_drewN ?_ _ | refine cell_far ?_ (by simp) _ | (refine cell_far ?_ (by simp <;> omega) _))) | simp [go_sem, *])
  have r0f : w0.frozen? ⟨w.heap.size + 1, 0, none⟩ = false := by rw [hW0]; simp [go_sem, *]
  have r0 : w0.cell? ⟨w.heap.size + 1, 0, none⟩ = some (.int .i64 0) := by rw [hW0]; exact (by first | assumption | exact cell_new (by with_reducible first | rfl | (simp; done) | (simp; omega)) rfl | (repeat (first | assumption | exact cell_new (by with_reducible first | rfl | (simp; done) | (simp; omega)) rfl | refine cell_alloc ?_ _ | refine cell_drew ?_ | refine cell_drewN ?_ _ | refine cell_far ?_ (by simp) _ | (refine cell_far ?_ (by simp <;> omega) _))) | simp [go_sem, *])
  have zr0 := cell_lt r0
  have r1f : w0.frozen? ⟨w.heap.size + 1, 1, none⟩ = false := by rw [hW0]; simp [go_sem, *]
  have r1 : w0.cell? ⟨w.heap.size + 1, 1, none⟩ = some (.int .i64 0) := by rw [hW0]; exact (by first | assumption | exact cell_new (by with_reducible first | rfl | (simp; done) | (simp; omega)) rfl | (repeat (first | assumption | exact cell_new (by with_reducible first | rfl | (simp; done) | (simp; omega)) rfl | refine cell_alloc ?_ _ | refine cell_drew ?_ | refine cell_drewN ?_ _ | refine cell_far ?_ (by simp) _ | (refine cell_far ?_ (by simp <;> omega) _))) | simp [go_sem, *])
  have r2f : w0.frozen? ⟨w.heap.size + 1, 2, none⟩ = false := by rw [hW0]; simp [go_sem, *]
  have r2 : w0.cell? ⟨w.heap.size + 1, 2, none⟩ = some (.slice none 0 0) := by rw [hW0]; exact (by first | assumption | exact cell_new (by with_reducible first | rfl | (simp; done) | (simp; omega)) rfl | (repeat (first | assumption | exact cell_new (by with_reducible first | rfl | (simp; done) | (simp; omega)) rfl | refine cell_alloc ?_ _ | refine cell_drew ?_ | refine cell_drewN ?_ _ | refine cell_far ?_ (by simp) _ | (refine cell_far ?_ (by simp <;> omega) _))) | simp [go_sem, *])
  have r3f : w0.frozen? ⟨w.heap.size + 1, 3, none⟩ = false := by rw [hW0]; simp [go_sem, *]
  have r3 : w0.cell? ⟨w.heap.size + 1, 3, none⟩ = some (.slice none 0 0) := by rw [hW0]; exact (by first | assumption | exact cell_new (by with_reducible first | rfl | (simp; done) | (simp; omega)) rfl | (repeat (first | assumption | exact cell_new (by with_reducible first | rfl | (simp; done) | (simp; omega)) rfl | refine cell_alloc ?_ _ | refine cell_drew ?_ | refine cell_drewN ?_ _ | refine cell_far ?_ (by simp) _ | (refine cell_far ?_ (by simp <;> omega) _))) | simp [go_sem, *])
  have hB : Below w.heap.size w w0 := by rw [hW0]; repeat (first | exact Below.refl _ _ | exact hB | refine Below.drew ?_ | refine below_drewN ?_ _ | refine bset ?_ (by simp <;> omega) _ | refine bal ?_ _)
  have hz : w.heap.size ≤ w0.heap.size := hB.size
  clear hW0
  go_region_with (first | (go_at_call 105; (with_reducible refine (k1 _ ?_).mono ?_); (repeat (first | exact Below.refl _ _ | assumption | refine Below.drew ?_ | refine bset ?_ (by simp) _ | refine bal ?_ _)); rintro e w3 ⟨⟨a3, c3, rfl, hv3, hf3⟩, hb3⟩; have hB3 : Below w.heap.size w w3 := bthen (by repeat (first | exact Below.refl _ _ | assumption | refine Below.drew ?_ | refine bset ?_ (by simp) _ | refine bal ?_ _)) hb3; have s0f := bkeepf hb3 (cell_drew r0) r0f; have s0 := bkeep hb3 (cell_drew r0); have s1f := bkeepf hb3 (cell_drew r1) r1f; have s1 := bkeep hb3 (cell_drew r1); have s2f := bkeepf hb3 (cell_drew r2) r2f; have s2 := bkeep hb3 (cell_drew r2); have s3f := bkeepf hb3 (cell_drew r3) r3f; have s3 := bkeep hb3 (cell_drew r3); have y0 := bkeep hb3 (cell_drew p0); have y1 := bkeep hb3 (cell_drew p1); have z2 : w3.cell? ⟨w.heap.size, 2, none⟩ = some (.slice ca code.length cc) := bkeep hb3 (cell_drew p2); have z3 : w3.cell? ⟨w.heap.size, 3, none⟩ = some (.slice oa outs.length oc) := bkeep hb3 (cell_drew p3); have zf2 : w3.frozen? ⟨w.heap.size, 2, none⟩ = false := bkeepf (v := .slice ca code.length cc) hb3 (cell_drew p2) p2f; have zf3 : w3.frozen? ⟨w.heap.size, 3, none⟩ = false := bkeepf (v := .slice oa outs.length oc) hb3 (cell_drew p3) p3f) | (go_at_call 106; (with_reducible refine (k2 _ ?_).mono ?_); assumption; rintro e w4 ⟨⟨a4, c4, rfl, hv4, hf4⟩, hb4⟩; have zf2 := bkeepf hb4 z2 zf2; have zf3 := bkeepf hb4 z3 zf3; have z2 := bkeep hb4 z2; have z3 := bkeep hb4 z3; have s0f := bkeepf hb4 s0 s0f; have s0 := bkeep hb4 s0; have s1f := bkeepf hb4 s1 s1f; have s1 := bkeep hb4 s1; have s2f := bkeepf hb4 s2 s2f; have s2 := bkeep hb4 s2; have s3f := bkeepf hb4 s3 s3f; have s3 := bkeep hb4 s3; have y0 := bkeep hb4 y0; have y1 := bkeep hb4 y1; have hv3 := hv3.keep hb4; have hf3 := hf3.keep hb4; have HZ := Lib.hid (And.intro hb3.size hb4.size); have hB4 : Below w.heap.size w w4 := bthen hB3 hb4))
  all_goals
    have x0 := cell_far (cell_far y0 (p := ⟨w.heap.size, 2, none⟩) (by simp) (.slice a3 code.length c3)) (p := ⟨w.heap.size, 3, none⟩) (by simp) (.slice a4 outs.length c4)
    have x1 := cell_far (cell_far y1 (p := ⟨w.heap.size, 2, none⟩) (by simp) (.slice a3 code.length c3)) (p := ⟨w.heap.size, 3, none⟩) (by simp) (.slice a4 outs.length c4)
    go_wp2
    have hz3 : w0.heap.size ≤ w3.heap.size ∧ w3.heap.size ≤ w4.heap.size := HZ.out
    have hf3 : FromA w0.heap.size 39 w4 a3 := hf3
    have n3 : ∀ p, a3 = some p → p.block ≠ w.heap.size ∧ p.block ≠ w.heap.size + 1 := fun p e => by have := (hf3 p e).1; omega
    have n4 : ∀ p, a4 = some p → p.block ≠ w.heap.size ∧ p.block ≠ w.heap.size + 1 := fun p e => by have := (hf4 p e).1; omega
    have N3 := Lib.hid n3
    have N4 := Lib.hid n4
    have HF := Lib.hid (And.intro hf3 hf4)
    have HV := Lib.hid (And.intro hv3 hv4)
    clear n3 n4 hf3 hf4 hv3 hv4 k1 k2 hc ho hcn hon
    refine bodyPost_ret (v := .agg #[.int .i64 ins, .int .i64 regs, .slice a3 code.length c3, .slice a4 outs.length c4]) (by simp [results, Tryz.results62, go_sem, *]) rfl ⟨⟨_, _, _, _, rfl, ?_, ?_, ?_, ?_⟩, ?_⟩
    · exact InsV.far6 HV.out.1 N3.out _ _ _ _ _ _
    · exact IntsV.far6 HV.out.2 N4.out _ _ _ _ _ _
    · exact FromA.far6 (HF.out.1.mono hz) _ _ _ _ _ _
    · exact FromA.far6 (HF.out.2.mono hB3.size) _ _ _ _ _ _
    · exact below_far6 hB4 (Nat.le_refl _) _ _ _ _ _ _
end Go.Proofs.YtdllbdfchloijaaGreatDoor

/- vm: a machine in memory; what keeps it. -/
namespace Go.Proofs.YtdllbdfchloijaaGreatDoor
open Num
open Go.ChangeShapes Go.WideShapes Go.ChangeAt Go.RowKit
set_option linter.unusedVariables false
set_option linter.unusedSimpArgs false
section
variable {S : TypeId → Prop} {w w' : World}
theorem FromA.kp {B : Nat} {t : TypeId} {a : Option Addr} (h : FromA B t w a) (k : Kp S w w') (hs : S t) : FromA B t w' a := fun p e => ⟨(h p e).1, k.typ (h p e).2 hs⟩
theorem InsV.kp {B : Nat} {a : Option Addr} {c : Nat} {L : List Ins} (h : InsV w a c L) (hf : FromA B 39 w a) (k : Kp S w w') (hs : S 39) : InsV w' a c L := by
  rcases h with h | ⟨b, off, h1, h2, h3⟩
  · exact .inl h
  · refine .inr ⟨b, off, h1, h2, fun j hj => ?_⟩
    have ht := (hf _ h1).2
    obtain ⟨c0, c1, c2, c3, c4⟩ := h3 j hj
    exact ⟨k.cell ht hs c0, k.cell ht hs c1, k.cell ht hs c2, k.cell ht hs c3, k.cell ht hs c4⟩
theorem IntsV.kp {B : Nat} {a : Option Addr} {c : Nat} {L : List Int} (h : IntsV w a c L) (hf : FromA B 3 w a) (k : Kp S w w') (hs : S 3) : IntsV w' a c L := by
  rcases h with h | ⟨b, off, h1, h2, h3⟩
  · exact .inl h
  · exact .inr ⟨b, off, h1, h2, fun j hj => k.cell (hf _ h1).2 hs (h3 j hj)⟩
end
/-- a row of rows in a block that may be written -/
structure RegsAt (base : Nat) (w : World) (rb : Nat) (g : Grid) : Prop where
  free : Free w rb
  ty : typOf w rb = some 43
  cell : ∀ k, k < g.length → ∃ u, w.cell? ⟨rb, k, none⟩ = some u ∧ PRow base w u (g.getD k [])
theorem RegsAt.keep {base rb : Nat} {w w' : World} {g : Grid} (h : RegsAt base w rb g) (k : Below w.heap.size w w') : RegsAt base w' rb g :=
  ⟨h.free.keep k, typ_keep h.ty k, fun j hj => by obtain ⟨u, hu, hr⟩ := h.cell j hj; exact ⟨u, bkeep k hu, hr.keep lims_int k⟩⟩
section
variable {base : Nat} {w w' : World} {b pb : Nat} {ins regs : Int} {code : List Ins} {outs : List Int} {rv : Value}
theorem Free.kp {S : TypeId → Prop} {g : Nat} {t : TypeId} (h : Free w g) (k : Kp S w w') (ht : typOf w g = some t) (hs : S t) : Free w' g :=
  ⟨typ_lt (k.typ ht hs), fun j => k.frz ht hs (h.2 j)⟩
end
end Go.Proofs.YtdllbdfchloijaaGreatDoor

/- vm: Step. -/
namespace Go.Proofs.YtdllbdfchloijaaGreatDoor
open Num
open Go.ChangeShapes Go.WideShapes Go.ChangeAt Go.RowKit
set_option linter.unusedVariables false
set_option linter.unusedSimpArgs false
attribute [local go_sem ↓] Go.wp_at_zero Go.wp_at_succ
section
variable {base : Nat} {w w' : World} {b rb rc : Nat} {ins regs : Int} {code : List Ins} {outs : List Int} {g : Grid} {n : Nat}
/-- what Step asks of the instruction at hand -/
structure InsOk (i : Ins) (regs : Nat) : Prop where
  o1 : 1 ≤ i.op
  o2 : i.op ≤ 8
  t0 : 0 ≤ i.to
  t1 : i.to < regs
  a0 : 0 ≤ i.a
  a1 : i.a < regs
  b0 : 0 ≤ i.b
  b1 : i.b < regs
  c : constB i.op i.c = true
theorem insOk_of {i : Ins} {regs : Nat} (h : mayB i.op i.to i.a i.b i.c regs = true) (h0 : 0 < regs) : InsOk i regs := by
  obtain ⟨h1, h2, h3, h4, h5, h6, h7, h8, h9⟩ := (mayB_iff ..).1 h
  cases e : twoB i.op with
  | true => exact ⟨h1, h2, h3, h4, h7, h8, (h9 e).1, (h9 e).2, h6⟩
  | false => have := h5 e; exact ⟨h1, h2, h3, h4, h7, h8, by omega, by omega, h6⟩
end
/-- a row's value, and the numbers that lie behind it -/
theorem PRow.view {base : Nat} {w : World} {v : Value} {l : List Int} (h : PRow base w v l) : ∃ a c, v = .slice a l.length c ∧ l.length ≤ c ∧ ∀ j, j < l.length → ∃ b off nb ad len cp, a = some ⟨b, off, none⟩ ∧ w.cell? ⟨b, off + j * 2, none⟩ = some (.bool nb) ∧ w.cell? ⟨b, off + j * 2 + 1, none⟩ = some (.slice ad len cp) ∧ IsInt w (.agg #[.bool nb, .slice ad len cp]) (l.getD j 0) := by
  obtain ⟨a, c, h1, h2, h3, h4⟩ := h
  refine ⟨a, c, h1, h2, fun j hj => ?_⟩
  rcases h4 with h4 | ⟨b, off, ha, hb, ht, hi⟩
  · rw [h4] at hj; simp at hj
  · obtain ⟨nb, ad, len, cp, k1, k2, k3⟩ := hi j hj
    exact ⟨b, off, nb, ad, len, cp, ha, k1, k2, k3⟩
end Go.Proofs.YtdllbdfchloijaaGreatDoor

/- exact: numbers' over, power; what an instruction does to numbers. -/
namespace Go.Proofs.YtdllbdfchloijaaGreatDoor
open Num
open Go.ChangeShapes Go.WideShapes Go.ChangeAt Go.RowKit
set_option linter.unusedVariables false
set_option linter.unusedSimpArgs false
attribute [local go_sem ↓] Go.wp_at_zero Go.wp_at_succ
/-- answers z and true, or a number and false -/
def AnsP (z : Option Int) (w : World) (e : Ending) (w' : World) : Prop :=
  (match z with
    | some x => ∃ v, e = .returned (.tuple #[v, .bool true]) ∧ IsInt w' v x
    | none => ∃ v x, e = .returned (.tuple #[v, .bool false]) ∧ IsInt w' v x) ∧ Below w.heap.size w w'
theorem ansP_some {z : Option Int} {x : Int} {v : Value} {w w' : World} (h : z = some x) (hv : IsInt w' v x) (hb : Below w.heap.size w w') : AnsP z w (.returned (.tuple #[v, .bool true])) w' := by
  subst h; exact ⟨⟨v, rfl, hv⟩, hb⟩
theorem ansP_none {z : Option Int} {x : Int} {v : Value} {w w' : World} (h : z = none) (hv : IsInt w' v x) (hb : Below w.heap.size w w') : AnsP z w (.returned (.tuple #[v, .bool false])) w' := by
  subst h; exact ⟨⟨v, x, rfl, hv⟩, hb⟩
set_option maxRecDepth 100000 in
set_option maxHeartbeats 2000000 in
theorem power_c (n : Nat) (w : World) (hn : n ≤ 65536) :
    Calls Tryz.prog 138 #[.int .i64 (n : Int)] w fun e w' => (∃ v, e = .returned v ∧ IsInt w' v (2 ^ n)) ∧ Below w.heap.size w w' := by
  have oc := fun W => of_c 1 W (by omega) (by omega)
  have sc := fun v W (h : IsInt W v 1) => shlI_c v 1 1 n W h (by unfold Bd; decide) (by omega) hn
  have HE := Lib.hid (show (1 : Int) * 2 ^ n = 2 ^ n by rw [Int.one_mul])
  have hB := Below.refl w.heap.size w
  go_enter Tryz.func138, Tryz.ntmps138
  go_wp2_with fail
  refine (oc _).mono ?_
  rintro e w1 ⟨⟨v1, rfl, hi1⟩, hb1⟩
  have r0 : w1.cell? ⟨w.heap.size, 0, none⟩ = some (.bool false) := bkc hb1
  have zr0 := cell_lt r0
  have r0f : w1.frozen? ⟨w.heap.size, 0, none⟩ = false := bkcf (v := .bool false) hb1
  have r1 : w1.cell? ⟨w.heap.size, 1, none⟩ = some (.slice none 0 0) := bkc hb1
  have r1f : w1.frozen? ⟨w.heap.size, 1, none⟩ = false := bkcf (v := .slice none 0 0) hb1
  have hB : Below w.heap.size w w1 := bthen (by repeat (first | exact Below.refl _ _ | exact hB | refine Below.drew ?_ | refine below_drewN ?_ _ | refine bset ?_ (by simp <;> omega) _ | refine bal ?_ _)) hb1
  have hz : w.heap.size ≤ w1.heap.size := hB.size
  have HI1 := Lib.hid hi1
  obtain ⟨n1, a1, c1, l1, rfl, -⟩ := hi1
  unfold iv at *
  go_wp2_with fail
  refine (sc _ _ HI1.out).mono ?_
  rintro e w2 ⟨⟨v2, rfl, hi2⟩, hb2⟩
  have r0 : w2.cell? ⟨w.heap.size, 0, none⟩ = some (.bool false) := bkc hb2
  have zr0 := cell_lt r0
  have r0f : w2.frozen? ⟨w.heap.size, 0, none⟩ = false := bkcf (v := .bool false) hb2
  have r1 : w2.cell? ⟨w.heap.size, 1, none⟩ = some (.slice none 0 0) := bkc hb2
  have r1f : w2.frozen? ⟨w.heap.size, 1, none⟩ = false := bkcf (v := .slice none 0 0) hb2
  have hB : Below w.heap.size w w2 := bthen (by repeat (first | exact Below.refl _ _ | exact hB | refine Below.drew ?_ | refine below_drewN ?_ _ | refine bset ?_ (by simp <;> omega) _ | refine bal ?_ _)) hb2
  have hz : w.heap.size ≤ w2.heap.size := hB.size
  rw [HE.out] at hi2
  have HI2 := Lib.hid (hi2.put2 r0 r1)
  obtain ⟨n2, a2, c2, l2, rfl, -⟩ := hi2
  have zr1 : w.heap.size < w2.heap.size + 1 := by omega
  unfold iv at *
  clear oc sc
  go_wp2
  refine bodyPost_ret (v := .agg #[.bool n2, .slice a2 l2.length c2]) (by simp [results, Tryz.results138, go_sem, *]) rfl ⟨⟨_, rfl, ?_⟩, ?_⟩
  · refine IsInt.keep (HI2.out (.bool n2) (.slice a2 l2.length c2)) ?_
    repeat (first | exact Below.refl _ _ | exact hB | refine Below.drew ?_ | refine below_drewN ?_ _ | refine bset ?_ (by simp <;> omega) _ | refine bal ?_ _)
  ·
    repeat (first | exact Below.refl _ _ | exact hB | refine Below.drew ?_ | refine below_drewN ?_ _ | refine bset ?_ (by simp <;> omega) _ | refine bal ?_ _)
set_option maxRecDepth 100000 in
set_option maxHeartbeats 2000000 in
theorem nover_yes (va vc : Value) (a c : Int) (k : Nat) (w : World) (hx : IsInt w va a) (hy : IsInt w vc c) (bx : Bd k a) (bY : Bd k c) (hk : k ≤ 17179869184) (h0 : c ≠ 0) (hd : a % c = 0) :
    Calls Tryz.prog 103 #[va, vc] w (AnsP (some (a / c)) w) := by
  have dc := fun W (h : Below w.heap.size w W) => divmod_c va vc a c k W (hx.keep h) (hy.keep h) bx bY hk h0
  obtain ⟨n1, a1, c1, l1, rfl, -⟩ := hx
  obtain ⟨n2, a2, c2, l2, rfl, -⟩ := hy
  unfold iv at *
  have HD := Lib.hid hd
  clear bx bY hk h0 hd
  have hB := Below.refl w.heap.size w
  go_enter Tryz.func103, Tryz.ntmps103
  go_wp2_with fail
  refine (dc _ (by repeat (first | exact Below.refl _ _ | exact hB | refine Below.drew ?_ | refine below_drewN ?_ _ | refine bset ?_ (by simp <;> omega) _ | refine bal ?_ _))).mono ?_
  rintro e w1 ⟨⟨u, v, rfl, hu, hv⟩, hb1⟩
  have r0 : w1.cell? ⟨w.heap.size + 2, 0, none⟩ = some (.bool false) := bkc hb1
  have zr0 := cell_lt r0
  have r0f : w1.frozen? ⟨w.heap.size + 2, 0, none⟩ = false := bkcf (v := .bool false) hb1
  have r1 : w1.cell? ⟨w.heap.size + 2, 1, none⟩ = some (.slice none 0 0) := bkc hb1
  have r1f : w1.frozen? ⟨w.heap.size + 2, 1, none⟩ = false := bkcf (v := .slice none 0 0) hb1
  have hB : Below w.heap.size w w1 := bthen (by repeat (first | exact Below.refl _ _ | exact hB | refine Below.drew ?_ | refine below_drewN ?_ _ | refine bset ?_ (by simp <;> omega) _ | refine bal ?_ _)) hb1
  have hz : w.heap.size ≤ w1.heap.size := hB.size
  clear dc
  have HU := Lib.hid hu
  have sx := fun W (h : Below w1.heap.size w1 W) => sign_c v _ W (hv.keep h)
  rw [HD.out, Int.sign_zero] at sx
  obtain ⟨nu, au, cu, lu, rfl, -⟩ := hu
  obtain ⟨nv, av, cv, lv, rfl, -⟩ := hv
  unfold iv at *
  have zr1 : w.heap.size + 2 < w1.heap.size + 1 := by omega
  have zr2 : w.heap.size + 2 < w1.heap.size + 1 + 1 := by omega
  go_wp2
  refine wp_name fun w3 hW3 => ?_
  have hb3 : Below w1.heap.size w1 w3 := by rw [hW3]; exact bal (bal (Below.refl _ _) _) _
  have q0 : w3.cell? ⟨w1.heap.size, 0, none⟩ = some (.bool nu) := by rw [hW3]; exact cell_alloc (cell_new rfl rfl) _
  have q1 : w3.cell? ⟨w1.heap.size, 1, none⟩ = some (.slice au lu.length cu) := by rw [hW3]; exact cell_alloc (cell_new rfl rfl) _
  have s0 : w3.cell? ⟨w1.heap.size + 1, 0, none⟩ = some (.bool nv) := by rw [hW3]; exact cell_new (by simp) rfl
  have s1 : w3.cell? ⟨w1.heap.size + 1, 1, none⟩ = some (.slice av lv.length cv) := by rw [hW3]; exact cell_new (by simp) rfl
  clear hW3
  have r0f := bkeepf hb3 r0 r0f
  have r1f := bkeepf hb3 r1 r1f
  replace r0 := bkeep hb3 r0
  replace r1 := bkeep hb3 r1
  have HU3 := Lib.hid (HU.out.keep hb3)
  have sx3 := fun W (h : Below w3.heap.size w3 W) => sx W (bthen hb3 h)
  have hB3 := bthen hB hb3
  have hBw := Below.refl w3.heap.size w3
  clear sx
  go_region_law (go_simp; go_wp2_with (go_at_call 24; refine (sx3 _ ?_).mono ?_; (repeat (first | exact Below.refl _ _ | exact hBw | refine Below.drew ?_ | refine below_drewN ?_ _ | refine bset ?_ (by simp <;> omega) _ | refine bal ?_ _)); rintro e w5 ⟨rfl, hb5⟩; have hB5 : Below w3.heap.size w3 w5 := bthen (by repeat (first | exact Below.refl _ _ | exact hBw | refine Below.drew ?_ | refine below_drewN ?_ _ | refine bset ?_ (by simp <;> omega) _ | refine bal ?_ _)) hb5; have q05 := bkeep hB5 q0; have q15 := bkeep hB5 q1; have r05f := bkeepf hB5 r0 r0f; have r15f := bkeepf hB5 r1 r1f; have r05 := bkeep hB5 r0; have r15 := bkeep hB5 r1))
  all_goals
    go_wp2
    have hB9 := bthen hB3 hB5
    refine bodyPost_ret (v := .tuple #[.agg #[.bool nu, .slice au lu.length cu], .bool true]) (by simp [results, Tryz.results103, go_sem, *]) rfl (ansP_some rfl (HU3.out.keep hB5 |>.put2 r05 r15 _ _) ?_)
    repeat (first | exact Below.refl _ _ | exact hB9 | refine Below.drew ?_ | refine below_drewN ?_ _ | refine bset ?_ (by simp <;> omega) _ | refine bal ?_ _)
set_option maxRecDepth 100000 in
set_option maxHeartbeats 2000000 in
theorem nover_no (va vc : Value) (a c : Int) (k : Nat) (w : World) (hx : IsInt w va a) (hy : IsInt w vc c) (bx : Bd k a) (bY : Bd k c) (hk : k ≤ 17179869184) (h0 : c ≠ 0) (hd : a % c ≠ 0) :
    Calls Tryz.prog 103 #[va, vc] w (AnsP none w) := by
  have dc := fun W (h : Below w.heap.size w W) => divmod_c va vc a c k W (hx.keep h) (hy.keep h) bx bY hk h0
  obtain ⟨n1, a1, c1, l1, rfl, -⟩ := hx
  obtain ⟨n2, a2, c2, l2, rfl, -⟩ := hy
  unfold iv at *
  have HD := Lib.hid hd
  clear bx bY hk h0 hd
  have hB := Below.refl w.heap.size w
  go_enter Tryz.func103, Tryz.ntmps103
  go_wp2_with fail
  refine (dc _ (by repeat (first | exact Below.refl _ _ | exact hB | refine Below.drew ?_ | refine below_drewN ?_ _ | refine bset ?_ (by simp <;> omega) _ | refine bal ?_ _))).mono ?_
  rintro e w1 ⟨⟨u, v, rfl, hu, hv⟩, hb1⟩
  have r0 : w1.cell? ⟨w.heap.size + 2, 0, none⟩ = some (.bool false) := bkc hb1
  have zr0 := cell_lt r0
  have r0f : w1.frozen? ⟨w.heap.size + 2, 0, none⟩ = false := bkcf (v := .bool false) hb1
  have r1 : w1.cell? ⟨w.heap.size + 2, 1, none⟩ = some (.slice none 0 0) := bkc hb1
  have r1f : w1.frozen? ⟨w.heap.size + 2, 1, none⟩ = false := bkcf (v := .slice none 0 0) hb1
  have hB : Below w.heap.size w w1 := bthen (by repeat (first | exact Below.refl _ _ | exact hB | refine Below.drew ?_ | refine below_drewN ?_ _ | refine bset ?_ (by simp <;> omega) _ | refine bal ?_ _)) hb1
  have hz : w.heap.size ≤ w1.heap.size := hB.size
  clear dc
  have HU := Lib.hid hu
  have sx := fun W (h : Below w1.heap.size w1 W) => sign_c v _ W (hv.keep h)
  obtain ⟨sg, hsg, hsgE⟩ : ∃ s : Int, s ≠ 0 ∧ (a % c).sign = s := ⟨_, (fun e => HD.out (Int.sign_eq_zero_iff_zero.1 e)), rfl⟩; rw [hsgE] at sx; clear hsgE; have hsb : (sg == 0) = false := by simpa using hsg
  obtain ⟨nu, au, cu, lu, rfl, -⟩ := hu
  obtain ⟨nv, av, cv, lv, rfl, -⟩ := hv
  unfold iv at *
  have zr1 : w.heap.size + 2 < w1.heap.size + 1 := by omega
  have zr2 : w.heap.size + 2 < w1.heap.size + 1 + 1 := by omega
  go_wp2
  refine wp_name fun w3 hW3 => ?_
  have hb3 : Below w1.heap.size w1 w3 := by rw [hW3]; exact bal (bal (Below.refl _ _) _) _
  have q0 : w3.cell? ⟨w1.heap.size, 0, none⟩ = some (.bool nu) := by rw [hW3]; exact cell_alloc (cell_new rfl rfl) _
  have q1 : w3.cell? ⟨w1.heap.size, 1, none⟩ = some (.slice au lu.length cu) := by rw [hW3]; exact cell_alloc (cell_new rfl rfl) _
  have s0 : w3.cell? ⟨w1.heap.size + 1, 0, none⟩ = some (.bool nv) := by rw [hW3]; exact cell_new (by simp) rfl
  have s1 : w3.cell? ⟨w1.heap.size + 1, 1, none⟩ = some (.slice av lv.length cv) := by rw [hW3]; exact cell_new (by simp) rfl
  clear hW3
  have r0f := bkeepf hb3 r0 r0f
  have r1f := bkeepf hb3 r1 r1f
  replace r0 := bkeep hb3 r0
  replace r1 := bkeep hb3 r1
  have HU3 := Lib.hid (HU.out.keep hb3)
  have sx3 := fun W (h : Below w3.heap.size w3 W) => sx W (bthen hb3 h)
  have hB3 := bthen hB hb3
  have hBw := Below.refl w3.heap.size w3
  clear sx
  go_region_law (go_simp; go_wp2_with (go_at_call 24; refine (sx3 _ ?_).mono ?_; (repeat (first | exact Below.refl _ _ | exact hBw | refine Below.drew ?_ | refine below_drewN ?_ _ | refine bset ?_ (by simp <;> omega) _ | refine bal ?_ _)); rintro e w5 ⟨rfl, hb5⟩; have hB5 : Below w3.heap.size w3 w5 := bthen (by repeat (first | exact Below.refl _ _ | exact hBw | refine Below.drew ?_ | refine below_drewN ?_ _ | refine bset ?_ (by simp <;> omega) _ | refine bal ?_ _)) hb5; have q05 := bkeep hB5 q0; have q15 := bkeep hB5 q1; have r05f := bkeepf hB5 r0 r0f; have r15f := bkeepf hB5 r1 r1f; have r05 := bkeep hB5 r0; have r15 := bkeep hB5 r1))
  all_goals
    go_wp2
    have hB9 := bthen hB3 hB5
    refine bodyPost_ret (v := .tuple #[.agg #[.bool nu, .slice au lu.length cu], .bool false]) (by simp [results, Tryz.results103, go_sem, *]) rfl (ansP_none rfl (HU3.out.keep hB5 |>.put2 r05 r15 _ _) ?_)
    repeat (first | exact Below.refl _ _ | exact hB9 | refine Below.drew ?_ | refine below_drewN ?_ _ | refine bset ?_ (by simp <;> omega) _ | refine bal ?_ _)
end Go.Proofs.YtdllbdfchloijaaGreatDoor

/- exact: a new row of noughts, into which a row of numbers is copied. -/
namespace Go.Proofs.YtdllbdfchloijaaGreatDoor
open Num
open Go.ChangeShapes Go.WideShapes Go.ChangeAt Go.RowKit
set_option linter.unusedVariables false
set_option linter.unusedSimpArgs false
/-- the registers at first -/
def startN (l : List Int) (R : Nat) : List Int := l ++ List.replicate (R - l.length) 0
theorem startN_len {l : List Int} {R : Nat} (h : l.length ≤ R) : (startN l R).length = R := by simp [startN]; omega
theorem startN_lt {l : List Int} {R j : Nat} (h : j < l.length) : (startN l R).getD j 0 = l.getD j 0 := by
  unfold startN; simp [List.getD_eq_getElem?_getD, List.getElem?_append_left h]
theorem startN_ge {l : List Int} {R j : Nat} (h : l.length ≤ j) : (startN l R).getD j 0 = 0 := by
  unfold startN
  rw [List.getD_eq_getElem?_getD, List.getElem?_append_right h]
  by_cases e : j - l.length < R - l.length
  · simp [e]
  · simp [List.getElem?_replicate, e]
/-- what the outs hold -/
def outsN (outs : List Int) (s : List Int) : List Int := outs.map fun k => s.getD k.toNat 0
section
variable {ops : Array Oper} {o : Oper} {a : Act} {Q : Exit → Act → World → Prop} {w : World} {d x : Operand}
set_option maxRecDepth 100000 in
/-- copy of a row into a new one -/
theorem copy_ints {rest : List Oper} (hgd : o.guard = none) (ho : o.op = .call { callee := .builtin .copy, args := #[d, x], argTypes := #[43, 43] }) {g R c base : Nat} {ad : Option Addr} {l : List Int}
    (hd : a.eval d = .slice (some ⟨g, 0, none⟩) R R) (hs : a.eval x = .slice ad l.length c) (hv : PRow base w (.slice ad l.length c) l) (hl : l.length ≤ R) (hg : w.heap[g]? = some (Obj.cells (zcel R) 50 (0, 0)))
    (h : ∀ n w', IntsF IsInt w' g 0 R (fun j => (startN l R).getD j 0) → Free w' g → typOf w' g = some 50 → Out (fun k => k = g) w w' → wpList Tryz.prog ops Q rest (a.put o.dst n) w') : wpList Tryz.prog ops Q (o :: rest) a w := by
  obtain ⟨i0, z0, hi, hz0, hz1, hz2, hz3⟩ := elInt.info
  obtain ⟨a', c', he, h2, h3, h4⟩ := hv
  obtain ⟨rfl, -, rfl⟩ := Value.slice.inj he
  have hty : typOf w g = some 50 := by unfold typOf; rw [hg]
  have hzs : (zcel R).size = R * 2 := by simp [zcel, size_madeCells]
  have hm : Nat.min l.length R = l.length := Nat.min_eq_left hl
  have key : ∃ n w', (Builtin.copy_ #[43, 43] o.type #[.slice (some ⟨g, 0, none⟩) R R, .slice ad l.length c]).run Tryz.prog w = .ok n w' ∧ IntsF IsInt w' g 0 R (fun j => (startN l R).getD j 0) ∧ Free w' g ∧ typOf w' g = some 50 ∧ Out (fun k => k = g) w w' := by
    rcases h4 with rfl | ⟨b, off, rfl, hb, ht, hi'⟩
    · refine ⟨goInt 0, w, ?_, ?_, ?_, hty, Out.refl _ _⟩
      · cases ad with
        | none => simp [Builtin.copy_, run_underlying Tryz.underlying43, Builtin.lenOf, Builtin.firstCells, sizeOf, typeInfo, hi, storeCells]
        | some q => simp [Builtin.copy_, run_underlying Tryz.underlying43, Builtin.lenOf, Builtin.firstCells, sizeOf, typeInfo, hi, storeCells, loadCells, loadCellsFrom]
      · intro k hk
        obtain ⟨e1, e2⟩ := zcel_at hk
        refine ⟨false, none, 0, 0, by simp [World.cell?, hg, e1], by simp [World.cell?, hg, e2], ?_⟩
        show IsInt w _ ((startN [] R).getD k 0)
        rw [startN_ge (by simp)]; exact isInt_zero _
      · exact ⟨(Array.getElem?_eq_some_iff.1 hg).1, fun j => by simp [World.frozen?, hg]⟩
    · have hl2 : (cellsAt w b off (l.length * 2)).length = l.length * i0.size := by rw [cellsAt_len, hz1]
      have hsrc : ∀ j u, (cellsAt w b off (l.length * 2))[j]? = some u → w.cell? ((⟨b, off, none⟩ : Addr).add j) = some u := cellsAt_at (Below.refl _ _) fun j hj => by obtain ⟨v, hv, _⟩ := intsF_cells hi' j hj; exact ⟨v, hv⟩
      have hf := run_firstCells_some (P := Tryz.prog) w i0.size l.length ⟨b, off, none⟩ l.length c _ hl2 hsrc
      have hst := run_storeCells_at Tryz.prog g 0 _ (cellsAt w b off (l.length * 2)) 0 (zcel R) w hg (by rw [cellsAt_len, hzs]; omega) (cellsAt_all (intsF_cells hi'))
      refine ⟨goInt l.length, w.setRow g ((zcel R).toList.take (0 + 0) ++ cellsAt w b off (l.length * 2) ++ (zcel R).toList.drop (0 + 0 + (cellsAt w b off (l.length * 2)).length)).toArray, by simp [Builtin.copy_, run_underlying Tryz.underlying43, Builtin.lenOf, sizeOf, typeInfo, hi, hm, hf, hst], ?_⟩
      have hh := setRow_heap w g (zcel R) ((zcel R).toList.take (0 + 0) ++ cellsAt w b off (l.length * 2) ++ (zcel R).toList.drop (0 + 0 + (cellsAt w b off (l.length * 2)).length)).toArray _ _ hg
      have hO : Out (fun k => k = g) w (w.setRow g ((zcel R).toList.take (0 + 0) ++ cellsAt w b off (l.length * 2) ++ (zcel R).toList.drop (0 + 0 + (cellsAt w b off (l.length * 2)).length)).toArray) := ⟨rfl, rfl, rfl, by simp [World.setRow], fun k hk hx => setRow_other w g k _ hx⟩
      have hLim : Lim w (w.setRow g ((zcel R).toList.take (0 + 0) ++ cellsAt w b off (l.length * 2) ++ (zcel R).toList.drop (0 + 0 + (cellsAt w b off (l.length * 2)).length)).toArray) := (Kp.out (S := (· ≠ 50)) hO (fun q t hq ht k => by subst hq; rw [hty] at ht; exact k (Option.some.inj ht).symm)).lim (by decide)
      refine ⟨fun k hk => ?_, ⟨(Array.getElem?_eq_some_iff.1 hh).1, fun j => by unfold World.frozen?; rw [show (World.setRow w g _).heap[(⟨g, j, none⟩ : Addr).block]? = _ from hh]; simp⟩, by unfold typOf; rw [hh], hO⟩
      have cel : ∀ j, (w.setRow g ((zcel R).toList.take (0 + 0) ++ cellsAt w b off (l.length * 2) ++ (zcel R).toList.drop (0 + 0 + (cellsAt w b off (l.length * 2)).length)).toArray).cell? ⟨g, j, none⟩ = (cellsAt w b off (l.length * 2) ++ (zcel R).toList.drop (l.length * 2))[j]? := fun j => by
        rw [cell_of_row _ g j _ _ _ hh]; simp [cellsAt_len]
      by_cases e : k < l.length
      · obtain ⟨nb, q, len, cq, k1, k2, k3⟩ := hi' k e
        refine ⟨nb, q, len, cq, ?_, ?_, ?_⟩
        · rw [cel, Nat.zero_add, List.getElem?_append_left (by rw [cellsAt_len]; omega)]; exact cellsAt_get (by omega) k1
        · rw [cel, Nat.zero_add, List.getElem?_append_left (by rw [cellsAt_len]; omega)]; exact cellsAt_get (by omega) k2
        · show IsInt _ _ ((startN l R).getD k 0)
          rw [startN_lt e]; exact lims_int _ _ _ _ k3 hLim
      · obtain ⟨e1, e2⟩ := zcel_at hk
        refine ⟨false, none, 0, 0, ?_, ?_, ?_⟩
        · rw [cel, Nat.zero_add, List.getElem?_append_right (by rw [cellsAt_len]; omega), cellsAt_len, List.getElem?_drop, show l.length * 2 + (k * 2 - l.length * 2) = k * 2 by omega, Array.getElem?_toList]; exact e1
        · rw [cel, Nat.zero_add, List.getElem?_append_right (by rw [cellsAt_len]; omega), cellsAt_len, List.getElem?_drop, show l.length * 2 + (k * 2 + 1 - l.length * 2) = k * 2 + 1 by omega, Array.getElem?_toList]; exact e2
        · show IsInt _ _ ((startN l R).getD k 0)
          rw [startN_ge (by omega)]; exact isInt_zero _
  obtain ⟨n, w', hr, h1, h2, h3, h4⟩ := key
  refine wpList_plain hgd fun K hK => ?_
  unfold Oper.wp
  simp [execOp, ho, resolve, invoke, builtin, hd, hs, hr, Result.andThen]
  exact hK _ _ (h n w' h1 h2 h3 h4)
end
end Go.Proofs.YtdllbdfchloijaaGreatDoor

/- vm: New. -/
namespace Go.Proofs.YtdllbdfchloijaaGreatDoor
open Num
open Go.ChangeShapes Go.WideShapes Go.ChangeAt Go.RowKit
set_option linter.unusedVariables false
set_option linter.unusedSimpArgs false
attribute [local go_sem ↓] Go.wp_at_zero Go.wp_at_succ
/-- blocks fit a program -/
structure FitsG (ins : Int) (g : Grid) : Prop where
  len : (g.length : Int) = ins
  rect : Rect (g.getD 0 []).length g
  m : (g.getD 0 []).length ≤ 4096
abbrev GridV (w : World) (v : Value) (g : Grid) : Prop := IsL 43 (PRow 0) 0 w v g
end Go.Proofs.YtdllbdfchloijaaGreatDoor

/- vm: Next, Done, Outs. -/
namespace Go.Proofs.YtdllbdfchloijaaGreatDoor
open Num
open Go.ChangeShapes Go.WideShapes Go.ChangeAt Go.RowKit
set_option linter.unusedVariables false
set_option linter.unusedSimpArgs false
attribute [local go_sem ↓] Go.wp_at_zero Go.wp_at_succ
section
variable {base b rb rc : Nat} {ins regs : Int} {code : List Ins} {outs : List Int} {g : Grid} {n : Nat}
/-- fresh rows -/
abbrev RowW (base : Nat) := RowO IsInt 50 base
end
end Go.Proofs.YtdllbdfchloijaaGreatDoor

/- vm: Run. -/
namespace Go.Proofs.YtdllbdfchloijaaGreatDoor
open Num
open Go.ChangeShapes Go.WideShapes Go.ChangeAt Go.RowKit
set_option linter.unusedVariables false
set_option linter.unusedSimpArgs false
theorem cs_of {ins regs : Int} {code : List Ins} {outs : List Int} (h : ProgOk ins regs code outs) : Cs code := fun n hn => by
  obtain ⟨h1, h2, h3, h4, h5, h6, _⟩ := (mayB_iff ..).1 (h.cs n hn)
  constructor
  · intro e; rw [constB_mul (.inl e)] at h6; have := of_decide_eq_true h6; omega
  · intro e; rw [constB_shift (.inl e)] at h6; have := of_decide_eq_true h6; omega
theorem ins_of {ins regs : Int} {code : List Ins} {outs : List Int} (h : ProgOk ins regs code outs) {n : Nat} (hn : n < code.length) : InsOk (code.getD n default) regs.toNat := by
  have h1 := h.i1; have h2 := h.i2
  refine insOk_of ?_ (by omega)
  rw [show ((regs.toNat : Nat) : Int) = regs by omega]; exact h.cs n hn
end Go.Proofs.YtdllbdfchloijaaGreatDoor

/- Ranges over functions, in the plain walk: a law in the wide fence, and what its users need. -/
namespace Go.Proofs.YtdllbdfchloijaaGreatDoor
open Go.ChangeShapes Go.WideShapes Go.ChangeAt Go.RowKit
set_option linter.unusedVariables false

theorem calls_of_wp_marks {P : Program} {f : FuncId} {fn : Func} {c : Code} {args : Array Value} {w : World} {R : Ending → World → Prop}
    (hf : P.funcs[f]? = some fn) (hb : fn.body = some c)
    (h : c.wp P (bodyPostM Fence.wide 9 P fn R) { tmps := args ++ Array.replicate (fn.ntmps - args.size) undef, defers := [] } w) : Calls P f args w R :=
  callsIn_wide.1 (callsIn_of_wp_marks (F := Fence.wide) (n := 9) hf hb trivial (wpIn_wide.2 h) rfl)
theorem roundIn_wide {n m : Nat} {P : Program} {l : Nat} {f : FuncId} {tmps : Array Value} {assign body : Code} {w : World} {R : Ending → World → Prop} (h : RoundIn Fence.wide n P l f tmps assign body w R) : RoundIn Fence.wide m P l f tmps assign body w R :=
  ⟨h.1, fun c cs _ => h.2 c cs (room_wide _)⟩
theorem yieldAt_wide {n m : Nat} {P : Program} {l : Nat} {args : Array Value} {W : World} {R : Ending → World → Prop} (h : YieldAt Fence.wide n P l args W R) : YieldAt Fence.wide m P l args W R := by
  obtain ⟨fn, tmps, assign, body, hy, hR⟩ := h
  exact ⟨fn, tmps, assign, body, hy, roundIn_wide hR⟩

/-- every row of cells lies as it lay; below B everything -/
structure Soft (B : Nat) (W W' : World) : Prop where
  below : Below B W W'
  cells : ∀ (k : Nat) (o : Obj), W.heap[k]? = some o → o.isCells = true → W'.heap[k]? = some o
theorem soft_of_grown {B : Nat} {W W' : World} {row : Option Nat} (hB : B ≤ W.heap.size) (hg : W.grownBy W' row) (hr : ∀ r, row = some r → B ≤ r ∧ ∃ o : Obj, W.heap[r]? = some o ∧ o.isCells = false) : Soft B W W' := by
  refine ⟨(Below.refl B W).grown hg hB (fun k e => (hr k e).1), fun k o hk ho => ?_⟩
  refine (hg.block k (Array.getElem?_eq_some_iff.1 hk).1 (fun e => ?_)).trans hk
  obtain ⟨_, o', ho', hc⟩ := hr k e.symm
  rw [hk] at ho'; cases ho'; rw [ho] at hc; cases hc
theorem Soft.block {B : Nat} {W W' : World} (h : Soft B W W') {p : Addr} {v : Value} (hv : W.cell? p = some v) : W'.heap[p.block]? = W.heap[p.block]? := by
  unfold World.cell? at hv
  split at hv
  · rename_i c t f e
    rw [e]; exact h.cells _ _ e rfl
  · cases hv
theorem Soft.cell {B : Nat} {W W' : World} (h : Soft B W W') {p : Addr} {v : Value} (hv : W.cell? p = some v) : W'.cell? p = some v :=
  (World.cell?_of_block (h.block hv)).trans hv
theorem Soft.frozen {B : Nat} {W W' : World} (h : Soft B W W') {p : Addr} {v : Value} (hv : W.cell? p = some v) (hf : W.frozen? p = false) : W'.frozen? p = false :=
  (World.frozen?_of_block (h.block hv)).trans hf

/-! what a round's body keeps -/
/-- THE LAW: an iterator that tells the list L, or is left; the loop's variable may be boxed (Ax). -/
theorem wp_rangeK {P : Program} {α : Type} {g : Operand} {ps : Array Tmp} {assign body : Code} {Q : Exit → Act → World → Prop} {a : Act} {w : World}
    {gf : Nat} {lb : Array Value} (hg : a.eval g = .func (.func gf) #[] lb) (eg : ∀ args w, (callFunc gf args).run P w = .ok (.enter gf args) w)
    {encs : α → Array Value} {L : List α} {N : Nat} {Kp : World → World → Prop} {w0 : World} (hseq : SeqStopsK Fence.wide 8 P gf lb encs Kp (· = L) (· <+: L) N w0)
    (hKt : ∀ {A B C : World}, Kp A B → Kp B C → Kp A C) (hKb : ∀ (W : World) (l : Nat) (o o' : Obj), w.heap.size ≤ l → W.heap[l]? = some o → o.isCells = false → o.isWalk = false → Kp W (W.putObj l o'))
    (hb0 : Below w0.heap.size w0 w) (hps : ∀ x, (encs x).size = ps.size)
    (I : List α → World → Prop) (Ix : Code → List α → World → Prop) (hI : ∀ pre W W', I pre W → Soft w.heap.size W W' → I pre W') (hIx : ∀ c pre W W', Ix c pre W → Soft w.heap.size W W' → Ix c pre W')
    (hsz : ∀ pre W, I pre W → w.heap.size ≤ W.heap.size) (hszx : ∀ c pre W, Ix c pre W → w.heap.size ≤ W.heap.size) (h0 : I [] w)
    (Ax : Array Value → α → Act → World → Prop) (hAx : ∀ x a' W W', Ax a.tmps x a' W → Soft w.heap.size W W' → Ax a.tmps x a' W') (hAsz : ∀ x a' W, Ax a.tmps x a' W → w.heap.size ≤ W.heap.size)
    (hassign : ∀ (l : Nat) (pre : List α) (x : α) (W : World) (K : Act → World → Prop), I pre W → (∀ a' W', KeepsFrom w.heap.size W W' → Kp W W' → I pre W' → Ax a.tmps x a' W' → K a' W') →
      assign.wpIn (Fence.wide.inRound l) 7 P (Exit.then K (fun _ _ _ => False)) { tmps := (ps.zip (encs x)).foldl (fun t (p, v) => t.setIfInBounds p v) a.tmps, defers := [] } W)
    (hbody : ∀ (l : Nat) (pre : List α) (x : α) (a' : Act) (W : World), I pre W → Ax a.tmps x a' W → pre.length < N → body.wpIn (Fence.wide.inRound l) 7 P (ownPostG w.heap.size Kp I Ix (pre ++ [x]) W) a' W)
    (hdone : ∀ (D : Nat) (W : World), w.heap.size ≤ D → I L W → W.heap[D]? = some (.deferred (some [])) → Q .normal { a with defers := { target := .collected D, args := #[] } :: a.defers } W)
    (hstop : ∀ (D : Nat) (c : Code) (pre : List α) (W : World), w.heap.size ≤ D → pre <+: L → Ix c pre W → W.heap[D]? = some (.deferred (some [])) → c.wp P Q { a with defers := { target := .collected D, args := #[] } :: a.defers } W) :
    (Code.rangeFunc g ps assign body).wp P Q a w := by
  refine (wpIn_wide (n := 9)).1 ?_
  refine wpIn_rangeFunc_ownH (F := Fence.wide) rfl (by omega) hg trivial eg hseq hKt hKb hb0 hps I Ix ?_ ?_ h0 (Ax a.tmps) ?_ hassign
    (fun l pre x a' W _ _ hi hax hl => hbody l pre x a' W hi hax hl) (fun D xs W hD hx hi hk => by subst hx; exact hdone D W hD hi hk) (fun D c pre W hD hp hi hk => wpIn_wide.2 (hstop D c pre W hD hp hi hk))
  · intro pre W W' row hi hg' hr
    exact hI pre W W' hi (soft_of_grown (hsz _ _ hi) hg' hr)
  · intro c pre W W' row hi hg' hr
    exact hIx c pre W W' hi (soft_of_grown (hszx _ _ _ hi) hg' hr)
  · intro x a' u W W' row hi hg' hr
    exact hAx x a' W W' hi (soft_of_grown (hAsz _ _ _ hi) hg' hr)

theorem b_put {a W : World} (h : Below a.heap.size a W) {D : Nat} (hD : a.heap.size ≤ D) (o : Obj) : Below a.heap.size a (W.putObj D o) :=
  h.grown (grownBy_putObj' W D o) h.size (fun k e => by cases e; exact hD)

/-! ### A region that draws its order, in a round: one walk in the text's order -/
section
variable {P : Program} {ops : Array Oper} {C : World → Prop} {l n : Nat}
end
end Go.Proofs.YtdllbdfchloijaaGreatDoor

/- Ranges over functions whose told values lie in memory: what is told is known to be right where it is told. -/
namespace Go.Proofs.YtdllbdfchloijaaGreatDoor
open Go.ChangeShapes Go.WideShapes Go.ChangeAt Go.RowKit
set_option linter.unusedVariables false
set_option linter.unusedSimpArgs false
/-- blocks outside X lie as they lay; those of X are of the types that they were of -/
def OutT (X : Nat → Prop) (a b : World) : Prop := Out X a b ∧ ∀ q, X q → q < a.heap.size → typOf b q = typOf a q
end Go.Proofs.YtdllbdfchloijaaGreatDoor

