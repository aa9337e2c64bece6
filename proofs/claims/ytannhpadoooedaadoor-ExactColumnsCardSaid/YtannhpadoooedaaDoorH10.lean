/- ExactColumns: a program is judged exact just if it runs on every column. -/
import Derived.Test.YtannhpadoooedaaDoorH05
import Derived.Test.YtannhpadoooedaaDoorH08
import Derived.Test.YtannhpadoooedaaDoorH09
import Derived.Deep.LoopGhost
set_option linter.unusedVariables false
set_option linter.unusedSimpArgs false
namespace Go.Proofs.YtannhpadoooedaaDoor
open Num
open Go.ChangeShapes Go.WideShapes Go.ChangeAt Go.RowKit
set_option linter.unusedVariables false
set_option linter.unusedSimpArgs false
attribute [local go_sem ↓] Go.wp_at_zero Go.wp_at_succ
/-- int64s as values -/
def IsI64 (w : World) (v : Value) (x : Int) : Prop := v = .int .i64 x
theorem prs_i64 : Prs (fun _ => False) IsI64 := ⟨fun h => by cases h; rfl, fun h _ => h⟩
theorem infoI64 : (Tryd.prog.info? 2).map (fun i => (i.zero, i.size, i.bytes)) = some (some (.int .i64 0), 1, 8) := by kernel_rfl
theorem elI64 : Elt Tryd.prog 42 2 1 8 := Elt.mk' Tryd.underlying42 infoI64 rfl (by decide) (by decide)
/-- a row of int64s of the call's own, as one that came in -/
theorem OwnL.rowI {w0 w : World} {v : Value} {l : List Int} (h : OwnL 2 IsI64 w0 w v l) (hl : ∀ k, k < l.length → I64 (l.getD k 0)) : RowI w v l := by
  obtain ⟨a, c, rfl, -, hv⟩ := h.isL.view
  refine ⟨a, c, rfl, fun k hk => ?_⟩
  obtain ⟨b, off, u, rfl, hc, hu⟩ := hv k hk
  cases hu
  exact ⟨b, off, rfl, by rw [hc]; simp [hk], hl k hk⟩
/-- Run's answer: a list, an int, an error -/
theorem exRunRes {ins regs : Int} {code : List Ins} {outs l : List Int} {w : World} {e : Ending} {w' : World} (hok : ProgOk ins regs code outs) (hl : (l.length : Int) = ins) (h : ExRunPost ins regs code outs l w e w') :
    ((∃ (m : Nat) (s : List Int), m < code.length ∧ afterN code (startN l regs.toNat) m = some s ∧ afterN code (startN l regs.toNat) (m + 1) = none ∧ e = .returned (.tuple #[.slice none 0 0, .int .i64 m, .int .i64 20])) ∨
     (∃ (s : List Int) (a : Option Addr) (n c : Nat), afterN code (startN l regs.toNat) code.length = some s ∧ e = .returned (.tuple #[.slice a n c, .int .i64 0, .int .i64 0]))) ∧ Below w.heap.size w w' := by
  obtain ⟨h, hB⟩ := h
  refine ⟨?_, hB⟩
  rcases h with ⟨h1, _⟩ | ⟨_, h2, _⟩ | ⟨_, _, m, s, h3, h4, h5, rfl⟩ | ⟨_, _, s, v, h3, rfl, h4⟩
  · exact absurd hok h1
  · exact absurd hl h2
  · exact .inl ⟨m, s, h3, h4, h5, rfl⟩
  · obtain ⟨a, c, rfl, _⟩ := h4.view
    exact .inr ⟨s, a, _, c, h3, rfl⟩
/-- Judge's answer, where the program may be and the grid fits -/
theorem judgeRes {ins regs : Int} {code : List Ins} {outs : List Int} {g : Grid} {w : World} {e : Ending} {w' : World} (hok : ProgOk ins regs code outs) (hf : FitsG ins g) (h : JudgePost ins regs code outs g w e w') :
    (∃ (k x : Int), e = .returned (.tuple #[.int .i64 k, .int .i64 x]) ∧ Hid ((∃ (q : Nat) (h : Grid), q < code.length ∧ after code (startG g regs.toNat (g.getD 0 []).length) q = some h ∧ after code (startG g regs.toNat (g.getD 0 []).length) (q + 1) = none ∧ k = q ∧ x = 20) ∨ (∃ h : Grid, after code (startG g regs.toNat (g.getD 0 []).length) code.length = some h ∧ k = 0 ∧ x = 0))) ∧ Below w.heap.size w w' := by
  obtain ⟨h, hB⟩ := h
  refine ⟨?_, hB⟩
  rcases h with ⟨h1, _⟩ | ⟨_, h2, _⟩ | ⟨_, _, q, s, h3, h4, h5, rfl⟩ | ⟨_, _, s, h3, rfl⟩
  · exact absurd hok h1
  · exact absurd hf h2
  · exact ⟨_, _, rfl, Lib.hid (.inl ⟨q, s, h3, h4, h5, rfl, rfl⟩)⟩
  · exact ⟨_, _, rfl, Lib.hid (.inr ⟨s, h3, rfl, rfl⟩)⟩
set_option maxRecDepth 100000 in
set_option maxHeartbeats 32000000 in
theorem exactColumns_h (ins regs : Int) (ca oa : Option Addr) (cc oc : Nat) (code : List Ins) (outs : List Int) (v : Value) (g : Grid) (w : World) (hc : InsV w ca cc code) (ho : IntsV w oa oc outs) (hg : GridI w v g)
    (hl : ∀ k, k < g.length → (g.getD k []).length ≤ 1152921504606846976) :
    Calls Tryd.prog 5 #[.agg #[.int .i64 ins, .int .i64 regs, .slice ca code.length cc, .slice oa outs.length oc], v] w fun e w' => e = .returned (.bool true) ∧ Below w.heap.size w w' := by
  have lc := fun W (h : Below w.heap.size w W) => long10_c ins regs ca oa cc outs.length oc code v (.slice none 0 0) g 0 W (hc.keep h) (hg.keep h) hl ⟨_, _, rfl⟩ (by omega)
  have rc := fun W (h : Below w.heap.size w W) => rright_c ins regs ca oa cc oc code outs W (hc.keep h) (ho.keep h)
  have HC := Lib.hid (And.intro hc ho)
  have HG := Lib.hid hg
  have HBD := Lib.hid hg.bd
  obtain ⟨ga, gc, rfl, hgv⟩ := hg
  have HGV := Lib.hid hgv
  clear hc ho hgv hl
  have hB := Below.refl w.heap.size w
  go_enter Tryd.func5, Tryd.ntmps5
  go_wp2_with fail
  refine (live_c _).mono ?_
  rintro e w1 ⟨rfl, hb1⟩
  have p0 : w1.cell? ⟨w.heap.size, 0, none⟩ = some (.int .i64 ins) := bkeep hb1 (by first | assumption | exact cell_new (by with_reducible first | rfl | (simp; done) | (simp; omega)) rfl | (repeat (first | assumption | exact cell_new (by with_reducible first | rfl | (simp; done) | (simp; omega)) rfl | refine cell_alloc ?_ _ | refine cell_drew ?_ | refine cell_drewN ?_ _ | refine cell_far ?_ (by simp) _ | (refine cell_far ?_ (by simp <;> omega) _))) | simp [go_sem, *])
  have zp0 := cell_lt p0
  have p1 : w1.cell? ⟨w.heap.size, 1, none⟩ = some (.int .i64 regs) := bkeep hb1 (by first | assumption | exact cell_new (by with_reducible first | rfl | (simp; done) | (simp; omega)) rfl | (repeat (first | assumption | exact cell_new (by with_reducible first | rfl | (simp; done) | (simp; omega)) rfl | refine cell_alloc ?_ _ | refine cell_drew ?_ | refine cell_drewN ?_ _ | refine cell_far ?_ (by simp) _ | (refine cell_far ?_ (by simp <;> omega) _))) | simp [go_sem, *])
  have p2 : w1.cell? ⟨w.heap.size, 2, none⟩ = some (.slice ca code.length cc) := bkeep hb1 (by first | assumption | exact cell_new (by with_reducible first | rfl | (simp; done) | (simp; omega)) rfl | (repeat (first | assumption | exact cell_new (by with_reducible first | rfl | (simp; done) | (simp; omega)) rfl | refine cell_alloc ?_ _ | refine cell_drew ?_ | refine cell_drewN ?_ _ | refine cell_far ?_ (by simp) _ | (refine cell_far ?_ (by simp <;> omega) _))) | simp [go_sem, *])
  have p3 : w1.cell? ⟨w.heap.size, 3, none⟩ = some (.slice oa outs.length oc) := bkeep hb1 (by first | assumption | exact cell_new (by with_reducible first | rfl | (simp; done) | (simp; omega)) rfl | (repeat (first | assumption | exact cell_new (by with_reducible first | rfl | (simp; done) | (simp; omega)) rfl | refine cell_alloc ?_ _ | refine cell_drew ?_ | refine cell_drewN ?_ _ | refine cell_far ?_ (by simp) _ | (refine cell_far ?_ (by simp <;> omega) _))) | simp [go_sem, *])
  have hB : Below w.heap.size w w1 := bthen (by repeat (first | exact Below.refl _ _ | exact hB | refine Below.drew ?_ | refine below_drewN ?_ _ | refine bset ?_ (by simp <;> omega) _ | refine bal ?_ _)) hb1
  have hz : w.heap.size ≤ w1.heap.size := hB.size
  go_wp2_with fail
  refine (lc _ (by repeat (first | exact Below.refl _ _ | exact hB | refine Below.drew ?_ | refine below_drewN ?_ _ | refine bset ?_ (by simp <;> omega) _ | refine bal ?_ _))).mono ?_
  rintro e w2 ⟨b2, rfl, hs2, hb2⟩
  have p0 : w2.cell? ⟨w.heap.size, 0, none⟩ = some (.int .i64 ins) := bkeep hb2 (by first | assumption | exact cell_new (by with_reducible first | rfl | (simp; done) | (simp; omega)) rfl | (repeat (first | assumption | exact cell_new (by with_reducible first | rfl | (simp; done) | (simp; omega)) rfl | refine cell_alloc ?_ _ | refine cell_drew ?_ | refine cell_drewN ?_ _ | refine cell_far ?_ (by simp) _ | (refine cell_far ?_ (by simp <;> omega) _))) | simp [go_sem, *])
  have zp0 := cell_lt p0
  have p1 : w2.cell? ⟨w.heap.size, 1, none⟩ = some (.int .i64 regs) := bkeep hb2 (by first | assumption | exact cell_new (by with_reducible first | rfl | (simp; done) | (simp; omega)) rfl | (repeat (first | assumption | exact cell_new (by with_reducible first | rfl | (simp; done) | (simp; omega)) rfl | refine cell_alloc ?_ _ | refine cell_drew ?_ | refine cell_drewN ?_ _ | refine cell_far ?_ (by simp) _ | (refine cell_far ?_ (by simp <;> omega) _))) | simp [go_sem, *])
  have p2 : w2.cell? ⟨w.heap.size, 2, none⟩ = some (.slice ca code.length cc) := bkeep hb2 (by first | assumption | exact cell_new (by with_reducible first | rfl | (simp; done) | (simp; omega)) rfl | (repeat (first | assumption | exact cell_new (by with_reducible first | rfl | (simp; done) | (simp; omega)) rfl | refine cell_alloc ?_ _ | refine cell_drew ?_ | refine cell_drewN ?_ _ | refine cell_far ?_ (by simp) _ | (refine cell_far ?_ (by simp <;> omega) _))) | simp [go_sem, *])
  have p3 : w2.cell? ⟨w.heap.size, 3, none⟩ = some (.slice oa outs.length oc) := bkeep hb2 (by first | assumption | exact cell_new (by with_reducible first | rfl | (simp; done) | (simp; omega)) rfl | (repeat (first | assumption | exact cell_new (by with_reducible first | rfl | (simp; done) | (simp; omega)) rfl | refine cell_alloc ?_ _ | refine cell_drew ?_ | refine cell_drewN ?_ _ | refine cell_far ?_ (by simp) _ | (refine cell_far ?_ (by simp <;> omega) _))) | simp [go_sem, *])
  have hB : Below w.heap.size w w2 := bthen (by repeat (first | exact Below.refl _ _ | exact hB | refine Below.drew ?_ | refine below_drewN ?_ _ | refine bset ?_ (by simp <;> omega) _ | refine bal ?_ _)) hb2
  have hz : w.heap.size ≤ w2.heap.size := hB.size
  clear lc
  cases b2 with
  | true =>
    go_wp2
    go_ret
    exact ⟨rfl, by repeat (first | exact Below.refl _ _ | exact hB | refine Below.drew ?_ | refine below_drewN ?_ _ | refine bset ?_ (by simp <;> omega) _ | refine bal ?_ _)⟩
  | false =>
    have HSH := Lib.hid (hs2.out rfl)
    have hgl : sumG g + g.length ≤ 400 := by have := HSH.out.1; omega
    clear hs2
    have gx := fun W (h : Below w.heap.size w W) => grids10_c (.slice ga g.length gc) g W (HG.out.keep h) hgl
    go_wp2_with fail
    refine (gx _ (by repeat (first | exact Below.refl _ _ | exact hB | refine Below.drew ?_ | refine below_drewN ?_ _ | refine bset ?_ (by simp <;> omega) _ | refine bal ?_ _))).mono ?_
    rintro e w3 ⟨⟨va, vb, f3, rfl, hf3, hO3, hQ3⟩, hb3⟩
    have p0 : w3.cell? ⟨w.heap.size, 0, none⟩ = some (.int .i64 ins) := bkeep hb3 (by first | assumption | exact cell_new (by with_reducible first | rfl | (simp; done) | (simp; omega)) rfl | (repeat (first | assumption | exact cell_new (by with_reducible first | rfl | (simp; done) | (simp; omega)) rfl | refine cell_alloc ?_ _ | refine cell_drew ?_ | refine cell_drewN ?_ _ | refine cell_far ?_ (by simp) _ | (refine cell_far ?_ (by simp <;> omega) _))) | simp [go_sem, *])
    have zp0 := cell_lt p0
    have p1 : w3.cell? ⟨w.heap.size, 1, none⟩ = some (.int .i64 regs) := bkeep hb3 (by first | assumption | exact cell_new (by with_reducible first | rfl | (simp; done) | (simp; omega)) rfl | (repeat (first | assumption | exact cell_new (by with_reducible first | rfl | (simp; done) | (simp; omega)) rfl | refine cell_alloc ?_ _ | refine cell_drew ?_ | refine cell_drewN ?_ _ | refine cell_far ?_ (by simp) _ | (refine cell_far ?_ (by simp <;> omega) _))) | simp [go_sem, *])
    have p2 : w3.cell? ⟨w.heap.size, 2, none⟩ = some (.slice ca code.length cc) := bkeep hb3 (by first | assumption | exact cell_new (by with_reducible first | rfl | (simp; done) | (simp; omega)) rfl | (repeat (first | assumption | exact cell_new (by with_reducible first | rfl | (simp; done) | (simp; omega)) rfl | refine cell_alloc ?_ _ | refine cell_drew ?_ | refine cell_drewN ?_ _ | refine cell_far ?_ (by simp) _ | (refine cell_far ?_ (by simp <;> omega) _))) | simp [go_sem, *])
    have p3 : w3.cell? ⟨w.heap.size, 3, none⟩ = some (.slice oa outs.length oc) := bkeep hb3 (by first | assumption | exact cell_new (by with_reducible first | rfl | (simp; done) | (simp; omega)) rfl | (repeat (first | assumption | exact cell_new (by with_reducible first | rfl | (simp; done) | (simp; omega)) rfl | refine cell_alloc ?_ _ | refine cell_drew ?_ | refine cell_drewN ?_ _ | refine cell_far ?_ (by simp) _ | (refine cell_far ?_ (by simp <;> omega) _))) | simp [go_sem, *])
    have hB : Below w.heap.size w w3 := bthen (by repeat (first | exact Below.refl _ _ | exact hB | refine Below.drew ?_ | refine below_drewN ?_ _ | refine bset ?_ (by simp <;> omega) _ | refine bal ?_ _)) hb3
    have hz : w.heap.size ≤ w3.heap.size := hB.size
    have HIN := Lib.hid ((hO3.isL.mono fun u x hr => (hr.row.rebase (Nat.zero_le _))).rebase (Nat.zero_le _) : GridV w3 va g)
    have HEV := Lib.hid hf3
    obtain ⟨a3, c3, rfl⟩ := hO3.ex
    obtain ⟨a4, c4, rfl⟩ := hQ3.ex
    clear hO3 hQ3 hf3 gx
    have hw3 := Below.refl w3.heap.size w3
    go_wp2_with fail
    refine (rc _ (by repeat (first | exact Below.refl _ _ | exact hB | refine Below.drew ?_ | refine below_drewN ?_ _ | refine bset ?_ (by simp <;> omega) _ | refine bal ?_ _))).mono ?_
    rintro e w4 ⟨b4, rfl, hr4, hb4⟩
    have hb34 : Below w3.heap.size w3 w4 := bthen (by repeat (first | exact Below.refl _ _ | exact hw3 | refine Below.drew ?_ | refine below_drewN ?_ _ | refine bset ?_ (by simp <;> omega) _ | refine bal ?_ _)) hb4
    have p0 : w4.cell? ⟨w.heap.size, 0, none⟩ = some (.int .i64 ins) := bkeep hb4 (by first | assumption | exact cell_new (by with_reducible first | rfl | (simp; done) | (simp; omega)) rfl | (repeat (first | assumption | exact cell_new (by with_reducible first | rfl | (simp; done) | (simp; omega)) rfl | refine cell_alloc ?_ _ | refine cell_drew ?_ | refine cell_drewN ?_ _ | refine cell_far ?_ (by simp) _ | (refine cell_far ?_ (by simp <;> omega) _))) | simp [go_sem, *])
    have zp0 := cell_lt p0
    have p1 : w4.cell? ⟨w.heap.size, 1, none⟩ = some (.int .i64 regs) := bkeep hb4 (by first | assumption | exact cell_new (by with_reducible first | rfl | (simp; done) | (simp; omega)) rfl | (repeat (first | assumption | exact cell_new (by with_reducible first | rfl | (simp; done) | (simp; omega)) rfl | refine cell_alloc ?_ _ | refine cell_drew ?_ | refine cell_drewN ?_ _ | refine cell_far ?_ (by simp) _ | (refine cell_far ?_ (by simp <;> omega) _))) | simp [go_sem, *])
    have p2 : w4.cell? ⟨w.heap.size, 2, none⟩ = some (.slice ca code.length cc) := bkeep hb4 (by first | assumption | exact cell_new (by with_reducible first | rfl | (simp; done) | (simp; omega)) rfl | (repeat (first | assumption | exact cell_new (by with_reducible first | rfl | (simp; done) | (simp; omega)) rfl | refine cell_alloc ?_ _ | refine cell_drew ?_ | refine cell_drewN ?_ _ | refine cell_far ?_ (by simp) _ | (refine cell_far ?_ (by simp <;> omega) _))) | simp [go_sem, *])
    have p3 : w4.cell? ⟨w.heap.size, 3, none⟩ = some (.slice oa outs.length oc) := bkeep hb4 (by first | assumption | exact cell_new (by with_reducible first | rfl | (simp; done) | (simp; omega)) rfl | (repeat (first | assumption | exact cell_new (by with_reducible first | rfl | (simp; done) | (simp; omega)) rfl | refine cell_alloc ?_ _ | refine cell_drew ?_ | refine cell_drewN ?_ _ | refine cell_far ?_ (by simp) _ | (refine cell_far ?_ (by simp <;> omega) _))) | simp [go_sem, *])
    have hB : Below w.heap.size w w4 := bthen (by repeat (first | exact Below.refl _ _ | exact hB | refine Below.drew ?_ | refine below_drewN ?_ _ | refine bset ?_ (by simp <;> omega) _ | refine bal ?_ _)) hb4
    have hz : w.heap.size ≤ w4.heap.size := hB.size
    have hw4 := Below.refl w4.heap.size w4
    have HR4 := Lib.hid hr4
    clear rc hr4
    cases b4 with
    | false =>
      go_wp2_with fail
      refine (live_c _).mono ?_
      rintro e w5 ⟨rfl, hb5⟩
      have p0 : w5.cell? ⟨w.heap.size, 0, none⟩ = some (.int .i64 ins) := bkeep hb5 (by first | assumption | exact cell_new (by with_reducible first | rfl | (simp; done) | (simp; omega)) rfl | (repeat (first | assumption | exact cell_new (by with_reducible first | rfl | (simp; done) | (simp; omega)) rfl | refine cell_alloc ?_ _ | refine cell_drew ?_ | refine cell_drewN ?_ _ | refine cell_far ?_ (by simp) _ | (refine cell_far ?_ (by simp <;> omega) _))) | simp [go_sem, *])
      have zp0 := cell_lt p0
      have p1 : w5.cell? ⟨w.heap.size, 1, none⟩ = some (.int .i64 regs) := bkeep hb5 (by first | assumption | exact cell_new (by with_reducible first | rfl | (simp; done) | (simp; omega)) rfl | (repeat (first | assumption | exact cell_new (by with_reducible first | rfl | (simp; done) | (simp; omega)) rfl | refine cell_alloc ?_ _ | refine cell_drew ?_ | refine cell_drewN ?_ _ | refine cell_far ?_ (by simp) _ | (refine cell_far ?_ (by simp <;> omega) _))) | simp [go_sem, *])
      have p2 : w5.cell? ⟨w.heap.size, 2, none⟩ = some (.slice ca code.length cc) := bkeep hb5 (by first | assumption | exact cell_new (by with_reducible first | rfl | (simp; done) | (simp; omega)) rfl | (repeat (first | assumption | exact cell_new (by with_reducible first | rfl | (simp; done) | (simp; omega)) rfl | refine cell_alloc ?_ _ | refine cell_drew ?_ | refine cell_drewN ?_ _ | refine cell_far ?_ (by simp) _ | (refine cell_far ?_ (by simp <;> omega) _))) | simp [go_sem, *])
      have p3 : w5.cell? ⟨w.heap.size, 3, none⟩ = some (.slice oa outs.length oc) := bkeep hb5 (by first | assumption | exact cell_new (by with_reducible first | rfl | (simp; done) | (simp; omega)) rfl | (repeat (first | assumption | exact cell_new (by with_reducible first | rfl | (simp; done) | (simp; omega)) rfl | refine cell_alloc ?_ _ | refine cell_drew ?_ | refine cell_drewN ?_ _ | refine cell_far ?_ (by simp) _ | (refine cell_far ?_ (by simp <;> omega) _))) | simp [go_sem, *])
      have hB : Below w.heap.size w w5 := bthen (by repeat (first | exact Below.refl _ _ | exact hB | refine Below.drew ?_ | refine below_drewN ?_ _ | refine bset ?_ (by simp <;> omega) _ | refine bal ?_ _)) hb5
      have hz : w.heap.size ≤ w5.heap.size := hB.size
      go_wp2
      go_ret
      exact ⟨rfl, by repeat (first | exact Below.refl _ _ | exact hB | refine Below.drew ?_ | refine below_drewN ?_ _ | refine bset ?_ (by simp <;> omega) _ | refine bal ?_ _)⟩
    | true =>
      have HOK := Lib.hid (show ProgOk ins regs code outs from by have := HR4.out; simpa using this)
      by_cases hle : (g.length : Int) = ins
      · have HLE := Lib.hid hle
        have hleI : ((g.length : Int) != ins) = false := by simp; exact hle
        clear hle
        cases f3 with
        | false =>
          go_wp2_with fail
          refine (live_c _).mono ?_
          rintro e w5 ⟨rfl, hb5⟩
          have p0 : w5.cell? ⟨w.heap.size, 0, none⟩ = some (.int .i64 ins) := bkeep hb5 (by first | assumption | exact cell_new (by with_reducible first | rfl | (simp; done) | (simp; omega)) rfl | (repeat (first | assumption | exact cell_new (by with_reducible first | rfl | (simp; done) | (simp; omega)) rfl | refine cell_alloc ?_ _ | refine cell_drew ?_ | refine cell_drewN ?_ _ | refine cell_far ?_ (by simp) _ | (refine cell_far ?_ (by simp <;> omega) _))) | simp [go_sem, *])
          have zp0 := cell_lt p0
          have p1 : w5.cell? ⟨w.heap.size, 1, none⟩ = some (.int .i64 regs) := bkeep hb5 (by first | assumption | exact cell_new (by with_reducible first | rfl | (simp; done) | (simp; omega)) rfl | (repeat (first | assumption | exact cell_new (by with_reducible first | rfl | (simp; done) | (simp; omega)) rfl | refine cell_alloc ?_ _ | refine cell_drew ?_ | refine cell_drewN ?_ _ | refine cell_far ?_ (by simp) _ | (refine cell_far ?_ (by simp <;> omega) _))) | simp [go_sem, *])
          have p2 : w5.cell? ⟨w.heap.size, 2, none⟩ = some (.slice ca code.length cc) := bkeep hb5 (by first | assumption | exact cell_new (by with_reducible first | rfl | (simp; done) | (simp; omega)) rfl | (repeat (first | assumption | exact cell_new (by with_reducible first | rfl | (simp; done) | (simp; omega)) rfl | refine cell_alloc ?_ _ | refine cell_drew ?_ | refine cell_drewN ?_ _ | refine cell_far ?_ (by simp) _ | (refine cell_far ?_ (by simp <;> omega) _))) | simp [go_sem, *])
          have p3 : w5.cell? ⟨w.heap.size, 3, none⟩ = some (.slice oa outs.length oc) := bkeep hb5 (by first | assumption | exact cell_new (by with_reducible first | rfl | (simp; done) | (simp; omega)) rfl | (repeat (first | assumption | exact cell_new (by with_reducible first | rfl | (simp; done) | (simp; omega)) rfl | refine cell_alloc ?_ _ | refine cell_drew ?_ | refine cell_drewN ?_ _ | refine cell_far ?_ (by simp) _ | (refine cell_far ?_ (by simp <;> omega) _))) | simp [go_sem, *])
          have hB : Below w.heap.size w w5 := bthen (by repeat (first | exact Below.refl _ _ | exact hB | refine Below.drew ?_ | refine below_drewN ?_ _ | refine bset ?_ (by simp <;> omega) _ | refine bal ?_ _)) hb5
          have hz : w.heap.size ≤ w5.heap.size := hB.size
          go_wp2
          go_ret
          exact ⟨rfl, by repeat (first | exact Below.refl _ _ | exact hB | refine Below.drew ?_ | refine below_drewN ?_ _ | refine bset ?_ (by simp <;> omega) _ | refine bal ?_ _)⟩
        | true =>
          have HEV' := Lib.hid (HEV.out.1 rfl)
          clear HEV
          go_wp2_with fail
          refine (live_c _).mono ?_
          rintro e w5 ⟨rfl, hb5⟩
          have p0 : w5.cell? ⟨w.heap.size, 0, none⟩ = some (.int .i64 ins) := bkeep hb5 (by first | assumption | exact cell_new (by with_reducible first | rfl | (simp; done) | (simp; omega)) rfl | (repeat (first | assumption | exact cell_new (by with_reducible first | rfl | (simp; done) | (simp; omega)) rfl | refine cell_alloc ?_ _ | refine cell_drew ?_ | refine cell_drewN ?_ _ | refine cell_far ?_ (by simp) _ | (refine cell_far ?_ (by simp <;> omega) _))) | simp [go_sem, *])
          have zp0 := cell_lt p0
          have p1 : w5.cell? ⟨w.heap.size, 1, none⟩ = some (.int .i64 regs) := bkeep hb5 (by first | assumption | exact cell_new (by with_reducible first | rfl | (simp; done) | (simp; omega)) rfl | (repeat (first | assumption | exact cell_new (by with_reducible first | rfl | (simp; done) | (simp; omega)) rfl | refine cell_alloc ?_ _ | refine cell_drew ?_ | refine cell_drewN ?_ _ | refine cell_far ?_ (by simp) _ | (refine cell_far ?_ (by simp <;> omega) _))) | simp [go_sem, *])
          have p2 : w5.cell? ⟨w.heap.size, 2, none⟩ = some (.slice ca code.length cc) := bkeep hb5 (by first | assumption | exact cell_new (by with_reducible first | rfl | (simp; done) | (simp; omega)) rfl | (repeat (first | assumption | exact cell_new (by with_reducible first | rfl | (simp; done) | (simp; omega)) rfl | refine cell_alloc ?_ _ | refine cell_drew ?_ | refine cell_drewN ?_ _ | refine cell_far ?_ (by simp) _ | (refine cell_far ?_ (by simp <;> omega) _))) | simp [go_sem, *])
          have p3 : w5.cell? ⟨w.heap.size, 3, none⟩ = some (.slice oa outs.length oc) := bkeep hb5 (by first | assumption | exact cell_new (by with_reducible first | rfl | (simp; done) | (simp; omega)) rfl | (repeat (first | assumption | exact cell_new (by with_reducible first | rfl | (simp; done) | (simp; omega)) rfl | refine cell_alloc ?_ _ | refine cell_drew ?_ | refine cell_drewN ?_ _ | refine cell_far ?_ (by simp) _ | (refine cell_far ?_ (by simp <;> omega) _))) | simp [go_sem, *])
          have hB : Below w.heap.size w w5 := bthen (by repeat (first | exact Below.refl _ _ | exact hB | refine Below.drew ?_ | refine below_drewN ?_ _ | refine bset ?_ (by simp <;> omega) _ | refine bal ?_ _)) hb5
          have hz : w.heap.size ≤ w5.heap.size := hB.size
          have hb45 : Below w3.heap.size w3 w5 := bthen hb34 (bthen (by repeat (first | exact Below.refl _ _ | exact hw4 | refine Below.drew ?_ | refine below_drewN ?_ _ | refine bset ?_ (by simp <;> omega) _ | refine bal ?_ _)) hb5)
          have HIN5 := Lib.hid (HIN.out.keep (prs_row lims_int _ _) hb45)
          have h0 : 0 < g.length := by have := HOK.out.i1; have := HLE.out; omega
          obtain ⟨R, hR⟩ : ∃ R : Nat, regs = R := ⟨regs.toNat, by have := HOK.out.i1; have := HOK.out.i2; omega⟩
          subst hR
          have hg0 : g.length ≤ R := by have := HLE.out; have := HOK.out.i2; omega
          have hm4 : (g.getD 0 []).length ≤ 400 := by have := sumG_le h0; omega
          have HFIT := Lib.hid (show FitsG ins g from ⟨HLE.out, HEV'.out, by omega⟩)
          obtain ⟨m, hmE⟩ : ∃ m, (g.getD 0 []).length = m := ⟨_, rfl⟩
          have HRE := Lib.hid (show Rect m g by rw [← hmE]; exact HEV'.out)
          have HGR := Lib.hid hg0
          have HA := Lib.hid (show ∀ n, n < code.length → (code.getD n default).a.toNat < R from fun n hn => by have := (ins_of HOK.out hn).a1; have := (ins_of HOK.out hn).a0; rw [Int.toNat_natCast] at *; omega)
          have HCOL := Lib.hid (show ∀ k j, Bd 64 ((colG g k).getD j 0) from fun k j => by rw [colG_get]; exact HBD.out j k)
          have HMM := Lib.hid hmE
          rw [hmE] at hm4
          obtain ⟨gb, go, u0, rfl, hu0, hr0⟩ := HGV.out 0 h0
          obtain ⟨a0, x0, rfl, hr0⟩ := hr0
          rw [Nat.add_zero, hmE] at hu0
          have HU0 := Lib.hid hu0
          have h0I : (0 : Int) < (g.length : Int) := by omega
          have jc := fun W (h : Below w.heap.size w W) (h5 : Below w5.heap.size w5 W) => exJudge_c ins (R : Int) ca oa cc oc code outs (.slice a3 g.length c3) g 64 W (HC.out.1.keep h) (HC.out.2.keep h) (HIN5.out.keep (prs_row lims_int _ _) h5) (by rw [HMM.out]; omega) HBD.out (by omega)
          have hw5 := Below.refl w5.heap.size w5
          clear hmE hu0 hr0 hg0 HIN
          go_wp2_with fail
          refine (jc _ (by repeat (first | exact Below.refl _ _ | exact hB | refine Below.drew ?_ | refine below_drewN ?_ _ | refine bset ?_ (by simp <;> omega) _ | refine bal ?_ _)) (by repeat (first | exact Below.refl _ _ | exact hw5 | refine Below.drew ?_ | refine below_drewN ?_ _ | refine bset ?_ (by simp <;> omega) _ | refine bal ?_ _))).mono ?_
          rintro e w6 hj
          obtain ⟨⟨k6, x6, rfl, HJ⟩, hb6⟩ := judgeRes HOK.out HFIT.out hj
          rw [Int.toNat_natCast, HMM.out] at HJ
          have hb56 : Below w5.heap.size w5 w6 := bthen (by repeat (first | exact Below.refl _ _ | exact hw5 | refine Below.drew ?_ | refine below_drewN ?_ _ | refine bset ?_ (by simp <;> omega) _ | refine bal ?_ _)) hb6
          replace p0 := bkeep hb56 p0
          replace p1 := bkeep hb56 p1
          replace p2 := bkeep hb56 p2
          replace p3 := bkeep hb56 p3
          have zp06 := cell_lt p0
          replace hB := bthen hB hb56
          clear hj jc
          have hw6 := Below.refl w6.heap.size w6
          go_wp2
          go_loopw [11, 12] (fun L x wr => ∃ k : Nat, k ≤ m ∧ x = .int .i64 k ∧ ∃ Lv : Int, L = .int .i64 Lv ∧ Hid (LeastUp code g R k Lv) ∧ Below w6.heap.size w6 wr) (fun _ x _ => m - (intOf x).toNat)
          case atStart => exact ⟨0, Nat.zero_le _, rfl, -1, rfl, Lib.hid (LeastUp.zero _ _ _), hw6⟩
          case round =>
            obtain ⟨k, hk, rfl, Lv, rfl, hL, hbr⟩ := hrel
            have hBr := bthen hB hbr
            have hu0 := bkeep hBr HU0.out
            have zg0 := cell_lt hu0
            by_cases hlt : k < m
            · have hltI : (k : Int) < (m : Int) := by omega
              obtain ⟨wq, hwq⟩ : ∃ wq, wr = wq := ⟨_, rfl⟩
              rw [hwq] at hbr hBr hu0 zg0 ⊢
              clear hwq
              go_wp2
              go_loopw [13, 14] (fun v x wr => ∃ j : Nat, j ≤ g.length ∧ x = .int .i64 j ∧ Hid (OwnL 2 IsI64 wq wr v ((colG g k).take j))) (fun _ x _ => g.length - (intOf x).toNat)
              case atStart => exact ⟨0, Nat.zero_le _, rfl, Lib.hid (OwnL.nil _ _ (Below.refl _ _))⟩
              case round =>
                obtain ⟨j, hj, rfl, hF⟩ := hrel
                have hbq := hF.out.bel
                have hlk : ((colG g k).take j).length = j := by rw [List.length_take, colG_len]; omega
                obtain ⟨fa, fc, hfv⟩ := hF.out.ex
                rw [hlk] at hfv
                subst hfv
                have HLK := Lib.hid hlk
                have hBq := bthen hBr hbq
                clear hlk
                by_cases hlt2 : j < g.length
                · have hltJ : (j : Int) < (g.length : Int) := by omega
                  obtain ⟨gb2, go2, u, hge, hu, hrow⟩ := HGV.out j hlt2
                  cases hge
                  have hlen := HRE.out j hlt2
                  obtain ⟨ar, xr, rfl, vr⟩ := hrow
                  rw [hlen] at hu vr
                  obtain ⟨rb, ro, rfl, hc, hI⟩ := vr k hlt
                  replace hu := bkeep hBq hu
                  replace hc := bkeep hBq hc
                  have zu := cell_lt hu
                  have zc := cell_lt hc
                  have HT := Lib.hid (take_getD (l := colG g k) 0 (show j < (colG g k).length by rw [colG_len]; exact hlt2))
                  rw [colG_get] at HT
                  obtain ⟨z, hz⟩ : ∃ z, (g.getD j []).getD k 0 = z := ⟨_, rfl⟩
                  rw [hz] at HT hc
                  clear hz hI vr hlen
                  go_wp2_with (at_builtin; refine appL elI64 prs_i64 (fun h => h) (by rfl) (by rfl) (hF.out.below prs_i64 (bal (Below.refl _ _) _)) (u := .int .i64 z) (y := z) rfl (by rfl) (by rfl) (cell_new rfl rfl) (by rw [HLK.out]; omega) (by rw [HLK.out]; unfold maxLen; omega) ?_)
                  intro v' w8 hF8 hk8
                  rw [← HT.out] at hF8
                  have HF8 := Lib.hid hF8
                  clear hF8 hk8
                  go_wp2
                  exact ⟨⟨j + 1, by omega, by go_num, HF8⟩, by simp [intOf]; omega⟩
                · obtain rfl : j = g.length := by omega
                  have hall : (colG g k).take g.length = colG g k := by rw [← colG_len g k, List.take_length]
                  rw [hall] at hF
                  have HCI := Lib.hid (show RowI wr (.slice fa g.length fc) (colG g k) from hF.out.rowI fun j hj => by
                    rw [colG_len] at hj
                    rw [colG_get]
                    obtain ⟨gb2, go2, u, hge, hu, hrow⟩ := HGV.out j hj
                    obtain ⟨ar, xr, -, vr⟩ := hrow
                    obtain ⟨rb, ro, -, -, hI⟩ := vr k (by rw [HRE.out j hj]; exact hlt)
                    exact hI)
                  have rx := fun W (h : Below wr.heap.size wr W) => rows10_c (.slice fa g.length fc) (colG g k) W (HCI.out.keep h) (by rw [colG_len]; omega)
                  have hw8 := Below.refl wr.heap.size wr
                  clear hall
                  go_wp2_with fail
                  refine (rx _ (by repeat (first | exact Below.refl _ _ | exact hw8 | refine Below.drew ?_ | refine below_drewN ?_ _ | refine bset ?_ (by simp <;> omega) _ | refine bal ?_ _))).mono ?_
                  rintro e w8 ⟨v8, v9, rfl, hr8, hr9, hb8⟩
                  have hb8' : Below wr.heap.size wr w8 := bthen (by repeat (first | exact Below.refl _ _ | exact hw8 | refine Below.drew ?_ | refine below_drewN ?_ _ | refine bset ?_ (by simp <;> omega) _ | refine bal ?_ _)) hb8
                  have HCV := Lib.hid (show PRow 0 w8 v8 (colG g k) from hr8.row.rebase (Nat.zero_le _))
                  obtain ⟨a8, n8, c8, rfl⟩ : ∃ a n c, v8 = Value.slice a n c := by obtain ⟨a, c, h⟩ := hr8.ex; exact ⟨a, _, c, h⟩
                  obtain ⟨a9, n9, c9, rfl⟩ : ∃ a n c, v9 = Value.slice a n c := by obtain ⟨a, c, h⟩ := hr9.ex; exact ⟨a, _, c, h⟩
                  have hB8 := bthen hBq hb8'
                  replace p0 := bkeep (bthen hbr (bthen hbq hb8')) p0
                  replace p1 := bkeep (bthen hbr (bthen hbq hb8')) p1
                  replace p2 := bkeep (bthen hbr (bthen hbq hb8')) p2
                  replace p3 := bkeep (bthen hbr (bthen hbq hb8')) p3
                  have ex := fun W (h : Below w8.heap.size w8 W) => exRun_c ins (R : Int) ca oa cc oc code outs (.slice a8 n8 c8) (colG g k) 64 W (HC.out.1.keep (bthen hB8 h)) (HC.out.2.keep (bthen hB8 h)) (HCV.out.keep lims_int h) (by rw [colG_len]; omega) (HCOL.out k) (by omega)
                  have hw9 := Below.refl w8.heap.size w8
                  clear hr8 hr9 rx
                  go_wp2_with fail
                  refine (ex _ (by repeat (first | exact Below.refl _ _ | exact hw9 | refine Below.drew ?_ | refine below_drewN ?_ _ | refine bset ?_ (by simp <;> omega) _ | refine bal ?_ _))).mono ?_
                  rintro e w9 hp
                  obtain ⟨hp, hb9⟩ := exRunRes HOK.out (by rw [colG_len]; exact HLE.out) hp
                  have hb69 : Below w6.heap.size w6 w9 := bthen hbr (bthen hbq (bthen hb8' (bthen (by repeat (first | exact Below.refl _ _ | exact hw9 | refine Below.drew ?_ | refine below_drewN ?_ _ | refine bset ?_ (by simp <;> omega) _ | refine bal ?_ _)) hb9)))
                  clear ex
                  rcases hp with ⟨at', s, g3, g4, g5, rfl⟩ | ⟨s, a10, n10, c10, g3, rfl⟩
                  · rw [Int.toNat_natCast] at g4 g5
                    have HFA := Lib.hid (show FailsAt code g R k at' from ⟨g3, ⟨s, g4⟩, g5⟩)
                    clear g4 g5
                    by_cases e1 : Lv < 0
                    · have HN := Lib.hid (hL.out.new HFA.out (.inl e1))
                      have hq1 : decide (Lv < 0) = true := by simp; omega
                      go_wp2
                      exact ⟨⟨k + 1, by omega, by go_num, _, rfl, HN, by repeat (first | exact Below.refl _ _ | exact hb69 | refine Below.drew ?_ | refine below_drewN ?_ _ | refine bset ?_ (by simp <;> omega) _ | refine bal ?_ _)⟩, by simp [intOf]; omega⟩
                    · have hq1 : decide (Lv < 0) = false := by simp; omega
                      have e3 : 0 ≤ Lv := by omega
                      by_cases e2 : (at' : Int) < Lv
                      · have HN := Lib.hid (hL.out.new HFA.out (.inr e2))
                        have hq2 : decide ((at' : Int) < Lv) = true := by simp; omega
                        go_wp2
                        exact ⟨⟨k + 1, by omega, by go_num, _, rfl, HN, by repeat (first | exact Below.refl _ _ | exact hb69 | refine Below.drew ?_ | refine below_drewN ?_ _ | refine bset ?_ (by simp <;> omega) _ | refine bal ?_ _)⟩, by simp [intOf]; omega⟩
                      · have HN := Lib.hid (hL.out.old HFA.out e3 (by omega))
                        have hq2 : decide ((at' : Int) < Lv) = false := by simp; omega
                        go_wp2
                        exact ⟨⟨k + 1, by omega, by go_num, _, rfl, HN, by repeat (first | exact Below.refl _ _ | exact hb69 | refine Below.drew ?_ | refine below_drewN ?_ _ | refine bset ?_ (by simp <;> omega) _ | refine bal ?_ _)⟩, by simp [intOf]; omega⟩
                  · rw [Int.toNat_natCast] at g3
                    have HG3 := Lib.hid g3
                    have HN := Lib.hid (hL.out.ok (fun m => FailsAt.no HG3.out))
                    clear g3
                    go_wp2
                    exact ⟨⟨k + 1, by omega, by go_num, _, rfl, HN, by repeat (first | exact Below.refl _ _ | exact hb69 | refine Below.drew ?_ | refine below_drewN ?_ _ | refine bset ?_ (by simp <;> omega) _ | refine bal ?_ _)⟩, by simp [intOf]; omega⟩
            · obtain rfl : k = m := by omega
              rcases HJ.out with ⟨q, h', h1, h2, h3, rfl, rfl⟩ | ⟨h', h1, rfl, rfl⟩
              · have hLn : Lv = q := LeastUp.end_fail hL.out HRE.out HGR.out HA.out h1 h2 h3
                subst hLn
                clear hL h2 h3
                have hq1 : ¬ ((q : Int) < 0) := by omega
                go_wp2
                go_ret
                exact ⟨rfl, hBr⟩
              · have hLn : Lv = -1 := LeastUp.end_ok hL.out HRE.out HGR.out HA.out h1
                subst hLn
                clear hL h1
                go_wp2
                go_ret
                exact ⟨rfl, hBr⟩
      · have hleI : ((g.length : Int) != ins) = true := by simp; exact hle
        clear hle
        go_wp2_with fail
        refine (live_c _).mono ?_
        rintro e w5 ⟨rfl, hb5⟩
        have p0 : w5.cell? ⟨w.heap.size, 0, none⟩ = some (.int .i64 ins) := bkeep hb5 (by first | assumption | exact cell_new (by with_reducible first | rfl | (simp; done) | (simp; omega)) rfl | (repeat (first | assumption | exact cell_new (by with_reducible first | rfl | (simp; done) | (simp; omega)) rfl | refine cell_alloc ?_ _ | refine cell_drew ?_ | refine cell_drewN ?_ _ | refine cell_far ?_ (by simp) _ | (refine cell_far ?_ (by simp <;> omega) _))) | simp [go_sem, *])
        have zp0 := cell_lt p0
        have p1 : w5.cell? ⟨w.heap.size, 1, none⟩ = some (.int .i64 regs) := bkeep hb5 (by first | assumption | exact cell_new (by with_reducible first | rfl | (simp; done) | (simp; omega)) rfl | (repeat (first | assumption | exact cell_new (by with_reducible first | rfl | (simp; done) | (simp; omega)) rfl | refine cell_alloc ?_ _ | refine cell_drew ?_ | refine cell_drewN ?_ _ | refine cell_far ?_ (by simp) _ | (refine cell_far ?_ (by simp <;> omega) _))) | simp [go_sem, *])
        have p2 : w5.cell? ⟨w.heap.size, 2, none⟩ = some (.slice ca code.length cc) := bkeep hb5 (by first | assumption | exact cell_new (by with_reducible first | rfl | (simp; done) | (simp; omega)) rfl | (repeat (first | assumption | exact cell_new (by with_reducible first | rfl | (simp; done) | (simp; omega)) rfl | refine cell_alloc ?_ _ | refine cell_drew ?_ | refine cell_drewN ?_ _ | refine cell_far ?_ (by simp) _ | (refine cell_far ?_ (by simp <;> omega) _))) | simp [go_sem, *])
        have p3 : w5.cell? ⟨w.heap.size, 3, none⟩ = some (.slice oa outs.length oc) := bkeep hb5 (by first | assumption | exact cell_new (by with_reducible first | rfl | (simp; done) | (simp; omega)) rfl | (repeat (first | assumption | exact cell_new (by with_reducible first | rfl | (simp; done) | (simp; omega)) rfl | refine cell_alloc ?_ _ | refine cell_drew ?_ | refine cell_drewN ?_ _ | refine cell_far ?_ (by simp) _ | (refine cell_far ?_ (by simp <;> omega) _))) | simp [go_sem, *])
        have hB : Below w.heap.size w w5 := bthen (by repeat (first | exact Below.refl _ _ | exact hB | refine Below.drew ?_ | refine below_drewN ?_ _ | refine bset ?_ (by simp <;> omega) _ | refine bal ?_ _)) hb5
        have hz : w.heap.size ≤ w5.heap.size := hB.size
        go_wp2
        go_ret
        exact ⟨rfl, by repeat (first | exact Below.refl _ _ | exact hB | refine Below.drew ?_ | refine below_drewN ?_ _ | refine bset ?_ (by simp <;> omega) _ | refine bal ?_ _)⟩
end Go.Proofs.YtannhpadoooedaaDoor
