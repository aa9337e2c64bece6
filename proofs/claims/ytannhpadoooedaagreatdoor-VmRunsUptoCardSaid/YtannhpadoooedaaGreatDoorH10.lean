/- VmRuns: any program on any blocks answers what the table says. -/
import Derived.Test.YtannhpadoooedaaGreatDoorH09
import Derived.Test.YtannhpadoooedaaGreatDoorG39
import Derived.Deep.LoopGhost
set_option linter.unusedVariables false
set_option linter.unusedSimpArgs false
namespace Go.Proofs.YtannhpadoooedaaGreatDoor
open Num
open Go.ChangeShapes Go.WideShapes Go.ChangeAt Go.RowKit
set_option linter.unusedVariables false
set_option linter.unusedSimpArgs false
attribute [local go_sem ↓] Go.wp_at_zero Go.wp_at_succ
set_option maxRecDepth 100000 in
set_option maxHeartbeats 32000000 in
theorem vmRuns_h (ins regs : Int) (ca oa : Option Addr) (cc oc : Nat) (code : List Ins) (outs : List Int) (v : Value) (g : Grid) (w : World) (hp : ProgI w ca oa cc oc code outs) (hg : GridS w v g) (hT : Tz32 w) :
    Calls Tryz.prog 4 #[.agg #[.int .i64 ins, .int .i64 regs, .slice ca code.length cc, .slice oa outs.length oc], v] w fun e w' => e = .returned (.bool true) ∧ Below w.heap.size w w' := by
  have wc := fun W (h : Below w.heap.size w W) => works_c W (hT.keep h)
  have lc := fun W (h : Below w.heap.size w W) => long_c ins regs ca oa cc oc code.length outs.length v g W (hg.i.keep h) hg.s hg.l hp.cl
  have HP := Lib.hid hp
  have HG := Lib.hid hg
  have HT := Lib.hid hT
  have HBD := Lib.hid hg.i.bd
  obtain ⟨ga, gc, rfl, -⟩ := hg.i
  clear hp hg hT
  have hB := Below.refl w.heap.size w
  go_enter Tryz.func4, Tryz.ntmps4
  go_wp2_with fail
  refine (wc _ (by repeat (first | exact Below.refl _ _ | exact hB | refine Below.drew ?_ | refine below_drewN ?_ _ | refine bset ?_ (by simp <;> omega) _ | refine bal ?_ _))).mono ?_
  rintro e w1 ⟨rfl, hb1⟩
  have p0 : w1.cell? ⟨w.heap.size, 0, none⟩ = some (.int .i64 ins) := bkeep hb1 (by first | assumption | exact cell_new (by with_reducible first | rfl | (simp; done) | (simp; omega)) rfl | (repeat (first | assumption | exact cell_new (by with_reducible first | rfl | (simp; done) | (simp; omega)) rfl | refine cell_alloc ?_ _ | refine cell_drew ?_ | refine cell_drewN ?_ _ | refine cell_far ?_ (by simp) _ | (refine cell_far ?_ (by simp <;> omega) _))) | simp [go_sem, *])
  have zp0 := cell_lt p0
  have p1 : w1.cell? ⟨w.heap.size, 1, none⟩ = some (.int .i64 regs) := bkeep hb1 (by first | assumption | exact cell_new (by with_reducible first | rfl | (simp; done) | (simp; omega)) rfl | (repeat (first | assumption | exact cell_new (by with_reducible first | rfl | (simp; done) | (simp; omega)) rfl | refine cell_alloc ?_ _ | refine cell_drew ?_ | refine cell_drewN ?_ _ | refine cell_far ?_ (by simp) _ | (refine cell_far ?_ (by simp <;> omega) _))) | simp [go_sem, *])
  have p2 : w1.cell? ⟨w.heap.size, 2, none⟩ = some (.slice ca code.length cc) := bkeep hb1 (by first | assumption | exact cell_new (by with_reducible first | rfl | (simp; done) | (simp; omega)) rfl | (repeat (first | assumption | exact cell_new (by with_reducible first | rfl | (simp; done) | (simp; omega)) rfl | refine cell_alloc ?_ _ | refine cell_drew ?_ | refine cell_drewN ?_ _ | refine cell_far ?_ (by simp) _ | (refine cell_far ?_ (by simp <;> omega) _))) | simp [go_sem, *])
  have p3 : w1.cell? ⟨w.heap.size, 3, none⟩ = some (.slice oa outs.length oc) := bkeep hb1 (by first | assumption | exact cell_new (by with_reducible first | rfl | (simp; done) | (simp; omega)) rfl | (repeat (first | assumption | exact cell_new (by with_reducible first | rfl | (simp; done) | (simp; omega)) rfl | refine cell_alloc ?_ _ | refine cell_drew ?_ | refine cell_drewN ?_ _ | refine cell_far ?_ (by simp) _ | (refine cell_far ?_ (by simp <;> omega) _))) | simp [go_sem, *])
  have hB : Below w.heap.size w w1 := bthen (by repeat (first | exact Below.refl _ _ | exact hB | refine Below.drew ?_ | refine below_drewN ?_ _ | refine bset ?_ (by simp <;> omega) _ | refine bal ?_ _)) hb1
  have hz : w.heap.size ≤ w1.heap.size := hB.size
  clear wc
  go_wp2_with fail
  refine (lc _ (by repeat (first | exact Below.refl _ _ | exact hB | refine Below.drew ?_ | refine below_drewN ?_ _ | refine bset ?_ (by simp <;> omega) _ | refine bal ?_ _))).mono ?_
  rintro e w2 ⟨rfl, hb2⟩
  have p0 : w2.cell? ⟨w.heap.size, 0, none⟩ = some (.int .i64 ins) := bkeep hb2 (by first | assumption | exact cell_new (by with_reducible first | rfl | (simp; done) | (simp; omega)) rfl | (repeat (first | assumption | exact cell_new (by with_reducible first | rfl | (simp; done) | (simp; omega)) rfl | refine cell_alloc ?_ _ | refine cell_drew ?_ | refine cell_drewN ?_ _ | refine cell_far ?_ (by simp) _ | (refine cell_far ?_ (by simp <;> omega) _))) | simp [go_sem, *])
  have zp0 := cell_lt p0
  have p1 : w2.cell? ⟨w.heap.size, 1, none⟩ = some (.int .i64 regs) := bkeep hb2 (by first | assumption | exact cell_new (by with_reducible first | rfl | (simp; done) | (simp; omega)) rfl | (repeat (first | assumption | exact cell_new (by with_reducible first | rfl | (simp; done) | (simp; omega)) rfl | refine cell_alloc ?_ _ | refine cell_drew ?_ | refine cell_drewN ?_ _ | refine cell_far ?_ (by simp) _ | (refine cell_far ?_ (by simp <;> omega) _))) | simp [go_sem, *])
  have p2 : w2.cell? ⟨w.heap.size, 2, none⟩ = some (.slice ca code.length cc) := bkeep hb2 (by first | assumption | exact cell_new (by with_reducible first | rfl | (simp; done) | (simp; omega)) rfl | (repeat (first | assumption | exact cell_new (by with_reducible first | rfl | (simp; done) | (simp; omega)) rfl | refine cell_alloc ?_ _ | refine cell_drew ?_ | refine cell_drewN ?_ _ | refine cell_far ?_ (by simp) _ | (refine cell_far ?_ (by simp <;> omega) _))) | simp [go_sem, *])
  have p3 : w2.cell? ⟨w.heap.size, 3, none⟩ = some (.slice oa outs.length oc) := bkeep hb2 (by first | assumption | exact cell_new (by with_reducible first | rfl | (simp; done) | (simp; omega)) rfl | (repeat (first | assumption | exact cell_new (by with_reducible first | rfl | (simp; done) | (simp; omega)) rfl | refine cell_alloc ?_ _ | refine cell_drew ?_ | refine cell_drewN ?_ _ | refine cell_far ?_ (by simp) _ | (refine cell_far ?_ (by simp <;> omega) _))) | simp [go_sem, *])
  have hB : Below w.heap.size w w2 := bthen (by repeat (first | exact Below.refl _ _ | exact hB | refine Below.drew ?_ | refine below_drewN ?_ _ | refine bset ?_ (by simp <;> omega) _ | refine bal ?_ _)) hb2
  have hz : w.heap.size ≤ w2.heap.size := hB.size
  clear lc
  cases hlg : longB code.length regs (sumG g) with
  | true =>
    go_wp2
    go_ret
    exact ⟨rfl, by repeat (first | exact Below.refl _ _ | exact hB | refine Below.drew ?_ | refine below_drewN ?_ _ | refine bset ?_ (by simp <;> omega) _ | refine bal ?_ _)⟩
  | false =>
    have hll : sumG g ≤ 300 := by
      have := of_decide_eq_false hlg; omega
    have HL := Lib.hid hll
    clear hlg hll
    have hgl : g.length ≤ 1048576 := HG.out.l
    have hgl24 : (g.length + 1) * 24 ≤ 140737488355328 := by omega
    have lx := fun W (h : Below w.heap.size w W) => lists_c (.slice ga g.length gc) g W (HG.out.i.keep h) hgl24 HL.out
    have rfx := fun W (h : Below w.heap.size w W) => refs_c (.slice ga g.length gc) g W (HG.out.i.keep h) hgl24 HL.out
    have cx := fun W (h : Below w.heap.size w W) => rcopy_c ins regs ca oa cc oc code outs W (HP.out.c.keep h) (HP.out.o.keep h) HP.out.cn HP.out.on (by have := HP.out.cl; omega) (by have := HP.out.ol; omega)
    have hgl3 : ∀ j (hj : j < g.length), g[j].length ≤ 1099511627776 := fun j hj => by have := sumG_le hj; rw [show g.getD j [] = g[j] by simp [hj]] at this; have := HL.out; omega
    have HGL := Lib.hid hgl3
    clear hgl3
    go_wp2_with fail
    refine (lx _ (by repeat (first | exact Below.refl _ _ | exact hB | refine Below.drew ?_ | refine below_drewN ?_ _ | refine bset ?_ (by simp <;> omega) _ | refine bal ?_ _))).mono ?_
    rintro e w3 ⟨v3, rfl, hO3⟩
    have hb3 := hO3.bel
    have p0 : w3.cell? ⟨w.heap.size, 0, none⟩ = some (.int .i64 ins) := bkeep hb3 (by first | assumption | exact cell_new (by with_reducible first | rfl | (simp; done) | (simp; omega)) rfl | (repeat (first | assumption | exact cell_new (by with_reducible first | rfl | (simp; done) | (simp; omega)) rfl | refine cell_alloc ?_ _ | refine cell_drew ?_ | refine cell_drewN ?_ _ | refine cell_far ?_ (by simp) _ | (refine cell_far ?_ (by simp <;> omega) _))) | simp [go_sem, *])
    have zp0 := cell_lt p0
    have p1 : w3.cell? ⟨w.heap.size, 1, none⟩ = some (.int .i64 regs) := bkeep hb3 (by first | assumption | exact cell_new (by with_reducible first | rfl | (simp; done) | (simp; omega)) rfl | (repeat (first | assumption | exact cell_new (by with_reducible first | rfl | (simp; done) | (simp; omega)) rfl | refine cell_alloc ?_ _ | refine cell_drew ?_ | refine cell_drewN ?_ _ | refine cell_far ?_ (by simp) _ | (refine cell_far ?_ (by simp <;> omega) _))) | simp [go_sem, *])
    have p2 : w3.cell? ⟨w.heap.size, 2, none⟩ = some (.slice ca code.length cc) := bkeep hb3 (by first | assumption | exact cell_new (by with_reducible first | rfl | (simp; done) | (simp; omega)) rfl | (repeat (first | assumption | exact cell_new (by with_reducible first | rfl | (simp; done) | (simp; omega)) rfl | refine cell_alloc ?_ _ | refine cell_drew ?_ | refine cell_drewN ?_ _ | refine cell_far ?_ (by simp) _ | (refine cell_far ?_ (by simp <;> omega) _))) | simp [go_sem, *])
    have p3 : w3.cell? ⟨w.heap.size, 3, none⟩ = some (.slice oa outs.length oc) := bkeep hb3 (by first | assumption | exact cell_new (by with_reducible first | rfl | (simp; done) | (simp; omega)) rfl | (repeat (first | assumption | exact cell_new (by with_reducible first | rfl | (simp; done) | (simp; omega)) rfl | refine cell_alloc ?_ _ | refine cell_drew ?_ | refine cell_drewN ?_ _ | refine cell_far ?_ (by simp) _ | (refine cell_far ?_ (by simp <;> omega) _))) | simp [go_sem, *])
    have hB : Below w.heap.size w w3 := bthen (by repeat (first | exact Below.refl _ _ | exact hB | refine Below.drew ?_ | refine below_drewN ?_ _ | refine bset ?_ (by simp <;> omega) _ | refine bal ?_ _)) hb3
    have hz : w.heap.size ≤ w3.heap.size := hB.size
    have HIN := Lib.hid hO3.gridV
    obtain ⟨a3, c3, rfl⟩ := hO3.ex
    clear hO3
    go_wp2_with fail
    refine (cx _ (by repeat (first | exact Below.refl _ _ | exact hB | refine Below.drew ?_ | refine below_drewN ?_ _ | refine bset ?_ (by simp <;> omega) _ | refine bal ?_ _))).mono ?_
    rintro e w4 ⟨⟨ca', cc', oa', oc', rfl, hc4, ho4, -, -⟩, hb4⟩
    have p0 : w4.cell? ⟨w.heap.size, 0, none⟩ = some (.int .i64 ins) := bkeep hb4 (by first | assumption | exact cell_new (by with_reducible first | rfl | (simp; done) | (simp; omega)) rfl | (repeat (first | assumption | exact cell_new (by with_reducible first | rfl | (simp; done) | (simp; omega)) rfl | refine cell_alloc ?_ _ | refine cell_drew ?_ | refine cell_drewN ?_ _ | refine cell_far ?_ (by simp) _ | (refine cell_far ?_ (by simp <;> omega) _))) | simp [go_sem, *])
    have zp0 := cell_lt p0
    have p1 : w4.cell? ⟨w.heap.size, 1, none⟩ = some (.int .i64 regs) := bkeep hb4 (by first | assumption | exact cell_new (by with_reducible first | rfl | (simp; done) | (simp; omega)) rfl | (repeat (first | assumption | exact cell_new (by with_reducible first | rfl | (simp; done) | (simp; omega)) rfl | refine cell_alloc ?_ _ | refine cell_drew ?_ | refine cell_drewN ?_ _ | refine cell_far ?_ (by simp) _ | (refine cell_far ?_ (by simp <;> omega) _))) | simp [go_sem, *])
    have p2 : w4.cell? ⟨w.heap.size, 2, none⟩ = some (.slice ca code.length cc) := bkeep hb4 (by first | assumption | exact cell_new (by with_reducible first | rfl | (simp; done) | (simp; omega)) rfl | (repeat (first | assumption | exact cell_new (by with_reducible first | rfl | (simp; done) | (simp; omega)) rfl | refine cell_alloc ?_ _ | refine cell_drew ?_ | refine cell_drewN ?_ _ | refine cell_far ?_ (by simp) _ | (refine cell_far ?_ (by simp <;> omega) _))) | simp [go_sem, *])
    have p3 : w4.cell? ⟨w.heap.size, 3, none⟩ = some (.slice oa outs.length oc) := bkeep hb4 (by first | assumption | exact cell_new (by with_reducible first | rfl | (simp; done) | (simp; omega)) rfl | (repeat (first | assumption | exact cell_new (by with_reducible first | rfl | (simp; done) | (simp; omega)) rfl | refine cell_alloc ?_ _ | refine cell_drew ?_ | refine cell_drewN ?_ _ | refine cell_far ?_ (by simp) _ | (refine cell_far ?_ (by simp <;> omega) _))) | simp [go_sem, *])
    have hB : Below w.heap.size w w4 := bthen (by repeat (first | exact Below.refl _ _ | exact hB | refine Below.drew ?_ | refine below_drewN ?_ _ | refine bset ?_ (by simp <;> omega) _ | refine bal ?_ _)) hb4
    have hz : w.heap.size ≤ w4.heap.size := hB.size
    have hB4 : Below w.heap.size w w4 := hB
    have hb34 : Below w3.heap.size w3 w4 := bthen (by have hB3 := Below.refl w3.heap.size w3; repeat (first | exact Below.refl _ _ | exact hB3 | refine Below.drew ?_ | refine below_drewN ?_ _ | refine bset ?_ (by simp <;> omega) _ | refine bal ?_ _)) hb4
    have HC4 := Lib.hid (And.intro hc4 ho4)
    clear hc4 ho4 cx
    go_wp2_with fail
    refine (run_c ins regs ca' oa' cc' oc' code outs (.slice a3 g.length c3) g 64 _ HC4.out.1 HC4.out.2 HC4.out.1.none HC4.out.2.none (HIN.out.keep (prs_row lims_int _ _) hb34) (by have := HP.out.cl; omega) (by have := HP.out.ol; omega) (by omega) HBD.out (by omega) (HT.out.keep hB)).mono ?_
    rintro e w5 hr5
    obtain ⟨⟨ra, rl, rcp, rn, rs, rfl, hres⟩, hb5⟩ := runRes hr5
    have p0 : w5.cell? ⟨w.heap.size, 0, none⟩ = some (.int .i64 ins) := bkeep hb5 (by first | assumption | exact cell_new (by with_reducible first | rfl | (simp; done) | (simp; omega)) rfl | (repeat (first | assumption | exact cell_new (by with_reducible first | rfl | (simp; done) | (simp; omega)) rfl | refine cell_alloc ?_ _ | refine cell_drew ?_ | refine cell_drewN ?_ _ | refine cell_far ?_ (by simp) _ | (refine cell_far ?_ (by simp <;> omega) _))) | simp [go_sem, *])
    have zp0 := cell_lt p0
    have p1 : w5.cell? ⟨w.heap.size, 1, none⟩ = some (.int .i64 regs) := bkeep hb5 (by first | assumption | exact cell_new (by with_reducible first | rfl | (simp; done) | (simp; omega)) rfl | (repeat (first | assumption | exact cell_new (by with_reducible first | rfl | (simp; done) | (simp; omega)) rfl | refine cell_alloc ?_ _ | refine cell_drew ?_ | refine cell_drewN ?_ _ | refine cell_far ?_ (by simp) _ | (refine cell_far ?_ (by simp <;> omega) _))) | simp [go_sem, *])
    have p2 : w5.cell? ⟨w.heap.size, 2, none⟩ = some (.slice ca code.length cc) := bkeep hb5 (by first | assumption | exact cell_new (by with_reducible first | rfl | (simp; done) | (simp; omega)) rfl | (repeat (first | assumption | exact cell_new (by with_reducible first | rfl | (simp; done) | (simp; omega)) rfl | refine cell_alloc ?_ _ | refine cell_drew ?_ | refine cell_drewN ?_ _ | refine cell_far ?_ (by simp) _ | (refine cell_far ?_ (by simp <;> omega) _))) | simp [go_sem, *])
    have p3 : w5.cell? ⟨w.heap.size, 3, none⟩ = some (.slice oa outs.length oc) := bkeep hb5 (by first | assumption | exact cell_new (by with_reducible first | rfl | (simp; done) | (simp; omega)) rfl | (repeat (first | assumption | exact cell_new (by with_reducible first | rfl | (simp; done) | (simp; omega)) rfl | refine cell_alloc ?_ _ | refine cell_drew ?_ | refine cell_drewN ?_ _ | refine cell_far ?_ (by simp) _ | (refine cell_far ?_ (by simp <;> omega) _))) | simp [go_sem, *])
    have hB : Below w.heap.size w w5 := bthen (by repeat (first | exact Below.refl _ _ | exact hB | refine Below.drew ?_ | refine below_drewN ?_ _ | refine bset ?_ (by simp <;> omega) _ | refine bal ?_ _)) hb5
    have hz : w.heap.size ≤ w5.heap.size := hB.size
    have HRR := Lib.hid hres
    clear hr5 hres
    have HS := Lib.hid (show ∀ W, Below w5.heap.size w5 W → W.cell? ⟨w.heap.size, 0, none⟩ = some (.int .i64 ins) ∧ W.cell? ⟨w.heap.size, 1, none⟩ = some (.int .i64 regs) ∧ W.cell? ⟨w.heap.size, 2, none⟩ = some (.slice ca code.length cc) ∧ W.cell? ⟨w.heap.size, 3, none⟩ = some (.slice oa outs.length oc) from fun W h => ⟨bkeep h p0, bkeep h p1, bkeep h p2, bkeep h p3⟩)
    have rfx5 := fun W (h : Below w5.heap.size w5 W) => rfx W (bthen hB h)
    have rrx := fun vq W (h : Below w5.heap.size w5 W) (hv : IsL 89 (RowR 0) 0 W vq g) => rrun_c ins regs ca oa cc oc code outs vq g 64 W (HP.out.c.keep (bthen hB h)) (HP.out.o.keep (bthen hB h)) hv (by omega) HBD.out (by omega)
    have hBc := Below.refl w5.heap.size w5
    go_wp2
    go_region_held3 (fun w' => w'.cell? ⟨w.heap.size, 0, none⟩ = some (.int .i64 ins) ∧ w'.cell? ⟨w.heap.size, 1, none⟩ = some (.int .i64 regs) ∧ w'.cell? ⟨w.heap.size, 2, none⟩ = some (.slice ca code.length cc) ∧ w'.cell? ⟨w.heap.size, 3, none⟩ = some (.slice oa outs.length oc))
      (first | (refine HS.out _ ?_; (repeat (first | exact Below.refl _ _ | exact hBc | refine Below.drew ?_ | refine below_drewN ?_ _ | refine bset ?_ (by simp <;> omega) _ | refine bal ?_ _)); done) | fail)
      (first
        | (go_at_call 25; refine (rfx5 _ ?_).mono ?_; (repeat (first | exact Below.refl _ _ | exact hBc | refine Below.drew ?_ | refine below_drewN ?_ _ | refine bset ?_ (by simp <;> omega) _ | refine bal ?_ _)); rintro e w6 ⟨v6, rfl, hO6⟩; have hBd : Below w5.heap.size w5 w6 := bthen (by repeat (first | exact Below.refl _ _ | exact hBc | refine Below.drew ?_ | refine below_drewN ?_ _ | refine bset ?_ (by simp <;> omega) _ | refine bal ?_ _)) hO6.bel; clear hBc; have hBc := hBd; have HV6 := Lib.hid (show IsL 89 (RowR 0) 0 w6 v6 g from (hO6.isL.rebase (Nat.zero_le _)).mono fun u x hr => hr.rebase (Nat.zero_le _)); obtain ⟨a6, c6, rfl⟩ := hO6.ex; clear hBd hO6)
        | (go_at_call 24; refine (rrx _ _ ?_ (HV6.out.keep (prs_rowO lims_ref _ _) (by have hBz := Below.refl w6.heap.size w6; repeat (first | exact Below.refl _ _ | exact hBz | refine Below.drew ?_ | refine below_drewN ?_ _ | refine bset ?_ (by simp <;> omega) _ | refine bal ?_ _)))).mono ?_; (repeat (first | exact Below.refl _ _ | exact hBc | refine Below.drew ?_ | refine below_drewN ?_ _ | refine bset ?_ (by simp <;> omega) _ | refine bal ?_ _)); rintro e w7 hr7; obtain ⟨⟨qa, ql, qcp, qn, qs, rfl, hqes⟩, hb7⟩ := rrunRes hr7; have hBd : Below w5.heap.size w5 w7 := bthen (by repeat (first | exact Below.refl _ _ | exact hBc | refine Below.drew ?_ | refine below_drewN ?_ _ | refine bset ?_ (by simp <;> omega) _ | refine bal ?_ _)) hb7; clear hBc; have hBc := hBd; have HQQ := Lib.hid hqes; clear hBd hr7 hqes hb7)
        | fail)
    all_goals
      clear HV6 rrx rfx5 p0 p1 p2 p3
      obtain ⟨e1, e2, og, hog1, hog2, hog3, hog4, hog5⟩ := runs_one HBD.out (HRR.out.keep hBc) HQQ.out
      subst e1
      subst e2
      have HOG := Lib.hid (And.intro hog1 (And.intro hog2 (And.intro hog3 (And.intro hog4 hog5))))
      obtain ⟨_, _, he1, -⟩ := hog1
      obtain ⟨_, _, he2, -⟩ := hog2
      obtain ⟨-, hl1, -⟩ := Value.slice.inj he1
      obtain ⟨-, hl2, -⟩ := Value.slice.inj he2
      subst hl1
      clear HRR HQQ he1 he2 hog3 hog4 hog5
      subst hl2
      have hb37 : Below w3.heap.size w3 w7 := bthen (bthen hb34 hb5) hBc
      have hB7 : Below w.heap.size w w7 := bthen hB hBc
      have HGP := Lib.hid (show GridV w7 (.slice ra og.length rcp) og from (HOG.out.1.mono fun u x hr => hr.row.rebase (Nat.zero_le _)).rebase (Nat.zero_le _))
      have hol : og.length ≤ 128 := HOG.out.2.2.2.1
      have bx := fun W (h : Below w7.heap.size w7 W) => blocks_c (.slice ra og.length rcp) (.slice qa og.length qcp) og (64 + 65 * code.length) W (HGP.out.keep (prs_row lims_int _ _) h) (HOG.out.2.1.keep (prs_row lims_ref _ _) h) HOG.out.2.2.1 (by have := HP.out.cl; omega) (by omega) (fun j hj => by have := HOG.out.2.2.2.2 j hj; omega)
      have bi := fun vq W (h : Below w3.heap.size w3 W) (hq : IsL 89 (RRow 0) 0 W vq g) => blocks_c (.slice a3 g.length c3) vq g 64 W (HIN.out.keep (prs_row lims_int _ _) h) hq HBD.out (by omega) (by omega) HGL.out
      have hq1 : (rs != rs) = false := by simp
      have hq2 : ((rn : Int) != (rn : Int)) = false := by simp
      have hBw := Below.refl w7.heap.size w7
      go_wp2_with fail
      refine (bx _ (by repeat (first | exact Below.refl _ _ | exact hBw | refine Below.drew ?_ | refine below_drewN ?_ _ | refine bset ?_ (by simp <;> omega) _ | refine bal ?_ _))).mono ?_
      rintro e w8 ⟨rfl, hb8⟩
      have hb78 : Below w7.heap.size w7 w8 := bthen (by repeat (first | exact Below.refl _ _ | exact hBw | refine Below.drew ?_ | refine below_drewN ?_ _ | refine bset ?_ (by simp <;> omega) _ | refine bal ?_ _)) hb8
      clear bx
      have hB8 := bthen hB7 hb78
      go_wp2_with fail
      refine (rfx _ (by repeat (first | exact Below.refl _ _ | exact hB8 | refine Below.drew ?_ | refine below_drewN ?_ _ | refine bset ?_ (by simp <;> omega) _ | refine bal ?_ _))).mono ?_
      rintro e w9 ⟨v9, rfl, hO9⟩
      have hb89 : Below w8.heap.size w8 w9 := bthen (by have hBz := Below.refl w8.heap.size w8; repeat (first | exact Below.refl _ _ | exact hBz | refine Below.drew ?_ | refine below_drewN ?_ _ | refine bset ?_ (by simp <;> omega) _ | refine bal ?_ _)) hO9.bel
      have HV9 := Lib.hid (show IsL 89 (RRow 0) 0 w9 v9 g from (hO9.isL.mono fun u x hr => hr.row.rebase (Nat.zero_le _)).rebase (Nat.zero_le _))
      obtain ⟨a9, c9, rfl⟩ := hO9.ex
      have hb39 : Below w3.heap.size w3 w9 := bthen (bthen hb37 hb78) hb89
      clear hO9
      go_wp2_with fail
      refine (bi _ _ hb39 HV9.out).mono ?_
      rintro e w10 ⟨rfl, hb10⟩
      have hb710 : Below w7.heap.size w7 w10 := bthen (bthen hb78 hb89) hb10
      have hb310 : Below w3.heap.size w3 w10 := bthen hb37 hb710
      have hB10 := bthen hB7 hb710
      have hb410 : Below w4.heap.size w4 w10 := bthen (bthen hb5 hBc) hb710
      have HO5 := Lib.hid HOG.out.2.2.2.2
      obtain ⟨la, lc, hle, hlc, hlm, hlist⟩ := HOG.out.1
      obtain ⟨rfl, -, rfl⟩ := Value.slice.inj hle
      have HLI := Lib.hid hlist
      clear HV9 hq1 hq2 hle hlist hb78 hb89 hb10 HGP HOG hb39
      go_wp2
      have HW := Lib.hid (show ∀ k (hk : k < og.length), ∃ lb lo u, ra = some ⟨lb, lo, none⟩ ∧ typOf w10 lb = some 29 ∧ w10.cell? ⟨lb, lo + k, none⟩ = some u ∧ WRow w4.heap.size w10 u og[k].length from fun k hk => by
        rcases HLI.out with h0 | ⟨lb, lo, h1, h2, h3, h4⟩
        · rw [h0] at hk; simp at hk
        · obtain ⟨u, hu, hr⟩ := h4 k hk
          exact ⟨lb, lo, u, h1, typ_keep h3 hb710, bkeep hb710 hu, hr.wrow.shp (.of_below hb710)⟩)
      have h34 : w3.heap.size ≤ w4.heap.size := hb34.size
      clear HLI hb710 hb310
      go_loopw [61] (fun x wr => ∃ k : Nat, k ≤ og.length ∧ x = .int .i64 k ∧ Hid (Below w4.heap.size w4 wr ∧ Kp (· ≠ 48) w10 wr ∧ Shp w10 wr)) (fun x _ => og.length - (intOf x).toNat)
      case atStart => exact ⟨0, Nat.zero_le _, rfl, Lib.hid ⟨hb410, Kp.refl _ _, Shp.refl _⟩⟩
      case round =>
        obtain ⟨k, hk, rfl, hrel⟩ := hrel
        by_cases hlt : k < og.length
        · have hltI : (k : Int) < (og.length : Int) := by omega
          obtain ⟨lb, lo, u, rfl, ht, hu, hrow⟩ := HW.out k hlt
          have hu2 := hrel.out.2.1.cell ht (by decide) hu
          have zlb := cell_lt hu2
          have hm := HO5.out k hlt
          obtain ⟨m, hmE⟩ : ∃ m, og[k].length = m := ⟨_, rfl⟩
          rw [hmE] at hrow hm
          obtain ⟨ua, uc, rfl⟩ := hrow.ex
          have HR := Lib.hid hrow
          clear hmE hrow hu ht
          obtain ⟨wq, hwq⟩ : ∃ wq, wr = wq := ⟨_, rfl⟩
          rw [hwq] at hrel hu2 zlb ⊢
          clear hwq
          go_wp2
          go_loopw [67] (fun x wr => ∃ j : Nat, j ≤ m ∧ x = .int .i64 j ∧ Hid (Below w4.heap.size w4 wr ∧ Kp (· ≠ 48) w10 wr ∧ Shp w10 wr)) (fun x _ => m - (intOf x).toNat)
          case atStart => exact ⟨0, Nat.zero_le _, rfl, hrel⟩
          case round =>
            obtain ⟨j, hj, rfl, hrel2⟩ := hrel
            have hmb : m ≤ 4096 := hm
            by_cases hlt2 : j < m
            · have hltJ : (j : Int) < (m : Int) := by omega
              obtain ⟨gq, cap, x0, y0, hue, hg4, -⟩ := (HR.out.shp hrel2.out.2.2).at hlt2
              obtain ⟨rfl, -, rfl⟩ := Value.slice.inj hue
              have ox := fun W => of_c 77 W (by omega) (by omega)
              have hBr := Below.refl wr.heap.size wr
              go_wp2_with fail
              refine (ox _).mono ?_
              rintro e w11 ⟨⟨v11, rfl, hi11⟩, hb11⟩
              have hb11' : Below wr.heap.size wr w11 := bthen (by repeat (first | exact Below.refl _ _ | exact hBr | refine Below.drew ?_ | refine below_drewN ?_ _ | refine bset ?_ (by simp <;> omega) _ | refine bal ?_ _)) hb11
              obtain ⟨gq2, cap2, x1, y1, hue2, -, cq0, cq1, fq0, fq1⟩ := ((HR.out.shp hrel2.out.2.2).shp (.of_below hb11')).at hlt2
              cases hue2
              have HT11 := Lib.hid (show typOf w11 gq = some 48 from by
                rcases (HR.out.shp hrel2.out.2.2).shp (.of_below hb11') with ⟨h, _⟩ | ⟨g', cap', cs', h, _, hh, _⟩
                · cases h
                · cases h; unfold typOf; rw [hh])
              have zgq := cell_lt cq0
              obtain ⟨n11, a11, c11, l11, rfl, -⟩ := hi11
              unfold iv at *
              have HN := Lib.hid (show Below w4.heap.size w4 ((w11.setCell ⟨gq, j * 2, none⟩ (.bool n11)).setCell ⟨gq, j * 2 + 1, none⟩ (.slice a11 l11.length c11)) ∧ Kp (· ≠ 48) w10 ((w11.setCell ⟨gq, j * 2, none⟩ (.bool n11)).setCell ⟨gq, j * 2 + 1, none⟩ (.slice a11 l11.length c11)) ∧ Shp w10 ((w11.setCell ⟨gq, j * 2, none⟩ (.bool n11)).setCell ⟨gq, j * 2 + 1, none⟩ (.slice a11 l11.length c11)) from
                ⟨bset (bset (bthen hrel2.out.1 hb11') hg4 _) hg4 _, (((hrel2.out.2.1.below hb11').set (fun t ht => by rw [HT11.out] at ht; cases ht; exact fun k => k rfl) _).set (fun t ht => by rw [typ_set, HT11.out] at ht; cases ht; exact fun k => k rfl) _), ((hrel2.out.2.2.below hb11').set _ _).set _ _⟩)
              clear ox
              go_wp2
              exact ⟨⟨j + 1, by omega, by go_num, HN⟩, by simp [intOf]; omega⟩
            · obtain rfl : j = m := by omega
              have ox := fun W => of_c 78 W (by omega) (by omega)
              have hBr := Below.refl wr.heap.size wr
              go_wp2_with fail
              refine (ox _).mono ?_
              rintro e w11 ⟨⟨v11, rfl, hi11⟩, hb11⟩
              have hb11' : Below wr.heap.size wr w11 := bthen (by repeat (first | exact Below.refl _ _ | exact hBr | refine Below.drew ?_ | refine below_drewN ?_ _ | refine bset ?_ (by simp <;> omega) _ | refine bal ?_ _)) hb11
              have HWR := Lib.hid ((HR.out.shp hrel2.out.2.2).shp (.of_below hb11'))
              obtain ⟨n11, a11, c11, l11, rfl, -⟩ := hi11
              unfold iv at *
              clear ox
              go_wp2_with (at_builtin; refine app_wr (by rfl) (by rfl) (HWR.out.shp (.of_below (bal (Below.refl _ _) _))) (by rfl) (by omega) (by rfl) (cell_new rfl rfl) (cell_new rfl rfl) (by rfl) (by rfl) ?_)
              intro v12 w12 hs12 hb12 hk12
              have HN := Lib.hid (show Below w4.heap.size w4 w12 ∧ Kp (· ≠ 48) w10 w12 ∧ Shp w10 w12 from
                ⟨(bal (bthen hrel2.out.1 hb11') _).trans (hb12 _ (Nat.le_refl _) (Nat.le_trans (bthen hrel2.out.1 hb11').size (Nat.le_succ _))), (hrel2.out.2.1.below (bal hb11' _)).trans hk12, (hrel2.out.2.2.below (bal hb11' _)).trans hs12⟩)
              clear hs12 hb12 hk12 HWR
              go_wp2
              exact ⟨⟨k + 1, by omega, by go_num, HN⟩, by simp [intOf]; omega⟩
        · obtain rfl : k = og.length := by omega
          have hb4r := hrel.out.1
          have hb3r : Below w3.heap.size w3 wr := bthen hb34 hb4r
          have hBr : Below w.heap.size w wr := bthen hB4 hb4r
          have hBw := Below.refl wr.heap.size wr
          have rfr := fun W (h : Below wr.heap.size wr W) => rfx W (bthen hBr h)
          have bir := fun vq W (h : Below wr.heap.size wr W) => bi vq W (bthen hb3r h)
          clear rfx bi
          go_wp2_with fail
          refine (rfr _ (by repeat (first | exact Below.refl _ _ | exact hBw | refine Below.drew ?_ | refine below_drewN ?_ _ | refine bset ?_ (by simp <;> omega) _ | refine bal ?_ _))).mono ?_
          rintro e w11 ⟨v11, rfl, hO11⟩
          have hb11 : Below wr.heap.size wr w11 := bthen (by repeat (first | exact Below.refl _ _ | exact hBw | refine Below.drew ?_ | refine below_drewN ?_ _ | refine bset ?_ (by simp <;> omega) _ | refine bal ?_ _)) hO11.bel
          have HV11 := Lib.hid (show IsL 89 (RRow 0) 0 w11 v11 g from (hO11.isL.mono fun u x hr => hr.row.rebase (Nat.zero_le _)).rebase (Nat.zero_le _))
          obtain ⟨a11, c11, rfl⟩ := hO11.ex
          clear hO11
          go_wp2_with fail
          refine (bir _ _ hb11 HV11.out).mono ?_
          rintro e w12 ⟨rfl, hb12⟩
          go_wp2
          go_ret
          exact ⟨rfl, bthen hBr (bthen hb11 hb12)⟩
end Go.Proofs.YtannhpadoooedaaGreatDoor
