/- Texts of this seat, laid together: EwH, Vo, Wo. Each opens with its own remark, which says what it proves, and under which conditions. -/
import Derived.Test.YtannhpadoooedaaGreatDoorQ13
import Derived.Test.YtannhpadoooedaaGreatDoorRows
import Derived.Test.YtannhpadoooedaaGreatDoorQ07
import Derived.Lib.SmallJoins
import Derived.Deep.Slices
import Derived.Deep.Matrix
import Derived.Deep.Fields
import Derived.ChangeSame
import Derived.DataShut
import Derived.SizedLaws
set_option linter.unusedVariables false
set_option linter.unusedSimpArgs false
/- ExactFollows: the rows over a grid, or the instruction that fails; in memory of their own. -/
namespace Go.Proofs.YtannhpadoooedaaGreatDoor
open Num
open Go.ChangeShapes Go.WideShapes Go.ChangeAt Go.RowKit
set_option linter.unusedVariables false
set_option linter.unusedSimpArgs false
attribute [local go_sem ↓] Go.wp_at_zero Go.wp_at_succ
attribute [local go_sem] Oper.semAt_some
theorem RowsV.base {ins regs : Int} {code : List Ins} {outs : List Int} {g : Grid} {w0 w w' : World} {a : Option Addr} {n c : Nat} {q x : Int} (h : RowsV ins regs code outs g w w' a n c q x) (hb : Below w0.heap.size w0 w) : RowsV ins regs code outs g w0 w' a n c q x := by
  obtain ⟨h1, h2, h3⟩ := h
  refine ⟨h1, h2, fun e => ?_⟩
  obtain ⟨s, gs, k1, k2, k3, k4, k5, k6⟩ := h3 e
  exact ⟨s, gs, k1, k2, k3, k4, fun y hy => Nat.le_trans hb.size (k5 y hy), k6.rebase hb⟩
set_option maxRecDepth 100000 in
set_option maxHeartbeats 32000000 in
theorem exactFollows_h (ins regs : Int) (ca oa : Option Addr) (cc oc : Nat) (code : List Ins) (outs : List Int) (v : Value) (g : Grid) (w : World) (hc : InsV w ca cc code) (ho : IntsV w oa oc outs) (hg : GridI w v g)
    (hl : ∀ k, k < g.length → (g.getD k []).length ≤ 1152921504606846976) :
    Calls Tryz.prog 8 #[.agg #[.int .i64 ins, .int .i64 regs, .slice ca code.length cc, .slice oa outs.length oc], v] w fun e w' => e = .returned (.bool true) ∧ Below w.heap.size w w' := by
  have lc := fun W (h : Below w.heap.size w W) => long10_c ins regs ca oa cc outs.length oc code v (.slice none 0 0) g 0 W (hc.keep h) (hg.keep h) hl ⟨_, _, rfl⟩ (by omega)
  have rc := fun W (h : Below w.heap.size w W) => rright_c ins regs ca oa cc oc code outs W (hc.keep h) (ho.keep h)
  have HC := Lib.hid (And.intro hc ho)
  have HG := Lib.hid hg
  have HBD := Lib.hid hg.bd
  obtain ⟨ga, gc, rfl, hgv⟩ := hg
  clear hc ho hgv hl
  have hB := Below.refl w.heap.size w
  refine calls_of_wp_marks Tryz.func8 rfl ?_
  simp only [Tryz.ntmps8, List.size_toArray, List.length_cons, List.length_nil, Nat.reduceAdd, Nat.reduceSub, Array.replicate_succ, Array.replicate_zero, List.push_toArray, List.append_toArray, List.nil_append, List.cons_append]
  go_wp2_with fail
  refine (live_c _).mono ?_
  rintro e w1 ⟨rfl, hb1⟩
  have p0 : w1.cell? ⟨w.heap.size, 0, none⟩ = some (.int .i64 ins) := bkc hb1
  have zp0 := cell_lt p0
  have p1 : w1.cell? ⟨w.heap.size, 1, none⟩ = some (.int .i64 regs) := bkc hb1
  have p2 : w1.cell? ⟨w.heap.size, 2, none⟩ = some (.slice ca code.length cc) := bkc hb1
  have p3 : w1.cell? ⟨w.heap.size, 3, none⟩ = some (.slice oa outs.length oc) := bkc hb1
  have r0 : w1.cell? ⟨w.heap.size + 1, 0, none⟩ = some (.bool false) := bkc hb1
  have zr0 := cell_lt r0
  have r0f : w1.frozen? ⟨w.heap.size + 1, 0, none⟩ = false := bkcf (v := .bool false) hb1
  have hB : Below w.heap.size w w1 := bthen (by repeat (first | exact Below.refl _ _ | exact hB | refine Below.drew ?_ | refine below_drewN ?_ _ | refine bset ?_ (by simp <;> omega) _ | refine bal ?_ _)) hb1
  have hz : w.heap.size ≤ w1.heap.size := hB.size
  go_wp2_with fail
  refine (lc _ (by repeat (first | exact Below.refl _ _ | exact hB | refine Below.drew ?_ | refine below_drewN ?_ _ | refine bset ?_ (by simp <;> omega) _ | refine bal ?_ _))).mono ?_
  rintro e w2 ⟨b2, rfl, hs2, hb2⟩
  have p0 : w2.cell? ⟨w.heap.size, 0, none⟩ = some (.int .i64 ins) := bkc hb2
  have zp0 := cell_lt p0
  have p1 : w2.cell? ⟨w.heap.size, 1, none⟩ = some (.int .i64 regs) := bkc hb2
  have p2 : w2.cell? ⟨w.heap.size, 2, none⟩ = some (.slice ca code.length cc) := bkc hb2
  have p3 : w2.cell? ⟨w.heap.size, 3, none⟩ = some (.slice oa outs.length oc) := bkc hb2
  have r0 : w2.cell? ⟨w.heap.size + 1, 0, none⟩ = some (.bool false) := bkc hb2
  have zr0 := cell_lt r0
  have r0f : w2.frozen? ⟨w.heap.size + 1, 0, none⟩ = false := bkcf (v := .bool false) hb2
  have hB : Below w.heap.size w w2 := bthen (by repeat (first | exact Below.refl _ _ | exact hB | refine Below.drew ?_ | refine below_drewN ?_ _ | refine bset ?_ (by simp <;> omega) _ | refine bal ?_ _)) hb2
  have hz : w.heap.size ≤ w2.heap.size := hB.size
  clear lc
  cases b2 with
  | true =>
    go_wp2
    refine ⟨.bool true, ?_, rfl, bset hB (by show w.heap.size ≤ w.heap.size + 1; omega) _⟩
    simp [results, Tryz.results8, go_sem, cell_here r0 (.bool true)]
  | false =>
    have HSH := Lib.hid (hs2.out rfl)
    have hgl : sumG g + g.length ≤ 400 := by have := HSH.out.1; omega
    clear hs2
    have hm0 : (g.getD 0 []).length ≤ 400 := by
      by_cases h0 : 0 < g.length
      · have := sumG_le h0; omega
      · rw [List.getD_eq_getElem?_getD, List.getElem?_eq_none (by omega)]; simp
    have gx := fun W (h : Below w.heap.size w W) => grids10_c (.slice ga g.length gc) g W (HG.out.keep h) hgl
    go_wp2_with fail
    refine (gx _ (by repeat (first | exact Below.refl _ _ | exact hB | refine Below.drew ?_ | refine below_drewN ?_ _ | refine bset ?_ (by simp <;> omega) _ | refine bal ?_ _))).mono ?_
    rintro e w3 ⟨⟨va, vb, f3, rfl, hf3, hO3, hQ3⟩, hb3⟩
    have p0 : w3.cell? ⟨w.heap.size, 0, none⟩ = some (.int .i64 ins) := bkc hb3
    have zp0 := cell_lt p0
    have p1 : w3.cell? ⟨w.heap.size, 1, none⟩ = some (.int .i64 regs) := bkc hb3
    have p2 : w3.cell? ⟨w.heap.size, 2, none⟩ = some (.slice ca code.length cc) := bkc hb3
    have p3 : w3.cell? ⟨w.heap.size, 3, none⟩ = some (.slice oa outs.length oc) := bkc hb3
    have r0 : w3.cell? ⟨w.heap.size + 1, 0, none⟩ = some (.bool false) := bkc hb3
    have zr0 := cell_lt r0
    have r0f : w3.frozen? ⟨w.heap.size + 1, 0, none⟩ = false := bkcf (v := .bool false) hb3
    have hB : Below w.heap.size w w3 := bthen (by repeat (first | exact Below.refl _ _ | exact hB | refine Below.drew ?_ | refine below_drewN ?_ _ | refine bset ?_ (by simp <;> omega) _ | refine bal ?_ _)) hb3
    have hz : w.heap.size ≤ w3.heap.size := hB.size
    have HRS3 := Lib.hid (cell_lt r0)
    have HIN := Lib.hid ((hO3.isL.mono fun u x hr => (hr.row.rebase (Nat.zero_le _))).rebase (Nat.zero_le _) : GridV w3 va g)
    have HIQ := Lib.hid ((hQ3.isL.mono fun u x hr => (hr.row.rebase (Nat.zero_le _))).rebase (Nat.zero_le _) : GridQ w3 vb g)
    have HEV := Lib.hid hf3
    obtain ⟨a3, c3, rfl⟩ := hO3.ex
    obtain ⟨a4, c4, rfl⟩ := hQ3.ex
    clear hO3 hQ3 hf3 gx
    have hw3 := Below.refl w3.heap.size w3
    have ex := fun W (h : Below w.heap.size w W) (h3 : Below w3.heap.size w3 W) => exRowsX_c ins regs ca oa cc oc code outs (.slice a3 g.length c3) g 64 W (HC.out.1.keep h) (HC.out.2.keep h) (HIN.out.keep (prs_row lims_int _ _) h3) (by omega) HBD.out (by omega)
    go_wp2_with fail
    refine (ex _ (by repeat (first | exact Below.refl _ _ | exact hB | refine Below.drew ?_ | refine below_drewN ?_ _ | refine bset ?_ (by simp <;> omega) _ | refine bal ?_ _)) (by repeat (first | exact Below.refl _ _ | exact hw3 | refine Below.drew ?_ | refine below_drewN ?_ _ | refine bset ?_ (by simp <;> omega) _ | refine bal ?_ _))).mono ?_
    rintro e w4 hp4
    obtain ⟨⟨a8, n8, c8, q, x, rfl, HR'⟩, hb4⟩ := rowsAll hp4
    have HR := Lib.hid (HR'.out.base (w0 := w3) (by repeat (first | exact Below.refl _ _ | exact hw3 | refine Below.drew ?_ | refine below_drewN ?_ _ | refine bset ?_ (by simp <;> omega) _ | refine bal ?_ _)))
    have hb34 : Below w3.heap.size w3 w4 := bthen (by repeat (first | exact Below.refl _ _ | exact hw3 | refine Below.drew ?_ | refine below_drewN ?_ _ | refine bset ?_ (by simp <;> omega) _ | refine bal ?_ _)) hb4
    have p0 : w4.cell? ⟨w.heap.size, 0, none⟩ = some (.int .i64 ins) := bkc hb4
    have zp0 := cell_lt p0
    have p1 : w4.cell? ⟨w.heap.size, 1, none⟩ = some (.int .i64 regs) := bkc hb4
    have p2 : w4.cell? ⟨w.heap.size, 2, none⟩ = some (.slice ca code.length cc) := bkc hb4
    have p3 : w4.cell? ⟨w.heap.size, 3, none⟩ = some (.slice oa outs.length oc) := bkc hb4
    have r0 : w4.cell? ⟨w.heap.size + 1, 0, none⟩ = some (.bool false) := bkc hb4
    have zr0 := cell_lt r0
    have r0f : w4.frozen? ⟨w.heap.size + 1, 0, none⟩ = false := bkcf (v := .bool false) hb4
    have hB : Below w.heap.size w w4 := bthen (by repeat (first | exact Below.refl _ _ | exact hB | refine Below.drew ?_ | refine below_drewN ?_ _ | refine bset ?_ (by simp <;> omega) _ | refine bal ?_ _)) hb4
    have hz : w.heap.size ≤ w4.heap.size := hB.size
    clear ex hp4 HR'
    have hw4 := Below.refl w4.heap.size w4
    have jx := fun W (h : Below w.heap.size w W) (h4 : Below w4.heap.size w4 W) => exJudge_c ins regs ca oa cc oc code outs (.slice a3 g.length c3) g 64 W (HC.out.1.keep h) (HC.out.2.keep h) (HIN.out.keep (prs_row lims_int _ _) (bthen hb34 h4)) (by omega) HBD.out (by omega)
    go_wp2_with fail
    refine (jx _ (by repeat (first | exact Below.refl _ _ | exact hB | refine Below.drew ?_ | refine below_drewN ?_ _ | refine bset ?_ (by simp <;> omega) _ | refine bal ?_ _)) (by repeat (first | exact Below.refl _ _ | exact hw4 | refine Below.drew ?_ | refine below_drewN ?_ _ | refine bset ?_ (by simp <;> omega) _ | refine bal ?_ _))).mono ?_
    rintro e w5 hp5
    obtain ⟨⟨q5, x5, rfl, HJ⟩, hb5⟩ := judgeV hp5
    have hb45 : Below w4.heap.size w4 w5 := bthen (by repeat (first | exact Below.refl _ _ | exact hw4 | refine Below.drew ?_ | refine below_drewN ?_ _ | refine bset ?_ (by simp <;> omega) _ | refine bal ?_ _)) hb5
    obtain ⟨rfl, rfl⟩ := HR.out.1.uniq HJ.out
    have p0 : w5.cell? ⟨w.heap.size, 0, none⟩ = some (.int .i64 ins) := bkc hb5
    have zp0 := cell_lt p0
    have p1 : w5.cell? ⟨w.heap.size, 1, none⟩ = some (.int .i64 regs) := bkc hb5
    have p2 : w5.cell? ⟨w.heap.size, 2, none⟩ = some (.slice ca code.length cc) := bkc hb5
    have p3 : w5.cell? ⟨w.heap.size, 3, none⟩ = some (.slice oa outs.length oc) := bkc hb5
    have r0 : w5.cell? ⟨w.heap.size + 1, 0, none⟩ = some (.bool false) := bkc hb5
    have zr0 := cell_lt r0
    have r0f : w5.frozen? ⟨w.heap.size + 1, 0, none⟩ = false := bkcf (v := .bool false) hb5
    have hB : Below w.heap.size w w5 := bthen (by repeat (first | exact Below.refl _ _ | exact hB | refine Below.drew ?_ | refine below_drewN ?_ _ | refine bset ?_ (by simp <;> omega) _ | refine bal ?_ _)) hb5
    have hz : w.heap.size ≤ w5.heap.size := hB.size
    clear jx hp5 HJ
    have hw5 := Below.refl w5.heap.size w5
    have hb35 := bthen hb34 hb45
    have wx := fun W (h : Below w.heap.size w W) (h5 : Below w5.heap.size w5 W) => exWidest_c ins regs ca oa cc oc code outs (.slice a3 g.length c3) g 64 W (HC.out.1.keep h) (HC.out.2.keep h) (HIN.out.keep (prs_row lims_int _ _) (bthen hb35 h5)) (by omega) HBD.out (by omega)
    go_wp2_with fail
    refine (wx _ (by repeat (first | exact Below.refl _ _ | exact hB | refine Below.drew ?_ | refine below_drewN ?_ _ | refine bset ?_ (by simp <;> omega) _ | refine bal ?_ _)) (by repeat (first | exact Below.refl _ _ | exact hw5 | refine Below.drew ?_ | refine below_drewN ?_ _ | refine bset ?_ (by simp <;> omega) _ | refine bal ?_ _))).mono ?_
    rintro e w6 hp6
    obtain ⟨⟨vz, z, q6, x6, rfl, hz, HWD⟩, hb6⟩ := widestV hp6
    have hb56 : Below w5.heap.size w5 w6 := bthen (by repeat (first | exact Below.refl _ _ | exact hw5 | refine Below.drew ?_ | refine below_drewN ?_ _ | refine bset ?_ (by simp <;> omega) _ | refine bal ?_ _)) hb6
    obtain ⟨-, rfl⟩ := HR.out.1.uniq HWD.out.1
    have HZ := Lib.hid hz
    obtain ⟨nz, az, cz, lz, rfl, -⟩ := hz
    unfold iv at *
    have p0 : w6.cell? ⟨w.heap.size, 0, none⟩ = some (.int .i64 ins) := bkc hb6
    have zp0 := cell_lt p0
    have p1 : w6.cell? ⟨w.heap.size, 1, none⟩ = some (.int .i64 regs) := bkc hb6
    have p2 : w6.cell? ⟨w.heap.size, 2, none⟩ = some (.slice ca code.length cc) := bkc hb6
    have p3 : w6.cell? ⟨w.heap.size, 3, none⟩ = some (.slice oa outs.length oc) := bkc hb6
    have r0 : w6.cell? ⟨w.heap.size + 1, 0, none⟩ = some (.bool false) := bkc hb6
    have zr0 := cell_lt r0
    have r0f : w6.frozen? ⟨w.heap.size + 1, 0, none⟩ = false := bkcf (v := .bool false) hb6
    have hB : Below w.heap.size w w6 := bthen (by repeat (first | exact Below.refl _ _ | exact hB | refine Below.drew ?_ | refine below_drewN ?_ _ | refine bset ?_ (by simp <;> omega) _ | refine bal ?_ _)) hb6
    have hz : w.heap.size ≤ w6.heap.size := hB.size
    clear wx hp6
    have hw6 := Below.refl w6.heap.size w6
    go_wp2_with fail
    refine (rc _ (by repeat (first | exact Below.refl _ _ | exact hB | refine Below.drew ?_ | refine below_drewN ?_ _ | refine bset ?_ (by simp <;> omega) _ | refine bal ?_ _))).mono ?_
    rintro e w7 ⟨b7, rfl, hr7, hb7⟩
    have hb67 : Below w6.heap.size w6 w7 := bthen (by repeat (first | exact Below.refl _ _ | exact hw6 | refine Below.drew ?_ | refine below_drewN ?_ _ | refine bset ?_ (by simp <;> omega) _ | refine bal ?_ _)) hb7
    have p0 : w7.cell? ⟨w.heap.size, 0, none⟩ = some (.int .i64 ins) := bkc hb7
    have zp0 := cell_lt p0
    have p1 : w7.cell? ⟨w.heap.size, 1, none⟩ = some (.int .i64 regs) := bkc hb7
    have p2 : w7.cell? ⟨w.heap.size, 2, none⟩ = some (.slice ca code.length cc) := bkc hb7
    have p3 : w7.cell? ⟨w.heap.size, 3, none⟩ = some (.slice oa outs.length oc) := bkc hb7
    have r0 : w7.cell? ⟨w.heap.size + 1, 0, none⟩ = some (.bool false) := bkc hb7
    have zr0 := cell_lt r0
    have r0f : w7.frozen? ⟨w.heap.size + 1, 0, none⟩ = false := bkcf (v := .bool false) hb7
    have z0 : w7.cell? ⟨w6.heap.size, 0, none⟩ = some (.bool nz) := bkc hb7
    have zz0 := cell_lt z0
    have z1 : w7.cell? ⟨w6.heap.size, 1, none⟩ = some (.slice az lz.length cz) := bkc hb7
    have hB : Below w.heap.size w w7 := bthen (by repeat (first | exact Below.refl _ _ | exact hB | refine Below.drew ?_ | refine below_drewN ?_ _ | refine bset ?_ (by simp <;> omega) _ | refine bal ?_ _)) hb7
    have hz : w.heap.size ≤ w7.heap.size := hB.size
    have HR7 := Lib.hid hr7
    have hw7 := Below.refl w7.heap.size w7
    clear rc hr7
    go_wp2_with fail
    refine (live_c _).mono ?_
    rintro e w8 ⟨rfl, hb8⟩
    have hb78 : Below w7.heap.size w7 w8 := bthen (by repeat (first | exact Below.refl _ _ | exact hw7 | refine Below.drew ?_ | refine below_drewN ?_ _ | refine bset ?_ (by simp <;> omega) _ | refine bal ?_ _)) hb8
    have p0 : w8.cell? ⟨w.heap.size, 0, none⟩ = some (.int .i64 ins) := bkc hb8
    have zp0 := cell_lt p0
    have p1 : w8.cell? ⟨w.heap.size, 1, none⟩ = some (.int .i64 regs) := bkc hb8
    have p2 : w8.cell? ⟨w.heap.size, 2, none⟩ = some (.slice ca code.length cc) := bkc hb8
    have p3 : w8.cell? ⟨w.heap.size, 3, none⟩ = some (.slice oa outs.length oc) := bkc hb8
    have r0 : w8.cell? ⟨w.heap.size + 1, 0, none⟩ = some (.bool false) := bkc hb8
    have zr0 := cell_lt r0
    have r0f : w8.frozen? ⟨w.heap.size + 1, 0, none⟩ = false := bkcf (v := .bool false) hb8
    have z0 : w8.cell? ⟨w6.heap.size, 0, none⟩ = some (.bool nz) := bkc hb8
    have zz0 := cell_lt z0
    have z1 : w8.cell? ⟨w6.heap.size, 1, none⟩ = some (.slice az lz.length cz) := bkc hb8
    have hB : Below w.heap.size w w8 := bthen (by repeat (first | exact Below.refl _ _ | exact hB | refine Below.drew ?_ | refine below_drewN ?_ _ | refine bset ?_ (by simp <;> omega) _ | refine bal ?_ _)) hb8
    have hz : w.heap.size ≤ w8.heap.size := hB.size
    have hb68 := bthen hb67 hb78
    have hb38 := bthen hb35 (bthen hb56 hb68)
    have hw8 := Below.refl w8.heap.size w8
    have zr8 := cell_lt r0
    have zz8 := cell_lt z0
    cases b7 with
    | false =>
      have hno : ¬ ProgOk ins regs code outs := fun h => by have := HR7.out.2 h; cases this
      have HNO := Lib.hid (show ¬ ProgOk ins regs code outs ∨ ¬ FitsG ins g from .inl hno)
      obtain ⟨hqx, hxx, hnx, hzx⟩ : q5 = 0 ∧ x6 = 80 ∧ n8 = 0 ∧ z = 0 := by
        rcases HR.out.1 with ⟨_, h1, h2⟩ | ⟨h, _⟩ | ⟨h, _⟩ | ⟨h, _⟩
        · exact ⟨h1, h2, HR.out.2.1 (by omega), HWD.out.2.1 (by omega)⟩
        · exact absurd h hno
        · exact absurd h hno
        · exact absurd h hno
      clear hno HR HWD
      subst hqx hxx hnx hzx
      have sc := fun W (h3 : Below w8.heap.size w8 W) => steps_c ins regs ca oa code.length cc outs.length oc (.slice a3 g.length c3) g W ((HIN.out.keep (prs_row lims_int _ _) hb38).keep (prs_row lims_int _ _) h3)
      go_wp2_with fail
      refine (sc _ (by repeat (first | exact Below.refl _ _ | exact hw8 | refine Below.drew ?_ | refine below_drewN ?_ _ | refine bset ?_ (by simp <;> omega) _ | refine bal ?_ _))).mono ?_
      rintro e w9 ⟨pb, xb, rfl, hst, hb9⟩
      have hb89 : Below w8.heap.size w8 w9 := bthen (by repeat (first | exact Below.refl _ _ | exact hw8 | refine Below.drew ?_ | refine below_drewN ?_ _ | refine bset ?_ (by simp <;> omega) _ | refine bal ?_ _)) hb9
      have HST := Lib.hid hst
      have p0 : w9.cell? ⟨w.heap.size, 0, none⟩ = some (.int .i64 ins) := bkc hb9
      have zp0 := cell_lt p0
      have p1 : w9.cell? ⟨w.heap.size, 1, none⟩ = some (.int .i64 regs) := bkc hb9
      have p2 : w9.cell? ⟨w.heap.size, 2, none⟩ = some (.slice ca code.length cc) := bkc hb9
      have p3 : w9.cell? ⟨w.heap.size, 3, none⟩ = some (.slice oa outs.length oc) := bkc hb9
      have r0 : w9.cell? ⟨w.heap.size + 1, 0, none⟩ = some (.bool false) := bkc hb9
      have zr0 := cell_lt r0
      have r0f : w9.frozen? ⟨w.heap.size + 1, 0, none⟩ = false := bkcf (v := .bool false) hb9
      have z0 : w9.cell? ⟨w6.heap.size, 0, none⟩ = some (.bool nz) := bkc hb9
      have zz0 := cell_lt z0
      have z1 : w9.cell? ⟨w6.heap.size, 1, none⟩ = some (.slice az lz.length cz) := bkc hb9
      have hB : Below w.heap.size w w9 := bthen (by repeat (first | exact Below.refl _ _ | exact hB | refine Below.drew ?_ | refine below_drewN ?_ _ | refine bset ?_ (by simp <;> omega) _ | refine bal ?_ _)) hb9
      have hz : w.heap.size ≤ w9.heap.size := hB.size
      have hb39 := bthen hb38 hb89
      have hb69 := bthen hb68 hb89
      have hsg : (0 : Int).sign = 0 := rfl
      clear sc hst
      go_wp2
      refine wp_rangeD (gf := 90) (lb := #[.pointer (some ⟨pb, 0, none⟩), .pointer (some ⟨xb, 0, none⟩)]) (by simp [Act.eval]) (enters_of Tryz.func90 (by kernel_rfl) rfl)
        (steps_no (n0 := w9.heap.size) (S0 := fun _ => False) (fun _ _ _ => False) (fun _ _ => False) HNO.out) (Nat.le_refl _)
        (fun W h => StepsIn.keep (W := w9) ⟨HST.out.1, HST.out.2.1, HST.out.2.2.1, HST.out.2.2.2.1, HST.out.2.2.2.2, HC.out.1.keep hB, HC.out.2.keep hB, HIN.out.keep (prs_row lims_int _ _) hb39, (by omega), (fun q hq => hq.elim), Nat.le_refl _, (fun _ _ _ _ hq => hq)⟩ h) (fun _ _ _ h => h.elim)
        (fun k S W => (∀ q, ¬ S q) ∧ Below w9.heap.size w9 W) (fun _ _ _ _ => False)
        (fun k S X Y h c => ⟨h.1, h.2.trans (c.low h.2.size)⟩) (fun _ _ _ _ _ h _ => h.elim)
        (fun k S X h q hq => absurd hq (h.1 q)) (fun _ _ _ _ h => h.elim) ⟨fun _ h => h, Below.refl _ _⟩
        (fun _ _ _ _ _ _ => True) (fun _ _ _ _ _ _ _ _ _ _ _ _ => trivial) (fun _ _ _ _ h _ => h.elim)
        (fun _ _ _ _ _ _ h => absurd h (by omega)) (fun _ _ _ _ _ _ h => absurd h (by omega)) ?_ (fun _ _ _ _ _ _ _ h => h.elim)
      rintro D S Y hD ⟨-, hI⟩ hK
      replace r0f := bkeepf hI r0 r0f
      replace r0 := bkeep hI r0
      replace z0 := bkeep hI z0
      replace z1 := bkeep hI z1
      have hBY := bthen hB hI
      have zr0 := cell_lt r0
      have zz0 := cell_lt z0
      have gs := fun W (h : Below Y.heap.size Y W) => sign_c (.agg #[.bool nz, .slice az lz.length cz]) 0 W ((HZ.out.keep (bthen hb69 hI)).keep h)
      rw [hsg] at gs
      have hDl := (Array.getElem?_eq_some_iff.1 hK).1
      have HK := Lib.hid hK
      have hwY := Below.refl Y.heap.size Y
      clear hK
      go_wp2_with fail
      refine (gs _ (by repeat (first | exact Below.refl _ _ | exact hwY | refine Below.drew ?_ | refine below_drewN ?_ _ | refine bset ?_ (by simp <;> omega) _ | refine bal ?_ _))).mono ?_
      rintro e w10 ⟨rfl, hb10⟩
      have hbY := bthen (show Below Y.heap.size Y _ by repeat (first | exact Below.refl _ _ | exact hwY | refine Below.drew ?_ | refine below_drewN ?_ _ | refine bset ?_ (by simp <;> omega) _ | refine bal ?_ _)) hb10
      replace r0f := bkeepf hbY r0 r0f
      replace r0 := bkeep hbY r0
      have hB10 := bthen hBY hbY
      have zs := hbY.size
      clear gs hb10
      go_wp2
      refine ⟨by simp, .inl ⟨_, _, rfl, run_takeDeferred (b := D) (ds := []) ?_, ?_⟩⟩
      · exact (Below.heap_setCell _ _ _ D (by simp; omega)).trans ((hbY.block D hDl).trans HK.out)
      · have hfin := cell_put (D := D) (cell_here r0 (.bool true)) (by simp; omega) (.deferred none)
        refine ⟨.bool true, ?_, rfl, b_put (bset hB10 (by show w.heap.size ≤ w.heap.size + 1; omega) _) (by omega) _⟩
        simp [results, Tryz.results8, go_sem, hfin]
    | true =>
      have HOK := Lib.hid (show ProgOk ins regs code outs from by have := HR7.out; simpa using this)
      by_cases hle : (g.length : Int) = ins
      · have hleI : ((g.length : Int) != ins) = false := by simp; exact hle
        have HLE := Lib.hid hle
        clear hle
        cases f3 with
        | false =>
          have hnf : ¬ FitsG ins g := fun h => by have := HEV.out.2 h.rect; cases this
          have HNO := Lib.hid (show ¬ ProgOk ins regs code outs ∨ ¬ FitsG ins g from .inr hnf)
          obtain ⟨hqx, hxx, hnx, hzx⟩ : q5 = 0 ∧ x6 = 5 ∧ n8 = 0 ∧ z = 0 := by
            rcases HR.out.1 with ⟨h, _⟩ | ⟨_, _, h1, h2⟩ | ⟨_, h, _⟩ | ⟨_, h, _⟩
            · exact absurd HOK.out h
            · exact ⟨h1, h2, HR.out.2.1 (by omega), HWD.out.2.1 (by omega)⟩
            · exact absurd h hnf
            · exact absurd h hnf
          clear hnf HR HWD
          subst hqx hxx hnx hzx
          have sc := fun W (h3 : Below w8.heap.size w8 W) => steps_c ins regs ca oa code.length cc outs.length oc (.slice a3 g.length c3) g W ((HIN.out.keep (prs_row lims_int _ _) hb38).keep (prs_row lims_int _ _) h3)
          go_wp2_with fail
          refine (sc _ (by repeat (first | exact Below.refl _ _ | exact hw8 | refine Below.drew ?_ | refine below_drewN ?_ _ | refine bset ?_ (by simp <;> omega) _ | refine bal ?_ _))).mono ?_
          rintro e w9 ⟨pb, xb, rfl, hst, hb9⟩
          have hb89 : Below w8.heap.size w8 w9 := bthen (by repeat (first | exact Below.refl _ _ | exact hw8 | refine Below.drew ?_ | refine below_drewN ?_ _ | refine bset ?_ (by simp <;> omega) _ | refine bal ?_ _)) hb9
          have HST := Lib.hid hst
          have p0 : w9.cell? ⟨w.heap.size, 0, none⟩ = some (.int .i64 ins) := bkc hb9
          have zp0 := cell_lt p0
          have p1 : w9.cell? ⟨w.heap.size, 1, none⟩ = some (.int .i64 regs) := bkc hb9
          have p2 : w9.cell? ⟨w.heap.size, 2, none⟩ = some (.slice ca code.length cc) := bkc hb9
          have p3 : w9.cell? ⟨w.heap.size, 3, none⟩ = some (.slice oa outs.length oc) := bkc hb9
          have r0 : w9.cell? ⟨w.heap.size + 1, 0, none⟩ = some (.bool false) := bkc hb9
          have zr0 := cell_lt r0
          have r0f : w9.frozen? ⟨w.heap.size + 1, 0, none⟩ = false := bkcf (v := .bool false) hb9
          have z0 : w9.cell? ⟨w6.heap.size, 0, none⟩ = some (.bool nz) := bkc hb9
          have zz0 := cell_lt z0
          have z1 : w9.cell? ⟨w6.heap.size, 1, none⟩ = some (.slice az lz.length cz) := bkc hb9
          have hB : Below w.heap.size w w9 := bthen (by repeat (first | exact Below.refl _ _ | exact hB | refine Below.drew ?_ | refine below_drewN ?_ _ | refine bset ?_ (by simp <;> omega) _ | refine bal ?_ _)) hb9
          have hz : w.heap.size ≤ w9.heap.size := hB.size
          have hb39 := bthen hb38 hb89
          have hb69 := bthen hb68 hb89
          have hsg : (0 : Int).sign = 0 := rfl
          clear sc hst
          go_wp2
          refine wp_rangeD (gf := 90) (lb := #[.pointer (some ⟨pb, 0, none⟩), .pointer (some ⟨xb, 0, none⟩)]) (by simp [Act.eval]) (enters_of Tryz.func90 (by kernel_rfl) rfl)
            (steps_no (n0 := w9.heap.size) (S0 := fun _ => False) (fun _ _ _ => False) (fun _ _ => False) HNO.out) (Nat.le_refl _)
            (fun W h => StepsIn.keep (W := w9) ⟨HST.out.1, HST.out.2.1, HST.out.2.2.1, HST.out.2.2.2.1, HST.out.2.2.2.2, HC.out.1.keep hB, HC.out.2.keep hB, HIN.out.keep (prs_row lims_int _ _) hb39, (by omega), (fun q hq => hq.elim), Nat.le_refl _, (fun _ _ _ _ hq => hq)⟩ h) (fun _ _ _ h => h.elim)
            (fun k S W => (∀ q, ¬ S q) ∧ Below w9.heap.size w9 W) (fun _ _ _ _ => False)
            (fun k S X Y h c => ⟨h.1, h.2.trans (c.low h.2.size)⟩) (fun _ _ _ _ _ h _ => h.elim)
            (fun k S X h q hq => absurd hq (h.1 q)) (fun _ _ _ _ h => h.elim) ⟨fun _ h => h, Below.refl _ _⟩
            (fun _ _ _ _ _ _ => True) (fun _ _ _ _ _ _ _ _ _ _ _ _ => trivial) (fun _ _ _ _ h _ => h.elim)
            (fun _ _ _ _ _ _ h => absurd h (by omega)) (fun _ _ _ _ _ _ h => absurd h (by omega)) ?_ (fun _ _ _ _ _ _ _ h => h.elim)
          rintro D S Y hD ⟨-, hI⟩ hK
          replace r0f := bkeepf hI r0 r0f
          replace r0 := bkeep hI r0
          replace z0 := bkeep hI z0
          replace z1 := bkeep hI z1
          have hBY := bthen hB hI
          have zr0 := cell_lt r0
          have zz0 := cell_lt z0
          have gs := fun W (h : Below Y.heap.size Y W) => sign_c (.agg #[.bool nz, .slice az lz.length cz]) 0 W ((HZ.out.keep (bthen hb69 hI)).keep h)
          rw [hsg] at gs
          have hDl := (Array.getElem?_eq_some_iff.1 hK).1
          have HK := Lib.hid hK
          have hwY := Below.refl Y.heap.size Y
          clear hK
          go_wp2_with fail
          refine (gs _ (by repeat (first | exact Below.refl _ _ | exact hwY | refine Below.drew ?_ | refine below_drewN ?_ _ | refine bset ?_ (by simp <;> omega) _ | refine bal ?_ _))).mono ?_
          rintro e w10 ⟨rfl, hb10⟩
          have hbY := bthen (show Below Y.heap.size Y _ by repeat (first | exact Below.refl _ _ | exact hwY | refine Below.drew ?_ | refine below_drewN ?_ _ | refine bset ?_ (by simp <;> omega) _ | refine bal ?_ _)) hb10
          replace r0f := bkeepf hbY r0 r0f
          replace r0 := bkeep hbY r0
          have hB10 := bthen hBY hbY
          have zs := hbY.size
          clear gs hb10
          go_wp2
          refine ⟨by simp, .inl ⟨_, _, rfl, run_takeDeferred (b := D) (ds := []) ?_, ?_⟩⟩
          · exact (Below.heap_setCell _ _ _ D (by simp; omega)).trans ((hbY.block D hDl).trans HK.out)
          · have hfin := cell_put (D := D) (cell_here r0 (.bool true)) (by simp; omega) (.deferred none)
            refine ⟨.bool true, ?_, rfl, b_put (bset hB10 (by show w.heap.size ≤ w.heap.size + 1; omega) _) (by omega) _⟩
            simp [results, Tryz.results8, go_sem, hfin]
        | true =>
          have HFI := Lib.hid (show FitsG ins g from ⟨HLE.out, HEV.out.1 rfl, by omega⟩)
          obtain ⟨R, hR⟩ : ∃ R : Nat, regs = R := ⟨regs.toNat, by have := HOK.out.i1; have := HOK.out.i2; omega⟩
          have hgR : g.length ≤ R := by have := HOK.out.i2; have := HLE.out; omega
          have hR128 : R ≤ 128 := by have := HOK.out.r1; omega
          have hcl := HOK.out.c1
          have hol := HOK.out.o2
          have hgl2 : g.length ≤ 400 := by omega
          subst hR
          obtain ⟨m, hm⟩ : ∃ m, (g.getD 0 []).length = m := ⟨_, rfl⟩
          have HMM := Lib.hid hm
          have hm4 : m ≤ 400 := by omega
          have hrect := HFI.out.rect
          rw [hm] at hrect
          have HRE := Lib.hid hrect
          have HSL := Lib.hid (startG_len (n := m) hgR)
          have HSR := Lib.hid (startG_rect (regs := R) hrect)
          have HSB' := Lib.hid (startG_bd (regs := R) (n := m) HBD.out)
          have HTO := Lib.hid (fun n (hn : n < code.length) => (show (code.getD n default).a.toNat < R ∧ (code.getD n default).to.toNat < R from by have h1 := (ins_of HOK.out hn).a1; have h0 := (ins_of HOK.out hn).a0; have h2 := (ins_of HOK.out hn).t0; have h3 := (ins_of HOK.out hn).t1; rw [Int.toNat_natCast] at *; omega))
          clear hm hrect
          have fx := fun W (h : Below w.heap.size w W) (h8 : Below w8.heap.size w8 W) => follow_c ins R ca oa cc oc code outs (.slice a4 g.length c4) g m 64 W (HC.out.1.keep h) (HC.out.2.keep h) ((HIQ.out.keep (prs_row lims_ref _ _) hb38).keep (prs_row lims_ref _ _) h8) HOK.out HLE.out HRE.out HMM.out (by omega) HBD.out (by omega)
          go_wp2_with fail
          refine (fx _ (by repeat (first | exact Below.refl _ _ | exact hB | refine Below.drew ?_ | refine below_drewN ?_ _ | refine bset ?_ (by simp <;> omega) _ | refine bal ?_ _)) (by repeat (first | exact Below.refl _ _ | exact hw8 | refine Below.drew ?_ | refine below_drewN ?_ _ | refine bset ?_ (by simp <;> omega) _ | refine bal ?_ _))).mono ?_
          rintro e w9 hp9
          obtain ⟨M, sa, sc, bad, ua, un, uc, rfl, HF, hb9⟩ := followV hp9
          have hb89 : Below w8.heap.size w8 w9 := bthen (by repeat (first | exact Below.refl _ _ | exact hw8 | refine Below.drew ?_ | refine below_drewN ?_ _ | refine bset ?_ (by simp <;> omega) _ | refine bal ?_ _)) hb9
          have p0 : w9.cell? ⟨w.heap.size, 0, none⟩ = some (.int .i64 ins) := bkc hb9
          have zp0 := cell_lt p0
          have p1 : w9.cell? ⟨w.heap.size, 1, none⟩ = some (.int .i64 (R : Int)) := bkc hb9
          have p2 : w9.cell? ⟨w.heap.size, 2, none⟩ = some (.slice ca code.length cc) := bkc hb9
          have p3 : w9.cell? ⟨w.heap.size, 3, none⟩ = some (.slice oa outs.length oc) := bkc hb9
          have r0 : w9.cell? ⟨w.heap.size + 1, 0, none⟩ = some (.bool false) := bkc hb9
          have zr0 := cell_lt r0
          have r0f : w9.frozen? ⟨w.heap.size + 1, 0, none⟩ = false := bkcf (v := .bool false) hb9
          have z0 : w9.cell? ⟨w6.heap.size, 0, none⟩ = some (.bool nz) := bkc hb9
          have zz0 := cell_lt z0
          have z1 : w9.cell? ⟨w6.heap.size, 1, none⟩ = some (.slice az lz.length cz) := bkc hb9
          have hB : Below w.heap.size w w9 := bthen (by repeat (first | exact Below.refl _ _ | exact hB | refine Below.drew ?_ | refine below_drewN ?_ _ | refine bset ?_ (by simp <;> omega) _ | refine bal ?_ _)) hb9
          have hz : w.heap.size ≤ w9.heap.size := hB.size
          clear fx hp9
          have hb39 := bthen hb38 hb89
          have hb69 := bthen hb68 hb89
          have hw9 := Below.refl w9.heap.size w9
          have sx := fun W (h9 : Below w9.heap.size w9 W) => steps_c ins (R : Int) ca oa code.length cc outs.length oc (.slice a3 g.length c3) g W ((HIN.out.keep (prs_row lims_int _ _) hb39).keep (prs_row lims_int _ _) h9)
          go_wp2_with fail
          refine (sx _ (by repeat (first | exact Below.refl _ _ | exact hw9 | refine Below.drew ?_ | refine below_drewN ?_ _ | refine bset ?_ (by simp <;> omega) _ | refine bal ?_ _))).mono ?_
          rintro e w10 ⟨pb, xb, rfl, hst, hb10⟩
          have hb910 : Below w9.heap.size w9 w10 := bthen (by repeat (first | exact Below.refl _ _ | exact hw9 | refine Below.drew ?_ | refine below_drewN ?_ _ | refine bset ?_ (by simp <;> omega) _ | refine bal ?_ _)) hb10
          have sb0 : w10.cell? ⟨w9.heap.size, 0, none⟩ = some (.slice sa M sc) := bkeep hb10 (by first | exact cell_alloc (cell_new rfl rfl) _ | exact cell_drew (cell_alloc (cell_new rfl rfl) _))
          have i0 : w10.cell? ⟨w9.heap.size + 1, 0, none⟩ = some (.int .i64 ((0 : Nat) : Int)) := bkeep hb10 (by first | exact cell_new (by simp) rfl | exact cell_drew (cell_new (by simp) rfl))
          have i0f : w10.frozen? ⟨w9.heap.size + 1, 0, none⟩ = false := bkeepf hb10 (by first | exact cell_new (by simp) rfl | exact cell_drew (cell_new (by simp) rfl)) (by simp [go_sem])
          have hti : typOf w10 (w9.heap.size + 1) = some 3 := typ_keep (typ_fresh (by simp)) hb10
          have hisz : w9.heap.size + 1 < w10.heap.size := cell_lt i0
          have SY := steps_yes (n0 := w10.heap.size) (S0 := fun q => q = w9.heap.size + 1) (pb := pb) (xb := xb) (ins := ins) (regs := (R : Int)) (ca := ca) (oa := oa) (cc := cc) (oc := oc) (code := code) (outs := outs) (v := .slice a3 g.length c3) (g := g) (M := M) (K := 64) HOK.out HFI.out HMM.out (by rw [Int.toNat_natCast]; exact HF.out.1) HBD.out (by omega)
          rw [Int.toNat_natCast] at SY
          have HSY := Lib.hid SY
          have HSI := Lib.hid (show StepsIn w10.heap.size (fun q => q = w9.heap.size + 1) pb xb ins (R : Int) ca oa cc oc code outs (.slice a3 g.length c3) g w10 from
            ⟨hst.1, hst.2.1, hst.2.2.1, hst.2.2.2.1, hst.2.2.2.2, HC.out.1.keep (bthen hB hb910), HC.out.2.keep (bthen hB hb910), HIN.out.keep (prs_row lims_int _ _) (bthen hb39 hb910), by omega, fun q hq => by subst hq; exact hisz, Nat.le_refl _, fun b off e hl hq => by
              rcases HC.out.1 with h0 | ⟨b', off', h1, _, h3⟩
              · rw [h0] at hl; simp at hl
              · rw [e] at h1; cases h1
                have := cell_lt (h3 0 hl).c0
                have := hB.size
                omega⟩)
          have HV10 := Lib.hid (show RunV w10 (w9.heap.size + 1) 0 w10 from ⟨i0, i0f, hti, Out.refl _ _⟩)
          have HSB := Lib.hid sb0
          have HBs := Lib.hid hB
          have HR0 := Lib.hid (And.intro r0 r0f)
          have HZ0 := Lib.hid (And.intro z0 z1)
          have HP0 := Lib.hid (And.intro p0 (And.intro p1 (And.intro p2 p3)))
          clear hst hb10 SY sx i0 i0f hti
          have hML := HF.out.1.le
          go_wp2
          refine wp_rangeD (gf := 90) (lb := #[.pointer (some ⟨pb, 0, none⟩), .pointer (some ⟨xb, 0, none⟩)]) (by simp [Act.eval]) (enters_of Tryz.func90 (by kernel_rfl) rfl)
            HSY.out (Nat.le_refl _) (fun W h => HSI.out.keep h) (fun _ _ _ h => by obtain ⟨v, base, rfl, _⟩ := h; rfl)
            (fun k S W => S = (fun q => q = w9.heap.size + 1) ∧ RunV w10 (w9.heap.size + 1) k W) (fun _ _ _ _ => False)
            (fun k S X Y h c => ⟨h.1, h.2.clo hisz c⟩) (fun _ _ _ _ _ h _ => h.elim)
            (fun k S X h q hq => by obtain ⟨rfl, hv⟩ := h; subst hq; exact ⟨_, hv.ty, by decide⟩) (fun _ _ _ _ h => h.elim) ⟨rfl, HV10.out⟩
            (fun T k args S a' X => AtT w10.heap.size (toldR code (startG g R m)) (w9.heap.size + 1) T k args S a' X) (fun k args S a' X l o o' _ h1 h2 h => h.put h1 h2)
            (fun k args X q h hq => h.cells hq) ?assignA ?bodyA ?doneA (fun _ _ _ _ _ _ _ h => h.elim)
          case assignA =>
            rintro y k args S X Kk hk hi ⟨v, base, rfl, hbs, hv⟩ hxs hKk
            have HV := Lib.hid hv
            have HXS := Lib.hid (And.intro hi.1 hxs)
            obtain ⟨va, vc, rfl⟩ := hv.ex
            clear hxs
            gi_wp2
            refine hKk _ _ (Below.refl _ _) hi ⟨_, base, rfl, hbs, HV.out, fun q hq e => HXS.out.2 q ⟨_, rfl, hq⟩ (by rw [HXS.out.1]; exact e), by simp⟩
          case bodyA =>
            rintro y k args S a' w11 hk ⟨rfl, hV⟩ ⟨v, base, rfl, hbs, hv, hne, rfl⟩
            have HVV := Lib.hid hV
            have HRV := Lib.hid hv
            have HNE := Lib.hid hne
            have hb911 : Below w9.heap.size w9 w11 := hb910.trans (hV.out.to_below (fun q hq _ e => by omega) hb910.size)
            obtain ⟨a', c', he, -, vr⟩ := (HF.out.2.1.keep (prs_row lims_ref _ _) hb911).view
            rw [told_len] at he
            obtain ⟨rfl, -, rfl⟩ := Value.slice.inj he
            obtain ⟨tb, tf, u, rfl, t0, hr⟩ := vr k (by rw [told_len]; exact hk)
            obtain ⟨hh, ehh⟩ := HF.out.1.has
            have hbd := Lib.hid (fun j => (toldR_bd HSB'.out (cs_of HOK.out) HF.out.1.le ehh hk (by rw [HSL.out]; exact (HTO.out k (by omega)).2) j).mono (show 64 + 65 * (k + 1) ≤ 2000000 by omega))
            rw [show (told code (startG g R m) M)[k]'(by rw [told_len]; exact hk) = toldR code (startG g R m) k by simp [told]] at hr
            have hvw := hv.wrow
            have ic := fun W (h : Below w11.heap.size w11 W) => is_c v u (toldR code (startG g R m) k) 2000000 W ((hv.row.rebase (Nat.zero_le _)).keep lims_int h) (hr.keep lims_ref h) hbd.out (by omega) (by
              have := toldR_len HSR.out HSL.out (fun n hn => (HTO.out n hn).1) HF.out.1.le ehh hk
              omega)
            obtain ⟨i0, i0f, hti, hout⟩ := hV
            have sb0 := okeep hout HSB.out (by omega)
            obtain ⟨va, vc, rfl⟩ := hv.ex
            obtain ⟨ua, uc, rfl, -⟩ := hr
            have HWF := Lib.hid hvw.full
            have zi := cell_lt i0
            have zs := cell_lt sb0
            have zt := cell_lt t0
            have hki : (k : Int) < (M : Int) := by omega
            have hkd : decide (M ≤ k) = false := by simp; omega
            simp only [List.setIfInBounds_toArray, List.set_cons_succ, List.set_cons_zero]
            have hBw := Below.refl w11.heap.size w11
            clear hv hne he vr hvw ehh
            gi_wp2_with (first | (refine ⟨trivial, ?_⟩; refine CallsIn.mono (callsIn_wide.2 (ic _ ?_)) ?_; (repeat (first | exact Below.refl _ _ | exact hBw | refine Below.drew ?_ | refine below_drewN ?_ _ | refine bset ?_ (by simp <;> omega) _ | refine bal ?_ _)); rintro e w12 ⟨rfl, hb12⟩; have hb1112 : Below w11.heap.size w11 w12 := bthen (by repeat (first | exact Below.refl _ _ | exact hBw | refine Below.drew ?_ | refine below_drewN ?_ _ | refine bset ?_ (by simp <;> omega) _ | refine bal ?_ _)) hb12; have i1 := bkeep hb1112 i0; have i1f := bkeepf hb1112 i0 i0f; have zi2 := cell_lt i1) | fail)
            have HWF2 := Lib.hid (HWF.out.shp (Shp.of_below hb1112))
            have HRB := Lib.hid (fun q (hq : rowBlk (.slice va (toldR code (startG g R m) k).length vc) = some q) => (rowO_blk HRV.out hq))
            have hvc : vc ≤ 9223372036854775807 := by
              rcases HWF.out with ⟨h, _⟩ | ⟨_, _, _, h, _, _, _, h4, _⟩
              · cases h; omega
              · cases h; unfold maxLen at h4; omega
            clear ic i0 i0f hti zi sb0 zs t0 zt hbd
            gi_loopw [22] (fun x wr => ∃ j : Nat, j ≤ vc ∧ x = .int .i64 j ∧ Out (fun q => rowBlk (.slice va vc vc) = some q) w12 wr ∧ Hid (Shp w12 wr ∧ Ty w12 wr)) (fun x _ => vc - (intOf x).toNat)
            case atStart => exact ⟨0, Nat.zero_le _, rfl, Out.refl _ _, Lib.hid ⟨Shp.refl _, Ty.refl _⟩⟩
            case round =>
              obtain ⟨j, hj, rfl, hO, hST⟩ := hrel
              by_cases hlt : j < vc
              · have hltI : (j : Int) < (vc : Int) := by omega
                obtain ⟨gb, cap, x0, y0, he, hbg, d0, d1, d0f, d1f⟩ := (HWF2.out.shp hST.out.1).at hlt
                obtain ⟨rfl, -, rfl⟩ := Value.slice.inj he
                have zd := cell_lt d0
                clear he
                have oc := fun W => of_c 123456 W (by omega) (by omega)
                have hBr := Below.refl wr.heap.size wr
                gi_wp2_with (first | (refine ⟨trivial, ?_⟩; refine CallsIn.mono (callsIn_wide.2 (oc _)) ?_; rintro e w13 ⟨⟨v3, rfl, hv3⟩, hb13⟩; have hbr13 : Below wr.heap.size wr w13 := bthen (by repeat (first | exact Below.refl _ _ | exact hBr | refine Below.drew ?_ | refine below_drewN ?_ _ | refine bset ?_ (by simp <;> omega) _ | refine bal ?_ _)) hb13; (replace d0f := bkeepf hbr13 d0 d0f); (replace d1f := bkeepf hbr13 d1 d1f); (replace d0 := bkeep hbr13 d0); (replace d1 := bkeep hbr13 d1); have zd3 := cell_lt d0; obtain ⟨n3, ax3, c3x, l3, rfl, -⟩ := hv3; unfold iv at *) | fail)
                exact ⟨⟨j + 1, by omega, by go_num, ((hO.below hbr13).set (p := ⟨gb, j * 2, none⟩) (fun _ => rfl) _).set (p := ⟨gb, j * 2 + 1, none⟩) (fun _ => rfl) _, Lib.hid ⟨((hST.out.1.below hbr13).set _ _).set _ _, ((hST.out.2.trans (Ty.of_below hbr13) hO.size).set _ _).set _ _⟩⟩, by simp [intOf]; omega⟩
              · obtain rfl : j = vc := by omega
                have hne2 : ¬ rowBlk (.slice va j j) = some (w9.heap.size + 1) := fun e => HNE.out _ ((rowBlk_len va _ _ _ _).trans e) rfl
                have i2 := okeep hO i1 hne2
                have i2f := okeepf hO i1 i1f hne2
                have zi3 := cell_lt i2
                gi_wp2
                refine ⟨⟨?_, fun q hq hl => ?_⟩, _, Grew.same _ _, rfl, cell_here i2 _, ?_, ?_, ?_⟩
                · exact ((Out.of_below _ hb1112).trans (hO.mono fun q _ h => .inr ⟨_, rfl, (rowBlk_len va _ _ _ _).trans h⟩)).set (fun _ => .inl rfl) _
                · rw [typ_set, hST.out.2 q (Nat.lt_of_lt_of_le hl hb1112.size)]
                  unfold typOf; rw [hb1112.block q hl]
                · rw [World.frozen?_setCell]; exact i2f
                · rw [typ_set, hST.out.2 _ (cell_lt i1)]
                  unfold typOf; rw [hb1112.block _ (typ_lt HVV.out.ty)]; exact HVV.out.ty
                · refine ((HVV.out.out.below hb1112).then hO fun i hi h => ?_).set (fun _ => rfl) _
                  have := (HRB.out i ((rowBlk_len va _ _ _ _).trans h)).1
                  omega
          case doneA =>
            rintro D1 S Y1 hD1 ⟨-, hV⟩ hK1
            obtain ⟨i0, i0f, hti, hout⟩ := hV
            have sb0 := okeep hout HSB.out (by omega)
            have hb9Y : Below w9.heap.size w9 Y1 := hb910.trans (hout.to_below (fun q hq _ e => by omega) hb910.size)
            have hb39Y := bthen hb39 hb9Y
            have hBY := bthen HBs.out hb9Y
            have p0 := bkeep hb9Y HP0.out.1
            have p1 := bkeep hb9Y HP0.out.2.1
            have p2 := bkeep hb9Y HP0.out.2.2.1
            have p3 := bkeep hb9Y HP0.out.2.2.2
            have HK1 := Lib.hid hK1
            have hD1l := (Array.getElem?_eq_some_iff.1 hK1).1
            have zi := cell_lt i0
            have zs := cell_lt sb0
            have zp := cell_lt p0
            have sx := fun W (h9 : Below Y1.heap.size Y1 W) => steps_c ins (R : Int) ca oa code.length cc outs.length oc (.slice a3 g.length c3) g W ((HIN.out.keep (prs_row lims_int _ _) hb39Y).keep (prs_row lims_int _ _) h9)
            have hwY := Below.refl Y1.heap.size Y1
            clear hK1 hout
            go_wp2_with fail
            refine (sx _ (by repeat (first | exact Below.refl _ _ | exact hwY | refine Below.drew ?_ | refine below_drewN ?_ _ | refine bset ?_ (by simp <;> omega) _ | refine bal ?_ _))).mono ?_
            rintro e w12 ⟨pb2, xb2, rfl, hst, hb12⟩
            have hbY12 : Below Y1.heap.size Y1 w12 := bthen (by repeat (first | exact Below.refl _ _ | exact hwY | refine Below.drew ?_ | refine below_drewN ?_ _ | refine bset ?_ (by simp <;> omega) _ | refine bal ?_ _)) hb12
            have HSY2 := Lib.hid (by have h := steps_yes (n0 := w12.heap.size) (S0 := fun _ => False) (pb := pb2) (xb := xb2) (ins := ins) (regs := (R : Int)) (ca := ca) (oa := oa) (cc := cc) (oc := oc) (code := code) (outs := outs) (v := .slice a3 g.length c3) (g := g) (M := M) (K := 64) HOK.out HFI.out HMM.out (by rw [Int.toNat_natCast]; exact HF.out.1) HBD.out (by omega); exact h)
            have HSI2 := Lib.hid (show StepsIn w12.heap.size (fun _ => False) pb2 xb2 ins (R : Int) ca oa cc oc code outs (.slice a3 g.length c3) g w12 from
              ⟨hst.1, hst.2.1, hst.2.2.1, hst.2.2.2.1, hst.2.2.2.2, HC.out.1.keep (bthen hBY hbY12), HC.out.2.keep (bthen hBY hbY12), HIN.out.keep (prs_row lims_int _ _) (bthen hb39Y hbY12), by omega, fun q hq => hq.elim, Nat.le_refl _, fun _ _ _ _ hq => hq⟩)
            clear hst hb12 sx i0 i0f hti sb0 p0 p1 p2 p3
            go_wp2
            refine wp_rangeD1 (gf := 90) (lb := #[.pointer (some ⟨pb2, 0, none⟩), .pointer (some ⟨xb2, 0, none⟩)]) (by simp [Act.eval]) (enters_of Tryz.func90 (by kernel_rfl) rfl)
              HSY2.out (Nat.le_refl _) (fun W h => HSI2.out.keep h) (fun _ _ _ h => by obtain ⟨v, base, rfl, _⟩ := h; rfl)
              (fun k S W => (∀ q, ¬ S q) ∧ Below w12.heap.size w12 W) (fun c k S W => c = .exit 6 ∧ (∀ q, ¬ S q) ∧ Below w12.heap.size w12 W)
              (fun k S X Y h c => ⟨h.1, h.2.trans (c.low h.2.size)⟩) (fun c k S X Y h d => ⟨h.1, h.2.1, h.2.2.trans (d.low h.2.2.size)⟩)
              (fun k S X h q hq => absurd hq (h.1 q)) (fun c k S X h q hq => absurd hq (h.2.1 q)) ⟨fun _ h => h, Below.refl _ _⟩
              (fun _ _ _ _ _ _ => True) (fun _ _ _ _ _ _ _ _ _ _ _ _ => trivial) (fun k args X q h hq => h.cells hq) ?assignB ?bodyB 6 (Below w12.heap.size w12) (fun S Y h => h.2) (fun c k S Y h => ⟨h.1, h.2.2⟩) (fun act Y h => by simpa [Exit.inBlock] using h) ?endsB
            case assignB =>
              rintro y k args S X Kk hk hi ⟨v, base, rfl, -, -⟩ - hKk
              gi_wp2
              exact hKk _ _ (Below.refl _ _) hi trivial
            case bodyB =>
              rintro y k args S a' X hk hi -
              gi_wp2
              exact ⟨⟨Out.refl _ _, fun _ _ _ => rfl⟩, S, rfl, hi.1, hi.2⟩
            case endsB =>
              rintro D2 Y2 hD2 hI hK2
              have hb9Y2 : Below w9.heap.size w9 Y2 := bthen hb9Y (bthen hbY12 hI)
              have hb39Y2 := bthen hb39 hb9Y2
              have hb69Y2 := bthen hb69 hb9Y2
              have hB2 := bthen HBs.out hb9Y2
              have r0f := bkeepf hb9Y2 HR0.out.1 HR0.out.2
              have r0 := bkeep hb9Y2 HR0.out.1
              have z0 := bkeep hb9Y2 HZ0.out.1
              have z1 := bkeep hb9Y2 HZ0.out.2
              have p0 := bkeep hb9Y2 HP0.out.1
              have p1 := bkeep hb9Y2 HP0.out.2.1
              have p2 := bkeep hb9Y2 HP0.out.2.2.1
              have p3 := bkeep hb9Y2 HP0.out.2.2.2
              have zr0 := cell_lt r0
              have zz0 := cell_lt z0
              have zp0 := cell_lt p0
              have HK2 := Lib.hid hK2
              have hD2l := (Array.getElem?_eq_some_iff.1 hK2).1
              have HKD1 := Lib.hid (((bthen hbY12 hI).block D1 hD1l).trans HK1.out)
              have hs1 := hbY12.size
              have hs2 := hI.size
              have hs3 := hb910.size
              have hs4 := hb9Y.size
              have hs5 : w.heap.size + 1 < w9.heap.size := cell_lt HR0.out.1
              have hD12 : D1 < D2 := by omega
              have hD1w : w.heap.size + 1 < D1 := by omega
              have hD2w : w.heap.size + 1 < D2 := by omega
              clear hK2
              rcases HF.out.2.2 with ⟨hlt, hno, hbad⟩ | ⟨hMe, hbad, hun, h, hh, hLu⟩
              · obtain ⟨hq, hx, hn, hz⟩ : q5 = (M : Int) ∧ x6 = 20 ∧ n8 = 0 ∧ z = 0 := by
                  obtain ⟨hhM, ehM⟩ := HF.out.1.has
                  rcases HR.out.1 with ⟨h, _⟩ | ⟨_, h, _⟩ | ⟨_, _, k, s, _, h1, h2, h3, h4⟩ | ⟨_, _, ⟨s, h1⟩, _⟩
                  · exact absurd HOK.out h
                  · exact absurd HFI.out h
                  · rw [Int.toNat_natCast, HMM.out] at h1 h2
                    exact ⟨by rw [h3, fail_uniq h1 h2 ehM hno], h4, HR.out.2.1 (by omega), HWD.out.2.1 (by omega)⟩
                  · rw [Int.toNat_natCast, HMM.out] at h1
                    rw [after_mono hno (show M + 1 ≤ code.length by omega)] at h1; cases h1
                have HNO := Lib.hid hno
                clear hno hlt
                subst hbad hq hx hn hz
                have hsg : (0 : Int).sign = 0 := rfl
                have hge : (0 : Int) ≤ (M : Int) := by omega
                have gs := fun W (h : Below Y2.heap.size Y2 W) => sign_c (.agg #[.bool nz, .slice az lz.length cz]) 0 W ((HZ.out.keep hb69Y2).keep h)
                rw [hsg] at gs
                have hwY := Below.refl Y2.heap.size Y2
                go_wp2_with fail
                refine (gs _ (by repeat (first | exact Below.refl _ _ | exact hwY | refine Below.drew ?_ | refine below_drewN ?_ _ | refine bset ?_ (by simp <;> omega) _ | refine bal ?_ _))).mono ?_
                rintro e w13 ⟨rfl, hb13⟩
                have hbY := bthen (show Below Y2.heap.size Y2 _ by repeat (first | exact Below.refl _ _ | exact hwY | refine Below.drew ?_ | refine below_drewN ?_ _ | refine bset ?_ (by simp <;> omega) _ | refine bal ?_ _)) hb13
                replace r0f := bkeepf hbY r0 r0f
                replace r0 := bkeep hbY r0
                have hB13 := bthen hB2 hbY
                have hs6 := hbY.size
                have HKA := Lib.hid ((hbY.block D1 (by omega)).trans HKD1.out)
                have HKB := Lib.hid ((hbY.block D2 hD2l).trans HK2.out)
                clear gs hb13
                go_wp2
                refine ⟨by simp, .inl ⟨_, _, rfl, run_takeDeferred (b := D2) (ds := []) ?_, by simp, .inl ⟨_, _, rfl, run_takeDeferred (b := D1) (ds := []) ?_, ?_⟩⟩⟩
                · exact (Below.heap_setCell _ _ _ D2 (by simp; omega)).trans HKB.out
                · exact (put_other _ (by omega)).trans ((Below.heap_setCell _ _ _ D1 (by simp; omega)).trans HKA.out)
                · have hfin := cell_put (D := D1) (cell_put (D := D2) (cell_here r0 (.bool true)) (by simp; omega) (.deferred none)) (by simp; omega) (.deferred none)
                  refine ⟨.bool true, ?_, rfl, b_put (b_put (bset hB13 (by show w.heap.size ≤ w.heap.size + 1; omega) _) (by omega) _) (by omega) _⟩
                  simp [results, Tryz.results8, go_sem, hfin]
              · have hbdz : Bd 2000000 (widG (widG 0 g) (told code (startG g R m) code.length)) := widG_bd (widG_bd bd_zero fun l hl j => by
                    obtain ⟨i, hi, rfl⟩ := List.getElem_of_mem hl
                    have := HBD.out i j
                    rw [show g.getD i [] = g[i] by simp [hi]] at this
                    exact this.mono (by omega)) fun l hl j => (toldR_bd' HSB'.out (cs_of HOK.out) (Nat.le_refl _) hh (fun k hk => by rw [HSL.out]; exact (HTO.out k hk).2) l hl j).mono (by omega)
                have hbo := outsG_bd (after_bd HSB'.out (cs_of HOK.out) (Nat.le_refl _) hh) outs
                obtain ⟨hq, hx, hn, hz⟩ : q5 = 0 ∧ x6 = 0 ∧ n8 = outs.length ∧ z = widG (widG 0 g) (told code (startG g R m) code.length) := by
                  rcases HR.out.1 with ⟨h, _⟩ | ⟨_, h, _⟩ | ⟨_, _, k, s, h0, h1, h2, h3, h4⟩ | ⟨_, _, _, h3, h4⟩
                  · exact absurd HOK.out h
                  · exact absurd HFI.out h
                  · rw [Int.toNat_natCast, HMM.out] at h2
                    rw [after_mono h2 (show k + 1 ≤ code.length by omega)] at hh; cases hh
                  · obtain ⟨s, gs, _, h6, _⟩ := HR.out.2.2 h4
                    have h7 := HWD.out.2.2 h4
                    rw [Int.toNat_natCast, HMM.out] at h7
                    exact ⟨h3, h4, h6, h7⟩
                have HBZ := Lib.hid hbdz
                have HBO := Lib.hid hbo
                have HRX := Lib.hid (show ∃ gs : List (List Int × Nat × Nat), gs.map (·.1) = outsG outs h ∧ AscLH gs ∧ (∀ y ∈ gs, w3.heap.size ≤ y.2.1) ∧ OwnL 29 RowLH w3 w4 (.slice a8 n8 c8) gs from by
                  obtain ⟨s, gs, h5, h6, h7, h8, h9, h10⟩ := HR.out.2.2 hx
                  rw [Int.toNat_natCast, HMM.out, hh] at h5
                  cases h5
                  exact ⟨gs, h7, h8, h9, h10⟩)
                have HLU := Lib.hid hLu
                have HHH := Lib.hid hh
                obtain ⟨zz, hzz⟩ : ∃ zz, widG (widG 0 g) (told code (startG g R m) code.length) = zz := ⟨_, rfl⟩
                rw [hzz] at hz HBZ
                have rx := fun W (h0 : Below Y2.heap.size Y2 W) => rWidest_c ins R ca oa cc oc code outs (.slice a4 g.length c4) g m 64 h W (HC.out.1.keep (bthen hB2 h0)) (HC.out.2.keep (bthen hB2 h0)) ((HIQ.out.keep (prs_row lims_ref _ _) hb39Y2).keep (prs_row lims_ref _ _) h0) HOK.out HLE.out HRE.out HMM.out (by omega) HBD.out (by omega) HHH.out
                rw [hzz] at rx
                clear hbdz hbo hLu hh hzz
                subst hMe hbad hq hx hn hun hz
                have hlo : outs.length ≤ 128 := hol
                have oc1 := fun u W (h0 : Below Y2.heap.size Y2 W) (hu : IsRef W u z) => one_c (.agg #[.bool nz, .slice az lz.length cz]) u z z 2000000 W ((HZ.out.keep hb69Y2).keep h0) hu HBZ.out (by omega)
                rw [show decide (z = z) = true by simp] at oc1
                have HS := Lib.hid (show ∀ W, Below Y2.heap.size Y2 W → W.cell? ⟨w6.heap.size, 0, none⟩ = some (.bool nz) ∧ W.cell? ⟨w6.heap.size, 1, none⟩ = some (.slice az lz.length cz) ∧ W.cell? ⟨w.heap.size, 0, none⟩ = some (.int .i64 ins) ∧ W.cell? ⟨w.heap.size, 1, none⟩ = some (.int .i64 (R : Int)) ∧ W.cell? ⟨w.heap.size, 2, none⟩ = some (.slice ca code.length cc) ∧ W.cell? ⟨w.heap.size, 3, none⟩ = some (.slice oa outs.length oc) from fun W h => ⟨bkeep h z0, bkeep h z1, bkeep h p0, bkeep h p1, bkeep h p2, bkeep h p3⟩)
                have hBw := Below.refl Y2.heap.size Y2
                go_wp2
                go_region_held3 (fun w' => w'.cell? ⟨w6.heap.size, 0, none⟩ = some (.bool nz) ∧ w'.cell? ⟨w6.heap.size, 1, none⟩ = some (.slice az lz.length cz) ∧ w'.cell? ⟨w.heap.size, 0, none⟩ = some (.int .i64 ins) ∧ w'.cell? ⟨w.heap.size, 1, none⟩ = some (.int .i64 (R : Int)) ∧ w'.cell? ⟨w.heap.size, 2, none⟩ = some (.slice ca code.length cc) ∧ w'.cell? ⟨w.heap.size, 3, none⟩ = some (.slice oa outs.length oc))
                  (first | (refine HS.out _ ?_; (repeat (first | exact Below.refl _ _ | exact hBw | refine Below.drew ?_ | refine below_drewN ?_ _ | refine bset ?_ (by simp <;> omega) _ | refine bal ?_ _)); done) | fail)
                  (first
                    | (go_at_call 49; refine (rx _ ?_).mono ?_; (repeat (first | exact Below.refl _ _ | exact hBw | refine Below.drew ?_ | refine below_drewN ?_ _ | refine bset ?_ (by simp <;> omega) _ | refine bal ?_ _)); rintro e w13 ⟨⟨v5, rfl, hv5⟩, hb13⟩; (have hBd : Below Y2.heap.size Y2 w13 := bthen (by repeat (first | exact Below.refl _ _ | exact hBw | refine Below.drew ?_ | refine below_drewN ?_ _ | refine bset ?_ (by simp <;> omega) _ | refine bal ?_ _)) hb13; clear hBw; have hBw := hBd; clear hBd); have HV5 := Lib.hid hv5; obtain ⟨n5, a5, c5, l5, rfl, -⟩ := hv5; unfold iv at *)
                    | (go_at_call 17; refine (oc1 _ _ ?_ ?_).mono ?_; (repeat (first | exact Below.refl _ _ | exact hBw | refine Below.drew ?_ | refine below_drewN ?_ _ | refine bset ?_ (by simp <;> omega) _ | refine bal ?_ _)); (refine HV5.out.keep ?_; have hBz := Below.refl w13.heap.size w13; (repeat (first | exact Below.refl _ _ | exact hBz | refine Below.drew ?_ | refine below_drewN ?_ _ | refine bset ?_ (by simp <;> omega) _ | refine bal ?_ _))); rintro e w14 ⟨rfl, hb14⟩; have hB14 : Below Y2.heap.size Y2 w14 := bthen (by repeat (first | exact Below.refl _ _ | exact hBw | refine Below.drew ?_ | refine below_drewN ?_ _ | refine bset ?_ (by simp <;> omega) _ | refine bal ?_ _)) hb14; (clear hBw; have hBw := hB14))
                    | fail)
                all_goals
                  have hb49 := bthen hb45 (bthen hb56 (bthen hb68 hb89))
                  have hb914 := bthen hb9Y2 hB14
                  have hb314 := bthen hb39 hb914
                  have hb414 := bthen hb49 hb914
                  have hB14w := bthen hB2 hB14
                  have hs14 := hB14.size
                  have HKA := Lib.hid ((hB14.block D1 (by omega)).trans HKD1.out)
                  have HKB := Lib.hid ((hB14.block D2 hD2l).trans HK2.out)
                  have HR14 := Lib.hid (And.intro (bkeep hB14 r0) (bkeepf hB14 r0 r0f))
                  obtain ⟨gs, hgs, hasc, hlo3, hown⟩ := HRX.out
                  have hgsl : gs.length = outs.length := by have := congrArg List.length hgs; simpa [outsG] using this
                  have HOL := Lib.hid (((hown.isL.rebase (Nat.zero_le _)).keep prs_rowLH hb414 : IsL 29 RowLH 0 w14 (.slice a8 outs.length c8) gs))
                  have HGS := Lib.hid (And.intro hgs (And.intro hasc hlo3))
                  have HLU14 := Lib.hid (HLU.out.keep (prs_row lims_ref _ _) hb914)
                  have HXL := Lib.hid (show ∀ i q, i ≤ outs.length → XO w14 a8 i q → w3.heap.size ≤ q ∧ typOf w14 q = some 48 from fun i q hi hx => by
                    obtain ⟨k, hk, _, h1, _, h2⟩ := hx.is HOL.out (by omega)
                    exact ⟨Nat.le_trans (HGS.out.2.2 _ (List.getElem_mem hk)) h1, h2⟩)
                  have hs3w : w.heap.size + 1 < w3.heap.size := HRS3.out
                  clear hgs hasc hlo3 hown r0 r0f z0 z1 p0 p1 p2 p3 rx oc1 HS hBw hb13 hb14
                  go_wp2
                  go_loopw [23] (fun x wr => ∃ i : Nat, i ≤ outs.length ∧ x = .int .i64 i ∧ Hid (Out (XO w14 a8 i) w14 wr)) (fun x _ => outs.length - (intOf x).toNat)
                  case atStart => exact ⟨0, Nat.zero_le _, rfl, Lib.hid (Out.of_below _ (show Below w14.heap.size w14 _ from (by have hBq := Below.refl w14.heap.size w14; repeat (first | exact Below.refl _ _ | exact hBq | refine Below.drew ?_ | refine below_drewN ?_ _ | refine bset ?_ (by simp <;> omega) _ | refine bal ?_ _))))⟩
                  case round =>
                    obtain ⟨i, hi, rfl, hOh⟩ := hrel
                    obtain ⟨w15, rfl⟩ : ∃ w15, w15 = wr := ⟨_, rfl⟩
                    have hO := hOh.out
                    have hk : Kp (· ≠ 48) w14 w15 := Kp.out hO (fun q t hq ht hne => by have := (HXL.out i q hi hq).2; rw [this] at ht; exact hne (Option.some.inj ht).symm)
                    have hb315 : Below w3.heap.size w3 w15 := hb314.trans (hO.to_below (fun q hq _ hx => by have := (HXL.out i q hi hx).1; omega) hb314.size)
                    have hb15 : Below w.heap.size w w15 := hB14w.trans (hO.to_below (fun q hq _ hx => by have := (HXL.out i q hi hx).1; omega) hB14w.size)
                    have HK15 := Lib.hid (And.intro hk (And.intro hb315 hb15))
                    clear hO hk
                    by_cases hlt : i < outs.length
                    · have hltI : (i : Int) < (outs.length : Int) := by omega
                      obtain ⟨a', c', he, -, vr⟩ := HOL.out.view
                      rw [hgsl] at he
                      obtain ⟨rfl, -, rfl⟩ := Value.slice.inj he
                      obtain ⟨ob, oo, u, rfl, o14, hru⟩ := vr i (by omega)
                      have hob := isL_ty HOL.out (by omega)
                      have o0 := HK15.out.1.cell hob (by decide) o14
                      have hru2 := hru.1.out hOh.out (fun q hq hx => by
                        obtain ⟨k, hk', hki, h1, h2, _⟩ := hx.is HOL.out (by omega)
                        have h3 := HGS.out.2.1 k i hk' (by omega) hki
                        have h4 := (rowO_blk hru.1 hq).1
                        omega) (HK15.out.1.lim (by decide))
                      have hil : i < (outsG outs h).length := by simpa [outsG] using hlt
                      obtain ⟨a', c', he, -, vr⟩ := (HLU14.out.kp (prs_row lims_ref _ _) HK15.out.1 (fun t ht => by rcases ht with rfl | rfl <;> decide) (by decide)).view
                      rw [show (outsG outs h).length = outs.length by simp [outsG]] at he
                      obtain ⟨rfl, -, rfl⟩ := Value.slice.inj he
                      obtain ⟨tb, tf, tu, rfl, t0, htr⟩ := vr i hil
                      have hrow : gs[i].1 = (outsG outs h)[i] := by
                        have := HGS.out.1
                        simp only [← this, List.getElem_map]
                      have hbr : ∀ j, Bd 2000000 ((outsG outs h)[i].getD j 0) := fun j => by
                        have := HBO.out i j
                        rw [show (outsG outs h).getD i [] = (outsG outs h)[i] by simp [hil]] at this
                        exact this.mono (by omega)
                      have hlr : (outsG outs h)[i].length = m := by
                        have := outsG_len (after_rect HSR.out HSL.out (fun n hn => (HTO.out n hn).1) (Nat.le_refl _) HHH.out) (fun j hj => by
                          have := HOK.out.os j hj
                          rw [after_len HHH.out, HSL.out]; omega) i hil
                        exact this
                      rw [hrow] at hru2
                      have HUO := Lib.hid (fun q (hq : rowBlk u = some q) => (show XO w14 (some ⟨ob, oo, none⟩) (i + 1) q from ⟨i, u, ob, oo, by omega, rfl, o14, hq⟩))
                      have HBR := Lib.hid hbr
                      obtain ⟨L, hL⟩ : ∃ L, (outsG outs h)[i] = L := ⟨_, rfl⟩
                      rw [hL] at hru2 htr hlr HBR
                      have HW := Lib.hid hru2.wrow
                      have HLR := Lib.hid hlr
                      have ic := fun W (k : Below w15.heap.size w15 W) => is_c u tu L 2000000 W ((hru2.row.rebase (Nat.zero_le _)).keep lims_int k) (htr.keep lims_ref k) HBR.out (by omega) (by rw [HLR.out]; omega)
                      obtain ⟨xa, xc, rfl⟩ := hru2.ex
                      obtain ⟨ta, tc2, rfl, -⟩ := htr
                      have zo := cell_lt o0
                      have zt := cell_lt t0
                      have HB15 := Lib.hid hb15
                      have hB := hb15
                      have hxc : xc ≤ 9223372036854775807 := by
                        rcases HW.out.full with ⟨h, _⟩ | ⟨_, _, _, h, _, _, _, h4, _⟩
                        · cases h; omega
                        · cases h; unfold maxLen at h4; omega
                      have HWF := Lib.hid HW.out.full
                      clear hru hru2 he vr hil hrow hbr hL hlr hb15 hb315 HW
                      go_wp2
                      refine wp_region_grow (w := w15) (by kernel_rfl) (by kernel_rfl) ?_
                      have o0g : ∀ gs, (grow w15 gs).cell? ⟨ob, oo + i, none⟩ = some (.slice xa L.length xc) := fun gs => bkeep gs.below o0
                      have t0g : ∀ gs, (grow w15 gs).cell? ⟨tb, tf + i, none⟩ = some (.slice ta L.length tc2) := fun gs => bkeep gs.below t0
                      repeat (go_big_quiet_step ((first | (go_at_call 18; exact grow_of (ic _ (Grows.below _))) | fail)))
                      refine wpQuiet_nil ?_
                      intro w17 hb17
                      clear o0g
                      clear t0g
                      have o0 : w17.cell? ⟨ob, oo + i, none⟩ = some (.slice xa L.length xc) := bkc hb17
                      have zo0 := cell_lt o0
                      have t0 : w17.cell? ⟨tb, tf + i, none⟩ = some (.slice ta L.length tc2) := bkc hb17
                      have zt0 := cell_lt t0
                      have hB : Below w.heap.size w w17 := bthen (by repeat (first | exact Below.refl _ _ | exact hB | refine Below.drew ?_ | refine below_drewN ?_ _ | refine bset ?_ (by simp <;> omega) _ | refine bal ?_ _)) hb17
                      have hz : w.heap.size ≤ w17.heap.size := hB.size
                      go_wp2
                      go_quiet (fail)
                      go_wp2
                      refine wp_name fun w18 hW18 => ?_
                      have hb1718 : Below w17.heap.size w17 w18 := by
                        rw [hW18]
                        have hBq := Below.refl w17.heap.size w17
                        repeat (first | exact Below.refl _ _ | exact hBq | refine Below.drew ?_ | refine below_drewN ?_ _ | refine bset ?_ (by simp <;> omega) _ | refine bal ?_ _)
                      have hb1518 := bthen hb17 hb1718
                      have HWF18 := Lib.hid (HWF.out.shp (Shp.of_below hb1518))
                      clear hW18 ic o0 t0 zo zt hb17
                      go_loopw [25] (fun x wr => ∃ j : Nat, j ≤ xc ∧ x = .int .i64 j ∧ Out (fun q => rowBlk (.slice xa xc xc) = some q) w18 wr ∧ Hid (Shp w18 wr)) (fun x _ => xc - (intOf x).toNat)
                      case atStart => exact ⟨0, Nat.zero_le _, rfl, Out.refl _ _, Lib.hid (Shp.refl _)⟩
                      case round =>
                        obtain ⟨j, hj, rfl, hO, hST⟩ := hrel
                        by_cases hlj : j < xc
                        · have hljI : (j : Int) < (xc : Int) := by omega
                          obtain ⟨gb, cap, x0, y0, he, hbg, d0, d1, d0f, d1f⟩ := (HWF18.out.shp hST.out).at hlj
                          obtain ⟨rfl, -, rfl⟩ := Value.slice.inj he
                          have zd := cell_lt d0
                          clear he
                          have oc := fun W => of_c 654321 W (by omega) (by omega)
                          have hBr := Below.refl wr.heap.size wr
                          go_wp2_with fail
                          refine (oc _).mono ?_
                          rintro e w19 ⟨⟨v3, rfl, hv3⟩, hb19⟩
                          have hbr19 : Below wr.heap.size wr w19 := bthen (by repeat (first | exact Below.refl _ _ | exact hBr | refine Below.drew ?_ | refine below_drewN ?_ _ | refine bset ?_ (by simp <;> omega) _ | refine bal ?_ _)) hb19
                          replace d0f := bkeepf hbr19 d0 d0f
                          replace d1f := bkeepf hbr19 d1 d1f
                          replace d0 := bkeep hbr19 d0
                          replace d1 := bkeep hbr19 d1
                          have zd3 := cell_lt d0
                          obtain ⟨n3, ax3, c3x, l3, rfl, -⟩ := hv3
                          unfold iv at *
                          clear oc hb19
                          go_wp2
                          exact ⟨⟨j + 1, by omega, by go_num, ((hO.below hbr19).set (p := ⟨gb, j * 2, none⟩) (fun _ => rfl) _).set (p := ⟨gb, j * 2 + 1, none⟩) (fun _ => rfl) _, Lib.hid (((hST.out.below hbr19).set _ _).set _ _)⟩, by simp [intOf]; omega⟩
                        · obtain rfl : xc = j := by omega
                          have HO2 := Lib.hid (show Out (XO w14 (some ⟨ob, oo, none⟩) (i + 1)) w14 wr from ((hOh.out.mono fun q _ h => h.mono (by omega)).below hb1518).then hO fun q _ h => HUO.out q ((rowBlk_len xa _ _ _ _).trans h))
                          clear hO
                          go_wp2
                          exact ⟨⟨i + 1, by omega, by go_num, HO2⟩, by simp [intOf]; omega⟩
                    · obtain rfl : i = outs.length := by omega
                      have r15 := okeep hOh.out HR14.out.1 (fun hx => by have := (HXL.out _ _ (Nat.le_refl _) hx).1; omega)
                      have r15f := okeepf hOh.out HR14.out.1 HR14.out.2 (fun hx => by have := (HXL.out _ _ (Nat.le_refl _) hx).1; omega)
                      have hn1 : ¬ XO w14 a8 outs.length D1 := fun hx => by have := (HXL.out _ _ (Nat.le_refl _) hx).2; rw [typ_none HKA.out rfl] at this; cases this
                      have hn2 : ¬ XO w14 a8 outs.length D2 := fun hx => by have := (HXL.out _ _ (Nat.le_refl _) hx).2; rw [typ_none HKB.out rfl] at this; cases this
                      have HKA15 := Lib.hid ((hOh.out.block D1 (by omega) hn1).trans HKA.out)
                      have HKB15 := Lib.hid ((hOh.out.block D2 (by omega) hn2).trans HKB.out)
                      have hs15 := hOh.out.size
                      have hb315 := HK15.out.2.1
                      have hb15 := HK15.out.2.2
                      have hw15 := Below.refl w15.heap.size w15
                      clear hn1 hn2 hOh
                      go_wp2
                      go_loopw [26] (fun x wr => ∃ j : Nat, j ≤ g.length ∧ x = .int .i64 j ∧ Hid (Below w15.heap.size w15 wr)) (fun x _ => g.length - (intOf x).toNat)
                      case atStart => exact ⟨0, Nat.zero_le _, rfl, Lib.hid (by repeat (first | exact Below.refl _ _ | exact hw15 | refine Below.drew ?_ | refine below_drewN ?_ _ | refine bset ?_ (by simp <;> omega) _ | refine bal ?_ _))⟩
                      case round =>
                        obtain ⟨j, hj, rfl, hO⟩ := hrel
                        obtain ⟨w25, rfl⟩ : ∃ w25, w25 = wr := ⟨_, rfl⟩
                        have hb325 : Below w3.heap.size w3 w25 := bthen hb315 hO.out
                        by_cases hlt : j < g.length
                        · have hltI : (j : Int) < (g.length : Int) := by omega
                          obtain ⟨a', c', he, -, vr⟩ := (HIN.out.keep (prs_row lims_int _ _) hb325).view
                          obtain ⟨rfl, -, rfl⟩ := Value.slice.inj he
                          obtain ⟨ob, oo, u, rfl, o0, hru⟩ := vr j hlt
                          obtain ⟨a', c', he, -, vr⟩ := (HIQ.out.keep (prs_row lims_ref _ _) hb325).view
                          obtain ⟨rfl, -, rfl⟩ := Value.slice.inj he
                          obtain ⟨tb, tf, tu, rfl, t0, htr⟩ := vr j hlt
                          have hbr := HBD.out j
                          rw [show g.getD j [] = g[j] by simp [hlt]] at hbr
                          have hlr : g[j].length = m := by have := HRE.out j hlt; rwa [show g.getD j [] = g[j] by simp [hlt]] at this
                          obtain ⟨L, hL⟩ : ∃ L, g[j] = L := ⟨_, rfl⟩
                          rw [hL] at hru htr hlr hbr
                          have HBR := Lib.hid hbr
                          have HLR := Lib.hid hlr
                          have ic := fun W (k : Below w25.heap.size w25 W) => is_c u tu L 64 W (hru.keep lims_int k) (htr.keep lims_ref k) HBR.out (by omega) (by rw [HLR.out]; omega)
                          obtain ⟨xa, xc, rfl, -⟩ := hru
                          obtain ⟨ta, tc2, rfl, -⟩ := htr
                          have zo := cell_lt o0
                          have zt := cell_lt t0
                          have hB := bthen hb15 hO.out
                          clear he vr hbr hL hlr hb315 hb325
                          go_wp2
                          refine wp_region_grow (w := w25) (by kernel_rfl) (by kernel_rfl) ?_
                          have o0g : ∀ gs, (grow w25 gs).cell? ⟨ob, oo + j, none⟩ = some (.slice xa L.length xc) := fun gs => bkeep gs.below o0
                          have t0g : ∀ gs, (grow w25 gs).cell? ⟨tb, tf + j, none⟩ = some (.slice ta L.length tc2) := fun gs => bkeep gs.below t0
                          repeat (go_big_quiet_step ((first | (go_at_call 18; exact grow_of (ic _ (Grows.below _))) | fail)))
                          refine wpQuiet_nil ?_
                          intro w27 hb27
                          clear o0g
                          clear t0g
                          have o0 : w27.cell? ⟨ob, oo + j, none⟩ = some (.slice xa L.length xc) := bkc hb27
                          have zo0 := cell_lt o0
                          have t0 : w27.cell? ⟨tb, tf + j, none⟩ = some (.slice ta L.length tc2) := bkc hb27
                          have zt0 := cell_lt t0
                          have hB : Below w.heap.size w w27 := bthen (by repeat (first | exact Below.refl _ _ | exact hB | refine Below.drew ?_ | refine below_drewN ?_ _ | refine bset ?_ (by simp <;> omega) _ | refine bal ?_ _)) hb27
                          have hz : w.heap.size ≤ w27.heap.size := hB.size
                          go_wp2
                          exact ⟨⟨j + 1, by omega, by go_num, Lib.hid (bthen hO.out hb27)⟩, by simp [intOf]; omega⟩
                        · obtain rfl : j = g.length := by omega
                          have r0 := bkeep hO.out r15
                          have zr25 := cell_lt r0
                          have hB25 := bthen hb15 hO.out
                          have hs25 := hO.out.size
                          have HKA25 := Lib.hid ((hO.out.block D1 (by omega)).trans HKA15.out)
                          have HKB25 := Lib.hid ((hO.out.block D2 (by omega)).trans HKB15.out)
                          have r0f := bkeepf hO.out r15 r15f
                          go_wp2
                          refine ⟨by simp, .inl ⟨_, _, rfl, run_takeDeferred (b := D2) (ds := []) ?_, by simp, .inl ⟨_, _, rfl, run_takeDeferred (b := D1) (ds := []) ?_, ?_⟩⟩⟩
                          · exact (Below.heap_setCell _ _ _ D2 (by simp; omega)).trans HKB25.out
                          · exact (put_other _ (by omega)).trans ((Below.heap_setCell _ _ _ D1 (by simp; omega)).trans HKA25.out)
                          · have hfin := cell_put (D := D1) (cell_put (D := D2) (cell_here r0 (.bool true)) (by simp; omega) (.deferred none)) (by simp; omega) (.deferred none)
                            refine ⟨.bool true, ?_, rfl, b_put (b_put (bset hB25 (by show w.heap.size ≤ w.heap.size + 1; omega) _) (by omega) _) (by omega) _⟩
                            simp [results, Tryz.results8, go_sem, hfin]
      · have hleI : ((g.length : Int) != ins) = true := by simp; exact hle
        have hnf : ¬ FitsG ins g := fun h => hle h.len
        have HNO := Lib.hid (show ¬ ProgOk ins regs code outs ∨ ¬ FitsG ins g from .inr hnf)
        clear hle
        obtain ⟨hqx, hxx, hnx, hzx⟩ : q5 = 0 ∧ x6 = 5 ∧ n8 = 0 ∧ z = 0 := by
          rcases HR.out.1 with ⟨h, _⟩ | ⟨_, _, h1, h2⟩ | ⟨_, h, _⟩ | ⟨_, h, _⟩
          · exact absurd HOK.out h
          · exact ⟨h1, h2, HR.out.2.1 (by omega), HWD.out.2.1 (by omega)⟩
          · exact absurd h hnf
          · exact absurd h hnf
        clear hnf HR HWD
        subst hqx hxx hnx hzx
        have sc := fun W (h3 : Below w8.heap.size w8 W) => steps_c ins regs ca oa code.length cc outs.length oc (.slice a3 g.length c3) g W ((HIN.out.keep (prs_row lims_int _ _) hb38).keep (prs_row lims_int _ _) h3)
        go_wp2_with fail
        refine (sc _ (by repeat (first | exact Below.refl _ _ | exact hw8 | refine Below.drew ?_ | refine below_drewN ?_ _ | refine bset ?_ (by simp <;> omega) _ | refine bal ?_ _))).mono ?_
        rintro e w9 ⟨pb, xb, rfl, hst, hb9⟩
        have hb89 : Below w8.heap.size w8 w9 := bthen (by repeat (first | exact Below.refl _ _ | exact hw8 | refine Below.drew ?_ | refine below_drewN ?_ _ | refine bset ?_ (by simp <;> omega) _ | refine bal ?_ _)) hb9
        have HST := Lib.hid hst
        have p0 : w9.cell? ⟨w.heap.size, 0, none⟩ = some (.int .i64 ins) := bkc hb9
        have zp0 := cell_lt p0
        have p1 : w9.cell? ⟨w.heap.size, 1, none⟩ = some (.int .i64 regs) := bkc hb9
        have p2 : w9.cell? ⟨w.heap.size, 2, none⟩ = some (.slice ca code.length cc) := bkc hb9
        have p3 : w9.cell? ⟨w.heap.size, 3, none⟩ = some (.slice oa outs.length oc) := bkc hb9
        have r0 : w9.cell? ⟨w.heap.size + 1, 0, none⟩ = some (.bool false) := bkc hb9
        have zr0 := cell_lt r0
        have r0f : w9.frozen? ⟨w.heap.size + 1, 0, none⟩ = false := bkcf (v := .bool false) hb9
        have z0 : w9.cell? ⟨w6.heap.size, 0, none⟩ = some (.bool nz) := bkc hb9
        have zz0 := cell_lt z0
        have z1 : w9.cell? ⟨w6.heap.size, 1, none⟩ = some (.slice az lz.length cz) := bkc hb9
        have hB : Below w.heap.size w w9 := bthen (by repeat (first | exact Below.refl _ _ | exact hB | refine Below.drew ?_ | refine below_drewN ?_ _ | refine bset ?_ (by simp <;> omega) _ | refine bal ?_ _)) hb9
        have hz : w.heap.size ≤ w9.heap.size := hB.size
        have hb39 := bthen hb38 hb89
        have hb69 := bthen hb68 hb89
        have hsg : (0 : Int).sign = 0 := rfl
        clear sc hst
        go_wp2
        refine wp_rangeD (gf := 90) (lb := #[.pointer (some ⟨pb, 0, none⟩), .pointer (some ⟨xb, 0, none⟩)]) (by simp [Act.eval]) (enters_of Tryz.func90 (by kernel_rfl) rfl)
          (steps_no (n0 := w9.heap.size) (S0 := fun _ => False) (fun _ _ _ => False) (fun _ _ => False) HNO.out) (Nat.le_refl _)
          (fun W h => StepsIn.keep (W := w9) ⟨HST.out.1, HST.out.2.1, HST.out.2.2.1, HST.out.2.2.2.1, HST.out.2.2.2.2, HC.out.1.keep hB, HC.out.2.keep hB, HIN.out.keep (prs_row lims_int _ _) hb39, (by omega), (fun q hq => hq.elim), Nat.le_refl _, (fun _ _ _ _ hq => hq)⟩ h) (fun _ _ _ h => h.elim)
          (fun k S W => (∀ q, ¬ S q) ∧ Below w9.heap.size w9 W) (fun _ _ _ _ => False)
          (fun k S X Y h c => ⟨h.1, h.2.trans (c.low h.2.size)⟩) (fun _ _ _ _ _ h _ => h.elim)
          (fun k S X h q hq => absurd hq (h.1 q)) (fun _ _ _ _ h => h.elim) ⟨fun _ h => h, Below.refl _ _⟩
          (fun _ _ _ _ _ _ => True) (fun _ _ _ _ _ _ _ _ _ _ _ _ => trivial) (fun _ _ _ _ h _ => h.elim)
          (fun _ _ _ _ _ _ h => absurd h (by omega)) (fun _ _ _ _ _ _ h => absurd h (by omega)) ?_ (fun _ _ _ _ _ _ _ h => h.elim)
        rintro D S Y hD ⟨-, hI⟩ hK
        replace r0f := bkeepf hI r0 r0f
        replace r0 := bkeep hI r0
        replace z0 := bkeep hI z0
        replace z1 := bkeep hI z1
        have hBY := bthen hB hI
        have zr0 := cell_lt r0
        have zz0 := cell_lt z0
        have gs := fun W (h : Below Y.heap.size Y W) => sign_c (.agg #[.bool nz, .slice az lz.length cz]) 0 W ((HZ.out.keep (bthen hb69 hI)).keep h)
        rw [hsg] at gs
        have hDl := (Array.getElem?_eq_some_iff.1 hK).1
        have HK := Lib.hid hK
        have hwY := Below.refl Y.heap.size Y
        clear hK
        go_wp2_with fail
        refine (gs _ (by repeat (first | exact Below.refl _ _ | exact hwY | refine Below.drew ?_ | refine below_drewN ?_ _ | refine bset ?_ (by simp <;> omega) _ | refine bal ?_ _))).mono ?_
        rintro e w10 ⟨rfl, hb10⟩
        have hbY := bthen (show Below Y.heap.size Y _ by repeat (first | exact Below.refl _ _ | exact hwY | refine Below.drew ?_ | refine below_drewN ?_ _ | refine bset ?_ (by simp <;> omega) _ | refine bal ?_ _)) hb10
        replace r0f := bkeepf hbY r0 r0f
        replace r0 := bkeep hbY r0
        have hB10 := bthen hBY hbY
        have zs := hbY.size
        clear gs hb10
        go_wp2
        refine ⟨by simp, .inl ⟨_, _, rfl, run_takeDeferred (b := D) (ds := []) ?_, ?_⟩⟩
        · exact (Below.heap_setCell _ _ _ D (by simp; omega)).trans ((hbY.block D hDl).trans HK.out)
        · have hfin := cell_put (D := D) (cell_here r0 (.bool true)) (by simp; omega) (.deferred none)
          refine ⟨.bool true, ?_, rfl, b_put (bset hB10 (by show w.heap.size ≤ w.heap.size + 1; omega) _) (by omega) _⟩
          simp [results, Tryz.results8, go_sem, hfin]
end Go.Proofs.YtannhpadoooedaaGreatDoor

/- Arguments as they come in, opened: a program; rows of int64; what their bulk gives. -/
namespace Go.Proofs.YtannhpadoooedaaGreatDoor
open Go.ChangeShapes Go.WideShapes Go.ChangeAt Go.RowKit Go.Joins Go.Deep
set_option linter.unusedVariables false
set_option linter.unusedSimpArgs false
namespace bulks
theorem one_le {H : Type} (d : DataW H) : 1 ≤ Rows.uptoBulk d := by
  cases d with
  | lit l => cases l <;> simp [Rows.uptoBulk]
  | nil => simp [Rows.uptoBulk]
  | ptr d => simp [Rows.uptoBulk]
  | slice elems spare => simp [Rows.uptoBulk]
  | agg parts => simp [Rows.uptoBulk]
  | iface t d => simp [Rows.uptoBulk]
  | map entries => simp [Rows.uptoBulk]
  | held h => simp [Rows.uptoBulk]
theorem length_le {H : Type} (l : List (DataW H)) : l.length ≤ Rows.uptoBulkAll l := by
  induction l with
  | nil => simp [Rows.uptoBulkAll]
  | cons x r ih => have := one_le x; simp only [Rows.uptoBulkAll, List.length_cons]; omega
end bulks
section
variable {H : Type} {enc : TypeId × Value → H} {P : Program} {w : World} {base : Nat} {spare : Nat → Bool} {held : Bool}
theorem open_slice_fields {t e : TypeId} {fs : Array Field} {fuel : Nat} {cs : List Value} {x : DataW H × List MemPlace} (ht : P.underlying t = some (.slice e)) (he : P.underlying e = some (.struct fs))
    (hone : oneCellFields P fs = true) (hC : P.cellsOf e = fs.size) (h : DataW.trod enc P w base spare held fuel t cs = some x) :
    (cs = [.slice none 0 0] ∧ x = (.nil, [])) ∨
    ∃ (a : Addr) (len cap m : Nat) (D : Nat → DataW H) (Pl : Nat → List MemPlace), cs = [.slice (some a) len cap] ∧ base ≤ a.block ∧ len ≤ cap ∧ cap ≤ maxLen ∧ m = (if spare a.block then cap else len) ∧
      x = (.slice ((List.range len).map D) ((List.range (m - len)).map fun j => D (len + j)), MemPlace.row a (m * fs.size) ++ (List.range m).flatMap Pl) ∧
      ∀ i, i < m → ∃ (ys : List (DataW H × List MemPlace)) (n : Nat), D i = .agg (ys.map (·.1)) ∧ Pl i = ys.flatMap (·.2) ∧ ys.length = fs.size ∧
        ∀ (j : Nat) (f : Field), fs[j]? = some f → ∃ (v : Value) (y : DataW H × List MemPlace), w.cell? (a.add (i * fs.size + j)) = some v ∧ ys[j]? = some y ∧ DataW.trod enc P w base spare held n f.type [v] = some y := by
  rcases open_slice ht h with h0 | ⟨a, len, cap, m, n, D, Pl, hcs, hb, hl, hm, hmm, hx, hi⟩
  · exact .inl h0
  · refine .inr ⟨a, len, cap, m, D, Pl, hcs, hb, hl, hm, hmm, by rw [hC] at hx; exact hx, fun i him => ?_⟩
    obtain ⟨cs', hc, ht'⟩ := hi i him
    rw [hC] at hc
    obtain ⟨ys, n', hn', hy, hlen, hyl, hf⟩ := DataW.trod_struct he ht'
    obtain ⟨_, hcl, hat⟩ := World.cells?_some hc
    simp only [Prod.mk.injEq] at hy
    refine ⟨ys, n', hy.1, hy.2, hyl, fun j f hj => ?_⟩
    obtain ⟨ho, hk⟩ := hone_of hone j f hj
    have hjl : j < fs.size := (Array.getElem?_eq_some_iff.1 hj).1
    have hcell := hat j hjl
    have hv : cs'[j]? = some (cs'[j]'(by omega)) := List.getElem?_eq_getElem (by omega)
    have h1 := hf j f hj
    rw [ho, hk] at h1
    have hone' : (cs'.drop j).take 1 = [cs'[j]'(by omega)] := by
      rw [List.drop_eq_getElem_cons (by omega)]
      rfl
    rw [hone'] at h1
    have hys : ys[j]? = some (ys[j]'(by omega)) := List.getElem?_eq_getElem (by omega)
    refine ⟨_, _, ?_, hys, h1.trans hys⟩
    rw [← Go.Deep.add_add, hcell, hv]
end
/-- what an address is, of which a cell is known -/
theorem addr_plain {w : World} {a : Addr} {v : Value} (h : w.cell? a = some v) : a = ⟨a.block, a.off, none⟩ := by
  obtain ⟨b, o, s⟩ := a
  cases s with
  | none => rfl
  | some s =>
    simp only [World.cell?] at h
    split at h <;> simp at h
theorem add_plain (b o k : Nat) : (⟨b, o, none⟩ : Addr).add k = ⟨b, o + k, none⟩ := by
  unfold Addr.add; split
  · subst_vars; rfl
  · rfl
/-- an address, the first cell behind which is known -/
theorem plain_at {w : World} {a : Addr} {v : Value} (h : w.cell? (a.add 0) = some v) : ∃ b o, a = ⟨b, o, none⟩ := by
  have h2 : w.cell? a = some v := by simpa [Addr.add] using h
  exact ⟨_, _, addr_plain h2⟩
section
variable {H : Type} {enc : TypeId × Value → H} {W : World} {b0 : Nat} {r : Reach} {v : Value} {d : DataW H} {p : List MemPlace}
theorem i64_of {n : Int} (h : (Lit.int .i64 n).wf = true) : I64 n := by
  have h1 := (Lit.wf_int_iff .i64 n).1 h
  have e1 : IntKind.i64.min = -9223372036854775808 := by decide
  have e2 : IntKind.i64.max = 9223372036854775807 := by decide
  rw [e1, e2] at h1
  exact h1
/-- a list of ints that came in, inside a struct -/
theorem open_intsV {fuel : Nat} {v : Value} {y : DataW H × List MemPlace} (h : DataW.trod enc Tryz.prog W 0 (fun _ => true) true fuel 23 [v] = some y) :
    ∃ a c L, v = .slice a (List.length L) c ∧ IntsV W a c L ∧ (a = none → L = []) ∧ L.length ≤ Rows.uptoBulk y.1 := by
  rcases open_ints Tryz.underlying23 Tryz.underlying3 (by kernel_rfl) h with ⟨hcs, rfl⟩ | ⟨a, len, cap, zs, hcs, _, hl, hm, hz, rfl, hc, hw⟩
  · simp at hcs; subst hcs
    exact ⟨_, _, [], rfl, .inl rfl, fun _ => rfl, by simp⟩
  · simp at hcs; subst hcs
    simp only [if_true] at hz
    have hlen : (zs.take len).length = len := by rw [List.length_take]; omega
    refine ⟨some a, cap, zs.take len, by rw [hlen], ?_, (fun e => by cases e), ?_⟩
    · by_cases h0 : len = 0
      · exact .inl (by subst h0; simp)
      · obtain ⟨b, o, rfl⟩ := plain_at (hc 0 (by omega))
        refine .inr ⟨b, o, rfl, by rw [hlen]; exact hl, fun k hk => ?_⟩
        rw [hlen] at hk
        have h9 := hc k (by omega)
        rw [add_plain] at h9
        rw [h9, List.getD_eq_getElem?_getD, List.getD_eq_getElem?_getD, List.getElem?_take_of_lt hk]
    · have := bulks.length_le (H := H) (lits .i64 (zs.take len))
      simp only [lits, List.length_map] at this
      simp only [Rows.uptoBulk, lits]; omega
theorem cells_ins : Tryz.prog.cellsOf 76 = 5 := by kernel_rfl
/-- a list of instructions that came in -/
theorem open_insV {fuel : Nat} {v : Value} {y : DataW H × List MemPlace} (h : DataW.trod enc Tryz.prog W 0 (fun _ => true) true fuel 22 [v] = some y) :
    ∃ a c L, v = .slice a (List.length L) c ∧ InsV W a c L ∧ (a = none → L = []) ∧ L.length ≤ Rows.uptoBulk y.1 := by
  rcases open_slice_fields Tryz.underlying22 Tryz.underlying76 (by kernel_rfl) cells_ins h with ⟨hcs, rfl⟩ | ⟨x, n, c, m, D, Pl, hcs, _, hl, hm, hmm, rfl, hcell⟩
  · simp at hcs; subst hcs
    exact ⟨_, _, [], rfl, .inl rfl, fun _ => rfl, by simp⟩
  · simp at hcs; subst hcs
    simp only [if_true] at hmm
    subst hmm
    have hall : ∀ i, i < m → ∃ q : Ins, W.cell? (x.add (i * 5)) = some (.int .i64 q.op) ∧ W.cell? (x.add (i * 5 + 1)) = some (.int .i64 q.to) ∧ W.cell? (x.add (i * 5 + 2)) = some (.int .i64 q.a) ∧ W.cell? (x.add (i * 5 + 3)) = some (.int .i64 q.b) ∧ W.cell? (x.add (i * 5 + 4)) = some (.int .i64 q.c) := by
      intro i hi
      obtain ⟨ys, k, _, _, _, hf⟩ := hcell i hi
      obtain ⟨u0, y0, c0, _, t0⟩ := hf 0 _ rfl
      obtain ⟨u1, y1, c1, _, t1⟩ := hf 1 _ rfl
      obtain ⟨u2, y2, c2, _, t2⟩ := hf 2 _ rfl
      obtain ⟨u3, y3, c3, _, t3⟩ := hf 3 _ rfl
      obtain ⟨u4, y4, c4, _, t4⟩ := hf 4 _ rfl
      obtain ⟨a0, e0, _, _⟩ := DataW.trod_int Tryz.underlying3 t0
      obtain ⟨a1, e1, _, _⟩ := DataW.trod_int Tryz.underlying3 t1
      obtain ⟨a2, e2, _, _⟩ := DataW.trod_int Tryz.underlying3 t2
      obtain ⟨a3, e3, _, _⟩ := DataW.trod_int Tryz.underlying3 t3
      obtain ⟨a4, e4, _, _⟩ := DataW.trod_int Tryz.underlying3 t4
      simp at e0 e1 e2 e3 e4
      subst e0 e1 e2 e3 e4
      exact ⟨⟨a0, a1, a2, a3, a4⟩, c0, c1, c2, c3, c4⟩
    have hf : ∃ f : Nat → Ins, ∀ i, i < m → W.cell? (x.add (i * 5)) = some (.int .i64 (f i).op) ∧ W.cell? (x.add (i * 5 + 1)) = some (.int .i64 (f i).to) ∧ W.cell? (x.add (i * 5 + 2)) = some (.int .i64 (f i).a) ∧ W.cell? (x.add (i * 5 + 3)) = some (.int .i64 (f i).b) ∧ W.cell? (x.add (i * 5 + 4)) = some (.int .i64 (f i).c) := by
      refine ⟨fun i => if hi : i < m then (hall i hi).choose else default, fun i hi => ?_⟩
      simp only [dif_pos hi]
      exact (hall i hi).choose_spec
    obtain ⟨f, hf⟩ := hf
    refine ⟨some x, m, (List.range n).map f, by simp, ?_, (fun e => by cases e), ?_⟩
    · by_cases h0 : n = 0
      · exact .inl (by subst h0; simp)
      · obtain ⟨b, o, rfl⟩ := plain_at (by have := (hf 0 (by omega)).1; simpa using this)
        refine .inr ⟨b, o, rfl, by simpa using hl, fun k hk => ?_⟩
        rw [List.length_map, List.length_range] at hk
        obtain ⟨c0, c1, c2, c3, c4⟩ := hf k (by omega)
        rw [add_plain] at c0 c1 c2 c3 c4
        have e : ((List.range n).map f).getD k default = f k := by simp [hk]
        rw [e]
        exact ⟨c0, c1, c2, c3, c4⟩
    · have := bulks.length_le (H := H) ((List.range n).map D)
      simp only [List.length_map, List.length_range] at this ⊢
      simp only [Rows.uptoBulk]; omega
theorem cells_prog : Tryz.prog.cellsOf 25 = 4 := by kernel_rfl
set_option maxRecDepth 100000 in
theorem open_prog (hv : Value.okWide Tryz.prog W r b0 25 v) (h : DataW.Trod enc Tryz.prog W 0 (fun _ => true) true 25 v d p) :
    ∃ ins regs ca oa cc oc code outs, v = .agg #[.int .i64 ins, .int .i64 regs, .slice ca (List.length code) cc, .slice oa (List.length outs) oc] ∧ InsV W ca cc code ∧ IntsV W oa oc outs ∧ (ca = none → code = []) ∧ (oa = none → outs = []) ∧ code.length + outs.length ≤ Rows.uptoBulk d := by
  obtain ⟨v0, v1, v2, v3, y0, y1, y2, y3, n, rfl, rfl, rfl, t0, t1, t2, t3⟩ := open_agg4 Tryz.underlying25 (by kernel_rfl) cells_prog hv h
  obtain ⟨a0, e0, rfl, _⟩ := DataW.trod_int Tryz.underlying3 t0
  obtain ⟨a1, e1, rfl, _⟩ := DataW.trod_int Tryz.underlying3 t1
  simp at e0 e1
  subst e0 e1
  obtain ⟨ca, cc, code, rfl, hc, hcn, hcl⟩ := open_insV t2
  obtain ⟨oa, oc, outs, rfl, ho, hon, hol⟩ := open_intsV t3
  exact ⟨a0, a1, ca, oa, cc, oc, code, outs, rfl, hc, ho, hcn, hon, by simp only [Rows.uptoBulk, Rows.uptoBulkAll]; omega⟩
end
end Go.Proofs.YtannhpadoooedaaGreatDoor

/- Arguments as they come in, whatever their bulk: rows of int64, each of which lies in memory. -/
namespace Go.Proofs.YtannhpadoooedaaGreatDoor
open Go.ChangeShapes Go.WideShapes Go.ChangeAt Go.RowKit Go.Joins Go.Deep
set_option linter.unusedVariables false
set_option linter.unusedSimpArgs false
section
variable {H : Type} {enc : TypeId × Value → H} {W : World} {b0 : Nat} {r : Reach} {v : Value} {d : DataW H} {p : List MemPlace}
theorem weightsAll_mem {P : Program} {e : TypeId} : ∀ {l : List (DataW H)} {d : DataW H} {n : Nat}, d ∈ l → n ∈ d.weights P e → n ∈ DataW.weightsAll P e l
  | x :: l, d, n, hd, hn => by
    rw [DataW.weightsAll]
    rcases List.mem_cons.1 hd with rfl | h
    · exact List.mem_append.2 (.inl hn)
    · exact List.mem_append.2 (.inr (weightsAll_mem h hn))
theorem bytes_i64 : Tryz.prog.bytesOf 2 = 8 := by kernel_rfl
set_option maxRecDepth 100000 in
theorem open_i64rows_w (hv : Value.okWide Tryz.prog W r b0 52 v) (h : DataW.Trod enc Tryz.prog W 0 (fun _ => true) true 52 v d p) (hw : ∀ n ∈ d.weights Tryz.prog 52, n ≤ reachBytes) :
    ∃ g, GridI W v g ∧ ∀ k, k < g.length → (g.getD k []).length ≤ 1152921504606846976 := by
  obtain ⟨a, n, cap, rfl⟩ := okWide_slice Tryz.underlying52 hv
  obtain ⟨fuel, hf⟩ := h
  rcases open_int_rows Tryz.underlying52 Tryz.underlying26 Tryz.underlying2 (by kernel_rfl) (by kernel_rfl) hf with ⟨hcs, hx⟩ | ⟨x, len, c, A, L, C, Z, hcs, _, hl, hm, hx, hr⟩
  · simp [Value.cells] at hcs
    obtain ⟨rfl, rfl, rfl⟩ := hcs
    exact ⟨[], ⟨_, _, rfl, fun k hk => absurd hk (by simp)⟩, fun k hk => absurd hk (by simp)⟩
  · simp [Value.cells] at hcs
    obtain ⟨rfl, rfl, rfl⟩ := hcs
    simp only [Prod.mk.injEq] at hx
    have hlen : ∀ r, r < n → ((Z r).take (L r)).length = L r := fun r hr' => by
      obtain ⟨_, h1, _, h2, _⟩ := hr r (by omega)
      rw [List.length_take]; omega
    refine ⟨(List.range n).map fun r => (Z r).take (L r), ⟨_, _, by rw [List.length_map, List.length_range], fun k hk => ?_⟩, fun k hk => ?_⟩
    · rw [List.length_map, List.length_range] at hk
      obtain ⟨h1, h2, h3, h4, h5, h6, h7⟩ := hr k (by omega)
      obtain ⟨b, o, rfl⟩ := plain_at (hr 0 (by omega)).1
      rw [add_plain] at h1
      refine ⟨b, o, _, rfl, h1, ?_⟩
      have e : ((List.range n).map fun r => (Z r).take (L r)).getD k [] = (Z k).take (L k) := by simp [hk]
      rw [e]
      refine ⟨A k, C k, by rw [hlen k hk], fun j hj => ?_⟩
      rw [hlen k hk] at hj
      cases hA : A k with
      | none => have := h6 hA; omega
      | some a' =>
        obtain ⟨_, h8⟩ := h7 a' hA
        have h9 := h8 j (by omega)
        obtain ⟨b', o', rfl⟩ := plain_at (h8 0 (by omega))
        rw [add_plain] at h9
        have e2 : ((Z k).take (L k)).getD j 0 = (Z k).getD j 0 := by
          rw [List.getD_eq_getElem?_getD, List.getD_eq_getElem?_getD, List.getElem?_take_of_lt hj]
        rw [e2]
        refine ⟨b', o', rfl, h9, ?_⟩
        refine i64_of (h5 _ ?_)
        rw [List.getD_eq_getElem?_getD, List.getElem?_eq_getElem (by omega)]
        exact List.getElem_mem _
    · rw [List.length_map, List.length_range] at hk
      obtain ⟨h1, h2, h3, h4, h5, h6, h7⟩ := hr k (by omega)
      have e : ((List.range n).map fun r => (Z r).take (L r)).getD k [] = (Z k).take (L k) := by simp [hk]
      rw [e, hlen k hk]
      cases hA : A k with
      | none => have := h6 hA; omega
      | some a' =>
        have hmem : ((lits (H := H) .i64 ((Z k).take (L k))).length + (lits (H := H) .i64 ((Z k).drop (L k))).length) * Tryz.prog.bytesOf 2 ∈ d.weights Tryz.prog 52 := by
          rw [hx.1]
          simp only [DataW.weights, Tryz.underlying52]
          refine List.mem_cons.2 (.inr (List.mem_append.2 (.inl (weightsAll_mem (d := intRow .i64 (A k) (L k) (Z k)) (List.mem_map.2 ⟨k, by simpa using hk, rfl⟩) ?_))))
          rw [hA]
          simp only [intRow, DataW.weights, Tryz.underlying26]
          exact List.mem_cons.2 (.inl rfl)
        have h8 := hw _ hmem
        have h9 := reachBytes_lt
        have h10 := hlen k hk
        rw [bytes_i64] at h8
        simp only [lits, List.length_map] at h8
        rw [h10] at h8
        omega
end
end Go.Proofs.YtannhpadoooedaaGreatDoor

