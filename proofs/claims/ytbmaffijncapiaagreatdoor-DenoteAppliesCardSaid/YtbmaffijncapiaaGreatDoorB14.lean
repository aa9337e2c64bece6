/- Texts of this seat, laid together: QrC, QrD, QrE, MxG, MxH, MxI, MxJ, MxK, MxL, MxM, MxN, FrC. What each theorem proves, and under which conditions, its statement says. -/
import Derived.Test.YtbmaffijncapiaaGreatDoorB13
import Derived.Lib.AppendZeros
set_option maxRecDepth 100000
set_option maxHeartbeats 32000000
set_option linter.unusedVariables false
set_option linter.unusedSimpArgs false
namespace Go.Proofs.YtbmaffijncapiaaGreatDoor
open Go.ChangeShapes Go.WideShapes Go.ChangeAt Go.RowKit
section
open Num
attribute [local go_sem ↓] Go.wp_at_zero Go.wp_at_succ
theorem far4 {w : World} {b g i : Nat} {v : Value} (h : w.cell? ⟨b, i, none⟩ = some v) (hne : b ≠ g) (u0 u1 u2 u3 : Value) : ((((w.setCell ⟨g, 0, none⟩ u0).setCell ⟨g, 1, none⟩ u1).setCell ⟨g, 2, none⟩ u2).setCell ⟨g, 3, none⟩ u3).cell? ⟨b, i, none⟩ = some v :=
 cell_far (cell_far (cell_far (cell_far h (addr_ne (Ne.symm hne)) _) (addr_ne (Ne.symm hne)) _) (addr_ne (Ne.symm hne)) _) (addr_ne (Ne.symm hne)) _
theorem rqMk_mul (x y : Rat) (k m : Nat) (bx : BdQ k x) (by' : BdQ m y) (hk : k + m ≤ 17179869180) (u v : Value) (V : World) (hu : IsRef V u (x.num * y.num)) (hv : IsRef V v ((x.den : Int) * (y.den : Int))) :
 Calls Tryz.prog 46 #[u, v] V fun e w' => (∃ z, e = .returned z ∧ IsQR w' z (x * y)) ∧ Below V.heap.size V w' := by
 rw [q_mul]
 exact rqMake_c u v _ _ (k + m) V hu hv (bx.1.mul by'.1) (bx.2.mul by'.2) hk (Int.mul_ne_zero (by have := den_pos x; omega) (by have := den_pos y; omega))
theorem rqMk_div (x y : Rat) (k m : Nat) (bx : BdQ k x) (by' : BdQ m y) (hk : k + m ≤ 17179869180) (h0 : y ≠ 0) (u v : Value) (V : World) (hu : IsRef V u (x.num * (y.den : Int))) (hv : IsRef V v ((x.den : Int) * y.num)) :
 Calls Tryz.prog 46 #[u, v] V fun e w' => (∃ z, e = .returned z ∧ IsQR w' z (x / y)) ∧ Below V.heap.size V w' := by
 rw [q_div]
 exact rqMake_c u v _ _ (k + m) V hu hv (bx.1.mul by'.2) (bx.2.mul by'.1) hk (Int.mul_ne_zero (by have := den_pos x; omega) (num_ne h0))
theorem rqMul_c (vx vy : Value) (x y : Rat) (k m : Nat) (w : World) (hx : IsQR w vx x) (hy : IsQR w vy y) (bx : BdQ k x) (by' : BdQ m y) (hk9 : k + m ≤ 17179869180) (h0 : 0 = 0) :
 Calls Tryz.prog 153 #[vx, vy] w fun e w' => (∃ v, e = .returned v ∧ IsQR w' v (x * y)) ∧ Below w.heap.size w w' := by
 obtain ⟨n1, a1, l1, c1, n2, a2, l2, c2, rfl, h1, h2⟩ := hx
 obtain ⟨n3, a3, l3, c3, n4, a4, l4, c4, rfl, h3, h4⟩ := hy
 have P1 := hZ (fun V (q : Below w.heap.size w V) => rmul_c (.agg #[.bool n1, .slice a1 l1 c1]) (.agg #[.bool n3, .slice a3 l3 c3]) _ _ k m V (h1.keep q) (h3.keep q) bx.1 by'.1 (by omega) (by omega))
 have P2 := hZ (fun V (q : Below w.heap.size w V) => rmul_c (.agg #[.bool n2, .slice a2 l2 c2]) (.agg #[.bool n4, .slice a4 l4 c4]) _ _ k m V (h2.keep q) (h4.keep q) bx.2 by'.2 (by omega) (by omega))
 have MK := hZ (rqMk_mul x y k m bx by' hk9)
 clear h1 h2 h3 h4 bx by' hk9
 have hB := Below.refl w.heap.size w
 go_enter Tryz.func153, Tryz.ntmps153
 go_wp2
 refine wp_name fun w5 hW5 => ?_
 have HB5 := hZ (show Below w.heap.size w w5 by rw [hW5]; repeat (first|exact bzR _ _|exact hB|refine bzD ?_|refine bzN ?_|refine bzS ?_|refine bzA ?_))
 have HC5 := hZ (show (w5.cell? ⟨w.heap.size, 0, none⟩ = some (.bool n1) ∧ w5.cell? ⟨w.heap.size, 1, none⟩ = some (.slice a1 l1 c1) ∧ w5.cell? ⟨w.heap.size, 2, none⟩ = some (.bool n2) ∧ w5.cell? ⟨w.heap.size, 3, none⟩ = some (.slice a2 l2 c2) ∧ w5.cell? ⟨w.heap.size + 1, 0, none⟩ = some (.bool n3) ∧ w5.cell? ⟨w.heap.size + 1, 1, none⟩ = some (.slice a3 l3 c3) ∧ w5.cell? ⟨w.heap.size + 1, 2, none⟩ = some (.bool n4) ∧ w5.cell? ⟨w.heap.size + 1, 3, none⟩ = some (.slice a4 l4 c4)) ∧ (w5.cell? ⟨w.heap.size + 1 + 1, 0, none⟩ = some (.bool false) ∧ w5.cell? ⟨w.heap.size + 1 + 1, 1, none⟩ = some (.slice none 0 0) ∧ w5.cell? ⟨w.heap.size + 1 + 1, 2, none⟩ = some (.bool false) ∧ w5.cell? ⟨w.heap.size + 1 + 1, 3, none⟩ = some (.slice none 0 0)) ∧ (w5.frozen? ⟨w.heap.size + 1 + 1, 0, none⟩ = false ∧ w5.frozen? ⟨w.heap.size + 1 + 1, 1, none⟩ = false ∧ w5.frozen? ⟨w.heap.size + 1 + 1, 2, none⟩ = false ∧ w5.frozen? ⟨w.heap.size + 1 + 1, 3, none⟩ = false) from by rw [hW5]; simp [go_sem])
 clear hW5 hB
 have HS := hZ (show ∀ V, Below w5.heap.size w5 V → V.cell? ⟨w.heap.size, 0, none⟩ = some (.bool n1) ∧ V.cell? ⟨w.heap.size, 1, none⟩ = some (.slice a1 l1 c1) ∧ V.cell? ⟨w.heap.size, 2, none⟩ = some (.bool n2) ∧ V.cell? ⟨w.heap.size, 3, none⟩ = some (.slice a2 l2 c2) ∧ V.cell? ⟨w.heap.size + 1, 0, none⟩ = some (.bool n3) ∧ V.cell? ⟨w.heap.size + 1, 1, none⟩ = some (.slice a3 l3 c3) ∧ V.cell? ⟨w.heap.size + 1, 2, none⟩ = some (.bool n4) ∧ V.cell? ⟨w.heap.size + 1, 3, none⟩ = some (.slice a4 l4 c4) from fun V q => ⟨bkeep q HC5.out.1.1, bkeep q HC5.out.1.2.1, bkeep q HC5.out.1.2.2.1, bkeep q HC5.out.1.2.2.2.1, bkeep q HC5.out.1.2.2.2.2.1, bkeep q HC5.out.1.2.2.2.2.2.1, bkeep q HC5.out.1.2.2.2.2.2.2.1, bkeep q HC5.out.1.2.2.2.2.2.2.2⟩)
 have HSF := hZ (show ∀ V, Below w5.heap.size w5 V → ∀ u0 u1 u2 u3, (st4 V (w.heap.size + 1 + 1) u0 u1 u2 u3).cell? ⟨w.heap.size, 0, none⟩ = some (.bool n1) ∧ (st4 V (w.heap.size + 1 + 1) u0 u1 u2 u3).cell? ⟨w.heap.size, 1, none⟩ = some (.slice a1 l1 c1) ∧ (st4 V (w.heap.size + 1 + 1) u0 u1 u2 u3).cell? ⟨w.heap.size, 2, none⟩ = some (.bool n2) ∧ (st4 V (w.heap.size + 1 + 1) u0 u1 u2 u3).cell? ⟨w.heap.size, 3, none⟩ = some (.slice a2 l2 c2) ∧ (st4 V (w.heap.size + 1 + 1) u0 u1 u2 u3).cell? ⟨w.heap.size + 1, 0, none⟩ = some (.bool n3) ∧ (st4 V (w.heap.size + 1 + 1) u0 u1 u2 u3).cell? ⟨w.heap.size + 1, 1, none⟩ = some (.slice a3 l3 c3) ∧ (st4 V (w.heap.size + 1 + 1) u0 u1 u2 u3).cell? ⟨w.heap.size + 1, 2, none⟩ = some (.bool n4) ∧ (st4 V (w.heap.size + 1 + 1) u0 u1 u2 u3).cell? ⟨w.heap.size + 1, 3, none⟩ = some (.slice a4 l4 c4) from fun V q u0 u1 u2 u3 => by
  obtain ⟨x0, x1, x2, x3, y0, y1, y2, y3⟩ := HS.out V q
  exact ⟨far4 x0 (by omega) _ _ _ _, far4 x1 (by omega) _ _ _ _, far4 x2 (by omega) _ _ _ _, far4 x3 (by omega) _ _ _ _, far4 y0 (by omega) _ _ _ _, far4 y1 (by omega) _ _ _ _, far4 y2 (by omega) _ _ _ _, far4 y3 (by omega) _ _ _ _⟩)
 have hBw := Below.refl w5.heap.size w5
 obtain ⟨x0, x1, x2, x3, y0, y1, y2, y3⟩ := HC5.out.1
 have zx := cell_lt x0
 have zy := cell_lt y0
 go_region_held3 (fun V => V.cell? ⟨w.heap.size, 0, none⟩ = some (.bool n1) ∧ V.cell? ⟨w.heap.size, 1, none⟩ = some (.slice a1 l1 c1) ∧ V.cell? ⟨w.heap.size, 2, none⟩ = some (.bool n2) ∧ V.cell? ⟨w.heap.size, 3, none⟩ = some (.slice a2 l2 c2) ∧ V.cell? ⟨w.heap.size + 1, 0, none⟩ = some (.bool n3) ∧ V.cell? ⟨w.heap.size + 1, 1, none⟩ = some (.slice a3 l3 c3) ∧ V.cell? ⟨w.heap.size + 1, 2, none⟩ = some (.bool n4) ∧ V.cell? ⟨w.heap.size + 1, 3, none⟩ = some (.slice a4 l4 c4))
  (first | (with_reducible refine HSF.out _ ?_ _ _ _ _; (repeat (first|exact bzR _ _|exact hBw|refine bzD ?_|refine bzN ?_|refine bzS ?_|refine bzA ?_)); done) | (refine HS.out _ ?_; (repeat (first|exact bzR _ _|exact hBw|refine bzD ?_|refine bzN ?_|refine bzS ?_|refine bzA ?_)); done) | fail)
  (first
   | (go_at_call 114; (with_reducible show Calls _ _ #[(.agg #[.bool n1, .slice a1 l1 c1]), (.agg #[.bool n3, .slice a3 l3 c3])] _ _); refine (P1.out _ (bthen HB5.out ?_)).mono ?_; (repeat (first|exact bzR _ _|exact hBw|refine bzD ?_|refine bzN ?_|refine bzS ?_|refine bzA ?_)); rintro e w6 ⟨⟨u6, rfl, hu6⟩, hb6⟩; (replace hBw : Below w5.heap.size w5 w6 := bthen bZ hb6); have HU6 := hZ hu6; have hy6 := Below.refl w6.heap.size w6; obtain ⟨pn, pa, pl, pc, rfl⟩ := hu6.litR)
   | (go_at_call 114; refine (P2.out _ (bthen HB5.out ?_)).mono ?_; (repeat (first|exact bzR _ _|exact hBw|refine bzD ?_|refine bzN ?_|refine bzS ?_|refine bzA ?_)); rintro e w7 ⟨⟨u7, rfl, hu7⟩, hb7⟩; (replace hBw : Below w5.heap.size w5 w7 := bthen bZ hb7); (replace hy6 : Below w6.heap.size w6 w7 := bthen bZ hb7); have HU7 := hZ hu7; have hy7 := Below.refl w7.heap.size w7; obtain ⟨sn, sa, sl, sc, rfl⟩ := hu7.litR)
   | (go_at_call 46; refine (MK.out _ _ _ (HU6.out.keep ?_) (HU7.out.keep ?_)).mono ?_; (repeat (first|exact bzR _ _|exact hy6|refine bzD ?_|refine bzN ?_|refine bzS ?_|refine bzA ?_)); (repeat (first|exact bzR _ _|exact hy7|refine bzD ?_|refine bzN ?_|refine bzS ?_|refine bzA ?_)); rintro e w8 ⟨⟨v8, rfl, hv8⟩, hb8⟩; (replace hBw : Below w5.heap.size w5 w8 := bthen bZ hb8); have HV8 := hZ hv8; obtain ⟨s0, s1, s2, s3⟩ := HC5.out.2.1; obtain ⟨f0, f1, f2, f3⟩ := HC5.out.2.2; have r0f := bkeepf hBw s0 f0; have r1f := bkeepf hBw s1 f1; have r2f := bkeepf hBw s2 f2; have r3f := bkeepf hBw s3 f3; have r0 := bkeep hBw s0; have r1 := bkeep hBw s1; have r2 := bkeep hBw s2; have r3 := bkeep hBw s3; have zr := cell_lt r0; clear s0 s1 s2 s3 f0 f1 f2 f3; obtain ⟨m1, b1, k1, d1, m2, b2, k2, d2, rfl, -, -⟩ := hv8)
   | fail)
 all_goals
  have HQ := hZ (IsQR.put4 HV8.out r0 r1 r2 r3 (.bool m1) (.slice b1 k1 d1) (.bool m2) (.slice b2 k2 d2))
  have hBf := bthen HB5.out hBw
  clear HC5 HS HSF x0 x1 x2 x3 y0 y1 y2 y3
  go_wp2
  refine bodyPost_ret (v := .agg #[.bool m1, .slice b1 k1 d1, .bool m2, .slice b2 k2 d2]) (by simp [results, Tryz.results153, go_sem, *]) rfl ⟨⟨_, rfl, ?_⟩, ?_⟩
  · first | exact HQ.out | exact HQ.out.keep (Below.refl _ _).drew
  ·
   repeat exact bZ
theorem rqOver_c (vx vy : Value) (x y : Rat) (k m : Nat) (w : World) (hx : IsQR w vx x) (hy : IsQR w vy y) (bx : BdQ k x) (by' : BdQ m y) (hk9 : k + m ≤ 17179869180) (h0 : y ≠ 0) :
 Calls Tryz.prog 221 #[vx, vy] w fun e w' => (∃ v, e = .returned v ∧ IsQR w' v (x / y)) ∧ Below w.heap.size w w' := by
 obtain ⟨n1, a1, l1, c1, n2, a2, l2, c2, rfl, h1, h2⟩ := hx
 obtain ⟨n3, a3, l3, c3, n4, a4, l4, c4, rfl, h3, h4⟩ := hy
 have P1 := hZ (fun V (q : Below w.heap.size w V) => rmul_c (.agg #[.bool n1, .slice a1 l1 c1]) (.agg #[.bool n4, .slice a4 l4 c4]) _ _ k m V (h1.keep q) (h4.keep q) bx.1 by'.2 (by omega) (by omega))
 have P2 := hZ (fun V (q : Below w.heap.size w V) => rmul_c (.agg #[.bool n2, .slice a2 l2 c2]) (.agg #[.bool n3, .slice a3 l3 c3]) _ _ k m V (h2.keep q) (h3.keep q) bx.2 by'.1 (by omega) (by omega))
 have MK := hZ (rqMk_div x y k m bx by' hk9 h0)
 clear h1 h2 h3 h4 bx by' hk9
 have hB := Below.refl w.heap.size w
 go_enter Tryz.func221, Tryz.ntmps221
 go_wp2
 refine wp_name fun w5 hW5 => ?_
 have HB5 := hZ (show Below w.heap.size w w5 by rw [hW5]; repeat (first|exact bzR _ _|exact hB|refine bzD ?_|refine bzN ?_|refine bzS ?_|refine bzA ?_))
 have HC5 := hZ (show (w5.cell? ⟨w.heap.size, 0, none⟩ = some (.bool n1) ∧ w5.cell? ⟨w.heap.size, 1, none⟩ = some (.slice a1 l1 c1) ∧ w5.cell? ⟨w.heap.size, 2, none⟩ = some (.bool n2) ∧ w5.cell? ⟨w.heap.size, 3, none⟩ = some (.slice a2 l2 c2) ∧ w5.cell? ⟨w.heap.size + 1, 0, none⟩ = some (.bool n3) ∧ w5.cell? ⟨w.heap.size + 1, 1, none⟩ = some (.slice a3 l3 c3) ∧ w5.cell? ⟨w.heap.size + 1, 2, none⟩ = some (.bool n4) ∧ w5.cell? ⟨w.heap.size + 1, 3, none⟩ = some (.slice a4 l4 c4)) ∧ (w5.cell? ⟨w.heap.size + 1 + 1, 0, none⟩ = some (.bool false) ∧ w5.cell? ⟨w.heap.size + 1 + 1, 1, none⟩ = some (.slice none 0 0) ∧ w5.cell? ⟨w.heap.size + 1 + 1, 2, none⟩ = some (.bool false) ∧ w5.cell? ⟨w.heap.size + 1 + 1, 3, none⟩ = some (.slice none 0 0)) ∧ (w5.frozen? ⟨w.heap.size + 1 + 1, 0, none⟩ = false ∧ w5.frozen? ⟨w.heap.size + 1 + 1, 1, none⟩ = false ∧ w5.frozen? ⟨w.heap.size + 1 + 1, 2, none⟩ = false ∧ w5.frozen? ⟨w.heap.size + 1 + 1, 3, none⟩ = false) from by rw [hW5]; simp [go_sem])
 clear hW5 hB
 have HS := hZ (show ∀ V, Below w5.heap.size w5 V → V.cell? ⟨w.heap.size, 0, none⟩ = some (.bool n1) ∧ V.cell? ⟨w.heap.size, 1, none⟩ = some (.slice a1 l1 c1) ∧ V.cell? ⟨w.heap.size, 2, none⟩ = some (.bool n2) ∧ V.cell? ⟨w.heap.size, 3, none⟩ = some (.slice a2 l2 c2) ∧ V.cell? ⟨w.heap.size + 1, 0, none⟩ = some (.bool n3) ∧ V.cell? ⟨w.heap.size + 1, 1, none⟩ = some (.slice a3 l3 c3) ∧ V.cell? ⟨w.heap.size + 1, 2, none⟩ = some (.bool n4) ∧ V.cell? ⟨w.heap.size + 1, 3, none⟩ = some (.slice a4 l4 c4) from fun V q => ⟨bkeep q HC5.out.1.1, bkeep q HC5.out.1.2.1, bkeep q HC5.out.1.2.2.1, bkeep q HC5.out.1.2.2.2.1, bkeep q HC5.out.1.2.2.2.2.1, bkeep q HC5.out.1.2.2.2.2.2.1, bkeep q HC5.out.1.2.2.2.2.2.2.1, bkeep q HC5.out.1.2.2.2.2.2.2.2⟩)
 have HSF := hZ (show ∀ V, Below w5.heap.size w5 V → ∀ u0 u1 u2 u3, (st4 V (w.heap.size + 1 + 1) u0 u1 u2 u3).cell? ⟨w.heap.size, 0, none⟩ = some (.bool n1) ∧ (st4 V (w.heap.size + 1 + 1) u0 u1 u2 u3).cell? ⟨w.heap.size, 1, none⟩ = some (.slice a1 l1 c1) ∧ (st4 V (w.heap.size + 1 + 1) u0 u1 u2 u3).cell? ⟨w.heap.size, 2, none⟩ = some (.bool n2) ∧ (st4 V (w.heap.size + 1 + 1) u0 u1 u2 u3).cell? ⟨w.heap.size, 3, none⟩ = some (.slice a2 l2 c2) ∧ (st4 V (w.heap.size + 1 + 1) u0 u1 u2 u3).cell? ⟨w.heap.size + 1, 0, none⟩ = some (.bool n3) ∧ (st4 V (w.heap.size + 1 + 1) u0 u1 u2 u3).cell? ⟨w.heap.size + 1, 1, none⟩ = some (.slice a3 l3 c3) ∧ (st4 V (w.heap.size + 1 + 1) u0 u1 u2 u3).cell? ⟨w.heap.size + 1, 2, none⟩ = some (.bool n4) ∧ (st4 V (w.heap.size + 1 + 1) u0 u1 u2 u3).cell? ⟨w.heap.size + 1, 3, none⟩ = some (.slice a4 l4 c4) from fun V q u0 u1 u2 u3 => by
  obtain ⟨x0, x1, x2, x3, y0, y1, y2, y3⟩ := HS.out V q
  exact ⟨far4 x0 (by omega) _ _ _ _, far4 x1 (by omega) _ _ _ _, far4 x2 (by omega) _ _ _ _, far4 x3 (by omega) _ _ _ _, far4 y0 (by omega) _ _ _ _, far4 y1 (by omega) _ _ _ _, far4 y2 (by omega) _ _ _ _, far4 y3 (by omega) _ _ _ _⟩)
 have hBw := Below.refl w5.heap.size w5
 obtain ⟨x0, x1, x2, x3, y0, y1, y2, y3⟩ := HC5.out.1
 have zx := cell_lt x0
 have zy := cell_lt y0
 go_region_held3 (fun V => V.cell? ⟨w.heap.size, 0, none⟩ = some (.bool n1) ∧ V.cell? ⟨w.heap.size, 1, none⟩ = some (.slice a1 l1 c1) ∧ V.cell? ⟨w.heap.size, 2, none⟩ = some (.bool n2) ∧ V.cell? ⟨w.heap.size, 3, none⟩ = some (.slice a2 l2 c2) ∧ V.cell? ⟨w.heap.size + 1, 0, none⟩ = some (.bool n3) ∧ V.cell? ⟨w.heap.size + 1, 1, none⟩ = some (.slice a3 l3 c3) ∧ V.cell? ⟨w.heap.size + 1, 2, none⟩ = some (.bool n4) ∧ V.cell? ⟨w.heap.size + 1, 3, none⟩ = some (.slice a4 l4 c4))
  (first | (with_reducible refine HSF.out _ ?_ _ _ _ _; (repeat (first|exact bzR _ _|exact hBw|refine bzD ?_|refine bzN ?_|refine bzS ?_|refine bzA ?_)); done) | (refine HS.out _ ?_; (repeat (first|exact bzR _ _|exact hBw|refine bzD ?_|refine bzN ?_|refine bzS ?_|refine bzA ?_)); done) | fail)
  (first
   | (go_at_call 114; (with_reducible show Calls _ _ #[(.agg #[.bool n1, .slice a1 l1 c1]), (.agg #[.bool n4, .slice a4 l4 c4])] _ _); refine (P1.out _ (bthen HB5.out ?_)).mono ?_; (repeat (first|exact bzR _ _|exact hBw|refine bzD ?_|refine bzN ?_|refine bzS ?_|refine bzA ?_)); rintro e w6 ⟨⟨u6, rfl, hu6⟩, hb6⟩; (replace hBw : Below w5.heap.size w5 w6 := bthen bZ hb6); have HU6 := hZ hu6; have hy6 := Below.refl w6.heap.size w6; obtain ⟨pn, pa, pl, pc, rfl⟩ := hu6.litR)
   | (go_at_call 114; refine (P2.out _ (bthen HB5.out ?_)).mono ?_; (repeat (first|exact bzR _ _|exact hBw|refine bzD ?_|refine bzN ?_|refine bzS ?_|refine bzA ?_)); rintro e w7 ⟨⟨u7, rfl, hu7⟩, hb7⟩; (replace hBw : Below w5.heap.size w5 w7 := bthen bZ hb7); (replace hy6 : Below w6.heap.size w6 w7 := bthen bZ hb7); have HU7 := hZ hu7; have hy7 := Below.refl w7.heap.size w7; obtain ⟨sn, sa, sl, sc, rfl⟩ := hu7.litR)
   | (go_at_call 46; refine (MK.out _ _ _ (HU6.out.keep ?_) (HU7.out.keep ?_)).mono ?_; (repeat (first|exact bzR _ _|exact hy6|refine bzD ?_|refine bzN ?_|refine bzS ?_|refine bzA ?_)); (repeat (first|exact bzR _ _|exact hy7|refine bzD ?_|refine bzN ?_|refine bzS ?_|refine bzA ?_)); rintro e w8 ⟨⟨v8, rfl, hv8⟩, hb8⟩; (replace hBw : Below w5.heap.size w5 w8 := bthen bZ hb8); have HV8 := hZ hv8; obtain ⟨s0, s1, s2, s3⟩ := HC5.out.2.1; obtain ⟨f0, f1, f2, f3⟩ := HC5.out.2.2; have r0f := bkeepf hBw s0 f0; have r1f := bkeepf hBw s1 f1; have r2f := bkeepf hBw s2 f2; have r3f := bkeepf hBw s3 f3; have r0 := bkeep hBw s0; have r1 := bkeep hBw s1; have r2 := bkeep hBw s2; have r3 := bkeep hBw s3; have zr := cell_lt r0; clear s0 s1 s2 s3 f0 f1 f2 f3; obtain ⟨m1, b1, k1, d1, m2, b2, k2, d2, rfl, -, -⟩ := hv8)
   | fail)
 all_goals
  have HQ := hZ (IsQR.put4 HV8.out r0 r1 r2 r3 (.bool m1) (.slice b1 k1 d1) (.bool m2) (.slice b2 k2 d2))
  have hBf := bthen HB5.out hBw
  clear HC5 HS HSF x0 x1 x2 x3 y0 y1 y2 y3
  go_wp2
  refine bodyPost_ret (v := .agg #[.bool m1, .slice b1 k1 d1, .bool m2, .slice b2 k2 d2]) (by simp [results, Tryz.results221, go_sem, *]) rfl ⟨⟨_, rfl, ?_⟩, ?_⟩
  · first | exact HQ.out | exact HQ.out.keep (Below.refl _ _).drew
  ·
   repeat exact bZ
end
section
open Num
attribute [local go_sem ↓] Go.wp_at_zero Go.wp_at_succ
theorem rqMk_add (x y : Rat) (k m : Nat) (bx : BdQ k x) (by' : BdQ m y) (hk : k + m + 1 ≤ 17179869180) (u v : Value) (V : World) (hu : IsRef V u (x.num * (y.den : Int) + y.num * (x.den : Int))) (hv : IsRef V v ((x.den : Int) * (y.den : Int))) :
 Calls Tryz.prog 46 #[u, v] V fun e w' => (∃ z, e = .returned z ∧ IsQR w' z (x + y)) ∧ Below V.heap.size V w' := by
 rw [q_add]
 have b2 := by'.1.mul bx.2
 rw [Nat.add_comm m k] at b2
 exact rqMake_c u v _ _ (k + m + 1) V hu hv ((bx.1.mul by'.2).add b2) ((bx.2.mul by'.2).mono (by omega)) hk (Int.mul_ne_zero (by have := den_pos x; omega) (by have := den_pos y; omega))
theorem rqAdd_c (vx vy : Value) (x y : Rat) (k m : Nat) (w : World) (hx : IsQR w vx x) (hy : IsQR w vy y) (bx : BdQ k x) (by' : BdQ m y) (hk9 : k + m + 1 ≤ 17179869180) :
 Calls Tryz.prog 254 #[vx, vy] w fun e w' => (∃ v, e = .returned v ∧ IsQR w' v (x + y)) ∧ Below w.heap.size w w' := by
 obtain ⟨n1, a1, l1, c1, n2, a2, l2, c2, rfl, h1, h2⟩ := hx
 obtain ⟨n3, a3, l3, c3, n4, a4, l4, c4, rfl, h3, h4⟩ := hy
 have P1 := hZ (fun V (q : Below w.heap.size w V) => rmul_c (.agg #[.bool n1, .slice a1 l1 c1]) (.agg #[.bool n4, .slice a4 l4 c4]) _ _ k m V (h1.keep q) (h4.keep q) bx.1 by'.2 (by omega) (by omega))
 have P2 := hZ (fun V (q : Below w.heap.size w V) => rmul_c (.agg #[.bool n3, .slice a3 l3 c3]) (.agg #[.bool n2, .slice a2 l2 c2]) _ _ m k V (h3.keep q) (h2.keep q) by'.1 bx.2 (by omega) (by omega))
 have P3 := hZ (fun V (q : Below w.heap.size w V) => rmul_c (.agg #[.bool n2, .slice a2 l2 c2]) (.agg #[.bool n4, .slice a4 l4 c4]) _ _ k m V (h2.keep q) (h4.keep q) bx.2 by'.2 (by omega) (by omega))
 have AD := hZ (fun u v V (hu : IsRef V u (x.num * (y.den : Int))) (hv : IsRef V v (y.num * (x.den : Int))) => radd_c u v _ _ (k + m) V hu hv (bx.1.mul by'.2) (by have := by'.1.mul bx.2; rw [Nat.add_comm m k] at this; exact this) (by omega))
 have MK := hZ (rqMk_add x y k m bx by' hk9)
 clear h1 h2 h3 h4 bx by' hk9
 have hB := Below.refl w.heap.size w
 go_enter Tryz.func254, Tryz.ntmps254
 go_wp2
 refine wp_name fun w5 hW5 => ?_
 have HB5 := hZ (show Below w.heap.size w w5 by rw [hW5]; repeat (first|exact bzR _ _|exact hB|refine bzD ?_|refine bzN ?_|refine bzS ?_|refine bzA ?_))
 have HC5 := hZ (show (w5.cell? ⟨w.heap.size, 0, none⟩ = some (.bool n1) ∧ w5.cell? ⟨w.heap.size, 1, none⟩ = some (.slice a1 l1 c1) ∧ w5.cell? ⟨w.heap.size, 2, none⟩ = some (.bool n2) ∧ w5.cell? ⟨w.heap.size, 3, none⟩ = some (.slice a2 l2 c2) ∧ w5.cell? ⟨w.heap.size + 1, 0, none⟩ = some (.bool n3) ∧ w5.cell? ⟨w.heap.size + 1, 1, none⟩ = some (.slice a3 l3 c3) ∧ w5.cell? ⟨w.heap.size + 1, 2, none⟩ = some (.bool n4) ∧ w5.cell? ⟨w.heap.size + 1, 3, none⟩ = some (.slice a4 l4 c4)) ∧ (w5.cell? ⟨w.heap.size + 1 + 1, 0, none⟩ = some (.bool false) ∧ w5.cell? ⟨w.heap.size + 1 + 1, 1, none⟩ = some (.slice none 0 0) ∧ w5.cell? ⟨w.heap.size + 1 + 1, 2, none⟩ = some (.bool false) ∧ w5.cell? ⟨w.heap.size + 1 + 1, 3, none⟩ = some (.slice none 0 0)) ∧ (w5.frozen? ⟨w.heap.size + 1 + 1, 0, none⟩ = false ∧ w5.frozen? ⟨w.heap.size + 1 + 1, 1, none⟩ = false ∧ w5.frozen? ⟨w.heap.size + 1 + 1, 2, none⟩ = false ∧ w5.frozen? ⟨w.heap.size + 1 + 1, 3, none⟩ = false) from by rw [hW5]; simp [go_sem])
 clear hW5 hB
 have HS := hZ (show ∀ V, Below w5.heap.size w5 V → V.cell? ⟨w.heap.size, 0, none⟩ = some (.bool n1) ∧ V.cell? ⟨w.heap.size, 1, none⟩ = some (.slice a1 l1 c1) ∧ V.cell? ⟨w.heap.size, 2, none⟩ = some (.bool n2) ∧ V.cell? ⟨w.heap.size, 3, none⟩ = some (.slice a2 l2 c2) ∧ V.cell? ⟨w.heap.size + 1, 0, none⟩ = some (.bool n3) ∧ V.cell? ⟨w.heap.size + 1, 1, none⟩ = some (.slice a3 l3 c3) ∧ V.cell? ⟨w.heap.size + 1, 2, none⟩ = some (.bool n4) ∧ V.cell? ⟨w.heap.size + 1, 3, none⟩ = some (.slice a4 l4 c4) from fun V q => ⟨bkeep q HC5.out.1.1, bkeep q HC5.out.1.2.1, bkeep q HC5.out.1.2.2.1, bkeep q HC5.out.1.2.2.2.1, bkeep q HC5.out.1.2.2.2.2.1, bkeep q HC5.out.1.2.2.2.2.2.1, bkeep q HC5.out.1.2.2.2.2.2.2.1, bkeep q HC5.out.1.2.2.2.2.2.2.2⟩)
 have HSF := hZ (show ∀ V, Below w5.heap.size w5 V → ∀ u0 u1 u2 u3, (st4 V (w.heap.size + 1 + 1) u0 u1 u2 u3).cell? ⟨w.heap.size, 0, none⟩ = some (.bool n1) ∧ (st4 V (w.heap.size + 1 + 1) u0 u1 u2 u3).cell? ⟨w.heap.size, 1, none⟩ = some (.slice a1 l1 c1) ∧ (st4 V (w.heap.size + 1 + 1) u0 u1 u2 u3).cell? ⟨w.heap.size, 2, none⟩ = some (.bool n2) ∧ (st4 V (w.heap.size + 1 + 1) u0 u1 u2 u3).cell? ⟨w.heap.size, 3, none⟩ = some (.slice a2 l2 c2) ∧ (st4 V (w.heap.size + 1 + 1) u0 u1 u2 u3).cell? ⟨w.heap.size + 1, 0, none⟩ = some (.bool n3) ∧ (st4 V (w.heap.size + 1 + 1) u0 u1 u2 u3).cell? ⟨w.heap.size + 1, 1, none⟩ = some (.slice a3 l3 c3) ∧ (st4 V (w.heap.size + 1 + 1) u0 u1 u2 u3).cell? ⟨w.heap.size + 1, 2, none⟩ = some (.bool n4) ∧ (st4 V (w.heap.size + 1 + 1) u0 u1 u2 u3).cell? ⟨w.heap.size + 1, 3, none⟩ = some (.slice a4 l4 c4) from fun V q u0 u1 u2 u3 => by
  obtain ⟨x0, x1, x2, x3, y0, y1, y2, y3⟩ := HS.out V q
  exact ⟨far4 x0 (by omega) _ _ _ _, far4 x1 (by omega) _ _ _ _, far4 x2 (by omega) _ _ _ _, far4 x3 (by omega) _ _ _ _, far4 y0 (by omega) _ _ _ _, far4 y1 (by omega) _ _ _ _, far4 y2 (by omega) _ _ _ _, far4 y3 (by omega) _ _ _ _⟩)
 have hBw := Below.refl w5.heap.size w5
 obtain ⟨x0, x1, x2, x3, y0, y1, y2, y3⟩ := HC5.out.1
 have zx := cell_lt x0
 have zy := cell_lt y0
 go_region_held3 (fun V => V.cell? ⟨w.heap.size, 0, none⟩ = some (.bool n1) ∧ V.cell? ⟨w.heap.size, 1, none⟩ = some (.slice a1 l1 c1) ∧ V.cell? ⟨w.heap.size, 2, none⟩ = some (.bool n2) ∧ V.cell? ⟨w.heap.size, 3, none⟩ = some (.slice a2 l2 c2) ∧ V.cell? ⟨w.heap.size + 1, 0, none⟩ = some (.bool n3) ∧ V.cell? ⟨w.heap.size + 1, 1, none⟩ = some (.slice a3 l3 c3) ∧ V.cell? ⟨w.heap.size + 1, 2, none⟩ = some (.bool n4) ∧ V.cell? ⟨w.heap.size + 1, 3, none⟩ = some (.slice a4 l4 c4))
  (first | (with_reducible refine HSF.out _ ?_ _ _ _ _; (repeat (first|exact bzR _ _|exact hBw|refine bzD ?_|refine bzN ?_|refine bzS ?_|refine bzA ?_)); done) | (refine HS.out _ ?_; (repeat (first|exact bzR _ _|exact hBw|refine bzD ?_|refine bzN ?_|refine bzS ?_|refine bzA ?_)); done) | fail)
  (first
   | (go_at_call 114; (with_reducible show Calls _ _ #[(.agg #[.bool n1, .slice a1 l1 c1]), (.agg #[.bool n4, .slice a4 l4 c4])] _ _); refine (P1.out _ (bthen HB5.out ?_)).mono ?_; (repeat (first|exact bzR _ _|exact hBw|refine bzD ?_|refine bzN ?_|refine bzS ?_|refine bzA ?_)); rintro e w6 ⟨⟨u6, rfl, hu6⟩, hb6⟩; (replace hBw : Below w5.heap.size w5 w6 := bthen bZ hb6); have HU6 := hZ hu6; have hy6 := Below.refl w6.heap.size w6; obtain ⟨pn, pa, pl, pc, rfl⟩ := hu6.litR)
   | (go_at_call 114; (with_reducible show Calls _ _ #[(.agg #[.bool n3, .slice a3 l3 c3]), (.agg #[.bool n2, .slice a2 l2 c2])] _ _); refine (P2.out _ (bthen HB5.out ?_)).mono ?_; (repeat (first|exact bzR _ _|exact hBw|refine bzD ?_|refine bzN ?_|refine bzS ?_|refine bzA ?_)); rintro e w7 ⟨⟨u7, rfl, hu7⟩, hb7⟩; (replace hBw : Below w5.heap.size w5 w7 := bthen bZ hb7); (replace hy6 : Below w6.heap.size w6 w7 := bthen bZ hb7); have HU7 := hZ hu7; have hy7 := Below.refl w7.heap.size w7; obtain ⟨sn, sa, sl, sc, rfl⟩ := hu7.litR)
   | (go_at_call 257; refine (AD.out _ _ _ (HU6.out.keep ?_) (HU7.out.keep ?_)).mono ?_; (repeat (first|exact bzR _ _|exact hy6|refine bzD ?_|refine bzN ?_|refine bzS ?_|refine bzA ?_)); (repeat (first|exact bzR _ _|exact hy7|refine bzD ?_|refine bzN ?_|refine bzS ?_|refine bzA ?_)); rintro e w9 ⟨⟨u9, rfl, hu9⟩, hb9⟩; (replace hBw : Below w5.heap.size w5 w9 := bthen bZ hb9); have HU9 := hZ hu9; have hy9 := Below.refl w9.heap.size w9; obtain ⟨tn, ta, tl, tc, rfl⟩ := hu9.litR)
   | (go_at_call 114; refine (P3.out _ (bthen HB5.out ?_)).mono ?_; (repeat (first|exact bzR _ _|exact hBw|refine bzD ?_|refine bzN ?_|refine bzS ?_|refine bzA ?_)); rintro e w10 ⟨⟨u10, rfl, hu10⟩, hb10⟩; (replace hBw : Below w5.heap.size w5 w10 := bthen bZ hb10); (replace hy9 : Below w9.heap.size w9 w10 := bthen bZ hb10); have HU10 := hZ hu10; have hy10 := Below.refl w10.heap.size w10; obtain ⟨qn, qa, ql, qc, rfl⟩ := hu10.litR)
   | (go_at_call 46; refine (MK.out _ _ _ (HU9.out.keep ?_) (HU10.out.keep ?_)).mono ?_; (repeat (first|exact bzR _ _|exact hy9|refine bzD ?_|refine bzN ?_|refine bzS ?_|refine bzA ?_)); (repeat (first|exact bzR _ _|exact hy10|refine bzD ?_|refine bzN ?_|refine bzS ?_|refine bzA ?_)); rintro e w8 ⟨⟨v8, rfl, hv8⟩, hb8⟩; (replace hBw : Below w5.heap.size w5 w8 := bthen bZ hb8); have HV8 := hZ hv8; obtain ⟨s0, s1, s2, s3⟩ := HC5.out.2.1; obtain ⟨f0, f1, f2, f3⟩ := HC5.out.2.2; have r0f := bkeepf hBw s0 f0; have r1f := bkeepf hBw s1 f1; have r2f := bkeepf hBw s2 f2; have r3f := bkeepf hBw s3 f3; have r0 := bkeep hBw s0; have r1 := bkeep hBw s1; have r2 := bkeep hBw s2; have r3 := bkeep hBw s3; have zr := cell_lt r0; clear s0 s1 s2 s3 f0 f1 f2 f3; obtain ⟨m1, b1, k1, d1, m2, b2, k2, d2, rfl, -, -⟩ := hv8)
   | fail)
 all_goals
  have HQ := hZ (IsQR.put4 HV8.out r0 r1 r2 r3 (.bool m1) (.slice b1 k1 d1) (.bool m2) (.slice b2 k2 d2))
  have hBf := bthen HB5.out hBw
  clear HC5 HS HSF x0 x1 x2 x3 y0 y1 y2 y3
  go_wp2
  refine bodyPost_ret (v := .agg #[.bool m1, .slice b1 k1 d1, .bool m2, .slice b2 k2 d2]) (by simp [results, Tryz.results254, go_sem, *]) rfl ⟨⟨_, rfl, ?_⟩, ?_⟩
  · first | exact HQ.out | exact HQ.out.keep (Below.refl _ _).drew
  ·
   repeat exact bZ
theorem rqNeg_c (vx : Value) (x : Rat) (w : World) (hx : IsQR w vx x) :
 Calls Tryz.prog 152 #[vx] w fun e w' => (∃ v, e = .returned v ∧ IsQR w' v (-x)) ∧ Below w.heap.size w w' := by
 obtain ⟨n1, a1, l1, c1, n2, a2, l2, c2, rfl, h1, h2⟩ := hx
 have P1 := hZ (fun V (q : Below w.heap.size w V) => rneg_c (.agg #[.bool n1, .slice a1 l1 c1]) _ V (h1.keep q))
 have H2 := hZ h2
 clear h1 h2
 have hB := Below.refl w.heap.size w
 go_enter Tryz.func152, Tryz.ntmps152
 go_wp2
 refine wp_name fun w5 hW5 => ?_
 have HB5 := hZ (show Below w.heap.size w w5 by rw [hW5]; repeat (first|exact bzR _ _|exact hB|refine bzD ?_|refine bzN ?_|refine bzS ?_|refine bzA ?_))
 have HC5 := hZ (show (w5.cell? ⟨w.heap.size, 0, none⟩ = some (.bool n1) ∧ w5.cell? ⟨w.heap.size, 1, none⟩ = some (.slice a1 l1 c1) ∧ w5.cell? ⟨w.heap.size, 2, none⟩ = some (.bool n2) ∧ w5.cell? ⟨w.heap.size, 3, none⟩ = some (.slice a2 l2 c2)) ∧ (w5.cell? ⟨w.heap.size + 1, 0, none⟩ = some (.bool false) ∧ w5.cell? ⟨w.heap.size + 1, 1, none⟩ = some (.slice none 0 0) ∧ w5.cell? ⟨w.heap.size + 1, 2, none⟩ = some (.bool false) ∧ w5.cell? ⟨w.heap.size + 1, 3, none⟩ = some (.slice none 0 0)) ∧ (w5.frozen? ⟨w.heap.size + 1, 0, none⟩ = false ∧ w5.frozen? ⟨w.heap.size + 1, 1, none⟩ = false ∧ w5.frozen? ⟨w.heap.size + 1, 2, none⟩ = false ∧ w5.frozen? ⟨w.heap.size + 1, 3, none⟩ = false) from by rw [hW5]; simp [go_sem])
 clear hW5 hB
 have HS := hZ (show ∀ V, Below w5.heap.size w5 V → V.cell? ⟨w.heap.size, 0, none⟩ = some (.bool n1) ∧ V.cell? ⟨w.heap.size, 1, none⟩ = some (.slice a1 l1 c1) ∧ V.cell? ⟨w.heap.size, 2, none⟩ = some (.bool n2) ∧ V.cell? ⟨w.heap.size, 3, none⟩ = some (.slice a2 l2 c2) from fun V q => ⟨bkeep q HC5.out.1.1, bkeep q HC5.out.1.2.1, bkeep q HC5.out.1.2.2.1, bkeep q HC5.out.1.2.2.2⟩)
 have HSF := hZ (show ∀ V, Below w5.heap.size w5 V → ∀ u0 u1 u2 u3, (st4 V (w.heap.size + 1) u0 u1 u2 u3).cell? ⟨w.heap.size, 0, none⟩ = some (.bool n1) ∧ (st4 V (w.heap.size + 1) u0 u1 u2 u3).cell? ⟨w.heap.size, 1, none⟩ = some (.slice a1 l1 c1) ∧ (st4 V (w.heap.size + 1) u0 u1 u2 u3).cell? ⟨w.heap.size, 2, none⟩ = some (.bool n2) ∧ (st4 V (w.heap.size + 1) u0 u1 u2 u3).cell? ⟨w.heap.size, 3, none⟩ = some (.slice a2 l2 c2) from fun V q u0 u1 u2 u3 => by
  obtain ⟨x0, x1, x2, x3⟩ := HS.out V q
  exact ⟨far4 x0 (by omega) _ _ _ _, far4 x1 (by omega) _ _ _ _, far4 x2 (by omega) _ _ _ _, far4 x3 (by omega) _ _ _ _⟩)
 have hBw := Below.refl w5.heap.size w5
 obtain ⟨x0, x1, x2, x3⟩ := HC5.out.1
 have zx := cell_lt x0
 go_region_held3 (fun V => V.cell? ⟨w.heap.size, 0, none⟩ = some (.bool n1) ∧ V.cell? ⟨w.heap.size, 1, none⟩ = some (.slice a1 l1 c1) ∧ V.cell? ⟨w.heap.size, 2, none⟩ = some (.bool n2) ∧ V.cell? ⟨w.heap.size, 3, none⟩ = some (.slice a2 l2 c2))
  (first | (with_reducible refine HSF.out _ ?_ _ _ _ _; (repeat (first|exact bzR _ _|exact hBw|refine bzD ?_|refine bzN ?_|refine bzS ?_|refine bzA ?_)); done) | (refine HS.out _ ?_; (repeat (first|exact bzR _ _|exact hBw|refine bzD ?_|refine bzN ?_|refine bzS ?_|refine bzA ?_)); done) | fail)
  (first
   | (go_at_call 132; refine (P1.out _ (bthen HB5.out ?_)).mono ?_; (repeat (first|exact bzR _ _|exact hBw|refine bzD ?_|refine bzN ?_|refine bzS ?_|refine bzA ?_)); rintro e w6 ⟨⟨u6, rfl, hu6⟩, hb6⟩; (replace hBw : Below w5.heap.size w5 w6 := bthen bZ hb6); have HU6 := hZ hu6; obtain ⟨s0, s1, s2, s3⟩ := HC5.out.2.1; obtain ⟨f0, f1, f2, f3⟩ := HC5.out.2.2; have r0f := bkeepf hBw s0 f0; have r1f := bkeepf hBw s1 f1; have r2f := bkeepf hBw s2 f2; have r3f := bkeepf hBw s3 f3; have r0 := bkeep hBw s0; have r1 := bkeep hBw s1; have r2 := bkeep hBw s2; have r3 := bkeep hBw s3; have zr := cell_lt r0; clear s0 s1 s2 s3 f0 f1 f2 f3; obtain ⟨m1, b1, k1, d1, rfl⟩ := hu6.litR)
   | fail)
 all_goals
  have HQ := hZ (IsQR.put4 (v := .agg #[.bool m1, .slice b1 k1 d1, .bool n2, .slice a2 l2 c2]) (q := -x) ⟨m1, b1, k1, d1, n2, a2, l2, c2, rfl, by rw [Rat.neg_num]; exact HU6.out, by rw [Rat.neg_den]; exact H2.out.keep (bthen HB5.out hBw)⟩ r0 r1 r2 r3 (.bool m1) (.slice b1 k1 d1) (.bool n2) (.slice a2 l2 c2))
  have hBf := bthen HB5.out hBw
  clear HC5 HS HSF x0 x1 x2 x3
  go_wp2
  refine bodyPost_ret (v := .agg #[.bool m1, .slice b1 k1 d1, .bool n2, .slice a2 l2 c2]) (by simp [results, Tryz.results152, go_sem, *]) rfl ⟨⟨_, rfl, ?_⟩, ?_⟩
  · first | exact HQ.out | exact HQ.out.keep (Below.refl _ _).drew
  ·
   repeat exact bZ
theorem rqSub_c (vx vy : Value) (x y : Rat) (k m : Nat) (w : World) (hx : IsQR w vx x) (hy : IsQR w vy y) (bx : BdQ k x) (by' : BdQ m y) (hk9 : k + m + 1 ≤ 17179869180) :
 Calls Tryz.prog 222 #[vx, vy] w fun e w' => (∃ v, e = .returned v ∧ IsQR w' v (x - y)) ∧ Below w.heap.size w w' := by
 have NG := hZ (fun V (q : Below w.heap.size w V) => rqNeg_c vy y V (hy.keep q))
 have AD := hZ (fun v V (q : Below w.heap.size w V) (hv : IsQR V v (-y)) => rqAdd_c vx v x (-y) k m V (hx.keep q) hv bx by'.neg hk9)
 rw [← Rat.sub_eq_add_neg] at AD
 obtain ⟨n1, a1, l1, c1, n2, a2, l2, c2, rfl, -, -⟩ := hx
 obtain ⟨n3, a3, l3, c3, n4, a4, l4, c4, rfl, -, -⟩ := hy
 clear bx by' hk9
 have hB := Below.refl w.heap.size w
 go_enter Tryz.func222, Tryz.ntmps222
 go_wp2
 refine wp_name fun w5 hW5 => ?_
 have HB5 := hZ (show Below w.heap.size w w5 by rw [hW5]; repeat (first|exact bzR _ _|exact hB|refine bzD ?_|refine bzN ?_|refine bzS ?_|refine bzA ?_))
 have HC5 := hZ (show (w5.cell? ⟨w.heap.size, 0, none⟩ = some (.bool n1) ∧ w5.cell? ⟨w.heap.size, 1, none⟩ = some (.slice a1 l1 c1) ∧ w5.cell? ⟨w.heap.size, 2, none⟩ = some (.bool n2) ∧ w5.cell? ⟨w.heap.size, 3, none⟩ = some (.slice a2 l2 c2) ∧ w5.cell? ⟨w.heap.size + 1, 0, none⟩ = some (.bool n3) ∧ w5.cell? ⟨w.heap.size + 1, 1, none⟩ = some (.slice a3 l3 c3) ∧ w5.cell? ⟨w.heap.size + 1, 2, none⟩ = some (.bool n4) ∧ w5.cell? ⟨w.heap.size + 1, 3, none⟩ = some (.slice a4 l4 c4)) ∧ (w5.cell? ⟨w.heap.size + 1 + 1, 0, none⟩ = some (.bool false) ∧ w5.cell? ⟨w.heap.size + 1 + 1, 1, none⟩ = some (.slice none 0 0) ∧ w5.cell? ⟨w.heap.size + 1 + 1, 2, none⟩ = some (.bool false) ∧ w5.cell? ⟨w.heap.size + 1 + 1, 3, none⟩ = some (.slice none 0 0)) ∧ (w5.frozen? ⟨w.heap.size + 1 + 1, 0, none⟩ = false ∧ w5.frozen? ⟨w.heap.size + 1 + 1, 1, none⟩ = false ∧ w5.frozen? ⟨w.heap.size + 1 + 1, 2, none⟩ = false ∧ w5.frozen? ⟨w.heap.size + 1 + 1, 3, none⟩ = false) from by rw [hW5]; simp [go_sem])
 clear hW5 hB
 have HS := hZ (show ∀ V, Below w5.heap.size w5 V → V.cell? ⟨w.heap.size, 0, none⟩ = some (.bool n1) ∧ V.cell? ⟨w.heap.size, 1, none⟩ = some (.slice a1 l1 c1) ∧ V.cell? ⟨w.heap.size, 2, none⟩ = some (.bool n2) ∧ V.cell? ⟨w.heap.size, 3, none⟩ = some (.slice a2 l2 c2) ∧ V.cell? ⟨w.heap.size + 1, 0, none⟩ = some (.bool n3) ∧ V.cell? ⟨w.heap.size + 1, 1, none⟩ = some (.slice a3 l3 c3) ∧ V.cell? ⟨w.heap.size + 1, 2, none⟩ = some (.bool n4) ∧ V.cell? ⟨w.heap.size + 1, 3, none⟩ = some (.slice a4 l4 c4) from fun V q => ⟨bkeep q HC5.out.1.1, bkeep q HC5.out.1.2.1, bkeep q HC5.out.1.2.2.1, bkeep q HC5.out.1.2.2.2.1, bkeep q HC5.out.1.2.2.2.2.1, bkeep q HC5.out.1.2.2.2.2.2.1, bkeep q HC5.out.1.2.2.2.2.2.2.1, bkeep q HC5.out.1.2.2.2.2.2.2.2⟩)
 have HSF := hZ (show ∀ V, Below w5.heap.size w5 V → ∀ u0 u1 u2 u3, (st4 V (w.heap.size + 1 + 1) u0 u1 u2 u3).cell? ⟨w.heap.size, 0, none⟩ = some (.bool n1) ∧ (st4 V (w.heap.size + 1 + 1) u0 u1 u2 u3).cell? ⟨w.heap.size, 1, none⟩ = some (.slice a1 l1 c1) ∧ (st4 V (w.heap.size + 1 + 1) u0 u1 u2 u3).cell? ⟨w.heap.size, 2, none⟩ = some (.bool n2) ∧ (st4 V (w.heap.size + 1 + 1) u0 u1 u2 u3).cell? ⟨w.heap.size, 3, none⟩ = some (.slice a2 l2 c2) ∧ (st4 V (w.heap.size + 1 + 1) u0 u1 u2 u3).cell? ⟨w.heap.size + 1, 0, none⟩ = some (.bool n3) ∧ (st4 V (w.heap.size + 1 + 1) u0 u1 u2 u3).cell? ⟨w.heap.size + 1, 1, none⟩ = some (.slice a3 l3 c3) ∧ (st4 V (w.heap.size + 1 + 1) u0 u1 u2 u3).cell? ⟨w.heap.size + 1, 2, none⟩ = some (.bool n4) ∧ (st4 V (w.heap.size + 1 + 1) u0 u1 u2 u3).cell? ⟨w.heap.size + 1, 3, none⟩ = some (.slice a4 l4 c4) from fun V q u0 u1 u2 u3 => by
  obtain ⟨x0, x1, x2, x3, y0, y1, y2, y3⟩ := HS.out V q
  exact ⟨far4 x0 (by omega) _ _ _ _, far4 x1 (by omega) _ _ _ _, far4 x2 (by omega) _ _ _ _, far4 x3 (by omega) _ _ _ _, far4 y0 (by omega) _ _ _ _, far4 y1 (by omega) _ _ _ _, far4 y2 (by omega) _ _ _ _, far4 y3 (by omega) _ _ _ _⟩)
 have hBw := Below.refl w5.heap.size w5
 obtain ⟨x0, x1, x2, x3, y0, y1, y2, y3⟩ := HC5.out.1
 have zx := cell_lt x0
 have zy := cell_lt y0
 go_region_held3 (fun V => V.cell? ⟨w.heap.size, 0, none⟩ = some (.bool n1) ∧ V.cell? ⟨w.heap.size, 1, none⟩ = some (.slice a1 l1 c1) ∧ V.cell? ⟨w.heap.size, 2, none⟩ = some (.bool n2) ∧ V.cell? ⟨w.heap.size, 3, none⟩ = some (.slice a2 l2 c2) ∧ V.cell? ⟨w.heap.size + 1, 0, none⟩ = some (.bool n3) ∧ V.cell? ⟨w.heap.size + 1, 1, none⟩ = some (.slice a3 l3 c3) ∧ V.cell? ⟨w.heap.size + 1, 2, none⟩ = some (.bool n4) ∧ V.cell? ⟨w.heap.size + 1, 3, none⟩ = some (.slice a4 l4 c4))
  (first | (with_reducible refine HSF.out _ ?_ _ _ _ _; (repeat (first|exact bzR _ _|exact hBw|refine bzD ?_|refine bzN ?_|refine bzS ?_|refine bzA ?_)); done) | (refine HS.out _ ?_; (repeat (first|exact bzR _ _|exact hBw|refine bzD ?_|refine bzN ?_|refine bzS ?_|refine bzA ?_)); done) | fail)
  (first
   | (go_at_call 152; refine (NG.out _ (bthen HB5.out ?_)).mono ?_; (repeat (first|exact bzR _ _|exact hBw|refine bzD ?_|refine bzN ?_|refine bzS ?_|refine bzA ?_)); rintro e w6 ⟨⟨u6, rfl, hu6⟩, hb6⟩; (replace hBw : Below w5.heap.size w5 w6 := bthen bZ hb6); have HU6 := hZ hu6; have hy6 := Below.refl w6.heap.size w6; obtain ⟨pn, pa, pl, pc, tn, ta, tl, tc, rfl, -, -⟩ := hu6)
   | (go_at_call 254; refine (AD.out _ _ (bthen HB5.out ?_) (HU6.out.keep ?_)).mono ?_; (repeat (first|exact bzR _ _|exact hBw|refine bzD ?_|refine bzN ?_|refine bzS ?_|refine bzA ?_)); (repeat (first|exact bzR _ _|exact hy6|refine bzD ?_|refine bzN ?_|refine bzS ?_|refine bzA ?_)); rintro e w8 ⟨⟨v8, rfl, hv8⟩, hb8⟩; (replace hBw : Below w5.heap.size w5 w8 := bthen bZ hb8); have HV8 := hZ hv8; obtain ⟨s0, s1, s2, s3⟩ := HC5.out.2.1; obtain ⟨f0, f1, f2, f3⟩ := HC5.out.2.2; have r0f := bkeepf hBw s0 f0; have r1f := bkeepf hBw s1 f1; have r2f := bkeepf hBw s2 f2; have r3f := bkeepf hBw s3 f3; have r0 := bkeep hBw s0; have r1 := bkeep hBw s1; have r2 := bkeep hBw s2; have r3 := bkeep hBw s3; have zr := cell_lt r0; clear s0 s1 s2 s3 f0 f1 f2 f3; obtain ⟨m1, b1, k1, d1, m2, b2, k2, d2, rfl, -, -⟩ := hv8)
   | fail)
 all_goals
  have HQ := hZ (IsQR.put4 HV8.out r0 r1 r2 r3 (.bool m1) (.slice b1 k1 d1) (.bool m2) (.slice b2 k2 d2))
  have hBf := bthen HB5.out hBw
  clear HC5 HS HSF x0 x1 x2 x3 y0 y1 y2 y3
  go_wp2
  refine bodyPost_ret (v := .agg #[.bool m1, .slice b1 k1 d1, .bool m2, .slice b2 k2 d2]) (by simp [results, Tryz.results222, go_sem, *]) rfl ⟨⟨_, rfl, ?_⟩, ?_⟩
  · first | exact HQ.out | exact HQ.out.keep (Below.refl _ _).drew
  ·
   repeat exact bZ
end
section
open Num
attribute [local go_sem ↓] Go.wp_at_zero Go.wp_at_succ
theorem rqWhole_c (vn : Value) (n : Int) (w : World) (hn : IsRef w vn n) :
 Calls Tryz.prog 118 #[vn] w fun e w' => (∃ v, e = .returned v ∧ IsQR w' v (n : Rat)) ∧ Below w.heap.size w w' := by
 have HN := hZ hn
 obtain ⟨nn, na, nl, nc, rfl⟩ := hn.litR
 have OC := hZ (fun V => rof_c 1 V (by decide) (by decide))
 clear hn
 have hB := Below.refl w.heap.size w
 go_enter Tryz.func118, Tryz.ntmps118
 go_wp2
 refine wp_name fun w5 hW5 => ?_
 have HB5 := hZ (show Below w.heap.size w w5 by rw [hW5]; repeat (first|exact bzR _ _|exact hB|refine bzD ?_|refine bzN ?_|refine bzS ?_|refine bzA ?_))
 have HC5 := hZ (show (w5.cell? ⟨w.heap.size, 0, none⟩ = some (.bool nn) ∧ w5.cell? ⟨w.heap.size, 1, none⟩ = some (.slice na nl nc)) ∧ (w5.cell? ⟨w.heap.size + 1, 0, none⟩ = some (.bool false) ∧ w5.cell? ⟨w.heap.size + 1, 1, none⟩ = some (.slice none 0 0) ∧ w5.cell? ⟨w.heap.size + 1, 2, none⟩ = some (.bool false) ∧ w5.cell? ⟨w.heap.size + 1, 3, none⟩ = some (.slice none 0 0)) ∧ (w5.frozen? ⟨w.heap.size + 1, 0, none⟩ = false ∧ w5.frozen? ⟨w.heap.size + 1, 1, none⟩ = false ∧ w5.frozen? ⟨w.heap.size + 1, 2, none⟩ = false ∧ w5.frozen? ⟨w.heap.size + 1, 3, none⟩ = false) from by rw [hW5]; simp [go_sem])
 clear hW5 hB
 have HS := hZ (show ∀ V, Below w5.heap.size w5 V → V.cell? ⟨w.heap.size, 0, none⟩ = some (.bool nn) ∧ V.cell? ⟨w.heap.size, 1, none⟩ = some (.slice na nl nc) from fun V q => ⟨bkeep q HC5.out.1.1, bkeep q HC5.out.1.2⟩)
 have HSF := hZ (show ∀ V, Below w5.heap.size w5 V → ∀ u0 u1 u2 u3, (st4 V (w.heap.size + 1) u0 u1 u2 u3).cell? ⟨w.heap.size, 0, none⟩ = some (.bool nn) ∧ (st4 V (w.heap.size + 1) u0 u1 u2 u3).cell? ⟨w.heap.size, 1, none⟩ = some (.slice na nl nc) from fun V q u0 u1 u2 u3 => by
  obtain ⟨x0, x1⟩ := HS.out V q
  exact ⟨far4 x0 (by omega) _ _ _ _, far4 x1 (by omega) _ _ _ _⟩)
 have hBw := Below.refl w5.heap.size w5
 obtain ⟨x0, x1⟩ := HC5.out.1
 have zx := cell_lt x0
 go_region_held3 (fun V => V.cell? ⟨w.heap.size, 0, none⟩ = some (.bool nn) ∧ V.cell? ⟨w.heap.size, 1, none⟩ = some (.slice na nl nc))
  (first | (with_reducible refine HSF.out _ ?_ _ _ _ _; (repeat (first|exact bzR _ _|exact hBw|refine bzD ?_|refine bzN ?_|refine bzS ?_|refine bzA ?_)); done) | (refine HS.out _ ?_; (repeat (first|exact bzR _ _|exact hBw|refine bzD ?_|refine bzN ?_|refine bzS ?_|refine bzA ?_)); done) | fail)
  (first
   | (go_at_call 31; refine (OC.out _).mono ?_; rintro e w6 ⟨⟨u6, rfl, hu6⟩, hb6⟩; (replace hBw : Below w5.heap.size w5 w6 := bthen bZ hb6); have HU6 := hZ hu6; obtain ⟨s0, s1, s2, s3⟩ := HC5.out.2.1; obtain ⟨f0, f1, f2, f3⟩ := HC5.out.2.2; have r0f := bkeepf hBw s0 f0; have r1f := bkeepf hBw s1 f1; have r2f := bkeepf hBw s2 f2; have r3f := bkeepf hBw s3 f3; have r0 := bkeep hBw s0; have r1 := bkeep hBw s1; have r2 := bkeep hBw s2; have r3 := bkeep hBw s3; have zr := cell_lt r0; clear s0 s1 s2 s3 f0 f1 f2 f3; obtain ⟨m1, b1, k1, d1, rfl⟩ := hu6.litR)
   | fail)
 all_goals
  have HQ := hZ (IsQR.put4 (v := .agg #[.bool nn, .slice na nl nc, .bool m1, .slice b1 k1 d1]) (q := (n : Rat)) ⟨nn, na, nl, nc, m1, b1, k1, d1, rfl, by rw [(whole_num n).1]; exact HN.out.keep (bthen HB5.out hBw), by rw [(whole_num n).2]; exact HU6.out⟩ r0 r1 r2 r3 (.bool nn) (.slice na nl nc) (.bool m1) (.slice b1 k1 d1))
  have hBf := bthen HB5.out hBw
  clear HC5 HS HSF x0 x1
  go_wp2
  refine bodyPost_ret (v := .agg #[.bool nn, .slice na nl nc, .bool m1, .slice b1 k1 d1]) (by simp [results, Tryz.results118, go_sem, *]) rfl ⟨⟨_, rfl, ?_⟩, ?_⟩
  · first | exact HQ.out | exact HQ.out.keep (Below.refl _ _).drew
  ·
   repeat exact bZ
theorem rqZero_c (w : World) : Calls Tryz.prog 194 #[] w fun e w' => (∃ v, e = .returned v ∧ IsQR w' v 0) ∧ Below w.heap.size w w' := by
 have OC := hZ (fun V => rof_c 0 V (by decide) (by decide))
 have hB := Below.refl w.heap.size w
 go_enter Tryz.func194, Tryz.ntmps194
 go_wp2_with fail
 (with_reducible refine (OC.out _).mono ?_)
 rintro e w1 ⟨⟨u, rfl, hu⟩, hb1⟩
 have r0 : w1.cell? ⟨w.heap.size, 0, none⟩ = some (.bool false) := bkc hb1
 have zr0 := cell_lt r0
 have r0f : w1.frozen? ⟨w.heap.size, 0, none⟩ = false := bkcf (v := .bool false) hb1
 have r1 : w1.cell? ⟨w.heap.size, 1, none⟩ = some (.slice none 0 0) := bkc hb1
 have r1f : w1.frozen? ⟨w.heap.size, 1, none⟩ = false := bkcf (v := .slice none 0 0) hb1
 have r2 : w1.cell? ⟨w.heap.size, 2, none⟩ = some (.bool false) := bkc hb1
 have r2f : w1.frozen? ⟨w.heap.size, 2, none⟩ = false := bkcf (v := .bool false) hb1
 have r3 : w1.cell? ⟨w.heap.size, 3, none⟩ = some (.slice none 0 0) := bkc hb1
 have r3f : w1.frozen? ⟨w.heap.size, 3, none⟩ = false := bkcf (v := .slice none 0 0) hb1
 have hB : Below w.heap.size w w1 := bthen bZ hb1
 have hz := hB.size
 have WC := hZ (fun V (q : Below w1.heap.size w1 V) => rqWhole_c u 0 V (hu.keep q))
 have hBw := Below.refl w1.heap.size w1
 obtain ⟨nn, na, nl, nc, rfl⟩ := hu.litR
 clear OC hu hb1
 go_wp2_with fail
 (with_reducible refine (WC.out _ ?_).mono ?_); (repeat (first|exact bzR _ _|exact hBw|refine bzD ?_|refine bzN ?_|refine bzS ?_|refine bzA ?_))
 rintro e w2 ⟨⟨v, rfl, hv⟩, hb2⟩
 have r0 : w2.cell? ⟨w.heap.size, 0, none⟩ = some (.bool false) := bkc hb2
 have zr0 := cell_lt r0
 have r0f : w2.frozen? ⟨w.heap.size, 0, none⟩ = false := bkcf (v := .bool false) hb2
 have r1 : w2.cell? ⟨w.heap.size, 1, none⟩ = some (.slice none 0 0) := bkc hb2
 have r1f : w2.frozen? ⟨w.heap.size, 1, none⟩ = false := bkcf (v := .slice none 0 0) hb2
 have r2 : w2.cell? ⟨w.heap.size, 2, none⟩ = some (.bool false) := bkc hb2
 have r2f : w2.frozen? ⟨w.heap.size, 2, none⟩ = false := bkcf (v := .bool false) hb2
 have r3 : w2.cell? ⟨w.heap.size, 3, none⟩ = some (.slice none 0 0) := bkc hb2
 have r3f : w2.frozen? ⟨w.heap.size, 3, none⟩ = false := bkcf (v := .slice none 0 0) hb2
 have hB : Below w.heap.size w w2 := bthen bZ hb2
 have hz := hB.size
 have HV := hZ hv
 obtain ⟨m1, b1, k1, d1, m2, b2, k2, d2, rfl, -, -⟩ := hv
 have HQ := hZ (IsQR.put4 HV.out r0 r1 r2 r3 (.bool m1) (.slice b1 k1 d1) (.bool m2) (.slice b2 k2 d2))
 have zr := cell_lt r0
 clear WC hb2 hBw HV
 go_wp2
 refine bodyPost_ret (v := .agg #[.bool m1, .slice b1 k1 d1, .bool m2, .slice b2 k2 d2]) (by simp [results, Tryz.results194, go_sem, *]) rfl ⟨⟨_, rfl, HQ.out⟩, ?_⟩
 repeat exact bZ
end
section
open Num
attribute [local go_sem ↓] Go.wp_at_zero Go.wp_at_succ
structure VarMx (b : Nat) (w : World) (v : Value) : Prop where
 ty : typOf w b = some 47
 c : w.cell? ⟨b, 0, none⟩ = some v
 f : w.frozen? ⟨b, 0, none⟩ = false
theorem VarMx.keep {b : Nat} {w w' : World} {v : Value} (h : VarMx b w v) (k : Below w.heap.size w w') : VarMx b w' v := ⟨typ_keep h.ty k, bkeep k h.c, bkeepf k h.c h.f⟩
theorem VarMx.kp {b : Nat} {S : TypeId → Prop} {w w' : World} {v : Value} (h : VarMx b w v) (k : Kp S w w') (hs : S 47) : VarMx b w' v := ⟨k.typ h.ty hs, k.cell h.ty hs h.c, k.frz h.ty hs h.f⟩
theorem VarMx.set {b : Nat} {w : World} {v : Value} (h : VarMx b w v) (u : Value) : VarMx b (w.setCell ⟨b, 0, none⟩ u) u := ⟨by rw [typ_set]; exact h.ty, cell_here h.c u, by rw [World.frozen?_setCell]; exact h.f⟩
theorem VarMx.far {b : Nat} {w : World} {v : Value} (h : VarMx b w v) {p : Addr} (hp : p.block ≠ b) (u : Value) : VarMx b (w.setCell p u) v := ⟨by rw [typ_set]; exact h.ty, cell_far h.c (fun e => hp (by rw [e])) u, by rw [World.frozen?_setCell]; exact h.f⟩
def fitsE (g : Grid) : Int := if g.length = 0 ∨ cols g = 0 then 2 else if 16 < g.length ∨ 16 < cols g then 3 else if ∀ i, i < g.length → (g.getD i []).length = cols g then 0 else 5
def NewMPost (g : Grid) (w : World) (e : Ending) (w' : World) : Prop :=
 ((fitsE g = 0 ∧ ∃ v, e = .returned (.tuple #[v, .int .i64 0]) ∧ IsM w.heap.size w' v g) ∨ (fitsE g ≠ 0 ∧ e = .returned (.tuple #[.agg #[.slice none 0 0], .int .i64 (fitsE g)]))) ∧ Below w.heap.size w w'
theorem newM_no {g : Grid} {w w' : World} {k : Int} (h : fitsE g = k) (hk : k ≠ 0) (hb : Below w.heap.size w w') : NewMPost g w (.returned (.tuple #[.agg #[.slice none 0 0], .int .i64 k])) w' := by
 subst h; exact ⟨.inr ⟨hk, rfl⟩, hb⟩
theorem newM_yes {g : Grid} {w w' : World} {v : Value} (h : fitsE g = 0) (hv : IsM w.heap.size w' v g) (hb : Below w.heap.size w w') : NewMPost g w (.returned (.tuple #[v, .int .i64 0])) w' := ⟨.inl ⟨h, _, rfl, hv⟩, hb⟩
theorem newM_c (v : Value) (g : Grid) (w : World) (hv : IsL 68 (PRow 0) 0 w v g) (hl : ∀ i, i < g.length → (g.getD i []).length ≤ 1099511627775) :
 Calls Tryz.prog 43 #[v] w (NewMPost g w) := by
 have HV := hZ hv
 obtain ⟨ga, gc, rfl, -⟩ := hv
 have hB := Below.refl w.heap.size w
 by_cases h0 : g.length = 0
 · have HEE : Hid (fitsE g = 2) := hZ (by unfold fitsE; rw [if_pos (.inl h0)])
   rw [h0] at *
   have hnI : ((0 : Int) == 0) = true := rfl
   clear HV hl
   go_enter Tryz.func43, Tryz.ntmps43
   go_wp2
   refine bodyPost_ret (v := .tuple #[.agg #[.slice none 0 0], .int .i64 2]) (by simp [results, Tryz.results43, go_sem, *]) rfl (newM_no HEE.out (by decide) ?_)
   repeat exact bZ
 · obtain ⟨c', gb, go, ra, rc, e, hu, hp⟩ := HV.out.row (show 0 < g.length by omega)
   obtain ⟨rfl, -, rfl⟩ := Value.slice.inj e
   rw [Nat.add_zero] at hu
   have zu := cell_lt hu
   have zu1 : gb < w.heap.size + 1 := by omega
   have hnI : ((g.length : Int) == 0) = false := beq_eq_false_iff_ne.2 (by omega)
   have hn0 : (0 : Int) < (g.length : Int) := by omega
   have hcol : (g.getD 0 []).length = cols g := rfl
   rw [hcol] at hu
   clear hcol e hp
   obtain ⟨m, hm⟩ : ∃ m, cols g = m := ⟨_, rfl⟩
   rw [hm] at hu
   have HM := hZ hm
   clear hm
   by_cases h1 : m = 0
   · subst h1
     have HEE : Hid (fitsE g = 2) := hZ (by unfold fitsE; rw [if_pos (.inr HM.out)])
     clear HV hl HM
     go_enter Tryz.func43, Tryz.ntmps43
     go_wp2
     refine bodyPost_ret (v := .tuple #[.agg #[.slice none 0 0], .int .i64 2]) (by simp [results, Tryz.results43, go_sem, *]) rfl (newM_no HEE.out (by decide) ?_)
     repeat exact bZ
   · have hmI : ((m : Int) == 0) = false := by simp; omega
     have hne : ¬ (g.length = 0 ∨ cols g = 0) := by rw [HM.out]; omega
     by_cases h2 : 16 < g.length
     · have HEE : Hid (fitsE g = 3) := hZ (by unfold fitsE; rw [if_neg hne, if_pos (.inl h2)])
       have hb1 : (16 : Int) < (g.length : Int) := by omega
       clear HV hl HM hne
       go_enter Tryz.func43, Tryz.ntmps43
       go_wp2
       refine bodyPost_ret (v := .tuple #[.agg #[.slice none 0 0], .int .i64 3]) (by simp [results, Tryz.results43, go_sem, *]) rfl (newM_no HEE.out (by decide) ?_)
       repeat exact bZ
     · have hb1 : ¬ (16 : Int) < (g.length : Int) := by omega
       by_cases h3 : 16 < m
       · have HEE : Hid (fitsE g = 3) := hZ (by unfold fitsE; rw [if_neg hne, if_pos (.inr (by rw [HM.out]; exact h3))])
         have hb2 : (16 : Int) < (m : Int) := by omega
         clear HV hl HM hne
         go_enter Tryz.func43, Tryz.ntmps43
         go_wp2
         refine bodyPost_ret (v := .tuple #[.agg #[.slice none 0 0], .int .i64 3]) (by simp [results, Tryz.results43, go_sem, *]) rfl (newM_no HEE.out (by decide) ?_)
         repeat exact bZ
       · have hb2 : ¬ (16 : Int) < (m : Int) := by omega
         have HE := hZ (show fitsE g = if ∀ i, i < g.length → (g.getD i []).length = m then 0 else 5 from by
          unfold fitsE; rw [if_neg hne, if_neg (by rw [HM.out]; omega), HM.out])
         clear hne hl
         go_enter Tryz.func43, Tryz.ntmps43
         go_wp2
         refine wp_name fun w0 hW0 => ?_
         have hB0 : Below w.heap.size w w0 := by rw [hW0]; repeat (first|exact bzR _ _|exact hB|refine bzD ?_|refine bzN ?_|refine bzS ?_|refine bzA ?_)
         have HR0 := hZ (show VarMx w.heap.size w0 (.slice none 0 0) ∧ VarMx (w.heap.size + 1) w0 (.slice none 0 0) from by
          rw [hW0]
          exact ⟨⟨typ_alloc (typ_fresh rfl), by simp [go_sem], by simp [go_sem]⟩, ⟨typ_fresh (by simp), by simp [go_sem], by simp [go_sem]⟩⟩)
         clear hW0
         go_loopw [31] (fun x wr => ∃ k : Nat, k ≤ g.length ∧ x = .int .i64 k ∧ Below w.heap.size w wr ∧ Hid (VarMx w.heap.size wr (.slice none 0 0) ∧ (∃ rv, VarMx (w.heap.size + 1) wr rv ∧ OwnL 68 (PRow w.heap.size) w wr rv (g.take k))) ∧ Hid (∀ j, j < k → (g.getD j []).length = m)) (fun x _ => g.length - (intOf x).toNat)
         case atStart => exact ⟨0, Nat.zero_le _, rfl, hB0, hZ ⟨HR0.out.1, _, HR0.out.2, OwnL.nil _ _ hB0⟩, hZ (fun j hj => by omega)⟩
         case round =>
          obtain ⟨k, hk, rfl, hBr, hrel, hall⟩ := hrel
          obtain ⟨hR, rv, hM, hO⟩ := hrel.out
          have r0 := hR.c
          have r0f := hR.f
          have zr := cell_lt r0
          by_cases hlt : k < g.length
          · have hltI : (k : Int) < (g.length : Int) := by omega
            obtain ⟨c2, gb2, go2, ra2, rc2, e2, hu2, hp2⟩ := (HV.out.keep (prs_prow 0) hBr).row hlt
            obtain ⟨⟨rfl, rfl⟩, -, rfl⟩ : (gb = gb2 ∧ go = go2) ∧ True ∧ gc = c2 := by
             have := Value.slice.inj e2
             simp at this
             exact ⟨this.1, trivial, this.2⟩
            have hu0 := bkeep hBr hu
            have zu2 := cell_lt hu0
            have zu3 := cell_lt hu2
            obtain ⟨lk, hlk⟩ : ∃ n, (g.getD k []).length = n := ⟨_, rfl⟩
            have HP2 := hZ hp2
            rw [hlk] at hu2 HP2
            have HLK := hZ hlk
            clear e2 hp2 hlk
            by_cases e1 : lk = m
            · subst e1
              have hq1 : ((lk : Int) != (lk : Int)) = false := by simp
              have HAL := hZ (show ∀ j, j < k + 1 → (g.getD j []).length = lk from fun j hj => by
               by_cases e : j = k
               · subst e; exact HLK.out
               · exact hall.out j (by omega))
              have kcl := fun W (h : Below wr.heap.size wr W) => cloneRow_c 0 (.slice ra2 lk rc2) (g.getD k []) W (HP2.out.keep lims_int h) (by rw [HLK.out]; omega)
              have HTK := hZ (take_getD [] hlt)
              obtain ⟨row, hrow⟩ : ∃ row, g.getD k [] = row := ⟨_, rfl⟩
              rw [hrow] at HTK kcl
              clear hrow
              have hlen : (g.take k).length = k := by rw [List.length_take]; omega
              obtain ⟨oa, oc, hrv⟩ := hO.ex
              rw [hlen] at hrv
              subst hrv
              have HMM := hZ hM
              have HRR := hZ hR
              have HOO := hZ hO
              have m0 := hM.c
              have m0f := hM.f
              have zm := cell_lt m0
              have HLEN := hZ hlen
              clear hM hO hR hlen hrel hall
              go_upto_region 11 with (fail)
              have hBw := Below.refl wr.heap.size wr
              go_region_law (first
               | (refine stepL elRow (prs_prow _) (by decide) (by rfl) (by rfl) (HO5.out.below (prs_prow _) (bal (Below.refl _ _) _)) ((prs_prow _).kp HR5.out (Kp.of_below _ (bal (Below.refl _ _) _))) (by rfl) (by rfl) (cell_new rfl rfl) (by rw [HLEN.out]; omega) (by rw [HLEN.out]; unfold maxLen; omega) ?_; intro v' w8 hO8 hk8; have HO8 := hZ hO8; have HM8 := hZ ((HM5.out.keep (bal (Below.refl _ _) _)).kp hk8 (by decide)); have HR8 := hZ ((HRR5.out.keep (bal (Below.refl _ _) _)).kp hk8 (by decide)); have d4 := HM8.out.c; have df4 := HM8.out.f; have zd4 := cell_lt d4; obtain ⟨a8, c8, hv8⟩ := hO8.ex; rw [List.length_append, HLEN.out] at hv8; subst hv8; clear hO8 hk8)
               | (go_simp; go_wp2_with (go_at_call 129; refine (kcl _ ?_).mono ?_; (repeat (first|exact bzR _ _|exact hBw|refine bzD ?_|refine bzN ?_|refine bzS ?_|refine bzA ?_)); rintro e w5 ⟨⟨v5, rfl, hr5⟩, hb5⟩; have hB5 : Below wr.heap.size wr w5 := bthen bZ hb5; have hs5 := hB5.size; have HR5 := hZ (show PRow w.heap.size w5 v5 row from hr5.row.rebase (show w.heap.size ≤ _ from hBr.size)); have HM5 := hZ (HMM.out.keep hB5); have HRR5 := hZ (HRR.out.keep hB5); have HO5 := hZ (HOO.out.below (prs_prow _) hB5); have b4 := HM5.out.c; have b4f := HM5.out.f; have zb4 := cell_lt b4; obtain ⟨a5, c5, rfl⟩ := hr5.ex)))
              all_goals
               have HEND := hZ (show VarMx w.heap.size (w8.setCell ⟨w.heap.size + 1, 0, none⟩ (.slice a8 (k + 1) c8)) (.slice none 0 0) ∧ ∃ rv, VarMx (w.heap.size + 1) (w8.setCell ⟨w.heap.size + 1, 0, none⟩ (.slice a8 (k + 1) c8)) rv ∧ OwnL 68 (PRow w.heap.size) w (w8.setCell ⟨w.heap.size + 1, 0, none⟩ (.slice a8 (k + 1) c8)) rv (g.take (k + 1)) from
                ⟨HR8.out.far (by show w.heap.size + 1 ≠ w.heap.size; omega) _, _, HM8.out.set _, by rw [HTK.out]; exact HO8.out.set (prs_prow _) HM8.out.ty (by decide) (by decide) (by show w.heap.size ≤ w.heap.size + 1; omega) _⟩)
               have hB8 := bset HO8.out.bel (p := ⟨w.heap.size + 1, 0, none⟩) (by show w.heap.size ≤ w.heap.size + 1; omega) (.slice a8 (k + 1) c8)
               go_wp2
               exact ⟨⟨k + 1, by omega, by go_num, hB8, HEND, HAL⟩, by simp [intOf]; omega⟩
            · have hq1 : ((lk : Int) != (m : Int)) = true := by simp; omega
              have HEE : Hid (fitsE g = 5) := hZ (by rw [HE.out, if_neg (fun h => e1 (by rw [← h k hlt]; exact HLK.out.symm))])
              clear hM hO hR hrel
              go_wp2
              refine bodyPost_ret (v := .tuple #[.agg #[.slice none 0 0], .int .i64 5]) (by simp [results, Tryz.results43, go_sem, *]) rfl (newM_no HEE.out (by decide) ?_)
              repeat exact bZ
          · obtain rfl : k = g.length := by omega
            rw [List.take_length] at hO
            have HEE : Hid (fitsE g = 0) := hZ (by rw [HE.out, if_pos hall.out])
            have HL := hZ hO.isL
            have m0 := hM.c
            have zm := cell_lt m0
            have HTR := hZ hR.ty
            obtain ⟨oa, oc, rfl⟩ := hO.ex
            have HIM := hZ (show IsM w.heap.size wr (.agg #[.slice oa g.length oc]) g from ⟨oa, oc, rfl, HL.out⟩)
            clear hM hO hR hrel HE
            go_wp2
            refine bodyPost_ret (v := .tuple #[.agg #[.slice oa g.length oc], .int .i64 0]) (by simp [results, Tryz.results43, go_sem, *]) rfl (newM_yes HEE.out (HIM.out.setM HTR.out _) ?_)
            repeat exact bZ
end
section
open Num
attribute [local go_sem ↓] Go.wp_at_zero Go.wp_at_succ
section
variable {w : World} {lb base top B n m : Nat} {wr w' w7 : World} {pv : Value} {s : Det.El}
end
def gI (g1 : Nat → Nat → Int) (k j : Nat) (last : Int) (i : Nat) : Nat → Nat → Int := fun r c => if k < r ∧ r < i then Det.elNew g1 k j last r c else g1 r c
theorem getD_app_lt {α : Type} {L M : List α} {d : α} {i : Nat} (h : i < L.length) : (L ++ M).getD i d = L.getD i d := by
 simp [List.getD_eq_getElem?_getD, List.getElem?_append, h]
theorem getD_app_eq {α : Type} {L : List α} {x d : α} : (L ++ [x]).getD L.length d = x := by simp [List.getD_eq_getElem?_getD]
theorem meas {N c : Nat} (h : c < N) {a b : Value} (ha : a = .int .i64 ((c + 1 : Nat) : Int)) (hb : b = .int .i64 (c : Nat)) : N - (intOf a).toNat < N - (intOf b).toNat := by
 subst ha hb
 simp [intOf]
 omega
end
end Go.Proofs.YtbmaffijncapiaaGreatDoor
