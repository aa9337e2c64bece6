/- Texts of this seat, laid together: QPb, MkA, MwD, MkE, QPc. What each theorem proves, and under which conditions, its statement says. -/
import Derived.Test.YtbmaffijncapiaaGreatDoorB16
set_option maxRecDepth 100000
set_option maxHeartbeats 32000000
set_option linter.unusedVariables false
set_option linter.unusedSimpArgs false
namespace Go.Proofs.YtbmaffijncapiaaGreatDoor
open Go.ChangeShapes Go.WideShapes Go.ChangeAt Go.RowKit
section
open Num
attribute [local go_sem ↓] Go.wp_at_zero Go.wp_at_succ
theorem pqLow_mul (x y : Rat) (k m : Nat) (bx : BdQ k x) (by' : BdQ m y) (hk : k + m ≤ 17179869180) (u v : Value) (V : World) (hu : IsInt V u (x.num * y.num)) (hv : IsInt V v ((x.den : Int) * (y.den : Int))) :
 Calls Tryz.prog 126 #[u, v] V fun e w' => (∃ z, e = .returned z ∧ IsQP w' z (x * y)) ∧ Below V.heap.size V w' := by
 rw [q_mul]
 exact pqLow_c u v _ _ (k + m) V hu hv (bx.1.mul by'.1) (bx.2.mul by'.2) hk (Int.mul_pos (den_pos x) (den_pos y))
theorem pqLow_add (x y : Rat) (k m : Nat) (bx : BdQ k x) (by' : BdQ m y) (hk : k + m + 1 ≤ 17179869180) (u v : Value) (V : World) (hu : IsInt V u (x.num * (y.den : Int) + y.num * (x.den : Int))) (hv : IsInt V v ((x.den : Int) * (y.den : Int))) :
 Calls Tryz.prog 126 #[u, v] V fun e w' => (∃ z, e = .returned z ∧ IsQP w' z (x + y)) ∧ Below V.heap.size V w' := by
 rw [q_add]
 have b2 := by'.1.mul bx.2
 rw [Nat.add_comm m k] at b2
 exact pqLow_c u v _ _ (k + m + 1) V hu hv ((bx.1.mul by'.2).add b2) ((bx.2.mul by'.2).mono (by omega)) hk (Int.mul_pos (den_pos x) (den_pos y))
theorem pqMk_div (x y : Rat) (k m : Nat) (bx : BdQ k x) (by' : BdQ m y) (hk : k + m ≤ 17179869180) (h0 : y ≠ 0) (u v : Value) (V : World) (hu : IsInt V u (x.num * (y.den : Int))) (hv : IsInt V v ((x.den : Int) * y.num)) :
 Calls Tryz.prog 130 #[u, v] V fun e w' => (∃ z, e = .returned (.tuple #[z, .int .i64 0]) ∧ IsQP w' z (x / y)) ∧ Below V.heap.size V w' := by
 rw [q_div]
 exact pqMake_c u v _ _ (k + m) V hu hv (bx.1.mul by'.2) (bx.2.mul by'.1) hk (Int.mul_ne_zero (by have := den_pos x; omega) (num_ne h0))
theorem pqMul_c (vx vy : Value) (x y : Rat) (k m : Nat) (w : World) (hx : IsQP w vx x) (hy : IsQP w vy y) (bx : BdQ k x) (by' : BdQ m y) (hk9 : k + m ≤ 17179869180) :
 Calls Tryz.prog 38 #[vx, vy] w fun e w' => (∃ v, e = .returned v ∧ IsQP w' v (x * y)) ∧ Below w.heap.size w w' := by
 obtain ⟨n1, a1, l1, c1, n2, a2, l2, c2, rfl, h1, h2⟩ := hx
 obtain ⟨n3, a3, l3, c3, n4, a4, l4, c4, rfl, h3, h4⟩ := hy
 have HX0 := hZ (show IsQP w (.agg #[.bool n1, .slice a1 l1 c1, .bool n2, .slice a2 l2 c2]) x from ⟨n1, a1, l1, c1, n2, a2, l2, c2, rfl, h1, h2⟩)
 have HY0 := hZ (show IsQP w (.agg #[.bool n3, .slice a3 l3 c3, .bool n4, .slice a4 l4 c4]) y from ⟨n3, a3, l3, c3, n4, a4, l4, c4, rfl, h3, h4⟩)
 have DX := hZ (fun V (q : Below w.heap.size w V) => pqDen_c (.agg #[.bool n1, .slice a1 l1 c1, .bool n2, .slice a2 l2 c2]) x k V (HX0.out.keep q) bx (by omega))
 have DY := hZ (fun V (q : Below w.heap.size w V) => pqDen_c (.agg #[.bool n3, .slice a3 l3 c3, .bool n4, .slice a4 l4 c4]) y m V (HY0.out.keep q) by' (by omega))
 have P1 := hZ (fun V (q : Below w.heap.size w V) => mul_c (.agg #[.bool n1, .slice a1 l1 c1]) (.agg #[.bool n3, .slice a3 l3 c3]) _ _ k m V (h1.keep q) (h3.keep q) bx.1 by'.1 (by omega) (by omega))
 have P2 := hZ (fun u v V (hu : IsInt V u (x.den : Int)) (hv : IsInt V v (y.den : Int)) => mul_c u v _ _ k m V hu hv bx.2 by'.2 (by omega) (by omega))
 have LW := hZ (pqLow_mul x y k m bx by' hk9)
 clear h1 h2 h3 h4 bx by' hk9 HX0 HY0
 have hB := Below.refl w.heap.size w
 go_enter Tryz.func38, Tryz.ntmps38
 go_wp2
 refine wp_name fun w5 hW5 => ?_
 have HB5 := hZ (show Below w.heap.size w w5 by rw [hW5]; repeat (first|exact bzR _ _|exact hB|refine bzD ?_|refine bzN ?_|refine bzS ?_|refine bzA ?_))
 have HC5 := hZ (show w5.cell? ⟨w.heap.size, 0, none⟩ = some (.bool n1) ∧ w5.cell? ⟨w.heap.size, 1, none⟩ = some (.slice a1 l1 c1) ∧ w5.cell? ⟨w.heap.size, 2, none⟩ = some (.bool n2) ∧ w5.cell? ⟨w.heap.size, 3, none⟩ = some (.slice a2 l2 c2) ∧ w5.cell? ⟨w.heap.size + 1, 0, none⟩ = some (.bool n3) ∧ w5.cell? ⟨w.heap.size + 1, 1, none⟩ = some (.slice a3 l3 c3) ∧ w5.cell? ⟨w.heap.size + 1, 2, none⟩ = some (.bool n4) ∧ w5.cell? ⟨w.heap.size + 1, 3, none⟩ = some (.slice a4 l4 c4) ∧ w5.cell? ⟨w.heap.size + 1 + 1, 0, none⟩ = some (.bool false) ∧ w5.cell? ⟨w.heap.size + 1 + 1, 1, none⟩ = some (.slice none 0 0) ∧ w5.cell? ⟨w.heap.size + 1 + 1, 2, none⟩ = some (.bool false) ∧ w5.cell? ⟨w.heap.size + 1 + 1, 3, none⟩ = some (.slice none 0 0) ∧ w5.frozen? ⟨w.heap.size + 1 + 1, 0, none⟩ = false ∧ w5.frozen? ⟨w.heap.size + 1 + 1, 1, none⟩ = false ∧ w5.frozen? ⟨w.heap.size + 1 + 1, 2, none⟩ = false ∧ w5.frozen? ⟨w.heap.size + 1 + 1, 3, none⟩ = false from by rw [hW5]; simp [go_sem])
 clear hW5 hB
 have HS := hZ (show ∀ V, Below w5.heap.size w5 V → V.cell? ⟨w.heap.size, 0, none⟩ = some (.bool n1) ∧ V.cell? ⟨w.heap.size, 1, none⟩ = some (.slice a1 l1 c1) ∧ V.cell? ⟨w.heap.size, 2, none⟩ = some (.bool n2) ∧ V.cell? ⟨w.heap.size, 3, none⟩ = some (.slice a2 l2 c2) ∧ V.cell? ⟨w.heap.size + 1, 0, none⟩ = some (.bool n3) ∧ V.cell? ⟨w.heap.size + 1, 1, none⟩ = some (.slice a3 l3 c3) ∧ V.cell? ⟨w.heap.size + 1, 2, none⟩ = some (.bool n4) ∧ V.cell? ⟨w.heap.size + 1, 3, none⟩ = some (.slice a4 l4 c4) from fun V q => ⟨bkeep q HC5.out.1, bkeep q HC5.out.2.1, bkeep q HC5.out.2.2.1, bkeep q HC5.out.2.2.2.1, bkeep q HC5.out.2.2.2.2.1, bkeep q HC5.out.2.2.2.2.2.1, bkeep q HC5.out.2.2.2.2.2.2.1, bkeep q HC5.out.2.2.2.2.2.2.2.1⟩)
 have HSF := hZ (show ∀ V, Below w5.heap.size w5 V → ∀ u0 u1 u2 u3, (st4 V (w.heap.size + 1 + 1) u0 u1 u2 u3).cell? ⟨w.heap.size, 0, none⟩ = some (.bool n1) ∧ (st4 V (w.heap.size + 1 + 1) u0 u1 u2 u3).cell? ⟨w.heap.size, 1, none⟩ = some (.slice a1 l1 c1) ∧ (st4 V (w.heap.size + 1 + 1) u0 u1 u2 u3).cell? ⟨w.heap.size, 2, none⟩ = some (.bool n2) ∧ (st4 V (w.heap.size + 1 + 1) u0 u1 u2 u3).cell? ⟨w.heap.size, 3, none⟩ = some (.slice a2 l2 c2) ∧ (st4 V (w.heap.size + 1 + 1) u0 u1 u2 u3).cell? ⟨w.heap.size + 1, 0, none⟩ = some (.bool n3) ∧ (st4 V (w.heap.size + 1 + 1) u0 u1 u2 u3).cell? ⟨w.heap.size + 1, 1, none⟩ = some (.slice a3 l3 c3) ∧ (st4 V (w.heap.size + 1 + 1) u0 u1 u2 u3).cell? ⟨w.heap.size + 1, 2, none⟩ = some (.bool n4) ∧ (st4 V (w.heap.size + 1 + 1) u0 u1 u2 u3).cell? ⟨w.heap.size + 1, 3, none⟩ = some (.slice a4 l4 c4) from fun V q u0 u1 u2 u3 => by
  obtain ⟨x0, x1, x2, x3, y0, y1, y2, y3⟩ := HS.out V q
  exact ⟨far4 x0 (by omega) _ _ _ _, far4 x1 (by omega) _ _ _ _, far4 x2 (by omega) _ _ _ _, far4 x3 (by omega) _ _ _ _, far4 y0 (by omega) _ _ _ _, far4 y1 (by omega) _ _ _ _, far4 y2 (by omega) _ _ _ _, far4 y3 (by omega) _ _ _ _⟩)
 have hBw := Below.refl w5.heap.size w5
 obtain ⟨x0, x1, x2, x3, y0, y1, y2, y3, -⟩ := HC5.out
 have zx := cell_lt x0
 have zy := cell_lt y0
 go_region_held3 (fun V => V.cell? ⟨w.heap.size, 0, none⟩ = some (.bool n1) ∧ V.cell? ⟨w.heap.size, 1, none⟩ = some (.slice a1 l1 c1) ∧ V.cell? ⟨w.heap.size, 2, none⟩ = some (.bool n2) ∧ V.cell? ⟨w.heap.size, 3, none⟩ = some (.slice a2 l2 c2) ∧ V.cell? ⟨w.heap.size + 1, 0, none⟩ = some (.bool n3) ∧ V.cell? ⟨w.heap.size + 1, 1, none⟩ = some (.slice a3 l3 c3) ∧ V.cell? ⟨w.heap.size + 1, 2, none⟩ = some (.bool n4) ∧ V.cell? ⟨w.heap.size + 1, 3, none⟩ = some (.slice a4 l4 c4))
  (first | (with_reducible refine HSF.out _ ?_ _ _ _ _; (repeat (first|exact bzR _ _|exact hBw|refine bzD ?_|refine bzN ?_|refine bzS ?_|refine bzA ?_)); done) | (refine HS.out _ ?_; (repeat (first|exact bzR _ _|exact hBw|refine bzD ?_|refine bzN ?_|refine bzS ?_|refine bzA ?_)); done) | fail)
  (first
   | (go_at_call 51; (with_reducible show Calls _ _ #[(.agg #[.bool n1, .slice a1 l1 c1]), (.agg #[.bool n3, .slice a3 l3 c3])] _ _); refine (P1.out _ (bthen HB5.out ?_)).mono ?_; (repeat (first|exact bzR _ _|exact hBw|refine bzD ?_|refine bzN ?_|refine bzS ?_|refine bzA ?_)); rintro e w6 ⟨⟨u6, rfl, hu6⟩, hb6⟩; (replace hBw : Below w5.heap.size w5 w6 := bthen bZ hb6); have HU6 := hZ hu6; have hy6 := Below.refl w6.heap.size w6; obtain ⟨pn6, pa6, pl6, pc6, rfl⟩ := hu6.lit)
   | (go_at_call 127; (with_reducible show Calls _ _ #[(.agg #[.bool n1, .slice a1 l1 c1, .bool n2, .slice a2 l2 c2])] _ _); refine (DX.out _ (bthen HB5.out ?_)).mono ?_; (repeat (first|exact bzR _ _|exact hBw|refine bzD ?_|refine bzN ?_|refine bzS ?_|refine bzA ?_)); rintro e w7 ⟨⟨u7, rfl, hu7⟩, hb7⟩; (replace hBw : Below w5.heap.size w5 w7 := bthen bZ hb7); (replace hy6 : Below w6.heap.size w6 w7 := bthen bZ hb7); have HU7 := hZ hu7; have hy7 := Below.refl w7.heap.size w7; obtain ⟨pn7, pa7, pl7, pc7, rfl⟩ := hu7.lit)
   | (go_at_call 127; (with_reducible show Calls _ _ #[(.agg #[.bool n3, .slice a3 l3 c3, .bool n4, .slice a4 l4 c4])] _ _); refine (DY.out _ (bthen HB5.out ?_)).mono ?_; (repeat (first|exact bzR _ _|exact hBw|refine bzD ?_|refine bzN ?_|refine bzS ?_|refine bzA ?_)); rintro e w8 ⟨⟨u8, rfl, hu8⟩, hb8⟩; (replace hBw : Below w5.heap.size w5 w8 := bthen bZ hb8); (replace hy6 : Below w6.heap.size w6 w8 := bthen bZ hb8); (replace hy7 : Below w7.heap.size w7 w8 := bthen bZ hb8); have HU8 := hZ hu8; have hy8 := Below.refl w8.heap.size w8; obtain ⟨pn8, pa8, pl8, pc8, rfl⟩ := hu8.lit)
   | (go_at_call 51; refine (P2.out _ _ _ (HU7.out.keep ?_) (HU8.out.keep ?_)).mono ?_; (repeat (first|exact bzR _ _|exact hy7|refine bzD ?_|refine bzN ?_|refine bzS ?_|refine bzA ?_)); (repeat (first|exact bzR _ _|exact hy8|refine bzD ?_|refine bzN ?_|refine bzS ?_|refine bzA ?_)); rintro e w9 ⟨⟨u9, rfl, hu9⟩, hb9⟩; (replace hBw : Below w5.heap.size w5 w9 := bthen bZ hb9); (replace hy6 : Below w6.heap.size w6 w9 := bthen bZ hb9); (replace hy7 : Below w7.heap.size w7 w9 := bthen bZ hb9); (replace hy8 : Below w8.heap.size w8 w9 := bthen bZ hb9); have HU9 := hZ hu9; have hy9 := Below.refl w9.heap.size w9; obtain ⟨pn9, pa9, pl9, pc9, rfl⟩ := hu9.lit)
   | (go_at_call 126; refine (LW.out _ _ _ (HU6.out.keep ?_) (HU9.out.keep ?_)).mono ?_; (repeat (first|exact bzR _ _|exact hy6|refine bzD ?_|refine bzN ?_|refine bzS ?_|refine bzA ?_)); (repeat (first|exact bzR _ _|exact hy9|refine bzD ?_|refine bzN ?_|refine bzS ?_|refine bzA ?_)); rintro e w10 ⟨⟨u10, rfl, hu10⟩, hb10⟩; (replace hBw : Below w5.heap.size w5 w10 := bthen bZ hb10); (replace hy6 : Below w6.heap.size w6 w10 := bthen bZ hb10); (replace hy7 : Below w7.heap.size w7 w10 := bthen bZ hb10); (replace hy8 : Below w8.heap.size w8 w10 := bthen bZ hb10); (replace hy9 : Below w9.heap.size w9 w10 := bthen bZ hb10); have HU10 := hZ hu10; have hy10 := Below.refl w10.heap.size w10; have r0f := bkeepf hBw HC5.out.2.2.2.2.2.2.2.2.1 HC5.out.2.2.2.2.2.2.2.2.2.2.2.2.1; have r0 := bkeep hBw HC5.out.2.2.2.2.2.2.2.2.1; have r1f := bkeepf hBw HC5.out.2.2.2.2.2.2.2.2.2.1 HC5.out.2.2.2.2.2.2.2.2.2.2.2.2.2.1; have r1 := bkeep hBw HC5.out.2.2.2.2.2.2.2.2.2.1; have r2f := bkeepf hBw HC5.out.2.2.2.2.2.2.2.2.2.2.1 HC5.out.2.2.2.2.2.2.2.2.2.2.2.2.2.2.1; have r2 := bkeep hBw HC5.out.2.2.2.2.2.2.2.2.2.2.1; have r3f := bkeepf hBw HC5.out.2.2.2.2.2.2.2.2.2.2.2.1 HC5.out.2.2.2.2.2.2.2.2.2.2.2.2.2.2.2; have r3 := bkeep hBw HC5.out.2.2.2.2.2.2.2.2.2.2.2.1; have zr := cell_lt r0; obtain ⟨m1, b1, k1, d1, m2, b2, k2, d2, rfl, -, -⟩ := hu10)
   | fail)
 all_goals
  have HQ := hZ (IsQP.put4 HU10.out r0 r1 r2 r3 (.bool m1) (.slice b1 k1 d1) (.bool m2) (.slice b2 k2 d2))
  have hBf := bthen HB5.out hBw
  clear HC5 HS HSF x0 x1 x2 x3 y0 y1 y2 y3
  go_wp2
  refine bodyPost_ret (v := .agg #[.bool m1, .slice b1 k1 d1, .bool m2, .slice b2 k2 d2]) (by simp [results, Tryz.results38, go_sem, *]) rfl ⟨⟨_, rfl, ?_⟩, ?_⟩
  · first | exact HQ.out | exact HQ.out.keep (Below.refl _ _).drew
  ·
   repeat exact bZ
theorem pqNeg_c (vx : Value) (x : Rat) (w : World) (hx : IsQP w vx x) :
 Calls Tryz.prog 241 #[vx] w fun e w' => (∃ v, e = .returned v ∧ IsQP w' v (-x)) ∧ Below w.heap.size w w' := by
 obtain ⟨n1, a1, l1, c1, n2, a2, l2, c2, rfl, h1, h2⟩ := hx
 have HN2 := hZ h2
 have NG := hZ (fun V (q : Below w.heap.size w V) => neg_c (.agg #[.bool n1, .slice a1 l1 c1]) _ V (h1.keep q))
 clear h1 h2
 have hB := Below.refl w.heap.size w
 go_enter Tryz.func241, Tryz.ntmps241
 go_wp2
 refine wp_name fun w5 hW5 => ?_
 have HB5 := hZ (show Below w.heap.size w w5 by rw [hW5]; repeat (first|exact bzR _ _|exact hB|refine bzD ?_|refine bzN ?_|refine bzS ?_|refine bzA ?_))
 have HC5 := hZ (show w5.cell? ⟨w.heap.size, 0, none⟩ = some (.bool n1) ∧ w5.cell? ⟨w.heap.size, 1, none⟩ = some (.slice a1 l1 c1) ∧ w5.cell? ⟨w.heap.size, 2, none⟩ = some (.bool n2) ∧ w5.cell? ⟨w.heap.size, 3, none⟩ = some (.slice a2 l2 c2) ∧ w5.cell? ⟨w.heap.size + 1, 0, none⟩ = some (.bool false) ∧ w5.cell? ⟨w.heap.size + 1, 1, none⟩ = some (.slice none 0 0) ∧ w5.cell? ⟨w.heap.size + 1, 2, none⟩ = some (.bool false) ∧ w5.cell? ⟨w.heap.size + 1, 3, none⟩ = some (.slice none 0 0) ∧ w5.frozen? ⟨w.heap.size + 1, 0, none⟩ = false ∧ w5.frozen? ⟨w.heap.size + 1, 1, none⟩ = false ∧ w5.frozen? ⟨w.heap.size + 1, 2, none⟩ = false ∧ w5.frozen? ⟨w.heap.size + 1, 3, none⟩ = false from by rw [hW5]; simp [go_sem])
 clear hW5 hB
 have HS := hZ (show ∀ V, Below w5.heap.size w5 V → V.cell? ⟨w.heap.size, 0, none⟩ = some (.bool n1) ∧ V.cell? ⟨w.heap.size, 1, none⟩ = some (.slice a1 l1 c1) ∧ V.cell? ⟨w.heap.size, 2, none⟩ = some (.bool n2) ∧ V.cell? ⟨w.heap.size, 3, none⟩ = some (.slice a2 l2 c2) from fun V q => ⟨bkeep q HC5.out.1, bkeep q HC5.out.2.1, bkeep q HC5.out.2.2.1, bkeep q HC5.out.2.2.2.1⟩)
 have HSF := hZ (show ∀ V, Below w5.heap.size w5 V → ∀ u0 u1 u2 u3, (st4 V (w.heap.size + 1) u0 u1 u2 u3).cell? ⟨w.heap.size, 0, none⟩ = some (.bool n1) ∧ (st4 V (w.heap.size + 1) u0 u1 u2 u3).cell? ⟨w.heap.size, 1, none⟩ = some (.slice a1 l1 c1) ∧ (st4 V (w.heap.size + 1) u0 u1 u2 u3).cell? ⟨w.heap.size, 2, none⟩ = some (.bool n2) ∧ (st4 V (w.heap.size + 1) u0 u1 u2 u3).cell? ⟨w.heap.size, 3, none⟩ = some (.slice a2 l2 c2) from fun V q u0 u1 u2 u3 => by
  obtain ⟨x0, x1, x2, x3⟩ := HS.out V q
  exact ⟨far4 x0 (by omega) _ _ _ _, far4 x1 (by omega) _ _ _ _, far4 x2 (by omega) _ _ _ _, far4 x3 (by omega) _ _ _ _⟩)
 have hBw := Below.refl w5.heap.size w5
 obtain ⟨x0, x1, x2, x3, -⟩ := HC5.out
 have zx := cell_lt x0
 go_region_held3 (fun V => V.cell? ⟨w.heap.size, 0, none⟩ = some (.bool n1) ∧ V.cell? ⟨w.heap.size, 1, none⟩ = some (.slice a1 l1 c1) ∧ V.cell? ⟨w.heap.size, 2, none⟩ = some (.bool n2) ∧ V.cell? ⟨w.heap.size, 3, none⟩ = some (.slice a2 l2 c2))
  (first | (with_reducible refine HSF.out _ ?_ _ _ _ _; (repeat (first|exact bzR _ _|exact hBw|refine bzD ?_|refine bzN ?_|refine bzS ?_|refine bzA ?_)); done) | (refine HS.out _ ?_; (repeat (first|exact bzR _ _|exact hBw|refine bzD ?_|refine bzN ?_|refine bzS ?_|refine bzA ?_)); done) | fail)
  (first
   | (go_at_call 160; refine (NG.out _ (bthen HB5.out ?_)).mono ?_; (repeat (first|exact bzR _ _|exact hBw|refine bzD ?_|refine bzN ?_|refine bzS ?_|refine bzA ?_)); rintro e w6 ⟨⟨u6, rfl, hu6⟩, hb6⟩; (replace hBw : Below w5.heap.size w5 w6 := bthen bZ hb6); have HU6 := hZ hu6; have hy6 := Below.refl w6.heap.size w6; have r0f := bkeepf hBw HC5.out.2.2.2.2.1 HC5.out.2.2.2.2.2.2.2.2.1; have r0 := bkeep hBw HC5.out.2.2.2.2.1; have r1f := bkeepf hBw HC5.out.2.2.2.2.2.1 HC5.out.2.2.2.2.2.2.2.2.2.1; have r1 := bkeep hBw HC5.out.2.2.2.2.2.1; have r2f := bkeepf hBw HC5.out.2.2.2.2.2.2.1 HC5.out.2.2.2.2.2.2.2.2.2.2.1; have r2 := bkeep hBw HC5.out.2.2.2.2.2.2.1; have r3f := bkeepf hBw HC5.out.2.2.2.2.2.2.2.1 HC5.out.2.2.2.2.2.2.2.2.2.2.2; have r3 := bkeep hBw HC5.out.2.2.2.2.2.2.2.1; have zr := cell_lt r0; obtain ⟨pn6, pa6, pl6, pc6, rfl⟩ := hu6.lit)
   | fail)
 all_goals
  have HQ := hZ (IsQP.put4 (q := -x) ⟨pn6, pa6, pl6, pc6, n2, a2, l2, c2, rfl, by rw [Rat.neg_num]; exact HU6.out, by rw [Rat.neg_den]; exact HN2.out.keep (bthen HB5.out hBw)⟩ r0 r1 r2 r3 (.bool pn6) (.slice pa6 pl6 pc6) (.bool n2) (.slice a2 l2 c2))
  have hBf := bthen HB5.out hBw
  clear HC5 HS HSF x0 x1 x2 x3
  go_wp2
  refine bodyPost_ret (v := .agg #[.bool pn6, .slice pa6 pl6 pc6, .bool n2, .slice a2 l2 c2]) (by simp [results, Tryz.results241, go_sem, *]) rfl ⟨⟨_, rfl, ?_⟩, ?_⟩
  · first | exact HQ.out | exact HQ.out.keep (Below.refl _ _).drew
  ·
   repeat exact bZ
theorem pqOver_c (vx vy : Value) (x y : Rat) (k m : Nat) (w : World) (hx : IsQP w vx x) (hy : IsQP w vy y) (bx : BdQ k x) (by' : BdQ m y) (hk9 : k + m ≤ 17179869180) (h0 : y ≠ 0) :
 Calls Tryz.prog 270 #[vx, vy] w fun e w' => (∃ v, e = .returned (.tuple #[v, .int .i64 0]) ∧ IsQP w' v (x / y)) ∧ Below w.heap.size w w' := by
 obtain ⟨n1, a1, l1, c1, n2, a2, l2, c2, rfl, h1, h2⟩ := hx
 obtain ⟨n3, a3, l3, c3, n4, a4, l4, c4, rfl, h3, h4⟩ := hy
 have HX0 := hZ (show IsQP w (.agg #[.bool n1, .slice a1 l1 c1, .bool n2, .slice a2 l2 c2]) x from ⟨n1, a1, l1, c1, n2, a2, l2, c2, rfl, h1, h2⟩)
 have HY0 := hZ (show IsQP w (.agg #[.bool n3, .slice a3 l3 c3, .bool n4, .slice a4 l4 c4]) y from ⟨n3, a3, l3, c3, n4, a4, l4, c4, rfl, h3, h4⟩)
 have DX := hZ (fun V (q : Below w.heap.size w V) => pqDen_c (.agg #[.bool n1, .slice a1 l1 c1, .bool n2, .slice a2 l2 c2]) x k V (HX0.out.keep q) bx (by omega))
 have DY := hZ (fun V (q : Below w.heap.size w V) => pqDen_c (.agg #[.bool n3, .slice a3 l3 c3, .bool n4, .slice a4 l4 c4]) y m V (HY0.out.keep q) by' (by omega))
 have P1 := hZ (fun v V (q : Below w.heap.size w V) (hv : IsInt V v (y.den : Int)) => mul_c (.agg #[.bool n1, .slice a1 l1 c1]) v _ _ k m V (h1.keep q) hv bx.1 by'.2 (by omega) (by omega))
 have P2 := hZ (fun v V (q : Below w.heap.size w V) (hv : IsInt V v (x.den : Int)) => mul_c v (.agg #[.bool n3, .slice a3 l3 c3]) _ _ k m V hv (h3.keep q) bx.2 by'.1 (by omega) (by omega))
 have LW := hZ (pqMk_div x y k m bx by' hk9 h0)
 clear h1 h2 h3 h4 bx by' hk9 HX0 HY0 h0
 have hB := Below.refl w.heap.size w
 go_enter Tryz.func270, Tryz.ntmps270
 go_wp2
 refine wp_name fun w5 hW5 => ?_
 have HB5 := hZ (show Below w.heap.size w w5 by rw [hW5]; repeat (first|exact bzR _ _|exact hB|refine bzD ?_|refine bzN ?_|refine bzS ?_|refine bzA ?_))
 have HC5 := hZ (show w5.cell? ⟨w.heap.size, 0, none⟩ = some (.bool n1) ∧ w5.cell? ⟨w.heap.size, 1, none⟩ = some (.slice a1 l1 c1) ∧ w5.cell? ⟨w.heap.size, 2, none⟩ = some (.bool n2) ∧ w5.cell? ⟨w.heap.size, 3, none⟩ = some (.slice a2 l2 c2) ∧ w5.cell? ⟨w.heap.size + 1, 0, none⟩ = some (.bool n3) ∧ w5.cell? ⟨w.heap.size + 1, 1, none⟩ = some (.slice a3 l3 c3) ∧ w5.cell? ⟨w.heap.size + 1, 2, none⟩ = some (.bool n4) ∧ w5.cell? ⟨w.heap.size + 1, 3, none⟩ = some (.slice a4 l4 c4) ∧ w5.cell? ⟨w.heap.size + 1 + 1, 0, none⟩ = some (.bool false) ∧ w5.cell? ⟨w.heap.size + 1 + 1, 1, none⟩ = some (.slice none 0 0) ∧ w5.cell? ⟨w.heap.size + 1 + 1, 2, none⟩ = some (.bool false) ∧ w5.cell? ⟨w.heap.size + 1 + 1, 3, none⟩ = some (.slice none 0 0) ∧ w5.frozen? ⟨w.heap.size + 1 + 1, 0, none⟩ = false ∧ w5.frozen? ⟨w.heap.size + 1 + 1, 1, none⟩ = false ∧ w5.frozen? ⟨w.heap.size + 1 + 1, 2, none⟩ = false ∧ w5.frozen? ⟨w.heap.size + 1 + 1, 3, none⟩ = false from by rw [hW5]; simp [go_sem])
 clear hW5 hB
 have HS := hZ (show ∀ V, Below w5.heap.size w5 V → V.cell? ⟨w.heap.size, 0, none⟩ = some (.bool n1) ∧ V.cell? ⟨w.heap.size, 1, none⟩ = some (.slice a1 l1 c1) ∧ V.cell? ⟨w.heap.size, 2, none⟩ = some (.bool n2) ∧ V.cell? ⟨w.heap.size, 3, none⟩ = some (.slice a2 l2 c2) ∧ V.cell? ⟨w.heap.size + 1, 0, none⟩ = some (.bool n3) ∧ V.cell? ⟨w.heap.size + 1, 1, none⟩ = some (.slice a3 l3 c3) ∧ V.cell? ⟨w.heap.size + 1, 2, none⟩ = some (.bool n4) ∧ V.cell? ⟨w.heap.size + 1, 3, none⟩ = some (.slice a4 l4 c4) from fun V q => ⟨bkeep q HC5.out.1, bkeep q HC5.out.2.1, bkeep q HC5.out.2.2.1, bkeep q HC5.out.2.2.2.1, bkeep q HC5.out.2.2.2.2.1, bkeep q HC5.out.2.2.2.2.2.1, bkeep q HC5.out.2.2.2.2.2.2.1, bkeep q HC5.out.2.2.2.2.2.2.2.1⟩)
 have HSF := hZ (show ∀ V, Below w5.heap.size w5 V → ∀ u0 u1 u2 u3, (st4 V (w.heap.size + 1 + 1) u0 u1 u2 u3).cell? ⟨w.heap.size, 0, none⟩ = some (.bool n1) ∧ (st4 V (w.heap.size + 1 + 1) u0 u1 u2 u3).cell? ⟨w.heap.size, 1, none⟩ = some (.slice a1 l1 c1) ∧ (st4 V (w.heap.size + 1 + 1) u0 u1 u2 u3).cell? ⟨w.heap.size, 2, none⟩ = some (.bool n2) ∧ (st4 V (w.heap.size + 1 + 1) u0 u1 u2 u3).cell? ⟨w.heap.size, 3, none⟩ = some (.slice a2 l2 c2) ∧ (st4 V (w.heap.size + 1 + 1) u0 u1 u2 u3).cell? ⟨w.heap.size + 1, 0, none⟩ = some (.bool n3) ∧ (st4 V (w.heap.size + 1 + 1) u0 u1 u2 u3).cell? ⟨w.heap.size + 1, 1, none⟩ = some (.slice a3 l3 c3) ∧ (st4 V (w.heap.size + 1 + 1) u0 u1 u2 u3).cell? ⟨w.heap.size + 1, 2, none⟩ = some (.bool n4) ∧ (st4 V (w.heap.size + 1 + 1) u0 u1 u2 u3).cell? ⟨w.heap.size + 1, 3, none⟩ = some (.slice a4 l4 c4) from fun V q u0 u1 u2 u3 => by
  obtain ⟨x0, x1, x2, x3, y0, y1, y2, y3⟩ := HS.out V q
  exact ⟨far4 x0 (by omega) _ _ _ _, far4 x1 (by omega) _ _ _ _, far4 x2 (by omega) _ _ _ _, far4 x3 (by omega) _ _ _ _, far4 y0 (by omega) _ _ _ _, far4 y1 (by omega) _ _ _ _, far4 y2 (by omega) _ _ _ _, far4 y3 (by omega) _ _ _ _⟩)
 have hBw := Below.refl w5.heap.size w5
 obtain ⟨x0, x1, x2, x3, y0, y1, y2, y3, -⟩ := HC5.out
 have zx := cell_lt x0
 have zy := cell_lt y0
 go_region_held3 (fun V => V.cell? ⟨w.heap.size, 0, none⟩ = some (.bool n1) ∧ V.cell? ⟨w.heap.size, 1, none⟩ = some (.slice a1 l1 c1) ∧ V.cell? ⟨w.heap.size, 2, none⟩ = some (.bool n2) ∧ V.cell? ⟨w.heap.size, 3, none⟩ = some (.slice a2 l2 c2) ∧ V.cell? ⟨w.heap.size + 1, 0, none⟩ = some (.bool n3) ∧ V.cell? ⟨w.heap.size + 1, 1, none⟩ = some (.slice a3 l3 c3) ∧ V.cell? ⟨w.heap.size + 1, 2, none⟩ = some (.bool n4) ∧ V.cell? ⟨w.heap.size + 1, 3, none⟩ = some (.slice a4 l4 c4))
  (first | (with_reducible refine HSF.out _ ?_ _ _ _ _; (repeat (first|exact bzR _ _|exact hBw|refine bzD ?_|refine bzN ?_|refine bzS ?_|refine bzA ?_)); done) | (refine HS.out _ ?_; (repeat (first|exact bzR _ _|exact hBw|refine bzD ?_|refine bzN ?_|refine bzS ?_|refine bzA ?_)); done) | fail)
  (first
   | (go_at_call 127; (with_reducible show Calls _ _ #[(.agg #[.bool n3, .slice a3 l3 c3, .bool n4, .slice a4 l4 c4])] _ _); refine (DY.out _ (bthen HB5.out ?_)).mono ?_; (repeat (first|exact bzR _ _|exact hBw|refine bzD ?_|refine bzN ?_|refine bzS ?_|refine bzA ?_)); rintro e w6 ⟨⟨u6, rfl, hu6⟩, hb6⟩; (replace hBw : Below w5.heap.size w5 w6 := bthen bZ hb6); have HU6 := hZ hu6; have hy6 := Below.refl w6.heap.size w6; obtain ⟨pn6, pa6, pl6, pc6, rfl⟩ := hu6.lit)
   | (go_at_call 51; (with_reducible show Calls _ _ #[(.agg #[.bool n1, .slice a1 l1 c1]), _] _ _); refine (P1.out _ _ (bthen HB5.out ?_) (HU6.out.keep ?_)).mono ?_; (repeat (first|exact bzR _ _|exact hBw|refine bzD ?_|refine bzN ?_|refine bzS ?_|refine bzA ?_)); (repeat (first|exact bzR _ _|exact hy6|refine bzD ?_|refine bzN ?_|refine bzS ?_|refine bzA ?_)); rintro e w7 ⟨⟨u7, rfl, hu7⟩, hb7⟩; (replace hBw : Below w5.heap.size w5 w7 := bthen bZ hb7); (replace hy6 : Below w6.heap.size w6 w7 := bthen bZ hb7); have HU7 := hZ hu7; have hy7 := Below.refl w7.heap.size w7; obtain ⟨pn7, pa7, pl7, pc7, rfl⟩ := hu7.lit)
   | (go_at_call 127; (with_reducible show Calls _ _ #[(.agg #[.bool n1, .slice a1 l1 c1, .bool n2, .slice a2 l2 c2])] _ _); refine (DX.out _ (bthen HB5.out ?_)).mono ?_; (repeat (first|exact bzR _ _|exact hBw|refine bzD ?_|refine bzN ?_|refine bzS ?_|refine bzA ?_)); rintro e w8 ⟨⟨u8, rfl, hu8⟩, hb8⟩; (replace hBw : Below w5.heap.size w5 w8 := bthen bZ hb8); (replace hy6 : Below w6.heap.size w6 w8 := bthen bZ hb8); (replace hy7 : Below w7.heap.size w7 w8 := bthen bZ hb8); have HU8 := hZ hu8; have hy8 := Below.refl w8.heap.size w8; obtain ⟨pn8, pa8, pl8, pc8, rfl⟩ := hu8.lit)
   | (go_at_call 51; refine (P2.out _ _ (bthen HB5.out ?_) (HU8.out.keep ?_)).mono ?_; (repeat (first|exact bzR _ _|exact hBw|refine bzD ?_|refine bzN ?_|refine bzS ?_|refine bzA ?_)); (repeat (first|exact bzR _ _|exact hy8|refine bzD ?_|refine bzN ?_|refine bzS ?_|refine bzA ?_)); rintro e w9 ⟨⟨u9, rfl, hu9⟩, hb9⟩; (replace hBw : Below w5.heap.size w5 w9 := bthen bZ hb9); (replace hy6 : Below w6.heap.size w6 w9 := bthen bZ hb9); (replace hy7 : Below w7.heap.size w7 w9 := bthen bZ hb9); (replace hy8 : Below w8.heap.size w8 w9 := bthen bZ hb9); have HU9 := hZ hu9; have hy9 := Below.refl w9.heap.size w9; obtain ⟨pn9, pa9, pl9, pc9, rfl⟩ := hu9.lit)
   | (go_at_call 130; refine (LW.out _ _ _ (HU7.out.keep ?_) (HU9.out.keep ?_)).mono ?_; (repeat (first|exact bzR _ _|exact hy7|refine bzD ?_|refine bzN ?_|refine bzS ?_|refine bzA ?_)); (repeat (first|exact bzR _ _|exact hy9|refine bzD ?_|refine bzN ?_|refine bzS ?_|refine bzA ?_)); rintro e w10 ⟨⟨u10, rfl, hu10⟩, hb10⟩; (replace hBw : Below w5.heap.size w5 w10 := bthen bZ hb10); (replace hy6 : Below w6.heap.size w6 w10 := bthen bZ hb10); (replace hy7 : Below w7.heap.size w7 w10 := bthen bZ hb10); (replace hy8 : Below w8.heap.size w8 w10 := bthen bZ hb10); (replace hy9 : Below w9.heap.size w9 w10 := bthen bZ hb10); have HU10 := hZ hu10; have hy10 := Below.refl w10.heap.size w10; have r0f := bkeepf hBw HC5.out.2.2.2.2.2.2.2.2.1 HC5.out.2.2.2.2.2.2.2.2.2.2.2.2.1; have r0 := bkeep hBw HC5.out.2.2.2.2.2.2.2.2.1; have r1f := bkeepf hBw HC5.out.2.2.2.2.2.2.2.2.2.1 HC5.out.2.2.2.2.2.2.2.2.2.2.2.2.2.1; have r1 := bkeep hBw HC5.out.2.2.2.2.2.2.2.2.2.1; have r2f := bkeepf hBw HC5.out.2.2.2.2.2.2.2.2.2.2.1 HC5.out.2.2.2.2.2.2.2.2.2.2.2.2.2.2.1; have r2 := bkeep hBw HC5.out.2.2.2.2.2.2.2.2.2.2.1; have r3f := bkeepf hBw HC5.out.2.2.2.2.2.2.2.2.2.2.2.1 HC5.out.2.2.2.2.2.2.2.2.2.2.2.2.2.2.2; have r3 := bkeep hBw HC5.out.2.2.2.2.2.2.2.2.2.2.2.1; have zr := cell_lt r0; obtain ⟨m1, b1, k1, d1, m2, b2, k2, d2, rfl, -, -⟩ := hu10)
   | fail)
 all_goals
  have HQ := hZ (IsQP.put4 HU10.out r0 r1 r2 r3 (.bool m1) (.slice b1 k1 d1) (.bool m2) (.slice b2 k2 d2))
  have hBf := bthen HB5.out hBw
  clear HC5 HS HSF x0 x1 x2 x3 y0 y1 y2 y3
  go_wp2
  refine bodyPost_ret (v := .tuple #[.agg #[.bool m1, .slice b1 k1 d1, .bool m2, .slice b2 k2 d2], .int .i64 0]) (by simp [results, Tryz.results270, go_sem, *]) rfl ⟨⟨_, rfl, ?_⟩, ?_⟩
  · first | exact HQ.out | exact HQ.out.keep (Below.refl _ _).drew
  ·
   repeat exact bZ
theorem pqAdd_c (vx vy : Value) (x y : Rat) (k m : Nat) (w : World) (hx : IsQP w vx x) (hy : IsQP w vy y) (bx : BdQ k x) (by' : BdQ m y) (hk9 : k + m + 1 ≤ 17179869180) :
 Calls Tryz.prog 42 #[vx, vy] w fun e w' => (∃ v, e = .returned v ∧ IsQP w' v (x + y)) ∧ Below w.heap.size w w' := by
 obtain ⟨n1, a1, l1, c1, n2, a2, l2, c2, rfl, h1, h2⟩ := hx
 obtain ⟨n3, a3, l3, c3, n4, a4, l4, c4, rfl, h3, h4⟩ := hy
 have HX0 := hZ (show IsQP w (.agg #[.bool n1, .slice a1 l1 c1, .bool n2, .slice a2 l2 c2]) x from ⟨n1, a1, l1, c1, n2, a2, l2, c2, rfl, h1, h2⟩)
 have HY0 := hZ (show IsQP w (.agg #[.bool n3, .slice a3 l3 c3, .bool n4, .slice a4 l4 c4]) y from ⟨n3, a3, l3, c3, n4, a4, l4, c4, rfl, h3, h4⟩)
 have DX := hZ (fun V (q : Below w.heap.size w V) => pqDen_c (.agg #[.bool n1, .slice a1 l1 c1, .bool n2, .slice a2 l2 c2]) x k V (HX0.out.keep q) bx (by omega))
 have DY := hZ (fun V (q : Below w.heap.size w V) => pqDen_c (.agg #[.bool n3, .slice a3 l3 c3, .bool n4, .slice a4 l4 c4]) y m V (HY0.out.keep q) by' (by omega))
 have P1 := hZ (fun v V (q : Below w.heap.size w V) (hv : IsInt V v (y.den : Int)) => mul_c (.agg #[.bool n1, .slice a1 l1 c1]) v _ _ k m V (h1.keep q) hv bx.1 by'.2 (by omega) (by omega))
 have P2 := hZ (fun v V (q : Below w.heap.size w V) (hv : IsInt V v (x.den : Int)) => mul_c (.agg #[.bool n3, .slice a3 l3 c3]) v _ _ m k V (h3.keep q) hv by'.1 bx.2 (by omega) (by omega))
 have P3 := hZ (fun u v V (hu : IsInt V u (x.den : Int)) (hv : IsInt V v (y.den : Int)) => mul_c u v _ _ k m V hu hv bx.2 by'.2 (by omega) (by omega))
 have AD := hZ (fun u v V (hu : IsInt V u (x.num * (y.den : Int))) (hv : IsInt V v (y.num * (x.den : Int))) => addI_c u v _ _ (k + m) V hu hv (bx.1.mul by'.2) (by have := by'.1.mul bx.2; rw [Nat.add_comm m k] at this; exact this) (by omega))
 have LW := hZ (pqLow_add x y k m bx by' hk9)
 clear h1 h2 h3 h4 bx by' hk9 HX0 HY0
 have hB := Below.refl w.heap.size w
 go_enter Tryz.func42, Tryz.ntmps42
 go_wp2
 refine wp_name fun w1 hW1 => ?_
 have hB1 : Below w.heap.size w w1 := by rw [hW1]; repeat (first|exact bzR _ _|exact hB|refine bzD ?_|refine bzN ?_|refine bzS ?_|refine bzA ?_)
 have HC1 := hZ (show w1.cell? ⟨w.heap.size, 0, none⟩ = some (.bool n1) ∧ w1.cell? ⟨w.heap.size, 1, none⟩ = some (.slice a1 l1 c1) ∧ w1.cell? ⟨w.heap.size, 2, none⟩ = some (.bool n2) ∧ w1.cell? ⟨w.heap.size, 3, none⟩ = some (.slice a2 l2 c2) ∧ w1.cell? ⟨w.heap.size + 1, 0, none⟩ = some (.bool n3) ∧ w1.cell? ⟨w.heap.size + 1, 1, none⟩ = some (.slice a3 l3 c3) ∧ w1.cell? ⟨w.heap.size + 1, 2, none⟩ = some (.bool n4) ∧ w1.cell? ⟨w.heap.size + 1, 3, none⟩ = some (.slice a4 l4 c4) ∧ w1.cell? ⟨w.heap.size + 1 + 1, 0, none⟩ = some (.bool false) ∧ w1.cell? ⟨w.heap.size + 1 + 1, 1, none⟩ = some (.slice none 0 0) ∧ w1.cell? ⟨w.heap.size + 1 + 1, 2, none⟩ = some (.bool false) ∧ w1.cell? ⟨w.heap.size + 1 + 1, 3, none⟩ = some (.slice none 0 0) ∧ w1.frozen? ⟨w.heap.size + 1 + 1, 0, none⟩ = false ∧ w1.frozen? ⟨w.heap.size + 1 + 1, 1, none⟩ = false ∧ w1.frozen? ⟨w.heap.size + 1 + 1, 2, none⟩ = false ∧ w1.frozen? ⟨w.heap.size + 1 + 1, 3, none⟩ = false from by rw [hW1]; simp [go_sem])
 clear hW1 hB
 have HXY := hZ (show ∀ V, Below w1.heap.size w1 V → V.cell? ⟨w.heap.size, 0, none⟩ = some (.bool n1) ∧ V.cell? ⟨w.heap.size, 1, none⟩ = some (.slice a1 l1 c1) ∧ V.cell? ⟨w.heap.size, 2, none⟩ = some (.bool n2) ∧ V.cell? ⟨w.heap.size, 3, none⟩ = some (.slice a2 l2 c2) ∧ V.cell? ⟨w.heap.size + 1, 0, none⟩ = some (.bool n3) ∧ V.cell? ⟨w.heap.size + 1, 1, none⟩ = some (.slice a3 l3 c3) ∧ V.cell? ⟨w.heap.size + 1, 2, none⟩ = some (.bool n4) ∧ V.cell? ⟨w.heap.size + 1, 3, none⟩ = some (.slice a4 l4 c4) from fun V q => ⟨bkeep q HC1.out.1, bkeep q HC1.out.2.1, bkeep q HC1.out.2.2.1, bkeep q HC1.out.2.2.2.1, bkeep q HC1.out.2.2.2.2.1, bkeep q HC1.out.2.2.2.2.2.1, bkeep q HC1.out.2.2.2.2.2.2.1, bkeep q HC1.out.2.2.2.2.2.2.2.1⟩)
 obtain ⟨x0, x1, x2, x3, y0, y1, y2, y3, r0, -⟩ := HC1.out
 have zx := cell_lt x0
 have zy := cell_lt y0
 have zr0 := cell_lt r0
 go_upto_region 1 with (fail)
 go_cut [5, 6] (fun s5 s6 wx => ∃ ab bb, s5 = .pointer (some ⟨ab, 0, none⟩) ∧ s6 = .pointer (some ⟨bb, 0, none⟩) ∧ ab ≠ bb ∧ w1.heap.size ≤ ab ∧ w1.heap.size ≤ bb ∧ Hid (VarI ab (x.den : Int) wx) ∧ Hid (VarI bb (y.den : Int) wx) ∧ Below w1.heap.size w1 wx)
 case first =>
  have hBj := Below.refl w1.heap.size w1
  go_region_held3 (fun V => V.cell? ⟨w.heap.size, 0, none⟩ = some (.bool n1) ∧ V.cell? ⟨w.heap.size, 1, none⟩ = some (.slice a1 l1 c1) ∧ V.cell? ⟨w.heap.size, 2, none⟩ = some (.bool n2) ∧ V.cell? ⟨w.heap.size, 3, none⟩ = some (.slice a2 l2 c2) ∧ V.cell? ⟨w.heap.size + 1, 0, none⟩ = some (.bool n3) ∧ V.cell? ⟨w.heap.size + 1, 1, none⟩ = some (.slice a3 l3 c3) ∧ V.cell? ⟨w.heap.size + 1, 2, none⟩ = some (.bool n4) ∧ V.cell? ⟨w.heap.size + 1, 3, none⟩ = some (.slice a4 l4 c4))
   (first | (refine HXY.out _ ?_; (repeat' (first | exact Below.refl _ _ | exact hBj | refine Below.drew ?_ | refine below_drewN ?_ _ | refine bal ?_ _ | refine bset ?_ ?_ _ | exact hla1 | exact Nat.le_trans hla1 (Nat.le_succ _) | exact hla2 | exact Nat.le_trans hla2 (Nat.le_succ _) | exact Nat.le_refl _ | exact Nat.le_succ _)); done) | fail)
   (first
   | (go_at_call 127; (with_reducible show Calls _ _ #[(.agg #[.bool n1, .slice a1 l1 c1, .bool n2, .slice a2 l2 c2])] _ _); refine (DX.out _ (bthen hB1 ?_)).mono ?_; (repeat (first|exact bzR _ _|exact hBj|refine bzD ?_|refine bzN ?_|refine bzS ?_|refine bzA ?_)); rintro e w11 ⟨⟨v11, rfl, hv11⟩, hb11⟩; (replace hBj : Below w1.heap.size w1 w11 := bthen bZ hb11); have hc11 := (bcell hb11).1; have hf11 := (bcell hb11).2; have ht11 := tcell hb11; have hla1 := hBj.size; have hs11 := hb11.size; (try simp [go_sem] at hs11); have zy11 := Nat.lt_of_lt_of_le zy hBj.size; have zy12 := Nat.lt_of_lt_of_le zx hBj.size; (try have qa : w1.heap.size < w11.heap.size := by omega); (try have qb : w1.heap.size + 1 < w11.heap.size := by omega); have HV11 := hZ hv11; obtain ⟨n11, a11, c11, l11, rfl, -⟩ := hv11; unfold iv at *)
   | (go_at_call 127; (with_reducible show Calls _ _ #[(.agg #[.bool n3, .slice a3 l3 c3, .bool n4, .slice a4 l4 c4])] _ _); refine (DY.out _ (bthen hB1 ?_)).mono ?_; (repeat (first|exact bzR _ _|exact hBj|refine bzD ?_|refine bzN ?_|refine bzS ?_|refine bzA ?_)); rintro e w12 ⟨⟨v12, rfl, hv12⟩, hb12⟩; (replace hBj : Below w1.heap.size w1 w12 := bthen bZ hb12); have hc12 := (bcell hb12).1; have hf12 := (bcell hb12).2; have ht12 := tcell hb12; have hla2 := hBj.size; have hs12 := hb12.size; (try simp [go_sem] at hs12); (try have qc : w11.heap.size < w12.heap.size := by omega); (try have qd : w11.heap.size + 1 < w12.heap.size := by omega); (try have qe : w1.heap.size < w12.heap.size := by omega); (try have qf : w1.heap.size + 1 < w12.heap.size := by omega); have HV12 := hZ hv12; obtain ⟨n12, a12, c12, l12, rfl, -⟩ := hv12; unfold iv at *)
   | fail)
  all_goals
   go_wp2_with fail
   go_meet
   refine (fun hbx => ⟨_, _, rfl, rfl, by omega, by omega, by omega, hZ ⟨?_, n11, a11, l11.length, c11, ?_, ?_, ?_, ?_, HV11.out.lim ?_⟩, hZ ⟨?_, n12, a12, l12.length, c12, ?_, ?_, ?_, ?_, HV12.out.lim ?_⟩, hbx⟩ : Below w1.heap.size w1 _ → _) ?_
   all_goals first
    | (simp (disch := (first | (simp; done) | (simp; omega) | omega)) only [typ_set, typ_alloc_eq, typ_alloc_lt, ht12, ht11, typ_drew]; done)
    | (with_reducible show Lim _ _; (repeat (first | exact Lim.refl _ | exact Lim.of_below hb12 | refine Lim.below ?_ hb12 | refine Lim.alloc ?_ _ | refine Lim.drew ?_ | (refine Lim.setT (t := 50) ?_ ?tt (by decide) _; case tt => (simp (disch := (first | (simp; done) | (simp; omega) | omega)) only [typ_set, typ_alloc_eq, typ_alloc_lt, ht12, ht11, typ_drew]; done)))); done)
    | (simp [go_sem, *]; done)
    | ((repeat' (first | exact Below.refl _ _ | exact hBj | refine Below.drew ?_ | refine below_drewN ?_ _ | refine bal ?_ _ | refine bset ?_ ?_ _ | exact hla1 | exact Nat.le_trans hla1 (Nat.le_succ _) | exact hla2 | exact Nat.le_trans hla2 (Nat.le_succ _) | exact Nat.le_refl _ | exact Nat.le_succ _)); done)
    | ((repeat (refine cell_far ?_ ?b _; case b => (first | (simp; done) | (simp; omega)))); (first | (refine cell_here (v := .bool false) ?_ _; (repeat (refine cell_far ?_ ?b _; case b => (first | (simp; done) | (simp; omega)))); (simp [go_sem, *]; done)) | (refine cell_here (v := .slice none 0 0) ?_ _; (repeat (refine cell_far ?_ ?b _; case b => (first | (simp; done) | (simp; omega)))); (simp [go_sem, *]; done))))
 case rest =>
  obtain ⟨ab, bb, rfl, rfl, hne, hla, hlb, hA, hBv, hbx⟩ := hcut
  have HB5 := hZ (bthen hB1 hbx)
  obtain ⟨-, na, aa, la, ca, a0, a1', -, -, aI⟩ := hA.out
  obtain ⟨-, nb, ba, lb, cb, b0, b1', -, -, bI⟩ := hBv.out
  have HAI := hZ aI
  have HBI := hZ bI
  obtain ⟨x0, x1, x2, x3, y0, y1, y2, y3⟩ := HXY.out wc hbx
  have HRC := hZ (show wc.cell? ⟨w.heap.size + 1 + 1, 0, none⟩ = some (.bool false) ∧ wc.cell? ⟨w.heap.size + 1 + 1, 1, none⟩ = some (.slice none 0 0) ∧ wc.cell? ⟨w.heap.size + 1 + 1, 2, none⟩ = some (.bool false) ∧ wc.cell? ⟨w.heap.size + 1 + 1, 3, none⟩ = some (.slice none 0 0) ∧ wc.frozen? ⟨w.heap.size + 1 + 1, 0, none⟩ = false ∧ wc.frozen? ⟨w.heap.size + 1 + 1, 1, none⟩ = false ∧ wc.frozen? ⟨w.heap.size + 1 + 1, 2, none⟩ = false ∧ wc.frozen? ⟨w.heap.size + 1 + 1, 3, none⟩ = false from ⟨bkeep hbx HC1.out.2.2.2.2.2.2.2.2.1, bkeep hbx HC1.out.2.2.2.2.2.2.2.2.2.1, bkeep hbx HC1.out.2.2.2.2.2.2.2.2.2.2.1, bkeep hbx HC1.out.2.2.2.2.2.2.2.2.2.2.2.1, bkeepf hbx HC1.out.2.2.2.2.2.2.2.2.1 HC1.out.2.2.2.2.2.2.2.2.2.2.2.2.1, bkeepf hbx HC1.out.2.2.2.2.2.2.2.2.2.1 HC1.out.2.2.2.2.2.2.2.2.2.2.2.2.2.1, bkeepf hbx HC1.out.2.2.2.2.2.2.2.2.2.2.1 HC1.out.2.2.2.2.2.2.2.2.2.2.2.2.2.2.1, bkeepf hbx HC1.out.2.2.2.2.2.2.2.2.2.2.2.1 HC1.out.2.2.2.2.2.2.2.2.2.2.2.2.2.2.2⟩)
  have HS := hZ (show ∀ V, Below wc.heap.size wc V → V.cell? ⟨w.heap.size, 0, none⟩ = some (.bool n1) ∧ V.cell? ⟨w.heap.size, 1, none⟩ = some (.slice a1 l1 c1) ∧ V.cell? ⟨w.heap.size + 1, 0, none⟩ = some (.bool n3) ∧ V.cell? ⟨w.heap.size + 1, 1, none⟩ = some (.slice a3 l3 c3) ∧ V.cell? ⟨ab, 0, none⟩ = some (.bool na) ∧ V.cell? ⟨ab, 1, none⟩ = some (.slice aa la ca) ∧ V.cell? ⟨bb, 0, none⟩ = some (.bool nb) ∧ V.cell? ⟨bb, 1, none⟩ = some (.slice ba lb cb) from fun V q => ⟨bkeep q x0, bkeep q x1, bkeep q y0, bkeep q y1, bkeep q a0, bkeep q a1', bkeep q b0, bkeep q b1'⟩)
  have hs1 : w.heap.size + 1 + 1 < w1.heap.size := zr0
  have HSF := hZ (show ∀ V, Below wc.heap.size wc V → ∀ u0 u1 u2 u3, (st4 V (w.heap.size + 1 + 1) u0 u1 u2 u3).cell? ⟨w.heap.size, 0, none⟩ = some (.bool n1) ∧ (st4 V (w.heap.size + 1 + 1) u0 u1 u2 u3).cell? ⟨w.heap.size, 1, none⟩ = some (.slice a1 l1 c1) ∧ (st4 V (w.heap.size + 1 + 1) u0 u1 u2 u3).cell? ⟨w.heap.size + 1, 0, none⟩ = some (.bool n3) ∧ (st4 V (w.heap.size + 1 + 1) u0 u1 u2 u3).cell? ⟨w.heap.size + 1, 1, none⟩ = some (.slice a3 l3 c3) ∧ (st4 V (w.heap.size + 1 + 1) u0 u1 u2 u3).cell? ⟨ab, 0, none⟩ = some (.bool na) ∧ (st4 V (w.heap.size + 1 + 1) u0 u1 u2 u3).cell? ⟨ab, 1, none⟩ = some (.slice aa la ca) ∧ (st4 V (w.heap.size + 1 + 1) u0 u1 u2 u3).cell? ⟨bb, 0, none⟩ = some (.bool nb) ∧ (st4 V (w.heap.size + 1 + 1) u0 u1 u2 u3).cell? ⟨bb, 1, none⟩ = some (.slice ba lb cb) from fun V q u0 u1 u2 u3 => by
   obtain ⟨x0, x1, y0, y1, a0, a1, b0, b1⟩ := HS.out V q
   exact ⟨far4 x0 (by omega) _ _ _ _, far4 x1 (by omega) _ _ _ _, far4 y0 (by omega) _ _ _ _, far4 y1 (by omega) _ _ _ _, far4 a0 (by omega) _ _ _ _, far4 a1 (by omega) _ _ _ _, far4 b0 (by omega) _ _ _ _, far4 b1 (by omega) _ _ _ _⟩)
  have zx := cell_lt x0
  have zy := cell_lt y0
  have za := cell_lt a0
  have zb := cell_lt b0
  have hBw := Below.refl wc.heap.size wc
  clear aI bI hA hBv hbx hB1 HXY HC1 DX DY x2 x3 y2 y3 r0 zr0
  go_upto_region 2 with (fail)
  go_region_held3 (fun V => V.cell? ⟨w.heap.size, 0, none⟩ = some (.bool n1) ∧ V.cell? ⟨w.heap.size, 1, none⟩ = some (.slice a1 l1 c1) ∧ V.cell? ⟨w.heap.size + 1, 0, none⟩ = some (.bool n3) ∧ V.cell? ⟨w.heap.size + 1, 1, none⟩ = some (.slice a3 l3 c3) ∧ V.cell? ⟨ab, 0, none⟩ = some (.bool na) ∧ V.cell? ⟨ab, 1, none⟩ = some (.slice aa la ca) ∧ V.cell? ⟨bb, 0, none⟩ = some (.bool nb) ∧ V.cell? ⟨bb, 1, none⟩ = some (.slice ba lb cb))
   (first | (with_reducible refine HSF.out _ ?_ _ _ _ _; (repeat (first|exact bzR _ _|exact hBw|refine bzD ?_|refine bzN ?_|refine bzS ?_|refine bzA ?_)); done) | (refine HS.out _ ?_; (repeat (first|exact bzR _ _|exact hBw|refine bzD ?_|refine bzN ?_|refine bzS ?_|refine bzA ?_)); done) | fail)
   (first
   | (go_at_call 51; (with_reducible show Calls _ _ #[(.agg #[.bool n1, .slice a1 l1 c1]), .agg #[.bool nb, .slice ba lb cb]] _ _); refine (P1.out _ _ (bthen HB5.out ?_) (HBI.out.keep ?_)).mono ?_; (repeat (first|exact bzR _ _|exact hBw|refine bzD ?_|refine bzN ?_|refine bzS ?_|refine bzA ?_)); (repeat (first|exact bzR _ _|exact hBw|refine bzD ?_|refine bzN ?_|refine bzS ?_|refine bzA ?_)); rintro e w6 ⟨⟨u6, rfl, hu6⟩, hb6⟩; (replace hBw : Below wc.heap.size wc w6 := bthen bZ hb6); have HU6 := hZ hu6; have hy6 := Below.refl w6.heap.size w6; obtain ⟨pn6, pa6, pl6, pc6, rfl⟩ := hu6.lit)
   | (go_at_call 51; (with_reducible show Calls _ _ #[(.agg #[.bool n3, .slice a3 l3 c3]), .agg #[.bool na, .slice aa la ca]] _ _); refine (P2.out _ _ (bthen HB5.out ?_) (HAI.out.keep ?_)).mono ?_; (repeat (first|exact bzR _ _|exact hBw|refine bzD ?_|refine bzN ?_|refine bzS ?_|refine bzA ?_)); (repeat (first|exact bzR _ _|exact hBw|refine bzD ?_|refine bzN ?_|refine bzS ?_|refine bzA ?_)); rintro e w7 ⟨⟨u7, rfl, hu7⟩, hb7⟩; (replace hBw : Below wc.heap.size wc w7 := bthen bZ hb7); (replace hy6 : Below w6.heap.size w6 w7 := bthen bZ hb7); have HU7 := hZ hu7; have hy7 := Below.refl w7.heap.size w7; obtain ⟨pn7, pa7, pl7, pc7, rfl⟩ := hu7.lit)
   | (go_at_call 37; refine (AD.out _ _ _ (HU6.out.keep ?_) (HU7.out.keep ?_)).mono ?_; (repeat (first|exact bzR _ _|exact hy6|refine bzD ?_|refine bzN ?_|refine bzS ?_|refine bzA ?_)); (repeat (first|exact bzR _ _|exact hy7|refine bzD ?_|refine bzN ?_|refine bzS ?_|refine bzA ?_)); rintro e w9 ⟨⟨u9, rfl, hu9⟩, hb9⟩; (replace hBw : Below wc.heap.size wc w9 := bthen bZ hb9); (replace hy6 : Below w6.heap.size w6 w9 := bthen bZ hb9); (replace hy7 : Below w7.heap.size w7 w9 := bthen bZ hb9); have HU9 := hZ hu9; have hy9 := Below.refl w9.heap.size w9; obtain ⟨pn9, pa9, pl9, pc9, rfl⟩ := hu9.lit)
   | (go_at_call 51; refine (P3.out _ _ _ (HAI.out.keep ?_) (HBI.out.keep ?_)).mono ?_; (repeat (first|exact bzR _ _|exact hBw|refine bzD ?_|refine bzN ?_|refine bzS ?_|refine bzA ?_)); (repeat (first|exact bzR _ _|exact hBw|refine bzD ?_|refine bzN ?_|refine bzS ?_|refine bzA ?_)); rintro e w10 ⟨⟨u10, rfl, hu10⟩, hb10⟩; (replace hBw : Below wc.heap.size wc w10 := bthen bZ hb10); (replace hy9 : Below w9.heap.size w9 w10 := bthen bZ hb10); have HU10 := hZ hu10; have hy10 := Below.refl w10.heap.size w10; obtain ⟨pn10, pa10, pl10, pc10, rfl⟩ := hu10.lit)
   | (go_at_call 126; refine (LW.out _ _ _ (HU9.out.keep ?_) (HU10.out.keep ?_)).mono ?_; (repeat (first|exact bzR _ _|exact hy9|refine bzD ?_|refine bzN ?_|refine bzS ?_|refine bzA ?_)); (repeat (first|exact bzR _ _|exact hy10|refine bzD ?_|refine bzN ?_|refine bzS ?_|refine bzA ?_)); rintro e w8 ⟨⟨u8, rfl, hu8⟩, hb8⟩; (replace hBw : Below wc.heap.size wc w8 := bthen bZ hb8); have HU8 := hZ hu8; have hy8 := Below.refl w8.heap.size w8; have r0f := bkeepf hBw HRC.out.1 HRC.out.2.2.2.2.1; have r0 := bkeep hBw HRC.out.1; have r1f := bkeepf hBw HRC.out.2.1 HRC.out.2.2.2.2.2.1; have r1 := bkeep hBw HRC.out.2.1; have r2f := bkeepf hBw HRC.out.2.2.1 HRC.out.2.2.2.2.2.2.1; have r2 := bkeep hBw HRC.out.2.2.1; have r3f := bkeepf hBw HRC.out.2.2.2.1 HRC.out.2.2.2.2.2.2.2; have r3 := bkeep hBw HRC.out.2.2.2.1; have zr := cell_lt r0; obtain ⟨m1, b1, k1, d1, m2, b2, k2, d2, rfl, -, -⟩ := hu8)
   | fail)
  all_goals
   have HQ := hZ (IsQP.put4 HU8.out r0 r1 r2 r3 (.bool m1) (.slice b1 k1 d1) (.bool m2) (.slice b2 k2 d2))
   have hBf := bthen HB5.out hBw
   clear HRC HS HSF x0 x1 y0 y1
   go_wp2
   refine bodyPost_ret (v := .agg #[.bool m1, .slice b1 k1 d1, .bool m2, .slice b2 k2 d2]) (by simp [results, Tryz.results42, go_sem, *]) rfl ⟨⟨_, rfl, ?_⟩, ?_⟩
   · first | exact HQ.out | exact HQ.out.keep (Below.refl _ _).drew
   ·
    repeat exact bZ
theorem pqSub_c (vx vy : Value) (x y : Rat) (k m : Nat) (w : World) (hx : IsQP w vx x) (hy : IsQP w vy y) (bx : BdQ k x) (by' : BdQ m y) (hk9 : k + m + 1 ≤ 17179869180) :
 Calls Tryz.prog 244 #[vx, vy] w fun e w' => (∃ v, e = .returned v ∧ IsQP w' v (x - y)) ∧ Below w.heap.size w w' := by
 obtain ⟨n1, a1, l1, c1, n2, a2, l2, c2, rfl, h1, h2⟩ := hx
 obtain ⟨n3, a3, l3, c3, n4, a4, l4, c4, rfl, h3, h4⟩ := hy
 have HX0 := hZ (show IsQP w (.agg #[.bool n1, .slice a1 l1 c1, .bool n2, .slice a2 l2 c2]) x from ⟨n1, a1, l1, c1, n2, a2, l2, c2, rfl, h1, h2⟩)
 have HY0 := hZ (show IsQP w (.agg #[.bool n3, .slice a3 l3 c3, .bool n4, .slice a4 l4 c4]) y from ⟨n3, a3, l3, c3, n4, a4, l4, c4, rfl, h3, h4⟩)
 have NG := hZ (fun V (q : Below w.heap.size w V) => pqNeg_c (.agg #[.bool n3, .slice a3 l3 c3, .bool n4, .slice a4 l4 c4]) y V (HY0.out.keep q))
 have AD := hZ (fun v V (q : Below w.heap.size w V) (hv : IsQP V v (-y)) => pqAdd_c (.agg #[.bool n1, .slice a1 l1 c1, .bool n2, .slice a2 l2 c2]) v x (-y) k m V (HX0.out.keep q) hv bx by'.neg hk9)
 rw [← Rat.sub_eq_add_neg] at AD
 clear h1 h2 h3 h4 bx by' hk9 HX0 HY0
 have hB := Below.refl w.heap.size w
 go_enter Tryz.func244, Tryz.ntmps244
 go_wp2
 refine wp_name fun w5 hW5 => ?_
 have HB5 := hZ (show Below w.heap.size w w5 by rw [hW5]; repeat (first|exact bzR _ _|exact hB|refine bzD ?_|refine bzN ?_|refine bzS ?_|refine bzA ?_))
 have HC5 := hZ (show w5.cell? ⟨w.heap.size, 0, none⟩ = some (.bool n1) ∧ w5.cell? ⟨w.heap.size, 1, none⟩ = some (.slice a1 l1 c1) ∧ w5.cell? ⟨w.heap.size, 2, none⟩ = some (.bool n2) ∧ w5.cell? ⟨w.heap.size, 3, none⟩ = some (.slice a2 l2 c2) ∧ w5.cell? ⟨w.heap.size + 1, 0, none⟩ = some (.bool n3) ∧ w5.cell? ⟨w.heap.size + 1, 1, none⟩ = some (.slice a3 l3 c3) ∧ w5.cell? ⟨w.heap.size + 1, 2, none⟩ = some (.bool n4) ∧ w5.cell? ⟨w.heap.size + 1, 3, none⟩ = some (.slice a4 l4 c4) ∧ w5.cell? ⟨w.heap.size + 1 + 1, 0, none⟩ = some (.bool false) ∧ w5.cell? ⟨w.heap.size + 1 + 1, 1, none⟩ = some (.slice none 0 0) ∧ w5.cell? ⟨w.heap.size + 1 + 1, 2, none⟩ = some (.bool false) ∧ w5.cell? ⟨w.heap.size + 1 + 1, 3, none⟩ = some (.slice none 0 0) ∧ w5.frozen? ⟨w.heap.size + 1 + 1, 0, none⟩ = false ∧ w5.frozen? ⟨w.heap.size + 1 + 1, 1, none⟩ = false ∧ w5.frozen? ⟨w.heap.size + 1 + 1, 2, none⟩ = false ∧ w5.frozen? ⟨w.heap.size + 1 + 1, 3, none⟩ = false from by rw [hW5]; simp [go_sem])
 clear hW5 hB
 have HS := hZ (show ∀ V, Below w5.heap.size w5 V → V.cell? ⟨w.heap.size, 0, none⟩ = some (.bool n1) ∧ V.cell? ⟨w.heap.size, 1, none⟩ = some (.slice a1 l1 c1) ∧ V.cell? ⟨w.heap.size, 2, none⟩ = some (.bool n2) ∧ V.cell? ⟨w.heap.size, 3, none⟩ = some (.slice a2 l2 c2) ∧ V.cell? ⟨w.heap.size + 1, 0, none⟩ = some (.bool n3) ∧ V.cell? ⟨w.heap.size + 1, 1, none⟩ = some (.slice a3 l3 c3) ∧ V.cell? ⟨w.heap.size + 1, 2, none⟩ = some (.bool n4) ∧ V.cell? ⟨w.heap.size + 1, 3, none⟩ = some (.slice a4 l4 c4) from fun V q => ⟨bkeep q HC5.out.1, bkeep q HC5.out.2.1, bkeep q HC5.out.2.2.1, bkeep q HC5.out.2.2.2.1, bkeep q HC5.out.2.2.2.2.1, bkeep q HC5.out.2.2.2.2.2.1, bkeep q HC5.out.2.2.2.2.2.2.1, bkeep q HC5.out.2.2.2.2.2.2.2.1⟩)
 have HSF := hZ (show ∀ V, Below w5.heap.size w5 V → ∀ u0 u1 u2 u3, (st4 V (w.heap.size + 1 + 1) u0 u1 u2 u3).cell? ⟨w.heap.size, 0, none⟩ = some (.bool n1) ∧ (st4 V (w.heap.size + 1 + 1) u0 u1 u2 u3).cell? ⟨w.heap.size, 1, none⟩ = some (.slice a1 l1 c1) ∧ (st4 V (w.heap.size + 1 + 1) u0 u1 u2 u3).cell? ⟨w.heap.size, 2, none⟩ = some (.bool n2) ∧ (st4 V (w.heap.size + 1 + 1) u0 u1 u2 u3).cell? ⟨w.heap.size, 3, none⟩ = some (.slice a2 l2 c2) ∧ (st4 V (w.heap.size + 1 + 1) u0 u1 u2 u3).cell? ⟨w.heap.size + 1, 0, none⟩ = some (.bool n3) ∧ (st4 V (w.heap.size + 1 + 1) u0 u1 u2 u3).cell? ⟨w.heap.size + 1, 1, none⟩ = some (.slice a3 l3 c3) ∧ (st4 V (w.heap.size + 1 + 1) u0 u1 u2 u3).cell? ⟨w.heap.size + 1, 2, none⟩ = some (.bool n4) ∧ (st4 V (w.heap.size + 1 + 1) u0 u1 u2 u3).cell? ⟨w.heap.size + 1, 3, none⟩ = some (.slice a4 l4 c4) from fun V q u0 u1 u2 u3 => by
  obtain ⟨x0, x1, x2, x3, y0, y1, y2, y3⟩ := HS.out V q
  exact ⟨far4 x0 (by omega) _ _ _ _, far4 x1 (by omega) _ _ _ _, far4 x2 (by omega) _ _ _ _, far4 x3 (by omega) _ _ _ _, far4 y0 (by omega) _ _ _ _, far4 y1 (by omega) _ _ _ _, far4 y2 (by omega) _ _ _ _, far4 y3 (by omega) _ _ _ _⟩)
 have hBw := Below.refl w5.heap.size w5
 obtain ⟨x0, x1, x2, x3, y0, y1, y2, y3, -⟩ := HC5.out
 have zx := cell_lt x0
 have zy := cell_lt y0
 go_region_held3 (fun V => V.cell? ⟨w.heap.size, 0, none⟩ = some (.bool n1) ∧ V.cell? ⟨w.heap.size, 1, none⟩ = some (.slice a1 l1 c1) ∧ V.cell? ⟨w.heap.size, 2, none⟩ = some (.bool n2) ∧ V.cell? ⟨w.heap.size, 3, none⟩ = some (.slice a2 l2 c2) ∧ V.cell? ⟨w.heap.size + 1, 0, none⟩ = some (.bool n3) ∧ V.cell? ⟨w.heap.size + 1, 1, none⟩ = some (.slice a3 l3 c3) ∧ V.cell? ⟨w.heap.size + 1, 2, none⟩ = some (.bool n4) ∧ V.cell? ⟨w.heap.size + 1, 3, none⟩ = some (.slice a4 l4 c4))
  (first | (with_reducible refine HSF.out _ ?_ _ _ _ _; (repeat (first|exact bzR _ _|exact hBw|refine bzD ?_|refine bzN ?_|refine bzS ?_|refine bzA ?_)); done) | (refine HS.out _ ?_; (repeat (first|exact bzR _ _|exact hBw|refine bzD ?_|refine bzN ?_|refine bzS ?_|refine bzA ?_)); done) | fail)
  (first
   | (go_at_call 241; refine (NG.out _ (bthen HB5.out ?_)).mono ?_; (repeat (first|exact bzR _ _|exact hBw|refine bzD ?_|refine bzN ?_|refine bzS ?_|refine bzA ?_)); rintro e w6 ⟨⟨u6, rfl, hu6⟩, hb6⟩; (replace hBw : Below w5.heap.size w5 w6 := bthen bZ hb6); have HU6 := hZ hu6; have hy6 := Below.refl w6.heap.size w6; obtain ⟨pn6, pa6, pl6, pc6, pm6, pb6, pk6, pd6, rfl, -, -⟩ := hu6)
   | (go_at_call 42; refine (AD.out _ _ (bthen HB5.out ?_) (HU6.out.keep ?_)).mono ?_; (repeat (first|exact bzR _ _|exact hBw|refine bzD ?_|refine bzN ?_|refine bzS ?_|refine bzA ?_)); (repeat (first|exact bzR _ _|exact hy6|refine bzD ?_|refine bzN ?_|refine bzS ?_|refine bzA ?_)); rintro e w7 ⟨⟨u7, rfl, hu7⟩, hb7⟩; (replace hBw : Below w5.heap.size w5 w7 := bthen bZ hb7); (replace hy6 : Below w6.heap.size w6 w7 := bthen bZ hb7); have HU7 := hZ hu7; have hy7 := Below.refl w7.heap.size w7; have r0f := bkeepf hBw HC5.out.2.2.2.2.2.2.2.2.1 HC5.out.2.2.2.2.2.2.2.2.2.2.2.2.1; have r0 := bkeep hBw HC5.out.2.2.2.2.2.2.2.2.1; have r1f := bkeepf hBw HC5.out.2.2.2.2.2.2.2.2.2.1 HC5.out.2.2.2.2.2.2.2.2.2.2.2.2.2.1; have r1 := bkeep hBw HC5.out.2.2.2.2.2.2.2.2.2.1; have r2f := bkeepf hBw HC5.out.2.2.2.2.2.2.2.2.2.2.1 HC5.out.2.2.2.2.2.2.2.2.2.2.2.2.2.2.1; have r2 := bkeep hBw HC5.out.2.2.2.2.2.2.2.2.2.2.1; have r3f := bkeepf hBw HC5.out.2.2.2.2.2.2.2.2.2.2.2.1 HC5.out.2.2.2.2.2.2.2.2.2.2.2.2.2.2.2; have r3 := bkeep hBw HC5.out.2.2.2.2.2.2.2.2.2.2.2.1; have zr := cell_lt r0; obtain ⟨m1, b1, k1, d1, m2, b2, k2, d2, rfl, -, -⟩ := hu7)
   | fail)
 all_goals
  have HQ := hZ (IsQP.put4 HU7.out r0 r1 r2 r3 (.bool m1) (.slice b1 k1 d1) (.bool m2) (.slice b2 k2 d2))
  have hBf := bthen HB5.out hBw
  clear HC5 HS HSF x0 x1 x2 x3 y0 y1 y2 y3
  go_wp2
  refine bodyPost_ret (v := .agg #[.bool m1, .slice b1 k1 d1, .bool m2, .slice b2 k2 d2]) (by simp [results, Tryz.results244, go_sem, *]) rfl ⟨⟨_, rfl, ?_⟩, ?_⟩
  · first | exact HQ.out | exact HQ.out.keep (Below.refl _ _).drew
  ·
   repeat exact bZ
end
section
open Num
attribute [local go_sem ↓] Go.wp_at_zero Go.wp_at_succ
theorem ba_app (a b : List UInt8) : (⟨a.toArray⟩ : ByteArray) ++ ⟨b.toArray⟩ = ⟨(a ++ b).toArray⟩ := by
 apply ByteArray.ext
 simp [ByteArray.data_append]
end
section
open Num
theorem natTxt_len {n k : Nat} (h : n < 2 ^ k) : (natTxt n).length ≤ k + 1 := by
 unfold natTxt
 split
 · simp
 · have := lowD_len k n h
   unfold asc
   simp
   omega
theorem intTxt_len {z : Int} {k : Nat} (h : Bd k z) : (intTxt z).length ≤ k + 2 := by
 have := natTxt_len (n := z.natAbs) (k := k) h
 unfold intTxt
 rw [List.length_append]
 split <;> simp <;> omega
end
section
open Num
attribute [local go_sem ↓] Go.wp_at_zero Go.wp_at_succ
def qTxt (q : Rat) : List UInt8 := if q.den = 1 then intTxt q.num else intTxt q.num ++ [47] ++ intTxt (q.den : Int)
theorem qTxt_one {q : Rat} (h : q.den = 1) : qTxt q = intTxt q.num := if_pos h
theorem qTxt_two {q : Rat} (h : q.den ≠ 1) : qTxt q = intTxt q.num ++ [47] ++ intTxt (q.den : Int) := if_neg h
theorem pqWhole_c (vn : Value) (n : Int) (w : World) (hn : IsInt w vn n) :
 Calls Tryz.prog 39 #[vn] w fun e w' => (∃ v, e = .returned v ∧ IsQP w' v (n : Rat)) ∧ Below w.heap.size w w' := by
 have HN := hZ hn
 obtain ⟨nn, na, nl, nc, rfl⟩ := hn.lit
 have HQ := hZ (fun V (q : Below w.heap.size w V) => (show IsQP V (.agg #[.bool nn, .slice na nl nc, .bool false, .slice none 0 0]) (n : Rat) from
  ⟨nn, na, nl, nc, false, none, 0, 0, rfl, by rw [(whole_num n).1]; exact HN.out.keep q, by rw [(whole_num n).2]; exact isInt_zero V⟩))
 clear hn
 have hB := Below.refl w.heap.size w
 go_enter Tryz.func39, Tryz.ntmps39
 go_wp2
 refine bodyPost_ret (v := .agg #[.bool nn, .slice na nl nc, .bool false, .slice none 0 0]) (by simp [results, Tryz.results39, go_sem]) rfl ⟨⟨_, rfl, ?_⟩, ?_⟩
 · exact HQ.out _ bZ
 ·
  repeat exact bZ
theorem den_one (x : Rat) : decide (x.den = 1) = (((x.den : Int) - 1).sign == 0) := by
 by_cases h : x.den = 1
 · rw [h]; rfl
 · have : ¬ ((x.den : Int) - 1).sign = 0 := fun e => h (by have := Int.sign_eq_zero_iff_zero.1 e; omega)
   rw [decide_eq_false h]
   simpa using this
theorem pqIsWhole_c (v : Value) (x : Rat) (w : World) (hx : IsQP w v x) : Calls Tryz.prog 141 #[v] w fun e w' => e = .returned (.bool (decide (x.den = 1))) ∧ Below w.heap.size w w' := by
 rw [den_one]
 obtain ⟨n1, a1, l1, c1, n2, a2, l2, c2, rfl, h1, h2⟩ := hx
 have SC := hZ (fun V (q : Below w.heap.size w V) => sign_c (.agg #[.bool n2, .slice a2 l2 c2]) _ V (h2.keep q))
 obtain ⟨z, hz⟩ : ∃ z, ((x.den : Int) - 1).sign = z := ⟨_, rfl⟩
 rw [hz] at SC ⊢
 clear h1 h2 hz
 have hB := Below.refl w.heap.size w
 go_enter Tryz.func141, Tryz.ntmps141
 go_wp2_with fail
 (with_reducible refine (SC.out _ ?_).mono ?_); (repeat (first|exact bzR _ _|exact hB|refine bzD ?_|refine bzN ?_|refine bzS ?_|refine bzA ?_))
 rintro e w1 ⟨rfl, hb1⟩
 have hB1 : Below w.heap.size w w1 := bthen bZ hb1
 clear SC hb1
 go_wp2
 go_ret
 exact ⟨rfl, bZ⟩
theorem pqText_c (v : Value) (x : Rat) (k : Nat) (w : World) (hx : IsQP w v x) (bx : BdQ k x) (hk : k ≤ 1000000000) : Calls Tryz.prog 53 #[v] w fun e w' => e = .returned (.string ⟨(qTxt x).toArray⟩) ∧ Below w.heap.size w w' := by
 have WC := hZ (fun V (q : Below w.heap.size w V) => pqIsWhole_c v x V (hx.keep q))
 have DC := hZ (fun V (q : Below w.heap.size w V) => pqDen_c v x k V (hx.keep q) bx (by omega))
 obtain ⟨n1, a1, l1, c1, n2, a2, l2, c2, rfl, h1, h2⟩ := hx
 have TC := hZ (fun V (q : Below w.heap.size w V) => intText_c (.agg #[.bool n1, .slice a1 l1 c1]) _ k V (h1.keep q) bx.1 (by omega))
 have TD := hZ (fun u V (hu : IsInt V u (x.den : Int)) => intText_c u _ k V hu bx.2 (by omega))
 have hl1 := intTxt_len bx.1
 have hl2 := intTxt_len bx.2
 have hB := Below.refl w.heap.size w
 by_cases hd : x.den = 1
 · rw [qTxt_one hd]
   rw [decide_eq_true hd] at WC
   obtain ⟨T, hT⟩ : ∃ T, intTxt x.num = T := ⟨_, rfl⟩
   rw [hT] at TC ⊢
   clear h1 h2 bx hd TD DC hl1 hl2 hT
   go_enter Tryz.func53, Tryz.ntmps53
   go_wp2_with fail
   (with_reducible refine (TC.out _ ?_).mono ?_); (repeat (first|exact bzR _ _|exact hB|refine bzD ?_|refine bzN ?_|refine bzS ?_|refine bzA ?_))
   rintro e w1 ⟨rfl, hb1⟩
   have x0 : w1.cell? ⟨w.heap.size, 0, none⟩ = some (.bool n1) := bkc hb1
   have zx0 := cell_lt x0
   have x1 : w1.cell? ⟨w.heap.size, 1, none⟩ = some (.slice a1 l1 c1) := bkc hb1
   have x2 : w1.cell? ⟨w.heap.size, 2, none⟩ = some (.bool n2) := bkc hb1
   have x3 : w1.cell? ⟨w.heap.size, 3, none⟩ = some (.slice a2 l2 c2) := bkc hb1
   have hB : Below w.heap.size w w1 := bthen bZ hb1
   have hz := hB.size
   clear TC hb1
   go_wp2_with fail
   (with_reducible refine (WC.out _ ?_).mono ?_); (repeat (first|exact bzR _ _|exact hB|refine bzD ?_|refine bzN ?_|refine bzS ?_|refine bzA ?_))
   rintro e w2 ⟨rfl, hb2⟩
   have hB2 : Below w.heap.size w w2 := bthen bZ hb2
   clear WC hb2
   go_wp2
   go_ret
   exact ⟨rfl, bZ⟩
 · have HQT := hZ (qTxt_two hd)
   rw [decide_eq_false hd] at WC
   obtain ⟨T, hT⟩ : ∃ T, intTxt x.num = T := ⟨_, rfl⟩
   obtain ⟨D, hD⟩ : ∃ D, intTxt (x.den : Int) = D := ⟨_, rfl⟩
   rw [hT] at TC HQT hl1
   rw [hD] at TD HQT hl2
   rw [HQT.out]
   have hs1 : ¬ 9223372036854775807 < 1 + D.length := by omega
   have hs2 : ¬ 9223372036854775807 < T.length + (1 + D.length) := by omega
   have HS := hZ (show (⟨T.toArray⟩ : ByteArray) ++ ((⟨#[47]⟩ : ByteArray) ++ ⟨D.toArray⟩) = ⟨(T ++ [47] ++ D).toArray⟩ from by
    rw [show (⟨#[47]⟩ : ByteArray) = ⟨([47] : List UInt8).toArray⟩ from rfl, ba_app, ba_app, List.append_assoc])
   clear h1 h2 bx hd hT hD HQT hl1 hl2
   go_enter Tryz.func53, Tryz.ntmps53
   go_wp2_with fail
   (with_reducible refine (TC.out _ ?_).mono ?_); (repeat (first|exact bzR _ _|exact hB|refine bzD ?_|refine bzN ?_|refine bzS ?_|refine bzA ?_))
   rintro e w1 ⟨rfl, hb1⟩
   have x0 : w1.cell? ⟨w.heap.size, 0, none⟩ = some (.bool n1) := bkc hb1
   have zx0 := cell_lt x0
   have x1 : w1.cell? ⟨w.heap.size, 1, none⟩ = some (.slice a1 l1 c1) := bkc hb1
   have x2 : w1.cell? ⟨w.heap.size, 2, none⟩ = some (.bool n2) := bkc hb1
   have x3 : w1.cell? ⟨w.heap.size, 3, none⟩ = some (.slice a2 l2 c2) := bkc hb1
   have hB : Below w.heap.size w w1 := bthen bZ hb1
   have hz := hB.size
   clear TC hb1
   go_wp2_with fail
   (with_reducible refine (WC.out _ ?_).mono ?_); (repeat (first|exact bzR _ _|exact hB|refine bzD ?_|refine bzN ?_|refine bzS ?_|refine bzA ?_))
   rintro e w2 ⟨rfl, hb2⟩
   have x0 : w2.cell? ⟨w.heap.size, 0, none⟩ = some (.bool n1) := bkc hb2
   have zx0 := cell_lt x0
   have x1 : w2.cell? ⟨w.heap.size, 1, none⟩ = some (.slice a1 l1 c1) := bkc hb2
   have x2 : w2.cell? ⟨w.heap.size, 2, none⟩ = some (.bool n2) := bkc hb2
   have x3 : w2.cell? ⟨w.heap.size, 3, none⟩ = some (.slice a2 l2 c2) := bkc hb2
   have hB : Below w.heap.size w w2 := bthen bZ hb2
   have hz := hB.size
   clear WC hb2
   go_wp2_with fail
   (with_reducible refine (DC.out _ ?_).mono ?_); (repeat (first|exact bzR _ _|exact hB|refine bzD ?_|refine bzN ?_|refine bzS ?_|refine bzA ?_))
   rintro e w3 ⟨⟨u3, rfl, hu3⟩, hb3⟩
   have hB3 : Below w.heap.size w w3 := bthen bZ hb3
   have TD3 := hZ (fun V (q : Below w3.heap.size w3 V) => TD.out u3 V (hu3.keep q))
   have hBw3 := Below.refl w3.heap.size w3
   obtain ⟨pn, pa, pl, pc, rfl⟩ := hu3.lit
   clear DC hb3 TD hu3
   go_wp2_with fail
   (with_reducible refine (TD3.out _ ?_).mono ?_); (repeat (first|exact bzR _ _|exact hBw3|refine bzD ?_|refine bzN ?_|refine bzS ?_|refine bzA ?_))
   rintro e w4 ⟨rfl, hb4⟩
   have hB4 : Below w.heap.size w w4 := bthen hB3 (bthen bZ hb4)
   clear TD3 hb4 hBw3
   go_wp2
   go_ret
   refine ⟨?_, bZ⟩
   have hs := HS.out
   first | rfl | (simp only [hs]; done) | (rw [hs]; rfl)
end
end Go.Proofs.YtbmaffijncapiaaGreatDoor
