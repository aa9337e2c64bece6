/- Texts of this seat, laid together: QrC, MwM, Rdt, MwN, MwO, MwP, MwQ. Each opens with its own remark, which says what it proves, and under which conditions. -/
import Derived.Test.YtbmaffijncapiaaGreatDoorD28
import Derived.Test.YtbmaffijncapiaaGreatDoorD27
import Derived.Test.YtbmaffijncapiaaGreatDoorD04
import Derived.Test.YtbmaffijncapiaaGreatDoorD24
import Derived.Test.YtbmaffijncapiaaGreatDoorD26
set_option linter.unusedVariables false
set_option linter.unusedSimpArgs false
/- The reference: Mul, Over, Add of fractions. -/
namespace Go.Proofs.YtbmaffijncapiaaGreatDoor
open Num
open Go.ChangeShapes Go.WideShapes Go.ChangeAt Go.RowKit
set_option linter.unusedVariables false
set_option linter.unusedSimpArgs false
attribute [local go_sem ↓] Go.wp_at_zero Go.wp_at_succ
theorem far4 {w : World} {b g i : Nat} {v : Value} (h : w.cell? ⟨b, i, none⟩ = some v) (hne : b ≠ g) (u0 u1 u2 u3 : Value) : ((((w.setCell ⟨g, 0, none⟩ u0).setCell ⟨g, 1, none⟩ u1).setCell ⟨g, 2, none⟩ u2).setCell ⟨g, 3, none⟩ u3).cell? ⟨b, i, none⟩ = some v :=
  cell_far (cell_far (cell_far (cell_far h (addr_ne (Ne.symm hne)) _) (addr_ne (Ne.symm hne)) _) (addr_ne (Ne.symm hne)) _) (addr_ne (Ne.symm hne)) _
theorem rqMk_mul (x y : Rat) (k m : Nat) (bx : BdQ k x) (by' : BdQ m y) (hk : k + m ≤ 17179869180) (u v : Value) (V : World) (hu : IsRef V u (x.num * y.num)) (hv : IsRef V v ((x.den : Int) * (y.den : Int))) :
    Calls Tryz.prog 46 #[u, v] V fun e w' => (∃ z, e = .returned z ∧ IsQR w' z (x * y)) ∧ Below V.heap.size V w' := by
  rw [q_mul]
  exact rqMake_c u v _ _ (k + m) V hu hv (bx.1.mul by'.1) (bx.2.mul by'.2) hk (Int.mul_ne_zero (by have := den_pos x; omega) (by have := den_pos y; omega))
theorem rqMk_div (x y : Rat) (k m : Nat) (bx : BdQ k x) (by' : BdQ m y) (hk : k + m ≤ 17179869180) (h0 : y ≠ 0) (u v : Value) (V : World) (hu : IsRef V u (x.num * (y.den : Int))) (hv : IsRef V v ((x.den : Int) * y.num)) :
    Calls Tryz.prog 46 #[u, v] V fun e w' => (∃ z, e = .returned z ∧ IsQR w' z (x / y)) ∧ Below V.heap.size V w' := by
  rw [q_div]
  exact rqMake_c u v _ _ (k + m) V hu hv (bx.1.mul by'.2) (bx.2.mul by'.1) hk (Int.mul_ne_zero (by have := den_pos x; omega) (num_ne h0))
set_option maxRecDepth 100000 in
set_option maxHeartbeats 16000000 in
theorem rqMul_c (vx vy : Value) (x y : Rat) (k m : Nat) (w : World) (hx : IsQR w vx x) (hy : IsQR w vy y) (bx : BdQ k x) (by' : BdQ m y) (hk9 : k + m ≤ 17179869180) (h0 : 0 = 0) :
    Calls Tryz.prog 153 #[vx, vy] w fun e w' => (∃ v, e = .returned v ∧ IsQR w' v (x * y)) ∧ Below w.heap.size w w' := by
  obtain ⟨n1, a1, l1, c1, n2, a2, l2, c2, rfl, h1, h2⟩ := hx
  obtain ⟨n3, a3, l3, c3, n4, a4, l4, c4, rfl, h3, h4⟩ := hy
  have P1 := Lib.hid (fun V (q : Below w.heap.size w V) => rmul_c (.agg #[.bool n1, .slice a1 l1 c1]) (.agg #[.bool n3, .slice a3 l3 c3]) _ _ k m V (h1.keep q) (h3.keep q) bx.1 by'.1 (by omega) (by omega))
  have P2 := Lib.hid (fun V (q : Below w.heap.size w V) => rmul_c (.agg #[.bool n2, .slice a2 l2 c2]) (.agg #[.bool n4, .slice a4 l4 c4]) _ _ k m V (h2.keep q) (h4.keep q) bx.2 by'.2 (by omega) (by omega))
  have MK := Lib.hid (rqMk_mul x y k m bx by' hk9)
  clear h1 h2 h3 h4 bx by' hk9
  have hB := Below.refl w.heap.size w
  go_enter Tryz.func153, Tryz.ntmps153
  go_wp2
  refine wp_name fun w5 hW5 => ?_
  have HB5 := Lib.hid (show Below w.heap.size w w5 by rw [hW5]; repeat (first|exact bzR _ _|exact hB|refine bzD ?_|refine bzN ?_|refine bzS ?_|refine bzA ?_))
  have HC5 := Lib.hid (show (w5.cell? ⟨w.heap.size, 0, none⟩ = some (.bool n1) ∧ w5.cell? ⟨w.heap.size, 1, none⟩ = some (.slice a1 l1 c1) ∧ w5.cell? ⟨w.heap.size, 2, none⟩ = some (.bool n2) ∧ w5.cell? ⟨w.heap.size, 3, none⟩ = some (.slice a2 l2 c2) ∧ w5.cell? ⟨w.heap.size + 1, 0, none⟩ = some (.bool n3) ∧ w5.cell? ⟨w.heap.size + 1, 1, none⟩ = some (.slice a3 l3 c3) ∧ w5.cell? ⟨w.heap.size + 1, 2, none⟩ = some (.bool n4) ∧ w5.cell? ⟨w.heap.size + 1, 3, none⟩ = some (.slice a4 l4 c4)) ∧ (w5.cell? ⟨w.heap.size + 1 + 1, 0, none⟩ = some (.bool false) ∧ w5.cell? ⟨w.heap.size + 1 + 1, 1, none⟩ = some (.slice none 0 0) ∧ w5.cell? ⟨w.heap.size + 1 + 1, 2, none⟩ = some (.bool false) ∧ w5.cell? ⟨w.heap.size + 1 + 1, 3, none⟩ = some (.slice none 0 0)) ∧ (w5.frozen? ⟨w.heap.size + 1 + 1, 0, none⟩ = false ∧ w5.frozen? ⟨w.heap.size + 1 + 1, 1, none⟩ = false ∧ w5.frozen? ⟨w.heap.size + 1 + 1, 2, none⟩ = false ∧ w5.frozen? ⟨w.heap.size + 1 + 1, 3, none⟩ = false) from by rw [hW5]; simp [go_sem])
  clear hW5 hB
  have HS := Lib.hid (show ∀ V, Below w5.heap.size w5 V → V.cell? ⟨w.heap.size, 0, none⟩ = some (.bool n1) ∧ V.cell? ⟨w.heap.size, 1, none⟩ = some (.slice a1 l1 c1) ∧ V.cell? ⟨w.heap.size, 2, none⟩ = some (.bool n2) ∧ V.cell? ⟨w.heap.size, 3, none⟩ = some (.slice a2 l2 c2) ∧ V.cell? ⟨w.heap.size + 1, 0, none⟩ = some (.bool n3) ∧ V.cell? ⟨w.heap.size + 1, 1, none⟩ = some (.slice a3 l3 c3) ∧ V.cell? ⟨w.heap.size + 1, 2, none⟩ = some (.bool n4) ∧ V.cell? ⟨w.heap.size + 1, 3, none⟩ = some (.slice a4 l4 c4) from fun V q => ⟨bkeep q HC5.out.1.1, bkeep q HC5.out.1.2.1, bkeep q HC5.out.1.2.2.1, bkeep q HC5.out.1.2.2.2.1, bkeep q HC5.out.1.2.2.2.2.1, bkeep q HC5.out.1.2.2.2.2.2.1, bkeep q HC5.out.1.2.2.2.2.2.2.1, bkeep q HC5.out.1.2.2.2.2.2.2.2⟩)
  have HSF := Lib.hid (show ∀ V, Below w5.heap.size w5 V → ∀ u0 u1 u2 u3, ((((V.setCell ⟨w.heap.size + 1 + 1, 0, none⟩ u0).setCell ⟨w.heap.size + 1 + 1, 1, none⟩ u1).setCell ⟨w.heap.size + 1 + 1, 2, none⟩ u2).setCell ⟨w.heap.size + 1 + 1, 3, none⟩ u3).cell? ⟨w.heap.size, 0, none⟩ = some (.bool n1) ∧ ((((V.setCell ⟨w.heap.size + 1 + 1, 0, none⟩ u0).setCell ⟨w.heap.size + 1 + 1, 1, none⟩ u1).setCell ⟨w.heap.size + 1 + 1, 2, none⟩ u2).setCell ⟨w.heap.size + 1 + 1, 3, none⟩ u3).cell? ⟨w.heap.size, 1, none⟩ = some (.slice a1 l1 c1) ∧ ((((V.setCell ⟨w.heap.size + 1 + 1, 0, none⟩ u0).setCell ⟨w.heap.size + 1 + 1, 1, none⟩ u1).setCell ⟨w.heap.size + 1 + 1, 2, none⟩ u2).setCell ⟨w.heap.size + 1 + 1, 3, none⟩ u3).cell? ⟨w.heap.size, 2, none⟩ = some (.bool n2) ∧ ((((V.setCell ⟨w.heap.size + 1 + 1, 0, none⟩ u0).setCell ⟨w.heap.size + 1 + 1, 1, none⟩ u1).setCell ⟨w.heap.size + 1 + 1, 2, none⟩ u2).setCell ⟨w.heap.size + 1 + 1, 3, none⟩ u3).cell? ⟨w.heap.size, 3, none⟩ = some (.slice a2 l2 c2) ∧ ((((V.setCell ⟨w.heap.size + 1 + 1, 0, none⟩ u0).setCell ⟨w.heap.size + 1 + 1, 1, none⟩ u1).setCell ⟨w.heap.size + 1 + 1, 2, none⟩ u2).setCell ⟨w.heap.size + 1 + 1, 3, none⟩ u3).cell? ⟨w.heap.size + 1, 0, none⟩ = some (.bool n3) ∧ ((((V.setCell ⟨w.heap.size + 1 + 1, 0, none⟩ u0).setCell ⟨w.heap.size + 1 + 1, 1, none⟩ u1).setCell ⟨w.heap.size + 1 + 1, 2, none⟩ u2).setCell ⟨w.heap.size + 1 + 1, 3, none⟩ u3).cell? ⟨w.heap.size + 1, 1, none⟩ = some (.slice a3 l3 c3) ∧ ((((V.setCell ⟨w.heap.size + 1 + 1, 0, none⟩ u0).setCell ⟨w.heap.size + 1 + 1, 1, none⟩ u1).setCell ⟨w.heap.size + 1 + 1, 2, none⟩ u2).setCell ⟨w.heap.size + 1 + 1, 3, none⟩ u3).cell? ⟨w.heap.size + 1, 2, none⟩ = some (.bool n4) ∧ ((((V.setCell ⟨w.heap.size + 1 + 1, 0, none⟩ u0).setCell ⟨w.heap.size + 1 + 1, 1, none⟩ u1).setCell ⟨w.heap.size + 1 + 1, 2, none⟩ u2).setCell ⟨w.heap.size + 1 + 1, 3, none⟩ u3).cell? ⟨w.heap.size + 1, 3, none⟩ = some (.slice a4 l4 c4) from fun V q u0 u1 u2 u3 => by
    obtain ⟨x0, x1, x2, x3, y0, y1, y2, y3⟩ := HS.out V q
    exact ⟨far4 x0 (by omega) _ _ _ _, far4 x1 (by omega) _ _ _ _, far4 x2 (by omega) _ _ _ _, far4 x3 (by omega) _ _ _ _, far4 y0 (by omega) _ _ _ _, far4 y1 (by omega) _ _ _ _, far4 y2 (by omega) _ _ _ _, far4 y3 (by omega) _ _ _ _⟩)
  have hBw := Below.refl w5.heap.size w5
  obtain ⟨x0, x1, x2, x3, y0, y1, y2, y3⟩ := HC5.out.1
  have zx := cell_lt x0
  have zy := cell_lt y0
  go_region_held3 (fun V => V.cell? ⟨w.heap.size, 0, none⟩ = some (.bool n1) ∧ V.cell? ⟨w.heap.size, 1, none⟩ = some (.slice a1 l1 c1) ∧ V.cell? ⟨w.heap.size, 2, none⟩ = some (.bool n2) ∧ V.cell? ⟨w.heap.size, 3, none⟩ = some (.slice a2 l2 c2) ∧ V.cell? ⟨w.heap.size + 1, 0, none⟩ = some (.bool n3) ∧ V.cell? ⟨w.heap.size + 1, 1, none⟩ = some (.slice a3 l3 c3) ∧ V.cell? ⟨w.heap.size + 1, 2, none⟩ = some (.bool n4) ∧ V.cell? ⟨w.heap.size + 1, 3, none⟩ = some (.slice a4 l4 c4))
    (first | (with_reducible refine HSF.out _ ?_ _ _ _ _; (repeat (first|exact bzR _ _|exact hBw|refine bzD ?_|refine bzN ?_|refine bzS ?_|refine bzA ?_)); done) | (refine HS.out _ ?_; (repeat (first|exact bzR _ _|exact hBw|refine bzD ?_|refine bzN ?_|refine bzS ?_|refine bzA ?_)); done) | fail)
    (first
      | (go_at_call 114; (with_reducible show Calls _ _ #[(.agg #[.bool n1, .slice a1 l1 c1]), (.agg #[.bool n3, .slice a3 l3 c3])] _ _); refine (P1.out _ (bthen HB5.out ?_)).mono ?_; (repeat (first|exact bzR _ _|exact hBw|refine bzD ?_|refine bzN ?_|refine bzS ?_|refine bzA ?_)); rintro e w6 ⟨⟨u6, rfl, hu6⟩, hb6⟩; (have hBd : Below w5.heap.size w5 w6 := bthen (by repeat (first|exact bzR _ _|exact hBw|refine bzD ?_|refine bzN ?_|refine bzS ?_|refine bzA ?_)) hb6; clear hBw; have hBw := hBd; clear hBd); have HU6 := Lib.hid hu6; have hy6 := Below.refl w6.heap.size w6; obtain ⟨pn, pa, pl, pc, rfl⟩ := hu6.litR)
      | (go_at_call 114; refine (P2.out _ (bthen HB5.out ?_)).mono ?_; (repeat (first|exact bzR _ _|exact hBw|refine bzD ?_|refine bzN ?_|refine bzS ?_|refine bzA ?_)); rintro e w7 ⟨⟨u7, rfl, hu7⟩, hb7⟩; (have hBd : Below w5.heap.size w5 w7 := bthen (by repeat (first|exact bzR _ _|exact hBw|refine bzD ?_|refine bzN ?_|refine bzS ?_|refine bzA ?_)) hb7; clear hBw; have hBw := hBd; clear hBd); (have hBd : Below w6.heap.size w6 w7 := bthen (by repeat (first|exact bzR _ _|exact hy6|refine bzD ?_|refine bzN ?_|refine bzS ?_|refine bzA ?_)) hb7; clear hy6; have hy6 := hBd; clear hBd); have HU7 := Lib.hid hu7; have hy7 := Below.refl w7.heap.size w7; obtain ⟨sn, sa, sl, sc, rfl⟩ := hu7.litR)
      | (go_at_call 46; refine (MK.out _ _ _ (HU6.out.keep ?_) (HU7.out.keep ?_)).mono ?_; (repeat (first|exact bzR _ _|exact hy6|refine bzD ?_|refine bzN ?_|refine bzS ?_|refine bzA ?_)); (repeat (first|exact bzR _ _|exact hy7|refine bzD ?_|refine bzN ?_|refine bzS ?_|refine bzA ?_)); rintro e w8 ⟨⟨v8, rfl, hv8⟩, hb8⟩; (have hBd : Below w5.heap.size w5 w8 := bthen (by repeat (first|exact bzR _ _|exact hBw|refine bzD ?_|refine bzN ?_|refine bzS ?_|refine bzA ?_)) hb8; clear hBw; have hBw := hBd; clear hBd); have HV8 := Lib.hid hv8; obtain ⟨s0, s1, s2, s3⟩ := HC5.out.2.1; obtain ⟨f0, f1, f2, f3⟩ := HC5.out.2.2; have r0f := bkeepf hBw s0 f0; have r1f := bkeepf hBw s1 f1; have r2f := bkeepf hBw s2 f2; have r3f := bkeepf hBw s3 f3; have r0 := bkeep hBw s0; have r1 := bkeep hBw s1; have r2 := bkeep hBw s2; have r3 := bkeep hBw s3; have zr := cell_lt r0; clear s0 s1 s2 s3 f0 f1 f2 f3; obtain ⟨m1, b1, k1, d1, m2, b2, k2, d2, rfl, -, -⟩ := hv8)
      | fail)
  all_goals
    have HQ := Lib.hid (IsQR.put4 HV8.out r0 r1 r2 r3 (.bool m1) (.slice b1 k1 d1) (.bool m2) (.slice b2 k2 d2))
    have hBf := bthen HB5.out hBw
    clear HC5 HS HSF x0 x1 x2 x3 y0 y1 y2 y3
    go_wp2
    refine bodyPost_ret (v := .agg #[.bool m1, .slice b1 k1 d1, .bool m2, .slice b2 k2 d2]) (by simp [results, Tryz.results153, go_sem, *]) rfl ⟨⟨_, rfl, ?_⟩, ?_⟩
    · first | exact HQ.out | exact HQ.out.keep (Below.refl _ _).drew
    ·
      repeat (first|exact bzR _ _|exact hBf|refine bzD ?_|refine bzN ?_|refine bzS ?_|refine bzA ?_)
set_option maxRecDepth 100000 in
set_option maxHeartbeats 16000000 in
theorem rqOver_c (vx vy : Value) (x y : Rat) (k m : Nat) (w : World) (hx : IsQR w vx x) (hy : IsQR w vy y) (bx : BdQ k x) (by' : BdQ m y) (hk9 : k + m ≤ 17179869180) (h0 : y ≠ 0) :
    Calls Tryz.prog 221 #[vx, vy] w fun e w' => (∃ v, e = .returned v ∧ IsQR w' v (x / y)) ∧ Below w.heap.size w w' := by
  obtain ⟨n1, a1, l1, c1, n2, a2, l2, c2, rfl, h1, h2⟩ := hx
  obtain ⟨n3, a3, l3, c3, n4, a4, l4, c4, rfl, h3, h4⟩ := hy
  have P1 := Lib.hid (fun V (q : Below w.heap.size w V) => rmul_c (.agg #[.bool n1, .slice a1 l1 c1]) (.agg #[.bool n4, .slice a4 l4 c4]) _ _ k m V (h1.keep q) (h4.keep q) bx.1 by'.2 (by omega) (by omega))
  have P2 := Lib.hid (fun V (q : Below w.heap.size w V) => rmul_c (.agg #[.bool n2, .slice a2 l2 c2]) (.agg #[.bool n3, .slice a3 l3 c3]) _ _ k m V (h2.keep q) (h3.keep q) bx.2 by'.1 (by omega) (by omega))
  have MK := Lib.hid (rqMk_div x y k m bx by' hk9 h0)
  clear h1 h2 h3 h4 bx by' hk9
  have hB := Below.refl w.heap.size w
  go_enter Tryz.func221, Tryz.ntmps221
  go_wp2
  refine wp_name fun w5 hW5 => ?_
  have HB5 := Lib.hid (show Below w.heap.size w w5 by rw [hW5]; repeat (first|exact bzR _ _|exact hB|refine bzD ?_|refine bzN ?_|refine bzS ?_|refine bzA ?_))
  have HC5 := Lib.hid (show (w5.cell? ⟨w.heap.size, 0, none⟩ = some (.bool n1) ∧ w5.cell? ⟨w.heap.size, 1, none⟩ = some (.slice a1 l1 c1) ∧ w5.cell? ⟨w.heap.size, 2, none⟩ = some (.bool n2) ∧ w5.cell? ⟨w.heap.size, 3, none⟩ = some (.slice a2 l2 c2) ∧ w5.cell? ⟨w.heap.size + 1, 0, none⟩ = some (.bool n3) ∧ w5.cell? ⟨w.heap.size + 1, 1, none⟩ = some (.slice a3 l3 c3) ∧ w5.cell? ⟨w.heap.size + 1, 2, none⟩ = some (.bool n4) ∧ w5.cell? ⟨w.heap.size + 1, 3, none⟩ = some (.slice a4 l4 c4)) ∧ (w5.cell? ⟨w.heap.size + 1 + 1, 0, none⟩ = some (.bool false) ∧ w5.cell? ⟨w.heap.size + 1 + 1, 1, none⟩ = some (.slice none 0 0) ∧ w5.cell? ⟨w.heap.size + 1 + 1, 2, none⟩ = some (.bool false) ∧ w5.cell? ⟨w.heap.size + 1 + 1, 3, none⟩ = some (.slice none 0 0)) ∧ (w5.frozen? ⟨w.heap.size + 1 + 1, 0, none⟩ = false ∧ w5.frozen? ⟨w.heap.size + 1 + 1, 1, none⟩ = false ∧ w5.frozen? ⟨w.heap.size + 1 + 1, 2, none⟩ = false ∧ w5.frozen? ⟨w.heap.size + 1 + 1, 3, none⟩ = false) from by rw [hW5]; simp [go_sem])
  clear hW5 hB
  have HS := Lib.hid (show ∀ V, Below w5.heap.size w5 V → V.cell? ⟨w.heap.size, 0, none⟩ = some (.bool n1) ∧ V.cell? ⟨w.heap.size, 1, none⟩ = some (.slice a1 l1 c1) ∧ V.cell? ⟨w.heap.size, 2, none⟩ = some (.bool n2) ∧ V.cell? ⟨w.heap.size, 3, none⟩ = some (.slice a2 l2 c2) ∧ V.cell? ⟨w.heap.size + 1, 0, none⟩ = some (.bool n3) ∧ V.cell? ⟨w.heap.size + 1, 1, none⟩ = some (.slice a3 l3 c3) ∧ V.cell? ⟨w.heap.size + 1, 2, none⟩ = some (.bool n4) ∧ V.cell? ⟨w.heap.size + 1, 3, none⟩ = some (.slice a4 l4 c4) from fun V q => ⟨bkeep q HC5.out.1.1, bkeep q HC5.out.1.2.1, bkeep q HC5.out.1.2.2.1, bkeep q HC5.out.1.2.2.2.1, bkeep q HC5.out.1.2.2.2.2.1, bkeep q HC5.out.1.2.2.2.2.2.1, bkeep q HC5.out.1.2.2.2.2.2.2.1, bkeep q HC5.out.1.2.2.2.2.2.2.2⟩)
  have HSF := Lib.hid (show ∀ V, Below w5.heap.size w5 V → ∀ u0 u1 u2 u3, ((((V.setCell ⟨w.heap.size + 1 + 1, 0, none⟩ u0).setCell ⟨w.heap.size + 1 + 1, 1, none⟩ u1).setCell ⟨w.heap.size + 1 + 1, 2, none⟩ u2).setCell ⟨w.heap.size + 1 + 1, 3, none⟩ u3).cell? ⟨w.heap.size, 0, none⟩ = some (.bool n1) ∧ ((((V.setCell ⟨w.heap.size + 1 + 1, 0, none⟩ u0).setCell ⟨w.heap.size + 1 + 1, 1, none⟩ u1).setCell ⟨w.heap.size + 1 + 1, 2, none⟩ u2).setCell ⟨w.heap.size + 1 + 1, 3, none⟩ u3).cell? ⟨w.heap.size, 1, none⟩ = some (.slice a1 l1 c1) ∧ ((((V.setCell ⟨w.heap.size + 1 + 1, 0, none⟩ u0).setCell ⟨w.heap.size + 1 + 1, 1, none⟩ u1).setCell ⟨w.heap.size + 1 + 1, 2, none⟩ u2).setCell ⟨w.heap.size + 1 + 1, 3, none⟩ u3).cell? ⟨w.heap.size, 2, none⟩ = some (.bool n2) ∧ ((((V.setCell ⟨w.heap.size + 1 + 1, 0, none⟩ u0).setCell ⟨w.heap.size + 1 + 1, 1, none⟩ u1).setCell ⟨w.heap.size + 1 + 1, 2, none⟩ u2).setCell ⟨w.heap.size + 1 + 1, 3, none⟩ u3).cell? ⟨w.heap.size, 3, none⟩ = some (.slice a2 l2 c2) ∧ ((((V.setCell ⟨w.heap.size + 1 + 1, 0, none⟩ u0).setCell ⟨w.heap.size + 1 + 1, 1, none⟩ u1).setCell ⟨w.heap.size + 1 + 1, 2, none⟩ u2).setCell ⟨w.heap.size + 1 + 1, 3, none⟩ u3).cell? ⟨w.heap.size + 1, 0, none⟩ = some (.bool n3) ∧ ((((V.setCell ⟨w.heap.size + 1 + 1, 0, none⟩ u0).setCell ⟨w.heap.size + 1 + 1, 1, none⟩ u1).setCell ⟨w.heap.size + 1 + 1, 2, none⟩ u2).setCell ⟨w.heap.size + 1 + 1, 3, none⟩ u3).cell? ⟨w.heap.size + 1, 1, none⟩ = some (.slice a3 l3 c3) ∧ ((((V.setCell ⟨w.heap.size + 1 + 1, 0, none⟩ u0).setCell ⟨w.heap.size + 1 + 1, 1, none⟩ u1).setCell ⟨w.heap.size + 1 + 1, 2, none⟩ u2).setCell ⟨w.heap.size + 1 + 1, 3, none⟩ u3).cell? ⟨w.heap.size + 1, 2, none⟩ = some (.bool n4) ∧ ((((V.setCell ⟨w.heap.size + 1 + 1, 0, none⟩ u0).setCell ⟨w.heap.size + 1 + 1, 1, none⟩ u1).setCell ⟨w.heap.size + 1 + 1, 2, none⟩ u2).setCell ⟨w.heap.size + 1 + 1, 3, none⟩ u3).cell? ⟨w.heap.size + 1, 3, none⟩ = some (.slice a4 l4 c4) from fun V q u0 u1 u2 u3 => by
    obtain ⟨x0, x1, x2, x3, y0, y1, y2, y3⟩ := HS.out V q
    exact ⟨far4 x0 (by omega) _ _ _ _, far4 x1 (by omega) _ _ _ _, far4 x2 (by omega) _ _ _ _, far4 x3 (by omega) _ _ _ _, far4 y0 (by omega) _ _ _ _, far4 y1 (by omega) _ _ _ _, far4 y2 (by omega) _ _ _ _, far4 y3 (by omega) _ _ _ _⟩)
  have hBw := Below.refl w5.heap.size w5
  obtain ⟨x0, x1, x2, x3, y0, y1, y2, y3⟩ := HC5.out.1
  have zx := cell_lt x0
  have zy := cell_lt y0
  go_region_held3 (fun V => V.cell? ⟨w.heap.size, 0, none⟩ = some (.bool n1) ∧ V.cell? ⟨w.heap.size, 1, none⟩ = some (.slice a1 l1 c1) ∧ V.cell? ⟨w.heap.size, 2, none⟩ = some (.bool n2) ∧ V.cell? ⟨w.heap.size, 3, none⟩ = some (.slice a2 l2 c2) ∧ V.cell? ⟨w.heap.size + 1, 0, none⟩ = some (.bool n3) ∧ V.cell? ⟨w.heap.size + 1, 1, none⟩ = some (.slice a3 l3 c3) ∧ V.cell? ⟨w.heap.size + 1, 2, none⟩ = some (.bool n4) ∧ V.cell? ⟨w.heap.size + 1, 3, none⟩ = some (.slice a4 l4 c4))
    (first | (with_reducible refine HSF.out _ ?_ _ _ _ _; (repeat (first|exact bzR _ _|exact hBw|refine bzD ?_|refine bzN ?_|refine bzS ?_|refine bzA ?_)); done) | (refine HS.out _ ?_; (repeat (first|exact bzR _ _|exact hBw|refine bzD ?_|refine bzN ?_|refine bzS ?_|refine bzA ?_)); done) | fail)
    (first
      | (go_at_call 114; (with_reducible show Calls _ _ #[(.agg #[.bool n1, .slice a1 l1 c1]), (.agg #[.bool n4, .slice a4 l4 c4])] _ _); refine (P1.out _ (bthen HB5.out ?_)).mono ?_; (repeat (first|exact bzR _ _|exact hBw|refine bzD ?_|refine bzN ?_|refine bzS ?_|refine bzA ?_)); rintro e w6 ⟨⟨u6, rfl, hu6⟩, hb6⟩; (have hBd : Below w5.heap.size w5 w6 := bthen (by repeat (first|exact bzR _ _|exact hBw|refine bzD ?_|refine bzN ?_|refine bzS ?_|refine bzA ?_)) hb6; clear hBw; have hBw := hBd; clear hBd); have HU6 := Lib.hid hu6; have hy6 := Below.refl w6.heap.size w6; obtain ⟨pn, pa, pl, pc, rfl⟩ := hu6.litR)
      | (go_at_call 114; refine (P2.out _ (bthen HB5.out ?_)).mono ?_; (repeat (first|exact bzR _ _|exact hBw|refine bzD ?_|refine bzN ?_|refine bzS ?_|refine bzA ?_)); rintro e w7 ⟨⟨u7, rfl, hu7⟩, hb7⟩; (have hBd : Below w5.heap.size w5 w7 := bthen (by repeat (first|exact bzR _ _|exact hBw|refine bzD ?_|refine bzN ?_|refine bzS ?_|refine bzA ?_)) hb7; clear hBw; have hBw := hBd; clear hBd); (have hBd : Below w6.heap.size w6 w7 := bthen (by repeat (first|exact bzR _ _|exact hy6|refine bzD ?_|refine bzN ?_|refine bzS ?_|refine bzA ?_)) hb7; clear hy6; have hy6 := hBd; clear hBd); have HU7 := Lib.hid hu7; have hy7 := Below.refl w7.heap.size w7; obtain ⟨sn, sa, sl, sc, rfl⟩ := hu7.litR)
      | (go_at_call 46; refine (MK.out _ _ _ (HU6.out.keep ?_) (HU7.out.keep ?_)).mono ?_; (repeat (first|exact bzR _ _|exact hy6|refine bzD ?_|refine bzN ?_|refine bzS ?_|refine bzA ?_)); (repeat (first|exact bzR _ _|exact hy7|refine bzD ?_|refine bzN ?_|refine bzS ?_|refine bzA ?_)); rintro e w8 ⟨⟨v8, rfl, hv8⟩, hb8⟩; (have hBd : Below w5.heap.size w5 w8 := bthen (by repeat (first|exact bzR _ _|exact hBw|refine bzD ?_|refine bzN ?_|refine bzS ?_|refine bzA ?_)) hb8; clear hBw; have hBw := hBd; clear hBd); have HV8 := Lib.hid hv8; obtain ⟨s0, s1, s2, s3⟩ := HC5.out.2.1; obtain ⟨f0, f1, f2, f3⟩ := HC5.out.2.2; have r0f := bkeepf hBw s0 f0; have r1f := bkeepf hBw s1 f1; have r2f := bkeepf hBw s2 f2; have r3f := bkeepf hBw s3 f3; have r0 := bkeep hBw s0; have r1 := bkeep hBw s1; have r2 := bkeep hBw s2; have r3 := bkeep hBw s3; have zr := cell_lt r0; clear s0 s1 s2 s3 f0 f1 f2 f3; obtain ⟨m1, b1, k1, d1, m2, b2, k2, d2, rfl, -, -⟩ := hv8)
      | fail)
  all_goals
    have HQ := Lib.hid (IsQR.put4 HV8.out r0 r1 r2 r3 (.bool m1) (.slice b1 k1 d1) (.bool m2) (.slice b2 k2 d2))
    have hBf := bthen HB5.out hBw
    clear HC5 HS HSF x0 x1 x2 x3 y0 y1 y2 y3
    go_wp2
    refine bodyPost_ret (v := .agg #[.bool m1, .slice b1 k1 d1, .bool m2, .slice b2 k2 d2]) (by simp [results, Tryz.results221, go_sem, *]) rfl ⟨⟨_, rfl, ?_⟩, ?_⟩
    · first | exact HQ.out | exact HQ.out.keep (Below.refl _ _).drew
    ·
      repeat (first|exact bzR _ _|exact hBf|refine bzD ?_|refine bzN ?_|refine bzS ?_|refine bzA ?_)
end Go.Proofs.YtbmaffijncapiaaGreatDoor

/- the reference's Fits; both. -/
namespace Go.Proofs.YtbmaffijncapiaaGreatDoor
open Num
open Go.ChangeShapes Go.WideShapes Go.ChangeAt Go.RowKit
set_option linter.unusedVariables false
set_option linter.unusedSimpArgs false
attribute [local go_sem ↓] Go.wp_at_zero Go.wp_at_succ
set_option maxRecDepth 100000 in
set_option maxHeartbeats 8000000 in
theorem rfits_c (v : Value) (g : Grid) (w : World) (hv : RefM w v g) (hg : g.length ≤ 1099511627775) :
    Calls Tryz.prog 145 #[v] w fun e w' => e = .returned (.int .i64 (fitsE g)) ∧ Below w.heap.size w w' := by
  have HV := Lib.hid (show IsL 110 (RRow 0) 0 w v g from hv)
  obtain ⟨ga, gc, rfl, -⟩ : ∃ a c, v = .slice a g.length c ∧ True := by obtain ⟨a, c, e, _⟩ := HV.out.view; exact ⟨a, c, e, trivial⟩
  clear hv
  have hB := Below.refl w.heap.size w
  by_cases h0 : g.length = 0
  · have hE : fitsE g = 2 := by unfold fitsE; rw [if_pos (.inl h0)]
    rw [hE, h0]
    clear hE h0 HV hg
    go_enter Tryz.func145, Tryz.ntmps145
    go_wp2
    go_ret
    exact ⟨rfl, by repeat (first|exact bzR _ _|exact hB|refine bzD ?_|refine bzN ?_|refine bzS ?_|refine bzA ?_)⟩
  · obtain ⟨c', gb, go, ra, rc, e, hu, -⟩ := IsL.rrow HV.out (show 0 < g.length by omega)
    obtain ⟨rfl, -, rfl⟩ := Value.slice.inj e
    rw [Nat.add_zero] at hu
    have zu := cell_lt hu
    have HM := Lib.hid (show cols g = (g.getD 0 []).length from rfl)
    obtain ⟨m, hm⟩ : ∃ m, (g.getD 0 []).length = m := ⟨_, rfl⟩
    rw [hm] at hu HM
    obtain ⟨n, hn⟩ : ∃ n, g.length = n := ⟨_, rfl⟩
    have HN := Lib.hid hn
    rw [hn] at h0 hg ⊢
    have hn0 : ((n : Int) == 0) = false := by simp; omega
    have hn1 : (0 : Int) < (n : Int) := by omega
    obtain ⟨F, hF⟩ : ∃ F, fitsE g = F := ⟨_, rfl⟩
    have HF := Lib.hid hF
    rw [hF]
    clear e hm hn hF
    by_cases h1 : m = 0
    · have hm0 : ((m : Int) == 0) = true := by simp [h1]
      have hE : F = 2 := by rw [← HF.out]; unfold fitsE; rw [if_pos (.inr (by rw [HM.out]; exact h1))]
      rw [hE]
      clear h1 hE h0
      go_enter Tryz.func145, Tryz.ntmps145
      go_wp2
      go_ret
      exact ⟨rfl, by repeat (first|exact bzR _ _|exact hB|refine bzD ?_|refine bzN ?_|refine bzS ?_|refine bzA ?_)⟩
    · have hm0 : ((m : Int) == 0) = false := by simp; omega
      have hne : ¬ (g.length = 0 ∨ cols g = 0) := by rw [HM.out, HN.out]; omega
      by_cases h2 : 16 < n
      · have hb1 : (16 : Int) < (n : Int) := by omega
        have hE : F = 3 := by rw [← HF.out]; unfold fitsE; rw [if_neg hne, if_pos (.inl (by rw [HN.out]; exact h2))]
        rw [hE]
        clear h1 hE h0 h2 hne
        go_enter Tryz.func145, Tryz.ntmps145
        go_wp2
        go_ret
        exact ⟨rfl, by repeat (first|exact bzR _ _|exact hB|refine bzD ?_|refine bzN ?_|refine bzS ?_|refine bzA ?_)⟩
      · have hb1 : ¬ (16 : Int) < (n : Int) := by omega
        by_cases h3 : 16 < m
        · have hb2 : (16 : Int) < (m : Int) := by omega
          have hE : F = 3 := by rw [← HF.out]; unfold fitsE; rw [if_neg hne, if_pos (.inr (by rw [HM.out]; exact h3))]
          rw [hE]
          clear h1 hE h0 h2 h3 hne
          go_enter Tryz.func145, Tryz.ntmps145
          go_wp2
          go_ret
          exact ⟨rfl, by repeat (first|exact bzR _ _|exact hB|refine bzD ?_|refine bzN ?_|refine bzS ?_|refine bzA ?_)⟩
        · have hb2 : ¬ (16 : Int) < (m : Int) := by omega
          have HE := Lib.hid (show F = if ∀ i, i < g.length → (g.getD i []).length = m then 0 else 5 from by
            rw [← HF.out]; unfold fitsE; rw [if_neg hne, if_neg (by rw [HM.out, HN.out]; omega), HM.out])
          have hn16 : n ≤ 16 := by omega
          clear hne h0 h1 h2 h3 HF
          go_enter Tryz.func145, Tryz.ntmps145
          go_wp2
          go_loopw [3] (fun x wr => ∃ k : Nat, k ≤ n ∧ x = .int .i64 k ∧ Below w.heap.size w wr ∧ Hid (∀ j, j < k → (g.getD j []).length = m)) (fun x _ => n - (intOf x).toNat)
          case atStart => exact ⟨0, Nat.zero_le _, rfl, hB, Lib.hid (fun j hj => by omega)⟩
          case round =>
            obtain ⟨k, hk, rfl, hBr, hall⟩ := hrel
            by_cases hlt : k < n
            · have hltI : (k : Int) < (n : Int) := by omega
              obtain ⟨c2, gb2, go2, ra2, rc2, e2, hu2, -⟩ := IsL.rrow HV.out (i := k) (by rw [HN.out]; exact hlt)
              obtain ⟨⟨rfl, rfl⟩, -, rfl⟩ : (gb = gb2 ∧ go = go2) ∧ True ∧ gc = c2 := by
                have h := Value.slice.inj e2
                simp at h
                exact ⟨h.1, trivial, h.2⟩
              have hu3 := bkeep hBr hu2
              have hu0 := bkeep hBr hu
              have zu3 := cell_lt hu3
              have zu0 := cell_lt hu0
              obtain ⟨lk, hlk⟩ : ∃ n, (g.getD k []).length = n := ⟨_, rfl⟩
              rw [hlk] at hu3
              have HLK := Lib.hid hlk
              clear e2 hu2 hlk
              by_cases e1 : lk = m
              · subst e1
                have hq1 : ((lk : Int) != (lk : Int)) = false := by simp
                have HAL := Lib.hid (show ∀ j, j < k + 1 → (g.getD j []).length = lk from fun j hj => by
                  by_cases e : j = k
                  · subst e; exact HLK.out
                  · exact hall.out j (by omega))
                go_wp2
                go_quiet (fail)
                go_wp2
                exact ⟨⟨k + 1, hlt, by go_num, by repeat (first|exact bzR _ _|exact hBr|refine bzD ?_|refine bzN ?_|refine bzS ?_|refine bzA ?_), HAL⟩, meas hlt (by go_num) rfl⟩
              · have hq1 : ((lk : Int) != (m : Int)) = true := by simp; omega
                have hE := Lib.hid (show F = 5 from by
                  rw [HE.out, if_neg fun h => e1 (by rw [← HLK.out]; exact h k (by rw [HN.out]; exact hlt))])
                clear e1
                go_wp2
                go_quiet (fail)
                go_wp2
                go_ret
                exact ⟨by rw [hE.out]; rfl, by repeat (first|exact bzR _ _|exact hBr|refine bzD ?_|refine bzN ?_|refine bzS ?_|refine bzA ?_)⟩
            · obtain rfl : k = n := by omega
              have hE := Lib.hid (show F = 0 from by rw [HE.out, if_pos fun i hi => hall.out i (by rw [← HN.out]; exact hi)])
              go_wp2
              go_ret
              exact ⟨by rw [hE.out]; rfl, hBr⟩
def BothPost (g : Grid) (w : World) (e : Ending) (w' : World) : Prop :=
  ((g.length ≤ 64 ∧ fitsE g = 0 ∧ ∃ v r, e = .returned (.tuple #[v, r, .bool true]) ∧ IsM 0 w' v g ∧ RefM w' r g) ∨ (¬ (g.length ≤ 64 ∧ fitsE g = 0) ∧ e = .returned (.tuple #[.agg #[.slice none 0 0], .slice none 0 0, .bool false]))) ∧ Below w.heap.size w w'
set_option maxRecDepth 100000 in
set_option maxHeartbeats 8000000 in
theorem both5_c (v : Value) (g : Grid) (w : World) (hv : GridI w v g) (hg : g.length ≤ 1048576) (hl : ∀ k, k < g.length → (g.getD k []).length ≤ 1048576) :
    Calls Tryz.prog 59 #[v] w (BothPost g w) := by
  have HV := Lib.hid hv
  have HL := Lib.hid hl
  obtain ⟨ga, gc, rfl, -⟩ := hv
  have GC := Lib.hid (fun W (q : Below w.heap.size w W) => grid5_c (.slice ga g.length gc) g W (HV.out.keep q) hg hl)
  have RC := Lib.hid (fun W (q : Below w.heap.size w W) => rows5_c (.slice ga g.length gc) g W (HV.out.keep q) hg hl)
  clear hl
  have hB := Below.refl w.heap.size w
  by_cases h64 : g.length ≤ 64
  · have hI : ¬ (64 : Int) < (g.length : Int) := by omega
    go_enter Tryz.func59, Tryz.ntmps59
    go_wp2_with fail
    (with_reducible refine (GC.out _ ?_).mono ?_); (repeat (first|exact bzR _ _|exact hB|refine bzD ?_|refine bzN ?_|refine bzS ?_|refine bzA ?_))
    rintro e w1 ⟨⟨u1, rfl, hu1⟩, hb1⟩
    have r0 : w1.cell? ⟨w.heap.size, 0, none⟩ = some (.slice none 0 0) := bkc hb1
    have zr0 := cell_lt r0
    have r0f : w1.frozen? ⟨w.heap.size, 0, none⟩ = false := bkcf (v := .slice none 0 0) hb1
    have hB : Below w.heap.size w w1 := bthen (by repeat (first|exact bzR _ _|exact hB|refine bzD ?_|refine bzN ?_|refine bzS ?_|refine bzA ?_)) hb1
    have hz : w.heap.size ≤ w1.heap.size := hB.size
    have HT1 := Lib.hid (show typOf w1 w.heap.size = some 47 from typ_keep (typ_fresh rfl) hb1)
    have HR1 := Lib.hid (gridRef hu1)
    obtain ⟨a1, c1, rfl⟩ := hu1.ex
    have FC := Lib.hid (fun W (q : Below w1.heap.size w1 W) => rfits_c (.slice a1 g.length c1) g W (HR1.out.keep q) (by omega))
    have hBw1 := Below.refl w1.heap.size w1
    obtain ⟨fe, hfe⟩ : ∃ x, fitsE g = x := ⟨_, rfl⟩
    have HFE := Lib.hid hfe
    rw [hfe] at FC
    clear GC hu1 hb1 hfe
    go_wp2_with fail
    (with_reducible refine (FC.out _ ?_).mono ?_); (repeat (first|exact bzR _ _|exact hBw1|refine bzD ?_|refine bzN ?_|refine bzS ?_|refine bzA ?_))
    rintro e w2 ⟨rfl, hb2⟩
    have hb12 : Below w1.heap.size w1 w2 := bthen (by repeat (first|exact bzR _ _|exact hBw1|refine bzD ?_|refine bzN ?_|refine bzS ?_|refine bzA ?_)) hb2
    have r0 : w2.cell? ⟨w.heap.size, 0, none⟩ = some (.slice none 0 0) := bkc hb2
    have zr0 := cell_lt r0
    have r0f : w2.frozen? ⟨w.heap.size, 0, none⟩ = false := bkcf (v := .slice none 0 0) hb2
    have hB : Below w.heap.size w w2 := bthen (by repeat (first|exact bzR _ _|exact hB|refine bzD ?_|refine bzN ?_|refine bzS ?_|refine bzA ?_)) hb2
    have hz : w.heap.size ≤ w2.heap.size := hB.size
    have HT2 := Lib.hid (typ_keep HT1.out hb12)
    have HR2 := Lib.hid (HR1.out.keep hb12)
    clear FC HR1 HT1 hb2
    by_cases hf : fe = 0
    · have hfb : (fe != 0) = false := by simp [hf]
      have HF0 := Lib.hid (show fitsE g = 0 from by rw [HFE.out, hf])
      clear hf
      go_wp2_with fail
      (with_reducible refine (RC.out _ ?_).mono ?_); (repeat (first|exact bzR _ _|exact hB|refine bzD ?_|refine bzN ?_|refine bzS ?_|refine bzA ?_))
      rintro e w3 ⟨⟨u3, rfl, hu3⟩, hb3⟩
      have hb23 : Below w2.heap.size w2 w3 := bthen (by have hBy := Below.refl w2.heap.size w2; repeat (first|exact bzR _ _|exact hBy|refine bzD ?_|refine bzN ?_|refine bzS ?_|refine bzA ?_)) hb3
      have r0 : w3.cell? ⟨w.heap.size, 0, none⟩ = some (.slice none 0 0) := bkc hb3
      have zr0 := cell_lt r0
      have r0f : w3.frozen? ⟨w.heap.size, 0, none⟩ = false := bkcf (v := .slice none 0 0) hb3
      have hB : Below w.heap.size w w3 := bthen (by repeat (first|exact bzR _ _|exact hB|refine bzD ?_|refine bzN ?_|refine bzS ?_|refine bzA ?_)) hb3
      have hz : w.heap.size ≤ w3.heap.size := hB.size
      have HT3 := Lib.hid (typ_keep HT2.out hb23)
      have HR3 := Lib.hid (HR2.out.keep hb23)
      have HU3 := Lib.hid (show IsL 68 (PRow 0) 0 w3 u3 g from (hu3.isL.mono fun u x h => h.row.rebase (Nat.zero_le _)).rebase (Nat.zero_le _))
      obtain ⟨a3, c3, rfl⟩ := hu3.ex
      have nc := Lib.hid (fun W (q : Below w3.heap.size w3 W) => newM_c (.slice a3 g.length c3) g W (HU3.out.keep (prs_prow 0) q) (fun i hi => Nat.le_trans (HL.out i hi) (by decide)))
      have hBw3 := Below.refl w3.heap.size w3
      clear RC hu3 hb3 HR2 HT2
      go_wp2_with fail
      (with_reducible refine (nc.out _ ?_).mono ?_); (repeat (first|exact bzR _ _|exact hBw3|refine bzD ?_|refine bzN ?_|refine bzS ?_|refine bzA ?_))
      rintro e w4 ⟨(⟨-, v4, rfl, hv4⟩ | ⟨hf, -⟩), hb4⟩
      rotate_left
      · exact absurd HF0.out hf
      have hb34 : Below w3.heap.size w3 w4 := bthen (by repeat (first|exact bzR _ _|exact hBw3|refine bzD ?_|refine bzN ?_|refine bzS ?_|refine bzA ?_)) hb4
      have r0 : w4.cell? ⟨w.heap.size, 0, none⟩ = some (.slice none 0 0) := bkc hb4
      have zr0 := cell_lt r0
      have r0f : w4.frozen? ⟨w.heap.size, 0, none⟩ = false := bkcf (v := .slice none 0 0) hb4
      have hB : Below w.heap.size w w4 := bthen (by repeat (first|exact bzR _ _|exact hB|refine bzD ?_|refine bzN ?_|refine bzS ?_|refine bzA ?_)) hb4
      have hz : w.heap.size ≤ w4.heap.size := hB.size
      have HT4 := typ_keep HT3.out hb34
      have HR4 := Lib.hid (HR3.out.keep hb34)
      have HV4 := Lib.hid (hv4.rebase (Nat.zero_le _))
      obtain ⟨a4, c4, rfl⟩ := hv4.lit
      clear nc hv4 hb4 HR3 HT3
      have HRF := Lib.hid (show ∀ u, RefM (w4.setCell ⟨w.heap.size, 0, none⟩ u) (.slice a1 g.length c1) g from fun u => IsL.kp (S' := fun t => t ≠ 47) prs_rrow HR4.out ((Kp.refl _ _).set (fun t ht' => by rw [show typOf w4 w.heap.size = _ from HT4] at ht'; cases ht'; exact fun h => h rfl) _) (fun t ht => by rcases ht with rfl | rfl <;> decide) (by decide))
      go_wp2
      refine bodyPost_ret (v := .tuple #[.agg #[.slice a4 g.length c4], .slice a1 g.length c1, .bool true]) (by simp [results, Tryz.results59, go_sem, *]) rfl ⟨.inl ⟨h64, HF0.out, _, _, rfl, ?_, ?_⟩, ?_⟩
      · first | exact HV4.out.setM HT4 _ | exact (HV4.out.setM HT4 _).keep (bal (Below.refl _ _) _) | exact (HV4.out.keep (bal (Below.refl _ _) _)).setM (typ_keep HT4 (bal (Below.refl _ _) _)) _
      · first | exact HRF.out _ | exact (HRF.out _).keep (bal (Below.refl _ _) _)
      ·
        repeat (first|exact bzR _ _|exact hB|refine bzD ?_|refine bzN ?_|refine bzS ?_|refine bzA ?_)
    · have hfb : (fe != 0) = true := by simp [hf]
      have HNO := Lib.hid (show ¬ (g.length ≤ 64 ∧ fitsE g = 0) from fun h => hf (by rw [← HFE.out]; exact h.2))
      clear hf RC
      go_wp2
      refine bodyPost_ret (v := .tuple #[.agg #[.slice none 0 0], .slice none 0 0, .bool false]) (by simp [results, Tryz.results59, go_sem, *]) rfl ⟨.inr ⟨HNO.out, rfl⟩, ?_⟩
      repeat (first|exact bzR _ _|exact hB|refine bzD ?_|refine bzN ?_|refine bzS ?_|refine bzA ?_)
  · have hI : (64 : Int) < (g.length : Int) := by omega
    have HNO := Lib.hid (show ¬ (g.length ≤ 64 ∧ fitsE g = 0) from fun h => h64 h.1)
    clear h64
    go_enter Tryz.func59, Tryz.ntmps59
    go_wp2_with fail
    (with_reducible refine (GC.out _ ?_).mono ?_); (repeat (first|exact bzR _ _|exact hB|refine bzD ?_|refine bzN ?_|refine bzS ?_|refine bzA ?_))
    rintro e w1 ⟨⟨u1, rfl, hu1⟩, hb1⟩
    have r0 : w1.cell? ⟨w.heap.size, 0, none⟩ = some (.slice none 0 0) := bkc hb1
    have zr0 := cell_lt r0
    have r0f : w1.frozen? ⟨w.heap.size, 0, none⟩ = false := bkcf (v := .slice none 0 0) hb1
    have hB : Below w.heap.size w w1 := bthen (by repeat (first|exact bzR _ _|exact hB|refine bzD ?_|refine bzN ?_|refine bzS ?_|refine bzA ?_)) hb1
    have hz : w.heap.size ≤ w1.heap.size := hB.size
    obtain ⟨a1, c1, rfl⟩ := hu1.ex
    clear GC RC hu1
    go_wp2
    refine bodyPost_ret (v := .tuple #[.agg #[.slice none 0 0], .slice none 0 0, .bool false]) (by simp [results, Tryz.results59, go_sem, *]) rfl ⟨.inr ⟨HNO.out, rfl⟩, ?_⟩
    repeat (first|exact bzR _ _|exact hB|refine bzD ?_|refine bzN ?_|refine bzS ?_|refine bzA ?_)
end Go.Proofs.YtbmaffijncapiaaGreatDoor

/- The reference: Dot of two rows. -/
namespace Go.Proofs.YtbmaffijncapiaaGreatDoor
open Num
open Go.ChangeShapes Go.WideShapes Go.ChangeAt Go.RowKit
set_option linter.unusedVariables false
set_option linter.unusedSimpArgs false
attribute [local go_sem ↓] Go.wp_at_zero Go.wp_at_succ
end Go.Proofs.YtbmaffijncapiaaGreatDoor

/- the reference's matrices: Plus, Scale, Apply. -/
namespace Go.Proofs.YtbmaffijncapiaaGreatDoor
open Num
open Go.ChangeShapes Go.WideShapes Go.ChangeAt Go.RowKit
set_option linter.unusedVariables false
set_option linter.unusedSimpArgs false
attribute [local go_sem ↓] Go.wp_at_zero Go.wp_at_succ
theorem IsL.relem {w : World} {v : Value} {g : Grid} {m : Nat} (hr : Rct g m) (h : IsL 110 (RRow 0) 0 w v g) {i j : Nat} (hi : i < g.length) (hj : j < m) :
    ∃ c gb go rb ro rc n a l k, v = .slice (some ⟨gb, go, none⟩) g.length c ∧ w.cell? ⟨gb, go + i, none⟩ = some (.slice (some ⟨rb, ro, none⟩) m rc) ∧ w.cell? ⟨rb, ro + j * 2, none⟩ = some (.bool n) ∧ w.cell? ⟨rb, ro + j * 2 + 1, none⟩ = some (.slice a l k) ∧ IsRef w (.agg #[.bool n, .slice a l k]) (gat g i j) := by
  obtain ⟨c, gb, go, ra, rc, e, hu, hp⟩ := h.rrow hi
  obtain ⟨a', c', e2, _, vr⟩ := hp.view
  obtain ⟨rfl, -, rfl⟩ := Value.slice.inj e2
  obtain ⟨rb, ro, n, a, l, k, rfl, h0, h1, h2⟩ := vr j (by rw [hr i hi]; exact hj)
  rw [hr i hi] at hu
  exact ⟨c, gb, go, rb, ro, rc, n, a, l, k, e, hu, h0, h1, h2⟩
end Go.Proofs.YtbmaffijncapiaaGreatDoor

/- the reference's matrices: Turn, Times. -/
namespace Go.Proofs.YtbmaffijncapiaaGreatDoor
open Num
open Go.ChangeShapes Go.WideShapes Go.ChangeAt Go.RowKit
set_option linter.unusedVariables false
set_option linter.unusedSimpArgs false
attribute [local go_sem ↓] Go.wp_at_zero Go.wp_at_succ
end Go.Proofs.YtbmaffijncapiaaGreatDoor

/- the reference's Same of rows and of matrices. -/
namespace Go.Proofs.YtbmaffijncapiaaGreatDoor
open Num
open Go.ChangeShapes Go.WideShapes Go.ChangeAt Go.RowKit
set_option linter.unusedVariables false
set_option linter.unusedSimpArgs false
attribute [local go_sem ↓] Go.wp_at_zero Go.wp_at_succ
end Go.Proofs.YtbmaffijncapiaaGreatDoor

/- matrix's laws: bits of sums and products; whatever comes, or just that error. -/
namespace Go.Proofs.YtbmaffijncapiaaGreatDoor
open Num
open Go.ChangeShapes Go.WideShapes Go.ChangeAt Go.RowKit
set_option linter.unusedVariables false
set_option linter.unusedSimpArgs false
attribute [local go_sem ↓] Go.wp_at_zero Go.wp_at_succ
theorem i64_bd {w : World} {v : Value} {l : List Int} (h : RowI w v l) : ∀ j, Bd 64 (l.getD j 0) := fun j => by
  obtain ⟨a, c, -, h⟩ := h
  by_cases hj : j < l.length
  · obtain ⟨b, off, -, -, h5⟩ := h j hj
    unfold I64 at h5; unfold Bd; omega
  · rw [List.getD_eq_getElem?_getD, List.getElem?_eq_none (by omega)]; exact bd_zero
theorem i64_bdM {w : World} {v : Value} {g : Grid} (h : GridI w v g) : BdM 64 g := fun i j => by
  obtain ⟨a, c, -, h⟩ := h
  by_cases hi : i < g.length
  · obtain ⟨b, off, u, -, -, hr⟩ := h i hi
    exact i64_bd hr j
  · unfold gat
    rw [List.getD_eq_getElem?_getD (l := g), List.getElem?_eq_none (by omega)]
    simp [bd_zero]
end Go.Proofs.YtbmaffijncapiaaGreatDoor

