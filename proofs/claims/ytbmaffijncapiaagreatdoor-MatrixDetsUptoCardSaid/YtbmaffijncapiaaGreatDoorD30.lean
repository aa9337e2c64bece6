/- Texts of this seat, laid together: QrD, QrE, QRows. Each opens with its own remark, which says what it proves, and under which conditions. -/
import Derived.Test.YtbmaffijncapiaaGreatDoorD29
import Derived.Test.YtbmaffijncapiaaGreatDoorD24
import Derived.Test.YtbmaffijncapiaaGreatDoorD21
import Derived.Test.YtbmaffijncapiaaGreatDoorD05
set_option linter.unusedVariables false
set_option linter.unusedSimpArgs false
/- The reference: Add, Sub, Neg of fractions. -/
namespace Go.Proofs.YtbmaffijncapiaaGreatDoor
open Num
open Go.ChangeShapes Go.WideShapes Go.ChangeAt Go.RowKit
set_option linter.unusedVariables false
set_option linter.unusedSimpArgs false
attribute [local go_sem ↓] Go.wp_at_zero Go.wp_at_succ
theorem rqMk_add (x y : Rat) (k m : Nat) (bx : BdQ k x) (by' : BdQ m y) (hk : k + m + 1 ≤ 17179869180) (u v : Value) (V : World) (hu : IsRef V u (x.num * (y.den : Int) + y.num * (x.den : Int))) (hv : IsRef V v ((x.den : Int) * (y.den : Int))) :
    Calls Tryz.prog 46 #[u, v] V fun e w' => (∃ z, e = .returned z ∧ IsQR w' z (x + y)) ∧ Below V.heap.size V w' := by
  rw [q_add]
  have b2 := by'.1.mul bx.2
  rw [Nat.add_comm m k] at b2
  exact rqMake_c u v _ _ (k + m + 1) V hu hv ((bx.1.mul by'.2).add b2) ((bx.2.mul by'.2).mono (by omega)) hk (Int.mul_ne_zero (by have := den_pos x; omega) (by have := den_pos y; omega))
set_option maxRecDepth 100000 in
set_option maxHeartbeats 16000000 in
theorem rqAdd_c (vx vy : Value) (x y : Rat) (k m : Nat) (w : World) (hx : IsQR w vx x) (hy : IsQR w vy y) (bx : BdQ k x) (by' : BdQ m y) (hk9 : k + m + 1 ≤ 17179869180) :
    Calls Tryz.prog 254 #[vx, vy] w fun e w' => (∃ v, e = .returned v ∧ IsQR w' v (x + y)) ∧ Below w.heap.size w w' := by
  obtain ⟨n1, a1, l1, c1, n2, a2, l2, c2, rfl, h1, h2⟩ := hx
  obtain ⟨n3, a3, l3, c3, n4, a4, l4, c4, rfl, h3, h4⟩ := hy
  have P1 := Lib.hid (fun V (q : Below w.heap.size w V) => rmul_c (.agg #[.bool n1, .slice a1 l1 c1]) (.agg #[.bool n4, .slice a4 l4 c4]) _ _ k m V (h1.keep q) (h4.keep q) bx.1 by'.2 (by omega) (by omega))
  have P2 := Lib.hid (fun V (q : Below w.heap.size w V) => rmul_c (.agg #[.bool n3, .slice a3 l3 c3]) (.agg #[.bool n2, .slice a2 l2 c2]) _ _ m k V (h3.keep q) (h2.keep q) by'.1 bx.2 (by omega) (by omega))
  have P3 := Lib.hid (fun V (q : Below w.heap.size w V) => rmul_c (.agg #[.bool n2, .slice a2 l2 c2]) (.agg #[.bool n4, .slice a4 l4 c4]) _ _ k m V (h2.keep q) (h4.keep q) bx.2 by'.2 (by omega) (by omega))
  have AD := Lib.hid (fun u v V (hu : IsRef V u (x.num * (y.den : Int))) (hv : IsRef V v (y.num * (x.den : Int))) => radd_c u v _ _ (k + m) V hu hv (bx.1.mul by'.2) (by have := by'.1.mul bx.2; rw [Nat.add_comm m k] at this; exact this) (by omega))
  have MK := Lib.hid (rqMk_add x y k m bx by' hk9)
  clear h1 h2 h3 h4 bx by' hk9
  have hB := Below.refl w.heap.size w
  go_enter Tryz.func254, Tryz.ntmps254
  go_wp2
  refine wp_name fun w5 hW5 => ?_
  have HB5 := Lib.hid (show Below w.heap.size w w5 by rw [hW5]; repeat (first|exact bzR _ _|exact hB|refine bzD ?_|refine bzN ?_|refine bzS ?_|refine bzA ?_))
  have HC5 := Lib.hid (show (w5.cell? ⟨w.heap.size, 0, none⟩ = some (.bool n1) ∧ w5.cell? ⟨w.heap.size, 1, none⟩ = some (.slice a1 l1 c1) ∧ w5.cell? ⟨w.heap.size, 2, none⟩ = some (.bool n2) ∧ w5.cell? ⟨w.heap.size, 3, none⟩ = some (.slice a2 l2 c2) ∧ w5.cell? ⟨w.heap.size + 1, 0, none⟩ = some (.bool n3) ∧ w5.cell? ⟨w.heap.size + 1, 1, none⟩ = some (.slice a3 l3 c3) ∧ w5.cell? ⟨w.heap.size + 1, 2, none⟩ = some (.bool n4) ∧ w5.cell? ⟨w.heap.size + 1, 3, none⟩ = some (.slice a4 l4 c4)) ∧ (w5.cell? ⟨w.heap.size + 1 + 1, 0, none⟩ = some (.bool false) ∧ w5.cell? ⟨w.heap.size + 1 + 1, 1, none⟩ = some (.slice none 0 0) ∧ w5.cell? ⟨w.heap.size + 1 + 1, 2, none⟩ = some (.bool false) ∧ w5.cell? ⟨w.heap.size + 1 + 1, 3, none⟩ = some (.slice none 0 0)) ∧ (w5.frozen? ⟨w.heap.size + 1 + 1, 0, none⟩ = false ∧ w5.frozen? ⟨w.heap.size + 1 + 1, 1, none⟩ = false ∧ w5.frozen? ⟨w.heap.size + 1 + 1, 2, none⟩ = false ∧ w5.frozen? ⟨w.heap.size + 1 + 1, 3, none⟩ = false) from by rw [hW5]; simp [go_sem])
  clear hW5 hB
  have HS := Lib.hid (show ∀ V, Below w5.heap.size w5 V → V.cell? ⟨w.heap.size, 0, none⟩ = some (.bool n1) ∧ V.cell? ⟨w.heap.size, 1, none⟩ = some (.slice a1 l1 c1) ∧ V.cell? ⟨w.heap.size, 2, none⟩ = some (.bool n2) ∧ V.cell? ⟨w.heap.size, 3, none⟩ = some (.slice a2 l2 c2) ∧ V.cell? ⟨w.heap.size + 1, 0, none⟩ = some (.bool n3) ∧ V.cell? ⟨w.heap.size + 1, 1, none⟩ = some (.slice a3 l3 c3) ∧ V.cell? ⟨w.heap.size + 1, 2, none⟩ = some (.bool n4) ∧ V.cell? ⟨w.heap.size + 1, 3, none⟩ = some (.slice a4 l4 c4) from fun V q => ⟨bkeep q HC5.out.1.1, bkeep q HC5.out.1.2.1, bkeep q HC5.out.1.2.2.1, bkeep q HC5.out.1.2.2.2.1, bkeep q HC5.out.1.2.2.2.2.1, bkeep q HC5.out.1.2.2.2.2.2.1, bkeep q HC5.out.1.2.2.2.2.2.2.1, bkeep q HC5.out.1.2.2.2.2.2.2.2⟩)
  have HSF := Lib.hid (show ∀ V, Below w5.heap.size w5 V → ∀ u0 u1 u2 u3, ((((V.setCell ⟨w.heap.size + 1 + 1, 0, none⟩ u0).setCell ⟨w.heap.size + 1 + 1, 1, none⟩ u1).setCell ⟨w.heap.size + 1 + 1, 2, none⟩ u2).setCell ⟨w.heap.size + 1 + 1, 3, none⟩ u3).cell? ⟨w.heap.size, 0, none⟩ = some (.bool n1) ∧ ((((V.setCell ⟨w.heap.size + 1 + 1, 0, none⟩ u0).setCell ⟨w.heap.size + 1 + 1, 1, none⟩ u1).setCell ⟨w.heap.size + 1 + 1, 2, none⟩ u2).setCell ⟨w.heap.size + 1 + 1, 3, none⟩ u3).cell? ⟨w.heap.size, 1, none⟩ = some (.slice a1 l1 c1) ∧ ((((V.setCell ⟨w.heap.size + 1 + 1, 0, none⟩ u0).setCell ⟨w.heap.size + 1 + 1, 1, none⟩ u1).setCell ⟨w.heap.size + 1 + 1, 2, none⟩ u2).setCell ⟨w.heap.size + 1 + 1, 3, none⟩ u3).cell? ⟨w.heap.size, 2, none⟩ = some (.bool n2) ∧ ((((V.setCell ⟨w.heap.size + 1 + 1, 0, none⟩ u0).setCell ⟨w.heap.size + 1 + 1, 1, none⟩ u1).setCell ⟨w.heap.size + 1 + 1, 2, none⟩ u2).setCell ⟨w.heap.size + 1 + 1, 3, none⟩ u3).cell? ⟨w.heap.size, 3, none⟩ = some (.slice a2 l2 c2) ∧ ((((V.setCell ⟨w.heap.size + 1 + 1, 0, none⟩ u0).setCell ⟨w.heap.size + 1 + 1, 1, none⟩ u1).setCell ⟨w.heap.size + 1 + 1, 2, none⟩ u2).setCell ⟨w.heap.size + 1 + 1, 3, none⟩ u3).cell? ⟨w.heap.size + 1, 0, none⟩ = some (.bool n3) ∧ ((((V.setCell ⟨w.heap.size + 1 + 1, 0, none⟩ u0).setCell ⟨w.heap.size + 1 + 1, 1, none⟩ u1).setCell ⟨w.heap.size + 1 + 1, 2, none⟩ u2).setCell ⟨w.heap.size + 1 + 1, 3, none⟩ u3).cell? ⟨w.heap.size + 1, 1, none⟩ = some (.slice a3 l3 c3) ∧ ((((V.setCell ⟨w.heap.size + 1 + 1, 0, none⟩ u0).setCell ⟨w.heap.size + 1 + 1, 1, none⟩ u1).setCell ⟨w.heap.size + 1 + 1, 2, none⟩ u2).setCell ⟨w.heap.size + 1 + 1, 3, none⟩ u3).cell? ⟨w.heap.size + 1, 2, none⟩ = some (.bool n4) ∧ ((((V.setCell ⟨w.heap.size + 1 + 1, 0, none⟩ u0).setCell ⟨w.heap.size + 1 + 1, 1, none⟩ u1).setCell ⟨w.heap.size + 1 + 1, 2, none⟩ u2).setCell ⟨w.heap.size + 1 + 1, 3, none⟩ u3).cell? ⟨w.heap.size + 1, 3, none⟩ = some (.slice a4 l4 c4) from fun V q u0 u1 u2 u3 => by
    obtain ⟨x0, x1, x2, x3, y0, y1, y2, y3⟩ := HS.out V q
    exact ⟨far4 x0 (by omega) _ _ _ _, far4 x1 (by omega) _ _ _ _, far4 x2 (by omega) _ _ _ _, far4 x3 (by omega) _ _ _ _, far4 y0 (by omega) _ _ _ _, far4 y1 (by omega) _ _ _ _, far4 y2 (by omega) _ _ _ _, far4 y3 (by omega) _ _ _ _⟩)
  have hBw := Below.refl w5.heap.size w5
  obtain ⟨x0, x1, x2, x3, y0, y1, y2, y3⟩ := HC5.out.1
  have zx := cell_lt x0
  have zy := cell_lt y0
  go_region_held3 (fun V => V.cell? ⟨w.heap.size, 0, none⟩ = some (.bool n1) ∧ V.cell? ⟨w.heap.size, 1, none⟩ = some (.slice a1 l1 c1) ∧ V.cell? ⟨w.heap.size, 2, none⟩ = some (.bool n2) ∧ V.cell? ⟨w.heap.size, 3, none⟩ = some (.slice a2 l2 c2) ∧ V.cell? ⟨w.heap.size + 1, 0, none⟩ = some (.bool n3) ∧ V.cell? ⟨w.heap.size + 1, 1, none⟩ = some (.slice a3 l3 c3) ∧ V.cell? ⟨w.heap.size + 1, 2, none⟩ = some (.bool n4) ∧ V.cell? ⟨w.heap.size + 1, 3, none⟩ = some (.slice a4 l4 c4))
    (first | (with_reducible refine HSF.out _ ?_ _ _ _ _; (repeat (first|exact bzR _ _|exact hBw|refine bzD ?_|refine bzN ?_|refine bzS ?_|refine bzA ?_)); done) | (refine HS.out _ ?_; (repeat (first|exact bzR _ _|exact hBw|refine bzD ?_|refine bzN ?_|refine bzS ?_|refine bzA ?_)); done) | fail)
    (first
      | (go_at_call 114; (with_reducible show Calls _ _ #[(.agg #[.bool n1, .slice a1 l1 c1]), (.agg #[.bool n4, .slice a4 l4 c4])] _ _); refine (P1.out _ (bthen HB5.out ?_)).mono ?_; (repeat (first|exact bzR _ _|exact hBw|refine bzD ?_|refine bzN ?_|refine bzS ?_|refine bzA ?_)); rintro e w6 ⟨⟨u6, rfl, hu6⟩, hb6⟩; (have hBd : Below w5.heap.size w5 w6 := bthen (by repeat (first|exact bzR _ _|exact hBw|refine bzD ?_|refine bzN ?_|refine bzS ?_|refine bzA ?_)) hb6; clear hBw; have hBw := hBd; clear hBd); have HU6 := Lib.hid hu6; have hy6 := Below.refl w6.heap.size w6; obtain ⟨pn, pa, pl, pc, rfl⟩ := hu6.litR)
      | (go_at_call 114; (with_reducible show Calls _ _ #[(.agg #[.bool n3, .slice a3 l3 c3]), (.agg #[.bool n2, .slice a2 l2 c2])] _ _); refine (P2.out _ (bthen HB5.out ?_)).mono ?_; (repeat (first|exact bzR _ _|exact hBw|refine bzD ?_|refine bzN ?_|refine bzS ?_|refine bzA ?_)); rintro e w7 ⟨⟨u7, rfl, hu7⟩, hb7⟩; (have hBd : Below w5.heap.size w5 w7 := bthen (by repeat (first|exact bzR _ _|exact hBw|refine bzD ?_|refine bzN ?_|refine bzS ?_|refine bzA ?_)) hb7; clear hBw; have hBw := hBd; clear hBd); (have hBd : Below w6.heap.size w6 w7 := bthen (by repeat (first|exact bzR _ _|exact hy6|refine bzD ?_|refine bzN ?_|refine bzS ?_|refine bzA ?_)) hb7; clear hy6; have hy6 := hBd; clear hBd); have HU7 := Lib.hid hu7; have hy7 := Below.refl w7.heap.size w7; obtain ⟨sn, sa, sl, sc, rfl⟩ := hu7.litR)
      | (go_at_call 257; refine (AD.out _ _ _ (HU6.out.keep ?_) (HU7.out.keep ?_)).mono ?_; (repeat (first|exact bzR _ _|exact hy6|refine bzD ?_|refine bzN ?_|refine bzS ?_|refine bzA ?_)); (repeat (first|exact bzR _ _|exact hy7|refine bzD ?_|refine bzN ?_|refine bzS ?_|refine bzA ?_)); rintro e w9 ⟨⟨u9, rfl, hu9⟩, hb9⟩; (have hBd : Below w5.heap.size w5 w9 := bthen (by repeat (first|exact bzR _ _|exact hBw|refine bzD ?_|refine bzN ?_|refine bzS ?_|refine bzA ?_)) hb9; clear hBw; have hBw := hBd; clear hBd); have HU9 := Lib.hid hu9; have hy9 := Below.refl w9.heap.size w9; obtain ⟨tn, ta, tl, tc, rfl⟩ := hu9.litR)
      | (go_at_call 114; refine (P3.out _ (bthen HB5.out ?_)).mono ?_; (repeat (first|exact bzR _ _|exact hBw|refine bzD ?_|refine bzN ?_|refine bzS ?_|refine bzA ?_)); rintro e w10 ⟨⟨u10, rfl, hu10⟩, hb10⟩; (have hBd : Below w5.heap.size w5 w10 := bthen (by repeat (first|exact bzR _ _|exact hBw|refine bzD ?_|refine bzN ?_|refine bzS ?_|refine bzA ?_)) hb10; clear hBw; have hBw := hBd; clear hBd); (have hBd : Below w9.heap.size w9 w10 := bthen (by repeat (first|exact bzR _ _|exact hy9|refine bzD ?_|refine bzN ?_|refine bzS ?_|refine bzA ?_)) hb10; clear hy9; have hy9 := hBd; clear hBd); have HU10 := Lib.hid hu10; have hy10 := Below.refl w10.heap.size w10; obtain ⟨qn, qa, ql, qc, rfl⟩ := hu10.litR)
      | (go_at_call 46; refine (MK.out _ _ _ (HU9.out.keep ?_) (HU10.out.keep ?_)).mono ?_; (repeat (first|exact bzR _ _|exact hy9|refine bzD ?_|refine bzN ?_|refine bzS ?_|refine bzA ?_)); (repeat (first|exact bzR _ _|exact hy10|refine bzD ?_|refine bzN ?_|refine bzS ?_|refine bzA ?_)); rintro e w8 ⟨⟨v8, rfl, hv8⟩, hb8⟩; (have hBd : Below w5.heap.size w5 w8 := bthen (by repeat (first|exact bzR _ _|exact hBw|refine bzD ?_|refine bzN ?_|refine bzS ?_|refine bzA ?_)) hb8; clear hBw; have hBw := hBd; clear hBd); have HV8 := Lib.hid hv8; obtain ⟨s0, s1, s2, s3⟩ := HC5.out.2.1; obtain ⟨f0, f1, f2, f3⟩ := HC5.out.2.2; have r0f := bkeepf hBw s0 f0; have r1f := bkeepf hBw s1 f1; have r2f := bkeepf hBw s2 f2; have r3f := bkeepf hBw s3 f3; have r0 := bkeep hBw s0; have r1 := bkeep hBw s1; have r2 := bkeep hBw s2; have r3 := bkeep hBw s3; have zr := cell_lt r0; clear s0 s1 s2 s3 f0 f1 f2 f3; obtain ⟨m1, b1, k1, d1, m2, b2, k2, d2, rfl, -, -⟩ := hv8)
      | fail)
  all_goals
    have HQ := Lib.hid (IsQR.put4 HV8.out r0 r1 r2 r3 (.bool m1) (.slice b1 k1 d1) (.bool m2) (.slice b2 k2 d2))
    have hBf := bthen HB5.out hBw
    clear HC5 HS HSF x0 x1 x2 x3 y0 y1 y2 y3
    go_wp2
    refine bodyPost_ret (v := .agg #[.bool m1, .slice b1 k1 d1, .bool m2, .slice b2 k2 d2]) (by simp [results, Tryz.results254, go_sem, *]) rfl ⟨⟨_, rfl, ?_⟩, ?_⟩
    · first | exact HQ.out | exact HQ.out.keep (Below.refl _ _).drew
    ·
      repeat (first|exact bzR _ _|exact hBf|refine bzD ?_|refine bzN ?_|refine bzS ?_|refine bzA ?_)
set_option maxRecDepth 100000 in
set_option maxHeartbeats 16000000 in
theorem rqNeg_c (vx : Value) (x : Rat) (w : World) (hx : IsQR w vx x) :
    Calls Tryz.prog 152 #[vx] w fun e w' => (∃ v, e = .returned v ∧ IsQR w' v (-x)) ∧ Below w.heap.size w w' := by
  obtain ⟨n1, a1, l1, c1, n2, a2, l2, c2, rfl, h1, h2⟩ := hx
  have P1 := Lib.hid (fun V (q : Below w.heap.size w V) => rneg_c (.agg #[.bool n1, .slice a1 l1 c1]) _ V (h1.keep q))
  have H2 := Lib.hid h2
  clear h1 h2
  have hB := Below.refl w.heap.size w
  go_enter Tryz.func152, Tryz.ntmps152
  go_wp2
  refine wp_name fun w5 hW5 => ?_
  have HB5 := Lib.hid (show Below w.heap.size w w5 by rw [hW5]; repeat (first|exact bzR _ _|exact hB|refine bzD ?_|refine bzN ?_|refine bzS ?_|refine bzA ?_))
  have HC5 := Lib.hid (show (w5.cell? ⟨w.heap.size, 0, none⟩ = some (.bool n1) ∧ w5.cell? ⟨w.heap.size, 1, none⟩ = some (.slice a1 l1 c1) ∧ w5.cell? ⟨w.heap.size, 2, none⟩ = some (.bool n2) ∧ w5.cell? ⟨w.heap.size, 3, none⟩ = some (.slice a2 l2 c2)) ∧ (w5.cell? ⟨w.heap.size + 1, 0, none⟩ = some (.bool false) ∧ w5.cell? ⟨w.heap.size + 1, 1, none⟩ = some (.slice none 0 0) ∧ w5.cell? ⟨w.heap.size + 1, 2, none⟩ = some (.bool false) ∧ w5.cell? ⟨w.heap.size + 1, 3, none⟩ = some (.slice none 0 0)) ∧ (w5.frozen? ⟨w.heap.size + 1, 0, none⟩ = false ∧ w5.frozen? ⟨w.heap.size + 1, 1, none⟩ = false ∧ w5.frozen? ⟨w.heap.size + 1, 2, none⟩ = false ∧ w5.frozen? ⟨w.heap.size + 1, 3, none⟩ = false) from by rw [hW5]; simp [go_sem])
  clear hW5 hB
  have HS := Lib.hid (show ∀ V, Below w5.heap.size w5 V → V.cell? ⟨w.heap.size, 0, none⟩ = some (.bool n1) ∧ V.cell? ⟨w.heap.size, 1, none⟩ = some (.slice a1 l1 c1) ∧ V.cell? ⟨w.heap.size, 2, none⟩ = some (.bool n2) ∧ V.cell? ⟨w.heap.size, 3, none⟩ = some (.slice a2 l2 c2) from fun V q => ⟨bkeep q HC5.out.1.1, bkeep q HC5.out.1.2.1, bkeep q HC5.out.1.2.2.1, bkeep q HC5.out.1.2.2.2⟩)
  have HSF := Lib.hid (show ∀ V, Below w5.heap.size w5 V → ∀ u0 u1 u2 u3, ((((V.setCell ⟨w.heap.size + 1, 0, none⟩ u0).setCell ⟨w.heap.size + 1, 1, none⟩ u1).setCell ⟨w.heap.size + 1, 2, none⟩ u2).setCell ⟨w.heap.size + 1, 3, none⟩ u3).cell? ⟨w.heap.size, 0, none⟩ = some (.bool n1) ∧ ((((V.setCell ⟨w.heap.size + 1, 0, none⟩ u0).setCell ⟨w.heap.size + 1, 1, none⟩ u1).setCell ⟨w.heap.size + 1, 2, none⟩ u2).setCell ⟨w.heap.size + 1, 3, none⟩ u3).cell? ⟨w.heap.size, 1, none⟩ = some (.slice a1 l1 c1) ∧ ((((V.setCell ⟨w.heap.size + 1, 0, none⟩ u0).setCell ⟨w.heap.size + 1, 1, none⟩ u1).setCell ⟨w.heap.size + 1, 2, none⟩ u2).setCell ⟨w.heap.size + 1, 3, none⟩ u3).cell? ⟨w.heap.size, 2, none⟩ = some (.bool n2) ∧ ((((V.setCell ⟨w.heap.size + 1, 0, none⟩ u0).setCell ⟨w.heap.size + 1, 1, none⟩ u1).setCell ⟨w.heap.size + 1, 2, none⟩ u2).setCell ⟨w.heap.size + 1, 3, none⟩ u3).cell? ⟨w.heap.size, 3, none⟩ = some (.slice a2 l2 c2) from fun V q u0 u1 u2 u3 => by
    obtain ⟨x0, x1, x2, x3⟩ := HS.out V q
    exact ⟨far4 x0 (by omega) _ _ _ _, far4 x1 (by omega) _ _ _ _, far4 x2 (by omega) _ _ _ _, far4 x3 (by omega) _ _ _ _⟩)
  have hBw := Below.refl w5.heap.size w5
  obtain ⟨x0, x1, x2, x3⟩ := HC5.out.1
  have zx := cell_lt x0
  go_region_held3 (fun V => V.cell? ⟨w.heap.size, 0, none⟩ = some (.bool n1) ∧ V.cell? ⟨w.heap.size, 1, none⟩ = some (.slice a1 l1 c1) ∧ V.cell? ⟨w.heap.size, 2, none⟩ = some (.bool n2) ∧ V.cell? ⟨w.heap.size, 3, none⟩ = some (.slice a2 l2 c2))
    (first | (with_reducible refine HSF.out _ ?_ _ _ _ _; (repeat (first|exact bzR _ _|exact hBw|refine bzD ?_|refine bzN ?_|refine bzS ?_|refine bzA ?_)); done) | (refine HS.out _ ?_; (repeat (first|exact bzR _ _|exact hBw|refine bzD ?_|refine bzN ?_|refine bzS ?_|refine bzA ?_)); done) | fail)
    (first
      | (go_at_call 132; refine (P1.out _ (bthen HB5.out ?_)).mono ?_; (repeat (first|exact bzR _ _|exact hBw|refine bzD ?_|refine bzN ?_|refine bzS ?_|refine bzA ?_)); rintro e w6 ⟨⟨u6, rfl, hu6⟩, hb6⟩; (have hBd : Below w5.heap.size w5 w6 := bthen (by repeat (first|exact bzR _ _|exact hBw|refine bzD ?_|refine bzN ?_|refine bzS ?_|refine bzA ?_)) hb6; clear hBw; have hBw := hBd; clear hBd); have HU6 := Lib.hid hu6; obtain ⟨s0, s1, s2, s3⟩ := HC5.out.2.1; obtain ⟨f0, f1, f2, f3⟩ := HC5.out.2.2; have r0f := bkeepf hBw s0 f0; have r1f := bkeepf hBw s1 f1; have r2f := bkeepf hBw s2 f2; have r3f := bkeepf hBw s3 f3; have r0 := bkeep hBw s0; have r1 := bkeep hBw s1; have r2 := bkeep hBw s2; have r3 := bkeep hBw s3; have zr := cell_lt r0; clear s0 s1 s2 s3 f0 f1 f2 f3; obtain ⟨m1, b1, k1, d1, rfl⟩ := hu6.litR)
      | fail)
  all_goals
    have HQ := Lib.hid (IsQR.put4 (v := .agg #[.bool m1, .slice b1 k1 d1, .bool n2, .slice a2 l2 c2]) (q := -x) ⟨m1, b1, k1, d1, n2, a2, l2, c2, rfl, by rw [Rat.neg_num]; exact HU6.out, by rw [Rat.neg_den]; exact H2.out.keep (bthen HB5.out hBw)⟩ r0 r1 r2 r3 (.bool m1) (.slice b1 k1 d1) (.bool n2) (.slice a2 l2 c2))
    have hBf := bthen HB5.out hBw
    clear HC5 HS HSF x0 x1 x2 x3
    go_wp2
    refine bodyPost_ret (v := .agg #[.bool m1, .slice b1 k1 d1, .bool n2, .slice a2 l2 c2]) (by simp [results, Tryz.results152, go_sem, *]) rfl ⟨⟨_, rfl, ?_⟩, ?_⟩
    · first | exact HQ.out | exact HQ.out.keep (Below.refl _ _).drew
    ·
      repeat (first|exact bzR _ _|exact hBf|refine bzD ?_|refine bzN ?_|refine bzS ?_|refine bzA ?_)
set_option maxRecDepth 100000 in
set_option maxHeartbeats 16000000 in
theorem rqSub_c (vx vy : Value) (x y : Rat) (k m : Nat) (w : World) (hx : IsQR w vx x) (hy : IsQR w vy y) (bx : BdQ k x) (by' : BdQ m y) (hk9 : k + m + 1 ≤ 17179869180) :
    Calls Tryz.prog 222 #[vx, vy] w fun e w' => (∃ v, e = .returned v ∧ IsQR w' v (x - y)) ∧ Below w.heap.size w w' := by
  have NG := Lib.hid (fun V (q : Below w.heap.size w V) => rqNeg_c vy y V (hy.keep q))
  have AD := Lib.hid (fun v V (q : Below w.heap.size w V) (hv : IsQR V v (-y)) => rqAdd_c vx v x (-y) k m V (hx.keep q) hv bx by'.neg hk9)
  rw [← Rat.sub_eq_add_neg] at AD
  obtain ⟨n1, a1, l1, c1, n2, a2, l2, c2, rfl, -, -⟩ := hx
  obtain ⟨n3, a3, l3, c3, n4, a4, l4, c4, rfl, -, -⟩ := hy
  clear bx by' hk9
  have hB := Below.refl w.heap.size w
  go_enter Tryz.func222, Tryz.ntmps222
  go_wp2
  refine wp_name fun w5 hW5 => ?_
  have HB5 := Lib.hid (show Below w.heap.size w w5 by rw [hW5]; repeat (first|exact bzR _ _|exact hB|refine bzD ?_|refine bzN ?_|refine bzS ?_|refine bzA ?_))
  have HC5 := Lib.hid (show (w5.cell? ⟨w.heap.size, 0, none⟩ = some (.bool n1) ∧ w5.cell? ⟨w.heap.size, 1, none⟩ = some (.slice a1 l1 c1) ∧ w5.cell? ⟨w.heap.size, 2, none⟩ = some (.bool n2) ∧ w5.cell? ⟨w.heap.size, 3, none⟩ = some (.slice a2 l2 c2) ∧ w5.cell? ⟨w.heap.size + 1, 0, none⟩ = some (.bool n3) ∧ w5.cell? ⟨w.heap.size + 1, 1, none⟩ = some (.slice a3 l3 c3) ∧ w5.cell? ⟨w.heap.size + 1, 2, none⟩ = some (.bool n4) ∧ w5.cell? ⟨w.heap.size + 1, 3, none⟩ = some (.slice a4 l4 c4)) ∧ (w5.cell? ⟨w.heap.size + 1 + 1, 0, none⟩ = some (.bool false) ∧ w5.cell? ⟨w.heap.size + 1 + 1, 1, none⟩ = some (.slice none 0 0) ∧ w5.cell? ⟨w.heap.size + 1 + 1, 2, none⟩ = some (.bool false) ∧ w5.cell? ⟨w.heap.size + 1 + 1, 3, none⟩ = some (.slice none 0 0)) ∧ (w5.frozen? ⟨w.heap.size + 1 + 1, 0, none⟩ = false ∧ w5.frozen? ⟨w.heap.size + 1 + 1, 1, none⟩ = false ∧ w5.frozen? ⟨w.heap.size + 1 + 1, 2, none⟩ = false ∧ w5.frozen? ⟨w.heap.size + 1 + 1, 3, none⟩ = false) from by rw [hW5]; simp [go_sem])
  clear hW5 hB
  have HS := Lib.hid (show ∀ V, Below w5.heap.size w5 V → V.cell? ⟨w.heap.size, 0, none⟩ = some (.bool n1) ∧ V.cell? ⟨w.heap.size, 1, none⟩ = some (.slice a1 l1 c1) ∧ V.cell? ⟨w.heap.size, 2, none⟩ = some (.bool n2) ∧ V.cell? ⟨w.heap.size, 3, none⟩ = some (.slice a2 l2 c2) ∧ V.cell? ⟨w.heap.size + 1, 0, none⟩ = some (.bool n3) ∧ V.cell? ⟨w.heap.size + 1, 1, none⟩ = some (.slice a3 l3 c3) ∧ V.cell? ⟨w.heap.size + 1, 2, none⟩ = some (.bool n4) ∧ V.cell? ⟨w.heap.size + 1, 3, none⟩ = some (.slice a4 l4 c4) from fun V q => ⟨bkeep q HC5.out.1.1, bkeep q HC5.out.1.2.1, bkeep q HC5.out.1.2.2.1, bkeep q HC5.out.1.2.2.2.1, bkeep q HC5.out.1.2.2.2.2.1, bkeep q HC5.out.1.2.2.2.2.2.1, bkeep q HC5.out.1.2.2.2.2.2.2.1, bkeep q HC5.out.1.2.2.2.2.2.2.2⟩)
  have HSF := Lib.hid (show ∀ V, Below w5.heap.size w5 V → ∀ u0 u1 u2 u3, ((((V.setCell ⟨w.heap.size + 1 + 1, 0, none⟩ u0).setCell ⟨w.heap.size + 1 + 1, 1, none⟩ u1).setCell ⟨w.heap.size + 1 + 1, 2, none⟩ u2).setCell ⟨w.heap.size + 1 + 1, 3, none⟩ u3).cell? ⟨w.heap.size, 0, none⟩ = some (.bool n1) ∧ ((((V.setCell ⟨w.heap.size + 1 + 1, 0, none⟩ u0).setCell ⟨w.heap.size + 1 + 1, 1, none⟩ u1).setCell ⟨w.heap.size + 1 + 1, 2, none⟩ u2).setCell ⟨w.heap.size + 1 + 1, 3, none⟩ u3).cell? ⟨w.heap.size, 1, none⟩ = some (.slice a1 l1 c1) ∧ ((((V.setCell ⟨w.heap.size + 1 + 1, 0, none⟩ u0).setCell ⟨w.heap.size + 1 + 1, 1, none⟩ u1).setCell ⟨w.heap.size + 1 + 1, 2, none⟩ u2).setCell ⟨w.heap.size + 1 + 1, 3, none⟩ u3).cell? ⟨w.heap.size, 2, none⟩ = some (.bool n2) ∧ ((((V.setCell ⟨w.heap.size + 1 + 1, 0, none⟩ u0).setCell ⟨w.heap.size + 1 + 1, 1, none⟩ u1).setCell ⟨w.heap.size + 1 + 1, 2, none⟩ u2).setCell ⟨w.heap.size + 1 + 1, 3, none⟩ u3).cell? ⟨w.heap.size, 3, none⟩ = some (.slice a2 l2 c2) ∧ ((((V.setCell ⟨w.heap.size + 1 + 1, 0, none⟩ u0).setCell ⟨w.heap.size + 1 + 1, 1, none⟩ u1).setCell ⟨w.heap.size + 1 + 1, 2, none⟩ u2).setCell ⟨w.heap.size + 1 + 1, 3, none⟩ u3).cell? ⟨w.heap.size + 1, 0, none⟩ = some (.bool n3) ∧ ((((V.setCell ⟨w.heap.size + 1 + 1, 0, none⟩ u0).setCell ⟨w.heap.size + 1 + 1, 1, none⟩ u1).setCell ⟨w.heap.size + 1 + 1, 2, none⟩ u2).setCell ⟨w.heap.size + 1 + 1, 3, none⟩ u3).cell? ⟨w.heap.size + 1, 1, none⟩ = some (.slice a3 l3 c3) ∧ ((((V.setCell ⟨w.heap.size + 1 + 1, 0, none⟩ u0).setCell ⟨w.heap.size + 1 + 1, 1, none⟩ u1).setCell ⟨w.heap.size + 1 + 1, 2, none⟩ u2).setCell ⟨w.heap.size + 1 + 1, 3, none⟩ u3).cell? ⟨w.heap.size + 1, 2, none⟩ = some (.bool n4) ∧ ((((V.setCell ⟨w.heap.size + 1 + 1, 0, none⟩ u0).setCell ⟨w.heap.size + 1 + 1, 1, none⟩ u1).setCell ⟨w.heap.size + 1 + 1, 2, none⟩ u2).setCell ⟨w.heap.size + 1 + 1, 3, none⟩ u3).cell? ⟨w.heap.size + 1, 3, none⟩ = some (.slice a4 l4 c4) from fun V q u0 u1 u2 u3 => by
    obtain ⟨x0, x1, x2, x3, y0, y1, y2, y3⟩ := HS.out V q
    exact ⟨far4 x0 (by omega) _ _ _ _, far4 x1 (by omega) _ _ _ _, far4 x2 (by omega) _ _ _ _, far4 x3 (by omega) _ _ _ _, far4 y0 (by omega) _ _ _ _, far4 y1 (by omega) _ _ _ _, far4 y2 (by omega) _ _ _ _, far4 y3 (by omega) _ _ _ _⟩)
  have hBw := Below.refl w5.heap.size w5
  obtain ⟨x0, x1, x2, x3, y0, y1, y2, y3⟩ := HC5.out.1
  have zx := cell_lt x0
  have zy := cell_lt y0
  go_region_held3 (fun V => V.cell? ⟨w.heap.size, 0, none⟩ = some (.bool n1) ∧ V.cell? ⟨w.heap.size, 1, none⟩ = some (.slice a1 l1 c1) ∧ V.cell? ⟨w.heap.size, 2, none⟩ = some (.bool n2) ∧ V.cell? ⟨w.heap.size, 3, none⟩ = some (.slice a2 l2 c2) ∧ V.cell? ⟨w.heap.size + 1, 0, none⟩ = some (.bool n3) ∧ V.cell? ⟨w.heap.size + 1, 1, none⟩ = some (.slice a3 l3 c3) ∧ V.cell? ⟨w.heap.size + 1, 2, none⟩ = some (.bool n4) ∧ V.cell? ⟨w.heap.size + 1, 3, none⟩ = some (.slice a4 l4 c4))
    (first | (with_reducible refine HSF.out _ ?_ _ _ _ _; (repeat (first|exact bzR _ _|exact hBw|refine bzD ?_|refine bzN ?_|refine bzS ?_|refine bzA ?_)); done) | (refine HS.out _ ?_; (repeat (first|exact bzR _ _|exact hBw|refine bzD ?_|refine bzN ?_|refine bzS ?_|refine bzA ?_)); done) | fail)
    (first
      | (go_at_call 152; refine (NG.out _ (bthen HB5.out ?_)).mono ?_; (repeat (first|exact bzR _ _|exact hBw|refine bzD ?_|refine bzN ?_|refine bzS ?_|refine bzA ?_)); rintro e w6 ⟨⟨u6, rfl, hu6⟩, hb6⟩; (have hBd : Below w5.heap.size w5 w6 := bthen (by repeat (first|exact bzR _ _|exact hBw|refine bzD ?_|refine bzN ?_|refine bzS ?_|refine bzA ?_)) hb6; clear hBw; have hBw := hBd; clear hBd); have HU6 := Lib.hid hu6; have hy6 := Below.refl w6.heap.size w6; obtain ⟨pn, pa, pl, pc, tn, ta, tl, tc, rfl, -, -⟩ := hu6)
      | (go_at_call 254; refine (AD.out _ _ (bthen HB5.out ?_) (HU6.out.keep ?_)).mono ?_; (repeat (first|exact bzR _ _|exact hBw|refine bzD ?_|refine bzN ?_|refine bzS ?_|refine bzA ?_)); (repeat (first|exact bzR _ _|exact hy6|refine bzD ?_|refine bzN ?_|refine bzS ?_|refine bzA ?_)); rintro e w8 ⟨⟨v8, rfl, hv8⟩, hb8⟩; (have hBd : Below w5.heap.size w5 w8 := bthen (by repeat (first|exact bzR _ _|exact hBw|refine bzD ?_|refine bzN ?_|refine bzS ?_|refine bzA ?_)) hb8; clear hBw; have hBw := hBd; clear hBd); have HV8 := Lib.hid hv8; obtain ⟨s0, s1, s2, s3⟩ := HC5.out.2.1; obtain ⟨f0, f1, f2, f3⟩ := HC5.out.2.2; have r0f := bkeepf hBw s0 f0; have r1f := bkeepf hBw s1 f1; have r2f := bkeepf hBw s2 f2; have r3f := bkeepf hBw s3 f3; have r0 := bkeep hBw s0; have r1 := bkeep hBw s1; have r2 := bkeep hBw s2; have r3 := bkeep hBw s3; have zr := cell_lt r0; clear s0 s1 s2 s3 f0 f1 f2 f3; obtain ⟨m1, b1, k1, d1, m2, b2, k2, d2, rfl, -, -⟩ := hv8)
      | fail)
  all_goals
    have HQ := Lib.hid (IsQR.put4 HV8.out r0 r1 r2 r3 (.bool m1) (.slice b1 k1 d1) (.bool m2) (.slice b2 k2 d2))
    have hBf := bthen HB5.out hBw
    clear HC5 HS HSF x0 x1 x2 x3 y0 y1 y2 y3
    go_wp2
    refine bodyPost_ret (v := .agg #[.bool m1, .slice b1 k1 d1, .bool m2, .slice b2 k2 d2]) (by simp [results, Tryz.results222, go_sem, *]) rfl ⟨⟨_, rfl, ?_⟩, ?_⟩
    · first | exact HQ.out | exact HQ.out.keep (Below.refl _ _).drew
    ·
      repeat (first|exact bzR _ _|exact hBf|refine bzD ?_|refine bzN ?_|refine bzS ?_|refine bzA ?_)
end Go.Proofs.YtbmaffijncapiaaGreatDoor

/- The reference: Whole, Zero, Sign, Same, IsWhole, Text of fractions. -/
namespace Go.Proofs.YtbmaffijncapiaaGreatDoor
open Num
open Go.ChangeShapes Go.WideShapes Go.ChangeAt Go.RowKit
set_option linter.unusedVariables false
set_option linter.unusedSimpArgs false
attribute [local go_sem ↓] Go.wp_at_zero Go.wp_at_succ
set_option maxRecDepth 100000 in
set_option maxHeartbeats 16000000 in
theorem rqWhole_c (vn : Value) (n : Int) (w : World) (hn : IsRef w vn n) :
    Calls Tryz.prog 118 #[vn] w fun e w' => (∃ v, e = .returned v ∧ IsQR w' v (n : Rat)) ∧ Below w.heap.size w w' := by
  have HN := Lib.hid hn
  obtain ⟨nn, na, nl, nc, rfl⟩ := hn.litR
  have OC := Lib.hid (fun V => rof_c 1 V (by decide) (by decide))
  clear hn
  have hB := Below.refl w.heap.size w
  go_enter Tryz.func118, Tryz.ntmps118
  go_wp2
  refine wp_name fun w5 hW5 => ?_
  have HB5 := Lib.hid (show Below w.heap.size w w5 by rw [hW5]; repeat (first|exact bzR _ _|exact hB|refine bzD ?_|refine bzN ?_|refine bzS ?_|refine bzA ?_))
  have HC5 := Lib.hid (show (w5.cell? ⟨w.heap.size, 0, none⟩ = some (.bool nn) ∧ w5.cell? ⟨w.heap.size, 1, none⟩ = some (.slice na nl nc)) ∧ (w5.cell? ⟨w.heap.size + 1, 0, none⟩ = some (.bool false) ∧ w5.cell? ⟨w.heap.size + 1, 1, none⟩ = some (.slice none 0 0) ∧ w5.cell? ⟨w.heap.size + 1, 2, none⟩ = some (.bool false) ∧ w5.cell? ⟨w.heap.size + 1, 3, none⟩ = some (.slice none 0 0)) ∧ (w5.frozen? ⟨w.heap.size + 1, 0, none⟩ = false ∧ w5.frozen? ⟨w.heap.size + 1, 1, none⟩ = false ∧ w5.frozen? ⟨w.heap.size + 1, 2, none⟩ = false ∧ w5.frozen? ⟨w.heap.size + 1, 3, none⟩ = false) from by rw [hW5]; simp [go_sem])
  clear hW5 hB
  have HS := Lib.hid (show ∀ V, Below w5.heap.size w5 V → V.cell? ⟨w.heap.size, 0, none⟩ = some (.bool nn) ∧ V.cell? ⟨w.heap.size, 1, none⟩ = some (.slice na nl nc) from fun V q => ⟨bkeep q HC5.out.1.1, bkeep q HC5.out.1.2⟩)
  have HSF := Lib.hid (show ∀ V, Below w5.heap.size w5 V → ∀ u0 u1 u2 u3, ((((V.setCell ⟨w.heap.size + 1, 0, none⟩ u0).setCell ⟨w.heap.size + 1, 1, none⟩ u1).setCell ⟨w.heap.size + 1, 2, none⟩ u2).setCell ⟨w.heap.size + 1, 3, none⟩ u3).cell? ⟨w.heap.size, 0, none⟩ = some (.bool nn) ∧ ((((V.setCell ⟨w.heap.size + 1, 0, none⟩ u0).setCell ⟨w.heap.size + 1, 1, none⟩ u1).setCell ⟨w.heap.size + 1, 2, none⟩ u2).setCell ⟨w.heap.size + 1, 3, none⟩ u3).cell? ⟨w.heap.size, 1, none⟩ = some (.slice na nl nc) from fun V q u0 u1 u2 u3 => by
    obtain ⟨x0, x1⟩ := HS.out V q
    exact ⟨far4 x0 (by omega) _ _ _ _, far4 x1 (by omega) _ _ _ _⟩)
  have hBw := Below.refl w5.heap.size w5
  obtain ⟨x0, x1⟩ := HC5.out.1
  have zx := cell_lt x0
  go_region_held3 (fun V => V.cell? ⟨w.heap.size, 0, none⟩ = some (.bool nn) ∧ V.cell? ⟨w.heap.size, 1, none⟩ = some (.slice na nl nc))
    (first | (with_reducible refine HSF.out _ ?_ _ _ _ _; (repeat (first|exact bzR _ _|exact hBw|refine bzD ?_|refine bzN ?_|refine bzS ?_|refine bzA ?_)); done) | (refine HS.out _ ?_; (repeat (first|exact bzR _ _|exact hBw|refine bzD ?_|refine bzN ?_|refine bzS ?_|refine bzA ?_)); done) | fail)
    (first
      | (go_at_call 31; refine (OC.out _).mono ?_; rintro e w6 ⟨⟨u6, rfl, hu6⟩, hb6⟩; (have hBd : Below w5.heap.size w5 w6 := bthen (by repeat (first|exact bzR _ _|exact hBw|refine bzD ?_|refine bzN ?_|refine bzS ?_|refine bzA ?_)) hb6; clear hBw; have hBw := hBd; clear hBd); have HU6 := Lib.hid hu6; obtain ⟨s0, s1, s2, s3⟩ := HC5.out.2.1; obtain ⟨f0, f1, f2, f3⟩ := HC5.out.2.2; have r0f := bkeepf hBw s0 f0; have r1f := bkeepf hBw s1 f1; have r2f := bkeepf hBw s2 f2; have r3f := bkeepf hBw s3 f3; have r0 := bkeep hBw s0; have r1 := bkeep hBw s1; have r2 := bkeep hBw s2; have r3 := bkeep hBw s3; have zr := cell_lt r0; clear s0 s1 s2 s3 f0 f1 f2 f3; obtain ⟨m1, b1, k1, d1, rfl⟩ := hu6.litR)
      | fail)
  all_goals
    have HQ := Lib.hid (IsQR.put4 (v := .agg #[.bool nn, .slice na nl nc, .bool m1, .slice b1 k1 d1]) (q := (n : Rat)) ⟨nn, na, nl, nc, m1, b1, k1, d1, rfl, by rw [(whole_num n).1]; exact HN.out.keep (bthen HB5.out hBw), by rw [(whole_num n).2]; exact HU6.out⟩ r0 r1 r2 r3 (.bool nn) (.slice na nl nc) (.bool m1) (.slice b1 k1 d1))
    have hBf := bthen HB5.out hBw
    clear HC5 HS HSF x0 x1
    go_wp2
    refine bodyPost_ret (v := .agg #[.bool nn, .slice na nl nc, .bool m1, .slice b1 k1 d1]) (by simp [results, Tryz.results118, go_sem, *]) rfl ⟨⟨_, rfl, ?_⟩, ?_⟩
    · first | exact HQ.out | exact HQ.out.keep (Below.refl _ _).drew
    ·
      repeat (first|exact bzR _ _|exact hBf|refine bzD ?_|refine bzN ?_|refine bzS ?_|refine bzA ?_)
set_option maxRecDepth 100000 in
set_option maxHeartbeats 4000000 in
theorem rqSign_c (v : Value) (x : Rat) (w : World) (hx : IsQR w v x) : Calls Tryz.prog 220 #[v] w fun e w' => e = .returned (.int .i64 x.num.sign) ∧ Below w.heap.size w w' := by
  obtain ⟨n1, a1, l1, c1, n2, a2, l2, c2, rfl, h1, h2⟩ := hx
  have SC := Lib.hid (fun V (q : Below w.heap.size w V) => rsgn_c (.agg #[.bool n1, .slice a1 l1 c1]) _ V (h1.keep q))
  obtain ⟨z, hz⟩ : ∃ z, x.num.sign = z := ⟨_, rfl⟩
  rw [hz] at SC ⊢
  clear h1 h2 hz
  have hB := Below.refl w.heap.size w
  go_enter Tryz.func220, Tryz.ntmps220
  go_wp2_with fail
  (with_reducible refine (SC.out _ ?_).mono ?_); (repeat (first|exact bzR _ _|exact hB|refine bzD ?_|refine bzN ?_|refine bzS ?_|refine bzA ?_))
  rintro e w1 ⟨rfl, hb1⟩
  have hB1 : Below w.heap.size w w1 := bthen (by repeat (first|exact bzR _ _|exact hB|refine bzD ?_|refine bzN ?_|refine bzS ?_|refine bzA ?_)) hb1
  clear SC hb1
  go_wp2
  go_ret
  exact ⟨rfl, by repeat (first|exact bzR _ _|exact hB1|refine bzD ?_|refine bzN ?_|refine bzS ?_|refine bzA ?_)⟩
end Go.Proofs.YtbmaffijncapiaaGreatDoor

/- The reference's rows of fractions that are written, each in a block of its own; what clearing a column makes of them. -/
namespace Go.Proofs.YtbmaffijncapiaaGreatDoor
open Num
open Go.ChangeShapes Go.WideShapes Go.ChangeAt Go.RowKit
set_option linter.unusedVariables false
set_option linter.unusedSimpArgs false
structure FrRows (base top B n m : Nat) (w : World) (bs : Nat → Nat) (g : Det.M) : Prop where
  tB : typOf w B = some 43
  lo : base ≤ B
  hi : B < top
  fB : Free w B
  cell : ∀ i, i < n → ∃ c, w.cell? ⟨B, i, none⟩ = some (.slice (some ⟨bs i, 0, none⟩) m c) ∧ m ≤ c
  lob : ∀ i, i < n → base ≤ bs i
  hib : ∀ i, i < n → bs i < top
  inj : ∀ i j, i < n → j < n → bs i = bs j → i = j
  blk : ∀ i, i < n → FrBlk IsQR 91 w (bs i) m (g i)
section
variable {base top B n m : Nat} {w w' : World} {bs : Nat → Nat} {g g' : Det.M}
theorem FrRows.congr (h : FrRows base top B n m w bs g) (e : ∀ r c, r < n → c < m → g r c = g' r c) : FrRows base top B n m w bs g' :=
  ⟨h.tB, h.lo, h.hi, h.fB, h.cell, h.lob, h.hib, h.inj, fun i hi => (h.blk i hi).congr fun k hk => e i k hi hk⟩
theorem FrRows.neB (h : FrRows base top B n m w bs g) {i : Nat} (hi : i < n) : bs i ≠ B := fun e => by
  have h1 := (h.blk i hi).ty
  rw [e, h.tB] at h1
  exact absurd (Option.some.inj h1) (by decide)
theorem FrRows.out {X : Nat → Prop} (h : FrRows base top B n m w bs g) (ho : Out X w w') (hx : ∀ q, base ≤ q → q < top → ¬ X q) (hl : Lim w w') : FrRows base top B n m w' bs g := by
  have bB := hx B h.lo h.hi
  have bi : ∀ i, i < n → ¬ X (bs i) := fun i hi => hx _ (h.lob i hi) (h.hib i hi)
  refine ⟨by rw [typ_of_block (w := w) (ho.block B (typ_lt h.tB) bB)]; exact h.tB, h.lo, h.hi, h.fB.out ho bB, fun i hi => ?_, h.lob, h.hib, h.inj, fun i hi => (h.blk i hi).out frk_ref ho (bi i hi) hl⟩
  obtain ⟨c, hc, hm⟩ := h.cell i hi
  exact ⟨c, okeep ho hc bB, hm⟩
theorem FrRows.keep (h : FrRows base top B n m w bs g) (k : Below w.heap.size w w') : FrRows base top B n m w' bs g :=
  h.out (X := fun _ => False) (Out.of_below _ k) (fun _ _ _ hf => hf) (Lim.of_below k)
theorem FrRows.put (h : FrRows base top B n m w bs g) {i c : Nat} (hi : i < n) (hc : c < m) {n1 n2 : Bool} {a1 a2 : Option Addr} {l1 c1 l2 c2 : Nat} {q : Rat} (hv : IsQR w (.agg #[.bool n1, .slice a1 l1 c1, .bool n2, .slice a2 l2 c2]) q) :
    FrRows base top B n m ((((w.setCell ⟨bs i, c * 4, none⟩ (.bool n1)).setCell ⟨bs i, c * 4 + 1, none⟩ (.slice a1 l1 c1)).setCell ⟨bs i, c * 4 + 2, none⟩ (.bool n2)).setCell ⟨bs i, c * 4 + 3, none⟩ (.slice a2 l2 c2)) bs (fun r c' => if r = i ∧ c' = c then q else g r c') := by
  have hne : ∀ j, j < n → j ≠ i → bs i ≠ bs j := fun j hj hji e => hji (h.inj j i hj hi e.symm)
  have hBi := h.neB hi
  refine ⟨by rw [typ_set, typ_set, typ_set, typ_set]; exact h.tB, h.lo, h.hi, (((h.fB.set _ _).set _ _).set _ _).set _ _, fun j hj => ?_, h.lob, h.hib, h.inj, fun j hj => ?_⟩
  · obtain ⟨c0, hc0, hm⟩ := h.cell j hj
    exact ⟨c0, cell_far (cell_far (cell_far (cell_far hc0 (addr_ne hBi) _) (addr_ne hBi) _) (addr_ne hBi) _) (addr_ne hBi) _, hm⟩
  · by_cases e : j = i
    · subst e
      refine ((h.blk j hj).put frk_ref hc hv).congr fun k hk => ?_
      by_cases e2 : k = c
      · subst e2; simp
      · simp [e2]
    · exact ((h.blk j hj).far frk_ref (hne j hj e) ((h.blk i hi).at_ c hc) _ _ _ _).congr fun k hk => by rw [if_neg (fun hh => e hh.1)]
theorem FrRows.swap (h : FrRows base top B n m w bs g) {i k : Nat} (hi : i < n) (hk : k < n) {ci ck : Nat} (hci : w.cell? ⟨B, i, none⟩ = some (.slice (some ⟨bs i, 0, none⟩) m ci)) (hck : w.cell? ⟨B, k, none⟩ = some (.slice (some ⟨bs k, 0, none⟩) m ck)) (mi : m ≤ ci) (mk : m ≤ ck) :
    FrRows base top B n m ((w.setCell ⟨B, i, none⟩ (.slice (some ⟨bs k, 0, none⟩) m ck)).setCell ⟨B, k, none⟩ (.slice (some ⟨bs i, 0, none⟩) m ci)) (fun r => if r = k then bs i else if r = i then bs k else bs r) (Det.swap g i k) := by
  have ho : Out (fun q => q = B) w ((w.setCell ⟨B, i, none⟩ (.slice (some ⟨bs k, 0, none⟩) m ck)).setCell ⟨B, k, none⟩ (.slice (some ⟨bs i, 0, none⟩) m ci)) := ((Out.refl (fun q => q = B) w).set (p := ⟨B, i, none⟩) (fun _ => show B = B from rfl) _).set (p := ⟨B, k, none⟩) (fun _ => show B = B from rfl) _
  have hl : Lim w ((w.setCell ⟨B, i, none⟩ (.slice (some ⟨bs k, 0, none⟩) m ck)).setCell ⟨B, k, none⟩ (.slice (some ⟨bs i, 0, none⟩) m ci)) :=
    ((Lim.refl w).setT (p := ⟨B, i, none⟩) h.tB (by decide) _).setT (p := ⟨B, k, none⟩) (by rw [typ_set]; exact h.tB) (by decide) _
  have pick : ∀ r, r < n → ∃ r', r' < n ∧ (if r = k then bs i else if r = i then bs k else bs r) = bs r' ∧ (r' = if r = k then i else if r = i then k else r) := fun r hr => by
    by_cases e1 : r = k
    · exact ⟨i, hi, by rw [if_pos e1], by rw [if_pos e1]⟩
    · by_cases e2 : r = i
      · exact ⟨k, hk, by rw [if_neg e1, if_pos e2], by rw [if_neg e1, if_pos e2]⟩
      · exact ⟨r, hr, by rw [if_neg e1, if_neg e2], by rw [if_neg e1, if_neg e2]⟩
  refine ⟨by rw [typ_set, typ_set]; exact h.tB, h.lo, h.hi, (h.fB.set _ _).set _ _, fun r hr => ?_, fun r hr => ?_, fun r hr => ?_, fun r s hr hs e => ?_, fun r hr => ?_⟩
  · by_cases e1 : r = k
    · subst e1
      refine ⟨ci, ?_, mi⟩
      rw [if_pos rfl]
      by_cases e2 : r = i
      · subst e2; exact cell_here (cell_here hci _) _
      · exact cell_here (cell_far hck (by simp <;> omega) _) _
    · by_cases e2 : r = i
      · subst e2
        refine ⟨ck, ?_, mk⟩
        rw [if_neg e1, if_pos rfl]
        exact cell_far (cell_here hci _) (by simp <;> omega) _
      · obtain ⟨c, hc, hm⟩ := h.cell r hr
        refine ⟨c, ?_, hm⟩
        rw [if_neg e1, if_neg e2]
        exact cell_far (cell_far hc (by simp <;> omega) _) (by simp <;> omega) _
  · obtain ⟨r', h1, h2, -⟩ := pick r hr
    rw [h2]; exact h.lob r' h1
  · obtain ⟨r', h1, h2, -⟩ := pick r hr
    rw [h2]; exact h.hib r' h1
  · obtain ⟨r', h1, h2, h3⟩ := pick r hr
    obtain ⟨s', k1, k2, k3⟩ := pick s hs
    rw [h2, k2] at e
    have := h.inj r' s' h1 k1 e
    rw [h3, k3] at this
    by_cases a1 : r = k <;> by_cases a2 : r = i <;> by_cases a3 : s = k <;> by_cases a4 : s = i <;> simp only [a1, a2, a3, a4, if_true, if_false] at this ⊢ <;> first | omega | (split at this <;> omega)
  · obtain ⟨r', h1, h2, h3⟩ := pick r hr
    rw [h2]
    refine ((h.blk r' h1).out frk_ref ho (h.neB h1) hl).congr fun c hc => ?_
    unfold Det.swap Det.upd
    rw [h3]
    by_cases a1 : r = k
    · rw [if_pos a1, if_pos a1]
    · rw [if_neg a1, if_neg a1]
      by_cases a2 : r = i
      · rw [if_pos a2, if_pos a2]
      · rw [if_neg a2, if_neg a2]
end
def gP (g : Det.M) (k j c0 : Nat) : Det.M := fun r c => if r = k ∧ c < c0 then g k c / g k j else g r c
theorem gP_put (g : Det.M) (k j : Nat) {c : Nat} : (fun r c' => if r = k ∧ c' = c then g k c / g k j else gP g k j c r c') = gP g k j (c + 1) := by
  funext r c'
  dsimp only [gP]
  by_cases h : r = k ∧ c' = c
  · rw [if_pos h, if_pos (by omega), h.2]
  · rw [if_neg h]
    have e : (r = k ∧ c' < c) ↔ (r = k ∧ c' < c + 1) := by omega
    simp only [e]
def gC (g : Det.M) (k j i c0 : Nat) : Det.M := fun r c => if r = k then g k c / g k j else if r < i ∨ (r = i ∧ c < c0) then g r c - g r j * (g k c / g k j) else g r c
theorem gC_put (g : Det.M) (k j : Nat) {i c : Nat} (hi : i ≠ k) : (fun r c' => if r = i ∧ c' = c then g i c - g i j * (g k c / g k j) else gC g k j i c r c') = gC g k j i (c + 1) := by
  funext r c'
  dsimp only [gC]
  by_cases h : r = i ∧ c' = c
  · rw [if_pos h, if_neg (by omega), if_pos (by omega), h.1, h.2]
  · rw [if_neg h]
    have e : (r < i ∨ (r = i ∧ c' < c)) ↔ (r < i ∨ (r = i ∧ c' < c + 1)) := by omega
    simp only [e]
theorem gC_start (g : Det.M) (k j : Nat) {n m r c : Nat} (hr : r < n) (hc : c < m) : gP g k j m r c = gC g k j 0 0 r c := by
  unfold gP gC
  by_cases h : r = k
  · rw [if_pos ⟨h, hc⟩, if_pos h]
  · rw [if_neg (fun hh => h hh.1), if_neg h, if_neg (by omega)]
theorem gC_row (g : Det.M) (k j : Nat) {i m r c : Nat} (hc : c < m) : gC g k j i m r c = gC g k j (i + 1) 0 r c := by
  unfold gC
  have e : (r < i ∨ (r = i ∧ c < m)) ↔ (r < i + 1 ∨ (r = i + 1 ∧ c < 0)) := by omega
  simp only [e]
theorem gC_skip (g : Det.M) (k j : Nat) {i r c : Nat} (h : i = k ∨ g i j = 0) : gC g k j i 0 r c = gC g k j (i + 1) 0 r c := by
  unfold gC
  by_cases h1 : r = k
  · rw [if_pos h1, if_pos h1]
  rw [if_neg h1, if_neg h1]
  by_cases h2 : r < i
  · rw [if_pos (.inl h2), if_pos (.inl (by omega))]
  · rw [if_neg (by omega)]
    by_cases h3 : r = i
    · rw [if_pos (.inl (by omega))]
      rcases h with h | h
      · omega
      · rw [h3, h, Rat.zero_mul, Rat.sub_eq_add_neg, Rat.neg_zero, Rat.add_zero]
    · rw [if_neg (by omega)]
theorem gC_end (g : Det.M) (k j : Nat) {n r c : Nat} (hr : r < n) : gC g k j n 0 r c = Det.clr g k j r c := by
  unfold gC Det.clr
  by_cases h1 : r = k
  · rw [if_pos h1, if_pos h1]
  · rw [if_neg h1, if_neg h1, if_pos (.inl hr)]
end Go.Proofs.YtbmaffijncapiaaGreatDoor

