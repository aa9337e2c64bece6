/- The reference: Make. -/
import Derived.Test.YtbmaffijncapiaaGreatDoorD27
set_option linter.unusedVariables false
set_option linter.unusedSimpArgs false
namespace Go.Proofs.YtbmaffijncapiaaGreatDoor
open Num
open Go.ChangeShapes Go.WideShapes Go.ChangeAt Go.RowKit
set_option linter.unusedVariables false
set_option linter.unusedSimpArgs false
attribute [local go_sem ↓] Go.wp_at_zero Go.wp_at_succ
theorem IsRef.litR {w : World} {v : Value} {z : Int} (h : IsRef w v z) : ∃ n a l c, v = .agg #[.bool n, .slice a l c] := by
  obtain ⟨n, a, c, l, rfl, -⟩ := h
  exact ⟨n, a, l.length, c, rfl⟩
theorem rsgn_c (v : Value) (z : Int) (w : World) (h : IsRef w v z) : Calls Tryz.prog 75 #[v] w fun e w' => e = .returned (.int .i64 z.sign) ∧ Below w.heap.size w w' := by
  obtain ⟨n1, a1, c1, l1, rfl, u1, q1, g1, s1, rfl⟩ := h
  rw [rsg_sign g1 s1]
  exact rsignV_c n1 a1 l1.length c1 w
theorem lowQ {w : World} {n1 n2 : Bool} {a1 a2 : Option Addr} {l1 c1 l2 c2 : Nat} {n d : Int} (hd : 0 < d) (h1 : IsRef w (.agg #[.bool n1, .slice a1 l1 c1]) (n / gcdI n d)) (h2 : IsRef w (.agg #[.bool n2, .slice a2 l2 c2]) (d / gcdI n d)) : IsQR w (.agg #[.bool n1, .slice a1 l1 c1, .bool n2, .slice a2 l2 c2]) (Rat.divInt n d) :=
  ⟨n1, a1, l1, c1, n2, a2, l2, c2, rfl, by rw [dq_num hd]; exact h1, by rw [dq_den hd]; exact h2⟩
theorem gcdI_dvdL (x y : Int) : x % gcdI x y = 0 := by
  exact Int.emod_eq_zero_of_dvd (Int.dvd_natAbs.1 (Int.ofNat_dvd.2 (Nat.gcd_dvd_left _ _)))
theorem gcdI_dvdR (x y : Int) : y % gcdI x y = 0 := by
  exact Int.emod_eq_zero_of_dvd (Int.dvd_natAbs.1 (Int.ofNat_dvd.2 (Nat.gcd_dvd_right _ _)))
theorem gcdQ_nz {x y : Int} (h : y ≠ 0) : gcdI x y ≠ 0 := by
  unfold gcdI
  have := Nat.gcd_pos_of_pos_right x.natAbs (show 0 < y.natAbs by omega)
  omega
theorem IsQR.put4 {w : World} {v : Value} {q : Rat} {b : Nat} {m1 m2 : Bool} {x1 x2 : Option Addr} {k1 d1 k2 d2 : Nat} (h : IsQR w v q) (r0 : w.cell? ⟨b, 0, none⟩ = some (.bool m1)) (r1 : w.cell? ⟨b, 1, none⟩ = some (.slice x1 k1 d1)) (r2 : w.cell? ⟨b, 2, none⟩ = some (.bool m2)) (r3 : w.cell? ⟨b, 3, none⟩ = some (.slice x2 k2 d2)) (u0 u1 u2 u3 : Value) :
    IsQR ((((w.setCell ⟨b, 0, none⟩ u0).setCell ⟨b, 1, none⟩ u1).setCell ⟨b, 2, none⟩ u2).setCell ⟨b, 3, none⟩ u3) v q := frk_ref.lim (lim_put4 (o := 0) r0 r1 r2 r3 u0 u1 u2 u3) h
set_option maxRecDepth 100000 in
set_option maxHeartbeats 16000000 in
theorem rqMake_c (vn vd : Value) (n d : Int) (k : Nat) (w : World) (hn : IsRef w vn n) (hd : IsRef w vd d) (bn : Bd k n) (bd : Bd k d) (hk9 : k ≤ 17179869180) (h0 : d ≠ 0) :
    Calls Tryz.prog 46 #[vn, vd] w fun e w' => (∃ v, e = .returned v ∧ IsQR w' v (Rat.divInt n d)) ∧ Below w.heap.size w w' := by
  have SC := Lib.hid (fun V (q : Below w.heap.size w V) => rsgn_c vd d V (hd.keep q))
  have HN0 := Lib.hid hn
  have HD0 := Lib.hid hd
  obtain ⟨nn, na, nl, nc, rfl⟩ := hn.litR
  obtain ⟨dn, da, dl, dc, rfl⟩ := hd.litR
  clear hn hd
  have hB := Below.refl w.heap.size w
  rcases Int.lt_or_lt_of_ne h0 with hdn | hd0
  rotate_left
  · rw [Int.sign_eq_one_of_pos hd0] at SC
    have HBD := Lib.hid (And.intro bn bd)
    clear bn bd h0
    go_enter Tryz.func46, Tryz.ntmps46
    go_wp2_with fail
    (with_reducible refine (SC.out _ ?_).mono ?_); (repeat (first|exact bzR _ _|exact hB|refine bzD ?_|refine bzN ?_|refine bzS ?_|refine bzA ?_))
    rintro e w1 ⟨rfl, hb1⟩
    have n0 : w1.cell? ⟨w.heap.size, 0, none⟩ = some (.bool nn) := bkc hb1
    have zn0 := cell_lt n0
    have n0f : w1.frozen? ⟨w.heap.size, 0, none⟩ = false := bkcf (v := .bool nn) hb1
    have n1 : w1.cell? ⟨w.heap.size, 1, none⟩ = some (.slice na nl nc) := bkc hb1
    have n1f : w1.frozen? ⟨w.heap.size, 1, none⟩ = false := bkcf (v := .slice na nl nc) hb1
    have d0 : w1.cell? ⟨w.heap.size + 1, 0, none⟩ = some (.bool dn) := bkc hb1
    have zd0 := cell_lt d0
    have d0f : w1.frozen? ⟨w.heap.size + 1, 0, none⟩ = false := bkcf (v := .bool dn) hb1
    have d1 : w1.cell? ⟨w.heap.size + 1, 1, none⟩ = some (.slice da dl dc) := bkc hb1
    have d1f : w1.frozen? ⟨w.heap.size + 1, 1, none⟩ = false := bkcf (v := .slice da dl dc) hb1
    have r0 : w1.cell? ⟨w.heap.size + 1 + 1, 0, none⟩ = some (.bool false) := bkc hb1
    have zr0 := cell_lt r0
    have r0f : w1.frozen? ⟨w.heap.size + 1 + 1, 0, none⟩ = false := bkcf (v := .bool false) hb1
    have r1 : w1.cell? ⟨w.heap.size + 1 + 1, 1, none⟩ = some (.slice none 0 0) := bkc hb1
    have r1f : w1.frozen? ⟨w.heap.size + 1 + 1, 1, none⟩ = false := bkcf (v := .slice none 0 0) hb1
    have r2 : w1.cell? ⟨w.heap.size + 1 + 1, 2, none⟩ = some (.bool false) := bkc hb1
    have r2f : w1.frozen? ⟨w.heap.size + 1 + 1, 2, none⟩ = false := bkcf (v := .bool false) hb1
    have r3 : w1.cell? ⟨w.heap.size + 1 + 1, 3, none⟩ = some (.slice none 0 0) := bkc hb1
    have r3f : w1.frozen? ⟨w.heap.size + 1 + 1, 3, none⟩ = false := bkcf (v := .slice none 0 0) hb1
    have hB : Below w.heap.size w w1 := bthen (by repeat (first|exact bzR _ _|exact hB|refine bzD ?_|refine bzN ?_|refine bzS ?_|refine bzA ?_)) hb1
    have hz : w.heap.size ≤ w1.heap.size := hB.size
    have HN := Lib.hid (HN0.out.keep hB)
    have HD := Lib.hid (HD0.out.keep hB)
    have zr := cell_lt r0
    clear SC hb1 HN0 HD0
    have GC := Lib.hid (fun V (q : Below w1.heap.size w1 V) => rgcd_c (.agg #[.bool nn, .slice na nl nc]) (.agg #[.bool dn, .slice da dl dc]) n d k V (HN.out.keep q) (HD.out.keep q) HBD.out.1 HBD.out.2 (by omega))
    have bG : Bd k (gcdI n d) := gcdI_bd HBD.out.1 HBD.out.2
    have hG0 : gcdI n d ≠ 0 := gcdQ_nz (by omega)
    have HLOW := Lib.hid (fun (W : World) (n1 n2 : Bool) (a1 a2 : Option Addr) (l1 c1 l2 c2 : Nat) (h1 : IsRef W (.agg #[.bool n1, .slice a1 l1 c1]) (n / gcdI n d)) (h2 : IsRef W (.agg #[.bool n2, .slice a2 l2 c2]) (d / gcdI n d)) => lowQ hd0 h1 h2)
    have HDV := Lib.hid (And.intro (gcdI_dvdL n d) (gcdI_dvdR n d))
    obtain ⟨G, hG⟩ : ∃ G, gcdI n d = G := ⟨_, rfl⟩
    rw [hG] at GC bG hG0 HLOW HDV
    have HG0 := Lib.hid (And.intro bG hG0)
    clear hG bG hG0
    have hBw := Below.refl w1.heap.size w1
    go_wp2_with fail
    (with_reducible refine (GC.out _ ?_).mono ?_); (repeat (first|exact bzR _ _|exact hBw|refine bzD ?_|refine bzN ?_|refine bzS ?_|refine bzA ?_))
    rintro e w3 ⟨⟨g, rfl, hg⟩, hb3⟩
    have hk : Below w1.heap.size w1 w3 := bthen (by repeat (first|exact bzR _ _|exact hBw|refine bzD ?_|refine bzN ?_|refine bzS ?_|refine bzA ?_)) hb3
    have n0 : w3.cell? ⟨w.heap.size, 0, none⟩ = some (.bool nn) := bkc hb3
    have zn0 := cell_lt n0
    have n0f : w3.frozen? ⟨w.heap.size, 0, none⟩ = false := bkcf (v := .bool nn) hb3
    have n1 : w3.cell? ⟨w.heap.size, 1, none⟩ = some (.slice na nl nc) := bkc hb3
    have n1f : w3.frozen? ⟨w.heap.size, 1, none⟩ = false := bkcf (v := .slice na nl nc) hb3
    have d0 : w3.cell? ⟨w.heap.size + 1, 0, none⟩ = some (.bool dn) := bkc hb3
    have zd0 := cell_lt d0
    have d0f : w3.frozen? ⟨w.heap.size + 1, 0, none⟩ = false := bkcf (v := .bool dn) hb3
    have d1 : w3.cell? ⟨w.heap.size + 1, 1, none⟩ = some (.slice da dl dc) := bkc hb3
    have d1f : w3.frozen? ⟨w.heap.size + 1, 1, none⟩ = false := bkcf (v := .slice da dl dc) hb3
    have r0 : w3.cell? ⟨w.heap.size + 1 + 1, 0, none⟩ = some (.bool false) := bkc hb3
    have zr0 := cell_lt r0
    have r0f : w3.frozen? ⟨w.heap.size + 1 + 1, 0, none⟩ = false := bkcf (v := .bool false) hb3
    have r1 : w3.cell? ⟨w.heap.size + 1 + 1, 1, none⟩ = some (.slice none 0 0) := bkc hb3
    have r1f : w3.frozen? ⟨w.heap.size + 1 + 1, 1, none⟩ = false := bkcf (v := .slice none 0 0) hb3
    have r2 : w3.cell? ⟨w.heap.size + 1 + 1, 2, none⟩ = some (.bool false) := bkc hb3
    have r2f : w3.frozen? ⟨w.heap.size + 1 + 1, 2, none⟩ = false := bkcf (v := .bool false) hb3
    have r3 : w3.cell? ⟨w.heap.size + 1 + 1, 3, none⟩ = some (.slice none 0 0) := bkc hb3
    have r3f : w3.frozen? ⟨w.heap.size + 1 + 1, 3, none⟩ = false := bkcf (v := .slice none 0 0) hb3
    have hB : Below w.heap.size w w3 := bthen (by repeat (first|exact bzR _ _|exact hB|refine bzD ?_|refine bzN ?_|refine bzS ?_|refine bzA ?_)) hb3
    have hz : w.heap.size ≤ w3.heap.size := hB.size
    have HG := Lib.hid hg
    have HN3 := Lib.hid (HN.out.keep hk)
    have HD3 := Lib.hid (HD.out.keep hk)
    obtain ⟨gn, ga, gl, gc, rfl⟩ := hg.litR
    have zr := cell_lt r0
    clear GC hg hk hb3 hBw HN HD
    have hBw := Below.refl w3.heap.size w3
    have OC := Lib.hid (fun V (q : Below w3.heap.size w3 V) => rover_yes (.agg #[.bool nn, .slice na nl nc]) (.agg #[.bool gn, .slice ga gl gc]) n G k V (HN3.out.keep q) (HG.out.keep q) HBD.out.1 HG0.out.1 (by omega) HG0.out.2 HDV.out.1)
    go_wp2_with fail
    (with_reducible refine (OC.out _ ?_).mono ?_); (repeat (first|exact bzR _ _|exact hBw|refine bzD ?_|refine bzN ?_|refine bzS ?_|refine bzA ?_))
    rintro e w4 ⟨⟨u, rfl, hu⟩, hb4⟩
    have hk : Below w3.heap.size w3 w4 := bthen (by repeat (first|exact bzR _ _|exact hBw|refine bzD ?_|refine bzN ?_|refine bzS ?_|refine bzA ?_)) hb4
    have d0 : w4.cell? ⟨w.heap.size + 1, 0, none⟩ = some (.bool dn) := bkc hb4
    have zd0 := cell_lt d0
    have d0f : w4.frozen? ⟨w.heap.size + 1, 0, none⟩ = false := bkcf (v := .bool dn) hb4
    have d1 : w4.cell? ⟨w.heap.size + 1, 1, none⟩ = some (.slice da dl dc) := bkc hb4
    have d1f : w4.frozen? ⟨w.heap.size + 1, 1, none⟩ = false := bkcf (v := .slice da dl dc) hb4
    have r0 : w4.cell? ⟨w.heap.size + 1 + 1, 0, none⟩ = some (.bool false) := bkc hb4
    have zr0 := cell_lt r0
    have r0f : w4.frozen? ⟨w.heap.size + 1 + 1, 0, none⟩ = false := bkcf (v := .bool false) hb4
    have r1 : w4.cell? ⟨w.heap.size + 1 + 1, 1, none⟩ = some (.slice none 0 0) := bkc hb4
    have r1f : w4.frozen? ⟨w.heap.size + 1 + 1, 1, none⟩ = false := bkcf (v := .slice none 0 0) hb4
    have r2 : w4.cell? ⟨w.heap.size + 1 + 1, 2, none⟩ = some (.bool false) := bkc hb4
    have r2f : w4.frozen? ⟨w.heap.size + 1 + 1, 2, none⟩ = false := bkcf (v := .bool false) hb4
    have r3 : w4.cell? ⟨w.heap.size + 1 + 1, 3, none⟩ = some (.slice none 0 0) := bkc hb4
    have r3f : w4.frozen? ⟨w.heap.size + 1 + 1, 3, none⟩ = false := bkcf (v := .slice none 0 0) hb4
    have g0 : w4.cell? ⟨w3.heap.size, 0, none⟩ = some (.bool gn) := bkc hb4
    have zg0 := cell_lt g0
    have g1 : w4.cell? ⟨w3.heap.size, 1, none⟩ = some (.slice ga gl gc) := bkc hb4
    have hB : Below w.heap.size w w4 := bthen (by repeat (first|exact bzR _ _|exact hB|refine bzD ?_|refine bzN ?_|refine bzS ?_|refine bzA ?_)) hb4
    have hz : w.heap.size ≤ w4.heap.size := hB.size
    have HU := Lib.hid hu
    have HD4 := Lib.hid (HD3.out.keep hk)
    have HG4 := Lib.hid (HG.out.keep hk)
    obtain ⟨un, ua, ul, uc, rfl⟩ := hu.litR
    have zr := cell_lt r0
    have zg := cell_lt g0
    clear OC hu hk hb4 hBw HN3 HD3 HG
    have hBw := Below.refl w4.heap.size w4
    have OC := Lib.hid (fun V (q : Below w4.heap.size w4 V) => rover_yes (.agg #[.bool dn, .slice da dl dc]) (.agg #[.bool gn, .slice ga gl gc]) d G k V (HD4.out.keep q) (HG4.out.keep q) HBD.out.2 HG0.out.1 (by omega) HG0.out.2 HDV.out.2)
    go_wp2_with fail
    (with_reducible refine (OC.out _ ?_).mono ?_); (repeat (first|exact bzR _ _|exact hBw|refine bzD ?_|refine bzN ?_|refine bzS ?_|refine bzA ?_))
    rintro e w5 ⟨⟨x, rfl, hx⟩, hb5⟩
    have hk : Below w4.heap.size w4 w5 := bthen (by repeat (first|exact bzR _ _|exact hBw|refine bzD ?_|refine bzN ?_|refine bzS ?_|refine bzA ?_)) hb5
    have r0 : w5.cell? ⟨w.heap.size + 1 + 1, 0, none⟩ = some (.bool false) := bkc hb5
    have zr0 := cell_lt r0
    have r0f : w5.frozen? ⟨w.heap.size + 1 + 1, 0, none⟩ = false := bkcf (v := .bool false) hb5
    have r1 : w5.cell? ⟨w.heap.size + 1 + 1, 1, none⟩ = some (.slice none 0 0) := bkc hb5
    have r1f : w5.frozen? ⟨w.heap.size + 1 + 1, 1, none⟩ = false := bkcf (v := .slice none 0 0) hb5
    have r2 : w5.cell? ⟨w.heap.size + 1 + 1, 2, none⟩ = some (.bool false) := bkc hb5
    have r2f : w5.frozen? ⟨w.heap.size + 1 + 1, 2, none⟩ = false := bkcf (v := .bool false) hb5
    have r3 : w5.cell? ⟨w.heap.size + 1 + 1, 3, none⟩ = some (.slice none 0 0) := bkc hb5
    have r3f : w5.frozen? ⟨w.heap.size + 1 + 1, 3, none⟩ = false := bkcf (v := .slice none 0 0) hb5
    have a0 : w5.cell? ⟨w4.heap.size, 0, none⟩ = some (.bool un) := bkc hb5
    have za0 := cell_lt a0
    have a1 : w5.cell? ⟨w4.heap.size, 1, none⟩ = some (.slice ua ul uc) := bkc hb5
    have hB : Below w.heap.size w w5 := bthen (by repeat (first|exact bzR _ _|exact hB|refine bzD ?_|refine bzN ?_|refine bzS ?_|refine bzA ?_)) hb5
    have hz : w.heap.size ≤ w5.heap.size := hB.size
    have HU5 := Lib.hid (HU.out.keep hk)
    have HX := Lib.hid hx
    obtain ⟨xn, xa, xl, xc, rfl⟩ := hx.litR
    have HQ := Lib.hid (IsQR.put4 (HLOW.out _ _ _ _ _ _ _ _ _ HU5.out HX.out) r0 r1 r2 r3 (.bool un) (.slice ua ul uc) (.bool xn) (.slice xa xl xc))
    have zr := cell_lt r0
    have za := cell_lt a0
    clear OC hx hk hb5 hBw HU HU5 HX HD4 HG4 HLOW
    go_wp2
    refine bodyPost_ret (v := .agg #[.bool un, .slice ua ul uc, .bool xn, .slice xa xl xc]) (by simp [results, Tryz.results46, go_sem, *]) rfl ⟨⟨_, rfl, ?_⟩, ?_⟩
    · first | exact HQ.out | exact HQ.out.keep (bal (Below.refl _ _) _)
    ·
      repeat (first|exact bzR _ _|exact hB|refine bzD ?_|refine bzN ?_|refine bzS ?_|refine bzA ?_)
  · rw [Int.sign_eq_neg_one_of_neg hdn] at SC
    rw [divInt_swap hdn]
    have HBD := Lib.hid (And.intro bn.neg bd.neg)
    have hd0 : 0 < -d := by omega
    clear bn bd h0
    go_enter Tryz.func46, Tryz.ntmps46
    go_wp2_with fail
    (with_reducible refine (SC.out _ ?_).mono ?_); (repeat (first|exact bzR _ _|exact hB|refine bzD ?_|refine bzN ?_|refine bzS ?_|refine bzA ?_))
    rintro e w1 ⟨rfl, hb1⟩
    have n0 : w1.cell? ⟨w.heap.size, 0, none⟩ = some (.bool nn) := bkc hb1
    have zn0 := cell_lt n0
    have n0f : w1.frozen? ⟨w.heap.size, 0, none⟩ = false := bkcf (v := .bool nn) hb1
    have n1 : w1.cell? ⟨w.heap.size, 1, none⟩ = some (.slice na nl nc) := bkc hb1
    have n1f : w1.frozen? ⟨w.heap.size, 1, none⟩ = false := bkcf (v := .slice na nl nc) hb1
    have d0 : w1.cell? ⟨w.heap.size + 1, 0, none⟩ = some (.bool dn) := bkc hb1
    have zd0 := cell_lt d0
    have d0f : w1.frozen? ⟨w.heap.size + 1, 0, none⟩ = false := bkcf (v := .bool dn) hb1
    have d1 : w1.cell? ⟨w.heap.size + 1, 1, none⟩ = some (.slice da dl dc) := bkc hb1
    have d1f : w1.frozen? ⟨w.heap.size + 1, 1, none⟩ = false := bkcf (v := .slice da dl dc) hb1
    have r0 : w1.cell? ⟨w.heap.size + 1 + 1, 0, none⟩ = some (.bool false) := bkc hb1
    have zr0 := cell_lt r0
    have r0f : w1.frozen? ⟨w.heap.size + 1 + 1, 0, none⟩ = false := bkcf (v := .bool false) hb1
    have r1 : w1.cell? ⟨w.heap.size + 1 + 1, 1, none⟩ = some (.slice none 0 0) := bkc hb1
    have r1f : w1.frozen? ⟨w.heap.size + 1 + 1, 1, none⟩ = false := bkcf (v := .slice none 0 0) hb1
    have r2 : w1.cell? ⟨w.heap.size + 1 + 1, 2, none⟩ = some (.bool false) := bkc hb1
    have r2f : w1.frozen? ⟨w.heap.size + 1 + 1, 2, none⟩ = false := bkcf (v := .bool false) hb1
    have r3 : w1.cell? ⟨w.heap.size + 1 + 1, 3, none⟩ = some (.slice none 0 0) := bkc hb1
    have r3f : w1.frozen? ⟨w.heap.size + 1 + 1, 3, none⟩ = false := bkcf (v := .slice none 0 0) hb1
    have hB : Below w.heap.size w w1 := bthen (by repeat (first|exact bzR _ _|exact hB|refine bzD ?_|refine bzN ?_|refine bzS ?_|refine bzA ?_)) hb1
    have hz : w.heap.size ≤ w1.heap.size := hB.size
    have NC := Lib.hid (fun V (q : Below w1.heap.size w1 V) => rneg_c (.agg #[.bool nn, .slice na nl nc]) n V ((HN0.out.keep hB).keep q))
    have DC := Lib.hid (fun V (q : Below w1.heap.size w1 V) => rneg_c (.agg #[.bool dn, .slice da dl dc]) d V ((HD0.out.keep hB).keep q))
    have hBw := Below.refl w1.heap.size w1
    have HS := Lib.hid (show ∀ V, Below w1.heap.size w1 V → V.cell? ⟨w.heap.size, 0, none⟩ = some (.bool nn) ∧ V.cell? ⟨w.heap.size, 1, none⟩ = some (.slice na nl nc) ∧ V.cell? ⟨w.heap.size + 1, 0, none⟩ = some (.bool dn) ∧ V.cell? ⟨w.heap.size + 1, 1, none⟩ = some (.slice da dl dc) ∧ V.frozen? ⟨w.heap.size, 0, none⟩ = false ∧ V.frozen? ⟨w.heap.size, 1, none⟩ = false ∧ V.frozen? ⟨w.heap.size + 1, 0, none⟩ = false ∧ V.frozen? ⟨w.heap.size + 1, 1, none⟩ = false from fun V q => ⟨bkeep q n0, bkeep q n1, bkeep q d0, bkeep q d1, bkeepf q n0 n0f, bkeepf q n1 n1f, bkeepf q d0 d0f, bkeepf q d1 d1f⟩)
    have zr := cell_lt r0
    clear SC hb1 HN0 HD0
    go_upto_region 2 with (fail)
    go_region_law (go_simp; go_wp2_with (first
      | (go_at_call 132; (with_reducible show Calls _ _ #[.agg #[.bool nn, .slice na nl nc]] _ _); (with_reducible refine (NC.out _ ?_).mono ?_); (repeat (first|exact bzR _ _|exact hBw|refine bzD ?_|refine bzN ?_|refine bzS ?_|refine bzA ?_)); rintro e w2 ⟨⟨u2, rfl, hu2⟩, hb2⟩; (have hBd : Below w1.heap.size w1 w2 := bthen (by repeat (first|exact bzR _ _|exact hBw|refine bzD ?_|refine bzN ?_|refine bzS ?_|refine bzA ?_)) hb2; clear hBw; have hBw := hBd; clear hBd); obtain ⟨n0, n1, d0, d1, n0f, n1f, d0f, d1f⟩ := HS.out w2 hBw; have HU2 := Lib.hid hu2; have hy2 := Below.refl w2.heap.size w2; obtain ⟨nn, na, nl, nc, rfl⟩ := hu2.litR)
      | (go_at_call 132; (with_reducible refine (DC.out _ ?_).mono ?_); (repeat (first|exact bzR _ _|exact hBw|refine bzD ?_|refine bzN ?_|refine bzS ?_|refine bzA ?_)); rintro e w3 ⟨⟨u3, rfl, hu3⟩, hb3⟩; (have hBd : Below w1.heap.size w1 w3 := bthen (by repeat (first|exact bzR _ _|exact hBw|refine bzD ?_|refine bzN ?_|refine bzS ?_|refine bzA ?_)) hb3; clear hBw; have hBw := hBd; clear hBd); obtain ⟨n0, n1, d0, d1, n0f, n1f, d0f, d1f⟩ := HS.out w3 hBw; have HU3 := Lib.hid hu3; (have hBd : Below w2.heap.size w2 w3 := bthen (by repeat (first|exact bzR _ _|exact hy2|refine bzD ?_|refine bzN ?_|refine bzS ?_|refine bzA ?_)) hb3; clear hy2; have hy2 := hBd; clear hBd); obtain ⟨dn, da, dl, dc, rfl⟩ := hu3.litR)
      | fail))
    all_goals
      go_upto_region 3 with (fail)
      refine wp_name fun w9 hW9 => ?_
      have hBs := bthen hB hBw
      have HR := Lib.hid (show (w3.cell? ⟨w.heap.size + 1 + 1, 0, none⟩ = some (.bool false) ∧ w3.cell? ⟨w.heap.size + 1 + 1, 1, none⟩ = some (.slice none 0 0) ∧ w3.cell? ⟨w.heap.size + 1 + 1, 2, none⟩ = some (.bool false) ∧ w3.cell? ⟨w.heap.size + 1 + 1, 3, none⟩ = some (.slice none 0 0)) ∧ (w3.frozen? ⟨w.heap.size + 1 + 1, 0, none⟩ = false ∧ w3.frozen? ⟨w.heap.size + 1 + 1, 1, none⟩ = false ∧ w3.frozen? ⟨w.heap.size + 1 + 1, 2, none⟩ = false ∧ w3.frozen? ⟨w.heap.size + 1 + 1, 3, none⟩ = false) from ⟨⟨bkeep hBw r0, bkeep hBw r1, bkeep hBw r2, bkeep hBw r3⟩, ⟨bkeepf hBw r0 r0f, bkeepf hBw r1 r1f, bkeepf hBw r2 r2f, bkeepf hBw r3 r3f⟩⟩)
      have HN := Lib.hid (show IsRef w9 (.agg #[.bool nn, .slice na nl nc]) (-n) from by rw [hW9]; exact ((HU2.out.keep hy2).put2 n0 n1 _ _).put2 (cell_far (cell_far d0 (by simp) _) (by simp) _) (cell_far (cell_far d1 (by simp) _) (by simp) _) _ _)
      have HD := Lib.hid (show IsRef w9 (.agg #[.bool dn, .slice da dl dc]) (-d) from by rw [hW9]; exact (HU3.out.put2 n0 n1 _ _).put2 (cell_far (cell_far d0 (by simp) _) (by simp) _) (cell_far (cell_far d1 (by simp) _) (by simp) _) _ _)
      have n0q : w9.cell? ⟨w.heap.size, 0, none⟩ = some (.bool nn) := by rw [hW9]; exact cell_far (cell_far (cell_far (cell_here n0 _) (by simp) _) (by simp) _) (by simp) _
      have n1q : w9.cell? ⟨w.heap.size, 1, none⟩ = some (.slice na nl nc) := by rw [hW9]; exact cell_far (cell_far (cell_here (cell_far n1 (by simp) _) _) (by simp) _) (by simp) _
      have d0q : w9.cell? ⟨w.heap.size + 1, 0, none⟩ = some (.bool dn) := by rw [hW9]; exact cell_far (cell_here (cell_far (cell_far d0 (by simp) _) (by simp) _) _) (by simp) _
      have d1q : w9.cell? ⟨w.heap.size + 1, 1, none⟩ = some (.slice da dl dc) := by rw [hW9]; exact cell_here (cell_far (cell_far (cell_far d1 (by simp) _) (by simp) _) (by simp) _) _
      have f4 : ∀ p, w3.frozen? p = false → w9.frozen? p = false := fun p h => by rw [hW9, World.frozen?_setCell, World.frozen?_setCell, World.frozen?_setCell, World.frozen?_setCell]; exact h
      have n0qf := f4 _ n0f
      have n1qf := f4 _ n1f
      have d0qf := f4 _ d0f
      have d1qf := f4 _ d1f
      have c4 : ∀ i u, w3.cell? ⟨w.heap.size + 1 + 1, i, none⟩ = some u → w9.cell? ⟨w.heap.size + 1 + 1, i, none⟩ = some u := fun i u h => by rw [hW9]; exact cell_far (cell_far (cell_far (cell_far h (by simp <;> omega) _) (by simp <;> omega) _) (by simp <;> omega) _) (by simp <;> omega) _
      have r0q := c4 _ _ HR.out.1.1
      have r1q := c4 _ _ HR.out.1.2.1
      have r2q := c4 _ _ HR.out.1.2.2.1
      have r3q := c4 _ _ HR.out.1.2.2.2
      have r0qf := f4 _ HR.out.2.1
      have r1qf := f4 _ HR.out.2.2.1
      have r2qf := f4 _ HR.out.2.2.2.1
      have r3qf := f4 _ HR.out.2.2.2.2
      have hBn : Below w.heap.size w w9 := by rw [hW9]; exact bset (bset (bset (bset hBs (Nat.le_refl _) _) (Nat.le_refl _) _) (Nat.le_succ _) _) (Nat.le_succ _) _
      clear hW9 hB hBw hBs HR f4 c4 n0 n1 d0 d1 r0 r1 r2 r3 n0f n1f d0f d1f r0f r1f r2f r3f HU2 HU3 NC DC HS hy2 zr
      have hB := hBn
      have n0 := n0q
      have n1 := n1q
      have d0 := d0q
      have d1 := d1q
      have r0 := r0q
      have r1 := r1q
      have r2 := r2q
      have r3 := r3q
      have n0f := n0qf
      have n1f := n1qf
      have d0f := d0qf
      have d1f := d1qf
      have r0f := r0qf
      have r1f := r1qf
      have r2f := r2qf
      have r3f := r3qf
      clear hBn n0q n1q d0q d1q r0q r1q r2q r3q n0qf n1qf d0qf d1qf r0qf r1qf r2qf r3qf
      have zr := cell_lt r0
      have GC := Lib.hid (fun V (q : Below w9.heap.size w9 V) => rgcd_c (.agg #[.bool nn, .slice na nl nc]) (.agg #[.bool dn, .slice da dl dc]) (-n) (-d) k V (HN.out.keep q) (HD.out.keep q) HBD.out.1 HBD.out.2 (by omega))
      have bG : Bd k (gcdI (-n) (-d)) := gcdI_bd HBD.out.1 HBD.out.2
      have hG0 : gcdI (-n) (-d) ≠ 0 := gcdQ_nz (by omega)
      have HLOW := Lib.hid (fun (W : World) (n1 n2 : Bool) (a1 a2 : Option Addr) (l1 c1 l2 c2 : Nat) (h1 : IsRef W (.agg #[.bool n1, .slice a1 l1 c1]) ((-n) / gcdI (-n) (-d))) (h2 : IsRef W (.agg #[.bool n2, .slice a2 l2 c2]) ((-d) / gcdI (-n) (-d))) => lowQ hd0 h1 h2)
      have HDV := Lib.hid (And.intro (gcdI_dvdL (-n) (-d)) (gcdI_dvdR (-n) (-d)))
      obtain ⟨G, hG⟩ : ∃ G, gcdI (-n) (-d) = G := ⟨_, rfl⟩
      rw [hG] at GC bG hG0 HLOW HDV
      have HG0 := Lib.hid (And.intro bG hG0)
      clear hG bG hG0
      have hBw := Below.refl w9.heap.size w9
      go_wp2_with fail
      (with_reducible refine (GC.out _ ?_).mono ?_); (repeat (first|exact bzR _ _|exact hBw|refine bzD ?_|refine bzN ?_|refine bzS ?_|refine bzA ?_))
      rintro e w3 ⟨⟨g, rfl, hg⟩, hb3⟩
      have hk : Below w9.heap.size w9 w3 := bthen (by repeat (first|exact bzR _ _|exact hBw|refine bzD ?_|refine bzN ?_|refine bzS ?_|refine bzA ?_)) hb3
      have n0 : w3.cell? ⟨w.heap.size, 0, none⟩ = some (.bool nn) := bkc hb3
      have zn0 := cell_lt n0
      have n0f : w3.frozen? ⟨w.heap.size, 0, none⟩ = false := bkcf (v := .bool nn) hb3
      have n1 : w3.cell? ⟨w.heap.size, 1, none⟩ = some (.slice na nl nc) := bkc hb3
      have n1f : w3.frozen? ⟨w.heap.size, 1, none⟩ = false := bkcf (v := .slice na nl nc) hb3
      have d0 : w3.cell? ⟨w.heap.size + 1, 0, none⟩ = some (.bool dn) := bkc hb3
      have zd0 := cell_lt d0
      have d0f : w3.frozen? ⟨w.heap.size + 1, 0, none⟩ = false := bkcf (v := .bool dn) hb3
      have d1 : w3.cell? ⟨w.heap.size + 1, 1, none⟩ = some (.slice da dl dc) := bkc hb3
      have d1f : w3.frozen? ⟨w.heap.size + 1, 1, none⟩ = false := bkcf (v := .slice da dl dc) hb3
      have r0 : w3.cell? ⟨w.heap.size + 1 + 1, 0, none⟩ = some (.bool false) := bkc hb3
      have zr0 := cell_lt r0
      have r0f : w3.frozen? ⟨w.heap.size + 1 + 1, 0, none⟩ = false := bkcf (v := .bool false) hb3
      have r1 : w3.cell? ⟨w.heap.size + 1 + 1, 1, none⟩ = some (.slice none 0 0) := bkc hb3
      have r1f : w3.frozen? ⟨w.heap.size + 1 + 1, 1, none⟩ = false := bkcf (v := .slice none 0 0) hb3
      have r2 : w3.cell? ⟨w.heap.size + 1 + 1, 2, none⟩ = some (.bool false) := bkc hb3
      have r2f : w3.frozen? ⟨w.heap.size + 1 + 1, 2, none⟩ = false := bkcf (v := .bool false) hb3
      have r3 : w3.cell? ⟨w.heap.size + 1 + 1, 3, none⟩ = some (.slice none 0 0) := bkc hb3
      have r3f : w3.frozen? ⟨w.heap.size + 1 + 1, 3, none⟩ = false := bkcf (v := .slice none 0 0) hb3
      have hB : Below w.heap.size w w3 := bthen (by repeat (first|exact bzR _ _|exact hB|refine bzD ?_|refine bzN ?_|refine bzS ?_|refine bzA ?_)) hb3
      have hz : w.heap.size ≤ w3.heap.size := hB.size
      have HG := Lib.hid hg
      have HN3 := Lib.hid (HN.out.keep hk)
      have HD3 := Lib.hid (HD.out.keep hk)
      obtain ⟨gn, ga, gl, gc, rfl⟩ := hg.litR
      have zr := cell_lt r0
      clear GC hg hk hb3 hBw HN HD
      have hBw := Below.refl w3.heap.size w3
      have OC := Lib.hid (fun V (q : Below w3.heap.size w3 V) => rover_yes (.agg #[.bool nn, .slice na nl nc]) (.agg #[.bool gn, .slice ga gl gc]) (-n) G k V (HN3.out.keep q) (HG.out.keep q) HBD.out.1 HG0.out.1 (by omega) HG0.out.2 HDV.out.1)
      go_wp2_with fail
      (with_reducible refine (OC.out _ ?_).mono ?_); (repeat (first|exact bzR _ _|exact hBw|refine bzD ?_|refine bzN ?_|refine bzS ?_|refine bzA ?_))
      rintro e w4 ⟨⟨u, rfl, hu⟩, hb4⟩
      have hk : Below w3.heap.size w3 w4 := bthen (by repeat (first|exact bzR _ _|exact hBw|refine bzD ?_|refine bzN ?_|refine bzS ?_|refine bzA ?_)) hb4
      have d0 : w4.cell? ⟨w.heap.size + 1, 0, none⟩ = some (.bool dn) := bkc hb4
      have zd0 := cell_lt d0
      have d0f : w4.frozen? ⟨w.heap.size + 1, 0, none⟩ = false := bkcf (v := .bool dn) hb4
      have d1 : w4.cell? ⟨w.heap.size + 1, 1, none⟩ = some (.slice da dl dc) := bkc hb4
      have d1f : w4.frozen? ⟨w.heap.size + 1, 1, none⟩ = false := bkcf (v := .slice da dl dc) hb4
      have r0 : w4.cell? ⟨w.heap.size + 1 + 1, 0, none⟩ = some (.bool false) := bkc hb4
      have zr0 := cell_lt r0
      have r0f : w4.frozen? ⟨w.heap.size + 1 + 1, 0, none⟩ = false := bkcf (v := .bool false) hb4
      have r1 : w4.cell? ⟨w.heap.size + 1 + 1, 1, none⟩ = some (.slice none 0 0) := bkc hb4
      have r1f : w4.frozen? ⟨w.heap.size + 1 + 1, 1, none⟩ = false := bkcf (v := .slice none 0 0) hb4
      have r2 : w4.cell? ⟨w.heap.size + 1 + 1, 2, none⟩ = some (.bool false) := bkc hb4
      have r2f : w4.frozen? ⟨w.heap.size + 1 + 1, 2, none⟩ = false := bkcf (v := .bool false) hb4
      have r3 : w4.cell? ⟨w.heap.size + 1 + 1, 3, none⟩ = some (.slice none 0 0) := bkc hb4
      have r3f : w4.frozen? ⟨w.heap.size + 1 + 1, 3, none⟩ = false := bkcf (v := .slice none 0 0) hb4
      have g0 : w4.cell? ⟨w3.heap.size, 0, none⟩ = some (.bool gn) := bkc hb4
      have zg0 := cell_lt g0
      have g1 : w4.cell? ⟨w3.heap.size, 1, none⟩ = some (.slice ga gl gc) := bkc hb4
      have hB : Below w.heap.size w w4 := bthen (by repeat (first|exact bzR _ _|exact hB|refine bzD ?_|refine bzN ?_|refine bzS ?_|refine bzA ?_)) hb4
      have hz : w.heap.size ≤ w4.heap.size := hB.size
      have HU := Lib.hid hu
      have HD4 := Lib.hid (HD3.out.keep hk)
      have HG4 := Lib.hid (HG.out.keep hk)
      obtain ⟨un, ua, ul, uc, rfl⟩ := hu.litR
      have zr := cell_lt r0
      have zg := cell_lt g0
      clear OC hu hk hb4 hBw HN3 HD3 HG
      have hBw := Below.refl w4.heap.size w4
      have OC := Lib.hid (fun V (q : Below w4.heap.size w4 V) => rover_yes (.agg #[.bool dn, .slice da dl dc]) (.agg #[.bool gn, .slice ga gl gc]) (-d) G k V (HD4.out.keep q) (HG4.out.keep q) HBD.out.2 HG0.out.1 (by omega) HG0.out.2 HDV.out.2)
      go_wp2_with fail
      (with_reducible refine (OC.out _ ?_).mono ?_); (repeat (first|exact bzR _ _|exact hBw|refine bzD ?_|refine bzN ?_|refine bzS ?_|refine bzA ?_))
      rintro e w5 ⟨⟨x, rfl, hx⟩, hb5⟩
      have hk : Below w4.heap.size w4 w5 := bthen (by repeat (first|exact bzR _ _|exact hBw|refine bzD ?_|refine bzN ?_|refine bzS ?_|refine bzA ?_)) hb5
      have r0 : w5.cell? ⟨w.heap.size + 1 + 1, 0, none⟩ = some (.bool false) := bkc hb5
      have zr0 := cell_lt r0
      have r0f : w5.frozen? ⟨w.heap.size + 1 + 1, 0, none⟩ = false := bkcf (v := .bool false) hb5
      have r1 : w5.cell? ⟨w.heap.size + 1 + 1, 1, none⟩ = some (.slice none 0 0) := bkc hb5
      have r1f : w5.frozen? ⟨w.heap.size + 1 + 1, 1, none⟩ = false := bkcf (v := .slice none 0 0) hb5
      have r2 : w5.cell? ⟨w.heap.size + 1 + 1, 2, none⟩ = some (.bool false) := bkc hb5
      have r2f : w5.frozen? ⟨w.heap.size + 1 + 1, 2, none⟩ = false := bkcf (v := .bool false) hb5
      have r3 : w5.cell? ⟨w.heap.size + 1 + 1, 3, none⟩ = some (.slice none 0 0) := bkc hb5
      have r3f : w5.frozen? ⟨w.heap.size + 1 + 1, 3, none⟩ = false := bkcf (v := .slice none 0 0) hb5
      have a0 : w5.cell? ⟨w4.heap.size, 0, none⟩ = some (.bool un) := bkc hb5
      have za0 := cell_lt a0
      have a1 : w5.cell? ⟨w4.heap.size, 1, none⟩ = some (.slice ua ul uc) := bkc hb5
      have hB : Below w.heap.size w w5 := bthen (by repeat (first|exact bzR _ _|exact hB|refine bzD ?_|refine bzN ?_|refine bzS ?_|refine bzA ?_)) hb5
      have hz : w.heap.size ≤ w5.heap.size := hB.size
      have HU5 := Lib.hid (HU.out.keep hk)
      have HX := Lib.hid hx
      obtain ⟨xn, xa, xl, xc, rfl⟩ := hx.litR
      have HQ := Lib.hid (IsQR.put4 (HLOW.out _ _ _ _ _ _ _ _ _ HU5.out HX.out) r0 r1 r2 r3 (.bool un) (.slice ua ul uc) (.bool xn) (.slice xa xl xc))
      have zr := cell_lt r0
      have za := cell_lt a0
      clear OC hx hk hb5 hBw HU HU5 HX HD4 HG4 HLOW
      go_wp2
      refine bodyPost_ret (v := .agg #[.bool un, .slice ua ul uc, .bool xn, .slice xa xl xc]) (by simp [results, Tryz.results46, go_sem, *]) rfl ⟨⟨_, rfl, ?_⟩, ?_⟩
      · first | exact HQ.out | exact HQ.out.keep (bal (Below.refl _ _) _)
      ·
        repeat (first|exact bzR _ _|exact hB|refine bzD ?_|refine bzN ?_|refine bzS ?_|refine bzA ?_)
end Go.Proofs.YtbmaffijncapiaaGreatDoor

