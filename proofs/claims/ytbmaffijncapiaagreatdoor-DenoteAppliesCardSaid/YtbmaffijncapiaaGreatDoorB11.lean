/- Texts of this seat, laid together: EwB, RefN, RefS, RefO, RefQ, RtA, RtB, RtC, ExD, VmF, VmG, VmH. What each theorem proves, and under which conditions, its statement says. -/
import Derived.Test.YtbmaffijncapiaaGreatDoorB10
import Derived.Laws.CopyRow
import Derived.Laws.Rows
import Derived.Laws.Tables
set_option maxRecDepth 100000
set_option maxHeartbeats 32000000
set_option linter.unusedVariables false
set_option linter.unusedSimpArgs false
namespace Go.Proofs.YtbmaffijncapiaaGreatDoor
open Go.ChangeShapes Go.WideShapes Go.ChangeAt Go.RowKit
section
open Num
theorem rnormW_c (neg : Bool) (a : Option Addr) (ca : Nat) (l : List Nat) (w : World) (ha : U32 w a ca l) :
 Calls Tryz.prog 117 #[.bool neg, .slice a l.length ca] w fun e w' => e = .returned (iv (neg && decide (0 < (trimL l).length)) a (trimL l).length ca) ∧ w' = w.alloc (.cells #[.bool (neg && decide (0 < (trimL l).length)), .slice a (trimL l).length ca] 56) := by
 obtain ⟨hc, hm, hl, hcs⟩ := ha
 unfold maxLen at hm
 go_enter Tryz.func117, Tryz.ntmps117
 go_wp2
 go_loop [5] (fun x => ∃ k : Nat, k ≤ l.length ∧ x = .int .i64 k ∧ trimL (l.take k) = trimL l) (fun x => (intOf x).toNat)
 case atStart => exact ⟨l.length, Nat.le_refl _, rfl, by rw [List.take_length]⟩
 case round =>
  obtain ⟨k, hk, rfl, ht⟩ := hrel
  have HT := hZ ht
  clear ht
  cases k with
  | zero =>
   have hz : (trimL l).length = 0 := by have := HT.out; rw [List.take_zero] at this; rw [← this]; rfl
   have HZ := hZ hz
   clear hz
   cases neg with
   | true =>
    go_wp2
    refine bodyPost_ret (v := iv false a 0 ca) (by simp [iv, results, Tryz.results117, go_sem, *]) rfl ⟨by rw [HZ.out] <;> simp, by rw [HZ.out] <;> simp⟩
   | false =>
    go_wp2
    refine bodyPost_ret (v := iv false a 0 ca) (by simp [iv, results, Tryz.results117, go_sem, *]) rfl ⟨by rw [HZ.out] <;> simp, by rw [HZ.out] <;> simp⟩
  | succ j =>
   rcases hcs with rfl | ⟨b, off, rfl, hcell⟩
   · simp at hk
   have hj := cell_alloc (hcell j (by omega)) (.cells #[.bool false, .slice none 0 0] 56)
   by_cases h0 : l.getD j 0 = 0
   · have HN := hZ (trim_take_zero (by omega : j < l.length) h0)
     rw [h0] at hj
     go_wp2
     exact ⟨⟨j, by omega, rfl, HN.out.symm.trans HT.out⟩, by simp [intOf] <;> omega⟩
   · have HN := hZ (trim_take_pos (by omega : j < l.length) h0)
     generalize hx : l.getD j 0 = x at *
     have hx0 : ((x : Int) == 0) = false := by simp; omega
     have HL := hZ (show (trimL l).length = j + 1 by rw [← HT.out, HN.out]; simp; omega)
     cases neg with
     | true =>
      go_wp2
      refine bodyPost_ret (v := iv true (some ⟨b, off, none⟩) (j + 1) ca) (by simp [iv, results, Tryz.results117, go_sem, *]) rfl ⟨by rw [HL.out] <;> simp, by rw [HL.out] <;> simp⟩
     | false =>
      go_wp2
      refine bodyPost_ret (v := iv false (some ⟨b, off, none⟩) (j + 1) ca) (by simp [iv, results, Tryz.results117, go_sem, *]) rfl ⟨by rw [HL.out] <;> simp, by rw [HL.out] <;> simp⟩

end
section
open Num
theorem rlen_le {l B : List Nat} (hn : Nrm l) (hB : NumR.Limbs B) (h : NumR.val l ≤ NumR.val B) : l.length ≤ B.length := by
 apply Nat.le_of_not_lt; intro hl
 have := NumR.val_lt_of_len hB hn hl
 omega
theorem radd_n (vx vy : Value) (x y : Int) (B : List Nat) (w : World) (hx : IsRef w vx x) (hy : IsRef w vy y) (hB : NumR.Limbs B) (bx : x.natAbs ≤ NumR.val B) (by' : y.natAbs ≤ NumR.val B) (hk : B.length ≤ 2147483650) :
 Calls Tryz.prog 257 #[vx, vy] w fun e w' => (∃ v, e = .returned v ∧ IsRef w' v (x + y)) ∧ Below w.heap.size w w' := by
 obtain ⟨n1, a1, c1, l1, rfl, u1, q1, g1, s1, rfl⟩ := hx
 obtain ⟨n2, a2, c2, l2, rfl, u2, q2, g2, s2, rfl⟩ := hy
 rw [sg_abs] at bx by'
 exact raddV_c n1 n2 a1 a2 c1 c2 l1 l2 w u1 u2 q1 q2 g1 g2 (Nat.le_trans (rlen_le g1 hB bx) hk) (Nat.le_trans (rlen_le g2 hB by') hk)
theorem rsub_n (vx vy : Value) (x y : Int) (B : List Nat) (w : World) (hx : IsRef w vx x) (hy : IsRef w vy y) (hB' : NumR.Limbs B) (bx : x.natAbs ≤ NumR.val B) (by' : y.natAbs ≤ NumR.val B) (hk : B.length ≤ 2147483650) :
 Calls Tryz.prog 258 #[vx, vy] w fun e w' => (∃ v, e = .returned v ∧ IsRef w' v (x - y)) ∧ Below w.heap.size w w' := by
 have nx := fun W (k : Below w.heap.size w W) => rneg_c vy y W (hy.keep k)
 have ad := fun vz W (k : Below w.heap.size w W) (hz : IsRef W vz (-y)) => radd_n vx vz x (-y) B W (hx.keep k) hz hB' bx (by rw [Int.natAbs_neg]; exact by') hk
 obtain ⟨n1, a1, c1, l1, rfl, -⟩ := hx
 obtain ⟨n2, a2, c2, l2, rfl, -⟩ := hy
 unfold iv at *
 have HE := hZ (show x + -y = x - y by omega)
 clear bx by' hk hB'
 have hB := Below.refl w.heap.size w
 go_enter Tryz.func258, Tryz.ntmps258
 go_wp2
 refine wp_name fun w0 hW0 => ?_
 have x0 : w0.cell? ⟨w.heap.size, 0, none⟩ = some (.bool n1) := bkn hW0
 have zx0 := cell_lt x0
 have x1 : w0.cell? ⟨w.heap.size, 1, none⟩ = some (.slice a1 l1.length c1) := bkn hW0
 have y0 : w0.cell? ⟨w.heap.size + 1, 0, none⟩ = some (.bool n2) := bkn hW0
 have zy0 := cell_lt y0
 have y1 : w0.cell? ⟨w.heap.size + 1, 1, none⟩ = some (.slice a2 l2.length c2) := bkn hW0
 have r0f : w0.frozen? ⟨w.heap.size + 2, 0, none⟩ = false := by rw [hW0]; simp [go_sem, *]
 have r0 : w0.cell? ⟨w.heap.size + 2, 0, none⟩ = some (.bool false) := bkn hW0
 have zr0 := cell_lt r0
 have r1f : w0.frozen? ⟨w.heap.size + 2, 1, none⟩ = false := by rw [hW0]; simp [go_sem, *]
 have r1 : w0.cell? ⟨w.heap.size + 2, 1, none⟩ = some (.slice none 0 0) := bkn hW0
 have hB : Below w.heap.size w w0 := by rw [hW0]; repeat (first|exact bzR _ _|exact hB|refine bzD ?_|refine bzN ?_|refine bzS ?_|refine bzA ?_)
 have hz := hB.size
 clear hW0
 have hBc : Below w0.heap.size w0 w0.drew := (Below.refl _ _).drew
 have HB0 := hZ hB
 go_region_held3 (fun w' => w'.cell? ⟨w.heap.size, 0, none⟩ = some (.bool n1) ∧ w'.cell? ⟨w.heap.size, 1, none⟩ = some (.slice a1 l1.length c1) ∧ w'.cell? ⟨w.heap.size + 1, 0, none⟩ = some (.bool n2) ∧ w'.cell? ⟨w.heap.size + 1, 1, none⟩ = some (.slice a2 l2.length c2))
  (first | exact ⟨x0, x1, y0, y1⟩ | exact ⟨bkeep hBc x0, bkeep hBc x1, bkeep hBc y0, bkeep hBc y1⟩ | exact ⟨cell_far (cell_far (bkeep hBc x0) (addr_ne (by omega)) _) (addr_ne (by omega)) _, cell_far (cell_far (bkeep hBc x1) (addr_ne (by omega)) _) (addr_ne (by omega)) _, cell_far (cell_far (bkeep hBc y0) (addr_ne (by omega)) _) (addr_ne (by omega)) _, cell_far (cell_far (bkeep hBc y1) (addr_ne (by omega)) _) (addr_ne (by omega)) _⟩)
  (first
   | (go_at_call 132; refine (nx _ (bthen HB0.out hBc)).mono ?_; rintro e w3 ⟨⟨v3, rfl, hi3⟩, hb3⟩; (replace hBc := bthen hBc hb3); (have HI3 := hZ hi3); clear hi3)
   | (go_at_call 257; refine (ad _ _ (bthen HB0.out hBc) HI3.out).mono ?_; rintro e w4 ⟨⟨v, rfl, hi⟩, hb4⟩; (replace hBc := bthen hBc hb4); (replace r0f := bkeepf hBc r0 r0f); (replace r1f := bkeepf hBc r1 r1f); (replace r0 := bkeep hBc r0); (replace r1 := bkeep hBc r1); (have HI2 := hZ (hi.put2 r0 r1)); (obtain ⟨n4, a4, c4, l4, rfl, _, _, _, _⟩ := hi); unfold iv at *))
 have hB9 := bthen HB0.out hBc
 clear x0 x1 y0 y1
 rw [HE.out] at HI2
 go_wp2
 refine bodyPost_ret (v := .agg #[.bool n4, .slice a4 l4.length c4]) (by simp [results, Tryz.results258, go_sem, *]) rfl ⟨⟨_, rfl, HI2.out _ _⟩, ?_⟩
 repeat exact bZ
end
section
open Num
theorem Free.al {w : World} {g : Nat} (h : Free w g) (o : Obj) : Free (w.alloc o) g := h.keep (bal (Below.refl _ _) _)
theorem Free.dr {w : World} {g : Nat} (h : Free w g) : Free w.drew g := h
theorem rdivmodV_c (n1 n2 : Bool) (a1 a2 : Option Addr) (c1 c2 : Nat) (l1 l2 : List Nat) (w : World) (u1 : U32 w a1 c1 l1) (u2 : U32 w a2 c2 l2) (q1 : NumR.Limbs l1) (q2 : NumR.Limbs l2) (g1 : Nrm l1) (g2 : Nrm l2) (hz : 0 < NumR.val l2) (k1 : l1.length ≤ 1073741826) (k2 : l2.length ≤ 1073741826) (s1 : n1 = true → l1 ≠ []) (s2 : n2 = true → l2 ≠ []) :
 Calls Tryz.prog 200 #[.agg #[.bool n1, .slice a1 l1.length c1], .agg #[.bool n2, .slice a2 l2.length c2]] w fun e w' => (∃ u v, e = .returned (.tuple #[u, v]) ∧ IsRef w' u (sg n1 (NumR.val l1) / sg n2 (NumR.val l2)) ∧ IsRef w' v (sg n1 (NumR.val l1) % sg n2 (NumR.val l2))) ∧ Below w.heap.size w w' := by
 have dc := fun w h1 h2 => rdivide_c a1 a2 c1 c2 l1 l2 w h1 h2 q1 q2 g1 g2 hz k1 k2
 have hB0 := Below.refl w.heap.size w
 have HK := hZ (And.intro k1 k2)
 have HZ := hZ hz
 have HS := hZ (And.intro s1 s2)
 clear k1 k2 hz s1 s2
 go_enter Tryz.func200, Tryz.ntmps200
 go_wp2_with fail
 refine (dc _ (u1.keep bZ) (u2.keep bZ)).mono ?_
 rintro e w1 ⟨⟨u, v, rfl, hu, hv⟩, hb1⟩
 have x0 : w1.cell? ⟨w.heap.size, 0, none⟩ = some (.bool n1) := bkc hb1
 have zx0 := cell_lt x0
 have x1 : w1.cell? ⟨w.heap.size, 1, none⟩ = some (.slice a1 l1.length c1) := bkc hb1
 have y0 : w1.cell? ⟨w.heap.size + 1, 0, none⟩ = some (.bool n2) := bkc hb1
 have zy0 := cell_lt y0
 have y1 : w1.cell? ⟨w.heap.size + 1, 1, none⟩ = some (.slice a2 l2.length c2) := bkc hb1
 have r0 : w1.cell? ⟨w.heap.size + 2, 0, none⟩ = some (.bool false) := bkc hb1
 have zr0 := cell_lt r0
 have r0f : w1.frozen? ⟨w.heap.size + 2, 0, none⟩ = false := bkcf (v := .bool false) hb1
 have r1 : w1.cell? ⟨w.heap.size + 2, 1, none⟩ = some (.slice none 0 0) := bkc hb1
 have r1f : w1.frozen? ⟨w.heap.size + 2, 1, none⟩ = false := bkcf (v := .slice none 0 0) hb1
 have t0 : w1.cell? ⟨w.heap.size + 3, 0, none⟩ = some (.bool false) := bkc hb1
 have zt0 := cell_lt t0
 have t0f : w1.frozen? ⟨w.heap.size + 3, 0, none⟩ = false := bkcf (v := .bool false) hb1
 have t1 : w1.cell? ⟨w.heap.size + 3, 1, none⟩ = some (.slice none 0 0) := bkc hb1
 have t1f : w1.frozen? ⟨w.heap.size + 3, 1, none⟩ = false := bkcf (v := .slice none 0 0) hb1
 have hB : Below w.heap.size w w1 := bthen bZ hb1
 have hz := hB.size
 clear dc
 obtain ⟨aq, cq, Q, rfl, uq, qq, gq, vq⟩ := hu
 obtain ⟨ar, cr, R, rfl, ur, qr, gr, vr⟩ := hv
 have nc := fun W (h : Below w1.heap.size w1 W) => rnormW_c (!(n1 == n2)) aq cq Q W (uq.keep h)
 have nd := fun W (h : Below w1.heap.size w1 W) => rnormW_c n1 ar cr R W (ur.keep h)
 rw [trim_of_nrm gq] at nc
 rw [trim_of_nrm gr] at nd
 obtain ⟨b1, hb1'⟩ : ∃ b, b = ((!(n1 == n2)) && decide (0 < Q.length)) := ⟨_, rfl⟩
 obtain ⟨b2, hb2'⟩ : ∃ b, b = (n1 && decide (0 < R.length)) := ⟨_, rfl⟩
 rw [← hb1'] at nc
 rw [← hb2'] at nd
 have HQ := hZ (And.intro uq (And.intro qq (And.intro gq (And.intro vq hb1'))))
 have HR := hZ (And.intro ur (And.intro qr (And.intro gr (And.intro vr hb2'))))
 clear uq ur qq qr gq gr vq vr hb1' hb2'
 unfold iv at nc nd
 have hs0 := cell_lt x0
 have hs1 : w.heap.size < w1.heap.size + 1 := by omega
 have hs2 : w.heap.size < w1.heap.size + 1 + 1 := by omega
 have hs3 : w.heap.size < w1.heap.size + 1 + 1 + 1 := by omega
 have hv0 := cell_lt y0
 have hv1 : w.heap.size + 1 < w1.heap.size + 1 := by omega
 have hv2 : w.heap.size + 1 < w1.heap.size + 1 + 1 := by omega
 have hv3 : w.heap.size + 1 < w1.heap.size + 1 + 1 + 1 := by omega
 go_upto_region 2 with (fail)
 have hBw := Below.refl w1.heap.size w1
 have HSS := hZ (fun W (h : Below w1.heap.size w1 W) => And.intro (bkeep h x0) (bkeep h y0))
 go_cut [8, 9] (fun p q wx => ∃ g h : Nat, p = .pointer (some ⟨g, 0, none⟩) ∧ q = .pointer (some ⟨h, 0, none⟩) ∧ g ≠ h ∧ w1.heap.size ≤ g ∧ w1.heap.size ≤ h ∧ wx.cell? ⟨g, 0, none⟩ = some (.bool b1) ∧ wx.cell? ⟨g, 1, none⟩ = some (.slice aq Q.length cq) ∧ wx.cell? ⟨h, 0, none⟩ = some (.bool b2) ∧ wx.cell? ⟨h, 1, none⟩ = some (.slice ar R.length cr) ∧ Free wx g ∧ Free wx h ∧ Below w1.heap.size w1 wx)
 case first =>
  go_region_held3 (fun w' => w'.cell? ⟨w.heap.size, 0, none⟩ = some (.bool n1) ∧ w'.cell? ⟨w.heap.size + 1, 0, none⟩ = some (.bool n2))
   (first | (refine HSS.out _ ?_; (repeat (first|exact bzR _ _|exact hBw|refine bzD ?_|refine bzN ?_|refine bzS ?_|refine bzA ?_)); done) | fail)
   (first | (go_at_call 117; (first | (with_reducible refine (nc _ ?_).mono ?_) | (with_reducible refine (nd _ ?_).mono ?_)); (repeat (first|exact bzR _ _|exact hBw|refine bzD ?_|refine bzN ?_|refine bzS ?_|refine bzA ?_)); rintro e w5 ⟨rfl, rfl⟩) | fail)
  all_goals
   go_wp2_with fail
   go_meet
   refine ⟨_, _, rfl, rfl, by omega, by omega, by omega, ?_, ?_, ?_, ?_, ?_, ?_, ?_⟩
   · repeat (first | (refine cell_new ?_ rfl; first | (with_reducible rfl) | (simp only [World.size_alloc]; done)) | (with_reducible refine cell_drew ?_) | (with_reducible refine cell_alloc ?_ _))
   · repeat (first | (refine cell_new ?_ rfl; first | (with_reducible rfl) | (simp only [World.size_alloc]; done)) | (with_reducible refine cell_drew ?_) | (with_reducible refine cell_alloc ?_ _))
   · repeat (first | (refine cell_new ?_ rfl; first | (with_reducible rfl) | (simp only [World.size_alloc]; done)) | (with_reducible refine cell_drew ?_) | (with_reducible refine cell_alloc ?_ _))
   · repeat (first | (refine cell_new ?_ rfl; first | (with_reducible rfl) | (simp only [World.size_alloc]; done)) | (with_reducible refine cell_drew ?_) | (with_reducible refine cell_alloc ?_ _))
   · repeat (first | (refine Free.new ?_; first | (with_reducible rfl) | (simp only [World.size_alloc]; done)) | (with_reducible refine Free.dr ?_) | (with_reducible refine Free.al ?_ _))
   · repeat (first | (refine Free.new ?_; first | (with_reducible rfl) | (simp only [World.size_alloc]; done)) | (with_reducible refine Free.dr ?_) | (with_reducible refine Free.al ?_ _))
   · exact Below.drew (bal (bal (bal (bal (Below.refl _ _) _) _) _) _)
 case rest =>
  obtain ⟨g, h, rfl, rfl, hgh, hg, hh, m0, m1, d0, d1, fg, fh, hBx⟩ := hcut
  have hBy := bthen hB hBx
  have k0 := bkeep hBx y0
  have k1 := bkeep hBx y1
  have e0 := bkeep hBx r0
  have e1 := bkeep hBx r1
  have e0f := bkeepf hBx r0 r0f
  have e1f := bkeepf hBx r1 r1f
  have o0 := bkeep hBx t0
  have o1 := bkeep hBx t1
  have o0f := bkeepf hBx t0 t0f
  have o1f := bkeepf hBx t1 t1f
  have fg0 := fg.2 0
  have fg1 := fg.2 1
  have fh0 := fh.2 0
  have fh1 := fh.2 1
  have hlt := cell_lt t0
  have hg3 : w.heap.size + 3 < g := by omega
  have hh3 : w.heap.size + 3 < h := by omega
  have HUQ := hZ (HQ.out.1.keep hBx)
  have HUR := hZ (HR.out.1.keep hBx)
  have HYR := hZ (show IsRef wc (.agg #[.bool n2, .slice a2 l2.length c2]) (sg n2 (NumR.val l2)) from ⟨n2, a2, c2, l2, rfl, u2.keep hBy, q2, g2, HS.out.2, rfl⟩)
  clear nc nd hs0 hs1 hs2 hs3 hv0 hv1 hv2 hv3 x0 x1 y0 y1 r0 r1 r0f r1f t0 t1 t0f t1f hb1 hB HSS u1 u2 hBw
  cases b2 with
  | false =>
   have PL := hZ (show sg n1 (NumR.val l1) / sg n2 (NumR.val l2) = sg (!(n1 == n2)) (NumR.val Q) ∧ sg n1 (NumR.val l1) % sg n2 (NumR.val l2) = sg false (NumR.val R) by
    rw [HQ.out.2.2.2.1, HR.out.2.2.2.1]
    refine dm_low HZ.out ?_
    have h := HR.out.2.2.2.2
    cases n1 with
    | false => exact .inl rfl
    | true =>
     right
     have h2 : R = [] := by cases hR : R with | nil => rfl | cons x t => rw [hR] at h; simp at h
     rw [← HR.out.2.2.2.1, h2]; rfl)
   go_upto_region 6 with (fail)
   go_region
   go_wp2
   have hbe : Below w.heap.size w ((((wc.setCell ⟨w.heap.size + 1 + 1, 0, none⟩ (.bool b1)).setCell ⟨w.heap.size + 1 + 1, 1, none⟩ (.slice aq Q.length cq)).setCell ⟨w.heap.size + 1 + 1 + 1, 0, none⟩ (.bool false)).setCell ⟨w.heap.size + 1 + 1 + 1, 1, none⟩ (.slice ar R.length cr)).drew := Below.drew (bset (bset (bset (bset hBy (by simp <;> omega) _) (by simp <;> omega) _) (by simp <;> omega) _) (by simp <;> omega) _)
   have e0 : wc.cell? ⟨w.heap.size + 1 + 1, 0, none⟩ = some (.bool false) := e0
   have e1 : wc.cell? ⟨w.heap.size + 1 + 1, 1, none⟩ = some (.slice none 0 0) := e1
   have o0 : wc.cell? ⟨w.heap.size + 1 + 1 + 1, 0, none⟩ = some (.bool false) := o0
   have o1 : wc.cell? ⟨w.heap.size + 1 + 1 + 1, 1, none⟩ = some (.slice none 0 0) := o1
   refine bodyPost_ret (v := .tuple #[.agg #[.bool b1, .slice aq Q.length cq], .agg #[.bool false, .slice ar R.length cr]]) (by simp [results, Tryz.results200, go_sem, *]) rfl ⟨⟨_, _, rfl, ?_, ?_⟩, hbe⟩
   · rw [PL.out.1]
     exact (((ref_of HUQ.out HQ.out.2.1 HQ.out.2.2.1 HQ.out.2.2.2.2).put2 e0 e1 _ _).put2 (cell_far (cell_far o0 (by simp) _) (by simp) _) (cell_far (cell_far o1 (by simp) _) (by simp) _) _ _).keep (Below.drew (Below.refl _ _))
   · rw [PL.out.2]
     exact (((ref_of (s := false) HUR.out HR.out.2.1 HR.out.2.2.1 rfl).put2 e0 e1 _ _).put2 (cell_far (cell_far o0 (by simp) _) (by simp) _) (cell_far (cell_far o1 (by simp) _) (by simp) _) _ _).keep (Below.drew (Below.refl _ _))
  | true =>
   have hn1 : n1 = true ∧ 0 < R.length := by have h := HR.out.2.2.2.2; simpa using h.symm
   obtain ⟨rfl, hRl⟩ := hn1
   have HM := hZ (show IsRef wc (.agg #[.bool true, .slice ar R.length cr]) (sg true (NumR.val R)) from ref_of HUR.out HR.out.2.1 HR.out.2.2.1 HR.out.2.2.2.2)
   have HN := hZ (show IsRef wc (.agg #[.bool b1, .slice aq Q.length cq]) (sg (!(true == n2)) (NumR.val Q)) from ref_of HUQ.out HQ.out.2.1 HQ.out.2.2.1 HQ.out.2.2.2.2)
   have hRv : 0 < NumR.val R := Nat.lt_of_lt_of_le (Nat.pow_pos NumR.BB_pos) (NumR.nrm_val_pos HR.out.2.2.1 (List.length_pos_iff.1 hRl))
   have hRl2 : NumR.val R ≤ NumR.val l2 := by rw [HR.out.2.2.2.1]; exact Nat.le_of_lt (Nat.mod_lt _ HZ.out)
   have hQl1 : NumR.val Q ≤ NumR.val l1 := by rw [HQ.out.2.2.2.1]; exact Nat.div_le_self _ _
   have hl1 : 1 ≤ NumR.val l1 := by
    have h : NumR.val R ≤ NumR.val l1 := by rw [HR.out.2.2.2.1]; exact Nat.mod_le _ _
    omega
   have PL := hZ (show sg true (NumR.val l1) / sg n2 (NumR.val l2) = sg (!(true == n2)) (NumR.val Q) - sgV n2 l2.length ∧ sg true (NumR.val l1) % sg n2 (NumR.val l2) = sg true (NumR.val R) + ((sg n2 (NumR.val l2)).natAbs : Int) by
    have h : sgV n2 l2.length = (sg n2 (NumR.val l2)).sign := by rw [rsg_sign g2 HS.out.2]; rfl
    rw [h, HQ.out.2.2.2.1, HR.out.2.2.2.1]
    exact dm_high HZ.out (by rw [← HR.out.2.2.2.1]; exact hRv))
   have hsv : -1 ≤ sgV n2 l2.length ∧ sgV n2 l2.length ≤ 1 := by unfold sgV; split <;> (try split) <;> omega
   have ax := fun W (k : Below wc.heap.size wc W) => rabs_c _ _ W (HYR.out.keep k)
   have ad := fun vy W (k : Below wc.heap.size wc W) (hy : IsRef W vy ((sg n2 (NumR.val l2)).natAbs : Int)) => radd_n _ vy _ _ l2 W (HM.out.keep k) hy q2 (by rw [sg_abs]; exact hRl2) (by rw [Int.natAbs_natCast, sg_abs]; exact Nat.le_refl _) (by have := HK.out; omega)
   have sx := fun W => rsignV_c n2 a2 l2.length c2 W
   have ox := fun W => rof_c (sgV n2 l2.length) W (by omega) (by omega)
   have sd := fun vx vy W (hx : IsRef W vx (sg (!(true == n2)) (NumR.val Q))) (hy : IsRef W vy (sgV n2 l2.length)) => rsub_n vx vy _ _ l1 W hx hy q1 (by rw [sg_abs]; exact hQl1) (by omega) (by have := HK.out; omega)
   clear hRv hRl hRl2 hQl1 hl1
   obtain ⟨sv, hsvE⟩ : ∃ sv, sv = sgV n2 l2.length := ⟨_, rfl⟩
   rw [← hsvE] at PL hsv sx ox sd
   have HSV := hZ hsvE
   clear hsvE
   go_upto_region 4 with (fail)
   go_cut [] (fun wx => ∃ n4 a4 c4, ∃ L4 : List Nat, wx.cell? ⟨h, 0, none⟩ = some (.bool n4) ∧ wx.cell? ⟨h, 1, none⟩ = some (.slice a4 L4.length c4) ∧ IsRef wx (.agg #[.bool n4, .slice a4 L4.length c4]) (sg true (NumR.val R) + ((sg n2 (NumR.val l2)).natAbs : Int)) ∧ Out (fun k => k = h) wc wx ∧ Lim wc wx)
   case first =>
    have hBw := Below.refl wc.heap.size wc
    go_region_law (go_simp; go_wp2_with (first
     | (go_at_call 201; refine (ax _ ?_).mono ?_; (repeat (first|exact bzR _ _|exact hBw|refine bzD ?_|refine bzN ?_|refine bzS ?_|refine bzA ?_)); rintro e w5 ⟨⟨v5, rfl, hi5⟩, hb5⟩; have hB5 : Below wc.heap.size wc w5 := bthen bZ hb5; have HI5 := hZ hi5; have d05 := bkeep hB5 d0; have d15 := bkeep hB5 d1; obtain ⟨n5, a5, c5, l5, rfl, -⟩ := hi5; unfold iv at *)
     | (go_at_call 257; refine (ad _ _ ?_ ?_).mono ?_; (repeat (first|exact bzR _ _|exact hB5|refine bzD ?_|refine bzN ?_|refine bzS ?_|refine bzA ?_)); (refine HI5.out.keep ?_; have hBz := Below.refl w5.heap.size w5; (repeat (first|exact bzR _ _|exact hBz|refine bzD ?_|refine bzN ?_|refine bzS ?_|refine bzA ?_))); rintro e w6 ⟨⟨v6, rfl, hi6⟩, hb6⟩; have hB6 : Below wc.heap.size wc w6 := bthen bZ hb6; have HI6 := hZ hi6; have d06 := bkeep hB6 d0; have d16 := bkeep hB6 d1; have d06f := bkeepf hB6 d0 fh0; have d16f := bkeepf hB6 d1 fh1; obtain ⟨n6, a6, c6, l6, rfl, -⟩ := hi6; unfold iv at *)))
    all_goals
     go_wp2_with fail
     go_meet
     refine ⟨n6, a6, c6, l6, cell_far (cell_here d06 _) (by simp) _, cell_here (cell_far d16 (by simp) _) _, HI6.out.put2 d06 d16 _ _, (Out.of_below (fun k => k = h) hB6).set2 (fun _ => rfl) _ _, (Lim.of_below hB6).trans (Lim.set2 d06 d16 _ _)⟩
   case rest =>
    obtain ⟨n4, a4, c4, L4, d0, d1, hi4, hO4, hL4⟩ := hcut
    rename World => wd
    have HI4 := hZ hi4
    have HN4 := hZ (HN.out.lim hL4)
    have hgh' : ¬ (w.heap.size + 1 = h) := by omega
    have hgh2 : ¬ (w.heap.size + 2 = h) := by omega
    have hgh3 : ¬ (w.heap.size + 3 = h) := by omega
    have fg : Free wd g := Free.out (show Free wc g from fg) hO4 hgh
    have e0f := okeepf hO4 e0 e0f hgh2
    have e1f := okeepf hO4 e1 e1f hgh2
    have o0f := okeepf hO4 o0 o0f hgh3
    have o1f := okeepf hO4 o1 o1f hgh3
    have k0 := okeep hO4 k0 hgh'
    have k1 := okeep hO4 k1 hgh'
    have m0 := okeep hO4 m0 hgh
    have m1 := okeep hO4 m1 hgh
    have e0 := okeep hO4 e0 hgh2
    have e1 := okeep hO4 e1 hgh2
    have o0 := okeep hO4 o0 hgh3
    have o1 := okeep hO4 o1 hgh3
    have hBd : Below w.heap.size w wd := hBy.trans (hO4.to_below (fun k hk _ e => by omega) hBy.size)
    have fg0 := fg.2 0
    have fg1 := fg.2 1
    clear hi4 hO4 hL4 hBy HM HN ad
    go_upto_region 5 with (fail)
    go_cut [] (fun wx => ∃ n5 a5 c5, ∃ L5 : List Nat, wx.cell? ⟨g, 0, none⟩ = some (.bool n5) ∧ wx.cell? ⟨g, 1, none⟩ = some (.slice a5 L5.length c5) ∧ IsRef wx (.agg #[.bool n5, .slice a5 L5.length c5]) (sg (!(true == n2)) (NumR.val Q) - sv) ∧ Out (fun k => k = g) wd wx ∧ Lim wd wx)
    case first =>
     have hBw := Below.refl wd.heap.size wd
     go_region_law (go_simp; go_wp2_with (first
      | (go_at_call 75; refine (sx _).mono ?_; rintro e w5 ⟨rfl, hb5⟩; have hB5 : Below wd.heap.size wd w5 := bthen bZ hb5; have d05 := bkeep hB5 m0; have d15 := bkeep hB5 m1)
      | (go_at_call 31; refine (ox _).mono ?_; rintro e w6 ⟨⟨v6, rfl, hi6⟩, hb6⟩; have hB6 : Below wd.heap.size wd w6 := bthen bZ hb6; have HI6 := hZ hi6; have d06 := bkeep hB6 m0; have d16 := bkeep hB6 m1; obtain ⟨n6, a6, c6, l6, rfl, -⟩ := hi6; unfold iv at *)
      | (go_at_call 258; refine (sd _ _ _ ?_ ?_).mono ?_; (refine HN4.out.keep ?_; (repeat (first|exact bzR _ _|exact hB6|refine bzD ?_|refine bzN ?_|refine bzS ?_|refine bzA ?_))); (refine HI6.out.keep ?_; have hBz := Below.refl w6.heap.size w6; (repeat (first|exact bzR _ _|exact hBz|refine bzD ?_|refine bzN ?_|refine bzS ?_|refine bzA ?_))); rintro e w7 ⟨⟨v7, rfl, hi7⟩, hb7⟩; have hB7 : Below wd.heap.size wd w7 := bthen bZ hb7; have HI7 := hZ hi7; have d07 := bkeep hB7 m0; have d17 := bkeep hB7 m1; have d07f := bkeepf hB7 m0 fg0; have d17f := bkeepf hB7 m1 fg1; obtain ⟨n7, a7, c7, l7, rfl, -⟩ := hi7; unfold iv at *)))
     all_goals
      go_wp2_with fail
      go_meet
      refine ⟨n7, a7, c7, l7, cell_far (cell_here d07 _) (by simp) _, cell_here (cell_far d17 (by simp) _) _, HI7.out.put2 d07 d17 _ _, (Out.of_below (fun k => k = g) hB7).set2 (fun _ => rfl) _ _, (Lim.of_below hB7).trans (Lim.set2 d07 d17 _ _)⟩
    case rest =>
     obtain ⟨n5, a5, c5, L5, m0, m1, hi5, hO5, hL5⟩ := hcut
     rename World => wy
     have HI5 := hZ hi5
     have HR5 := hZ (HI4.out.lim hL5)
     have hgh4 : ¬ (w.heap.size + 2 = g) := by omega
     have hgh5 : ¬ (w.heap.size + 3 = g) := by omega
     have e0f := okeepf hO5 e0 e0f hgh4
     have e1f := okeepf hO5 e1 e1f hgh4
     have o0f := okeepf hO5 o0 o0f hgh5
     have o1f := okeepf hO5 o1 o1f hgh5
     have d0 := okeep hO5 d0 (show ¬ h = g from fun e => hgh e.symm)
     have d1 := okeep hO5 d1 (show ¬ h = g from fun e => hgh e.symm)
     have e0 := okeep hO5 e0 hgh4
     have e1 := okeep hO5 e1 hgh4
     have o0 := okeep hO5 o0 hgh5
     have o1 := okeep hO5 o1 hgh5
     have hBy : Below w.heap.size w wy := hBd.trans (hO5.to_below (fun k hk _ e => by omega) hBd.size)
     clear hi5 hO5 hL5 hBd HI4 HN4
     go_upto_region 6 with (fail)
     go_region
     go_wp2
     have hbe : Below w.heap.size w ((((wy.setCell ⟨w.heap.size + 1 + 1, 0, none⟩ (.bool n5)).setCell ⟨w.heap.size + 1 + 1, 1, none⟩ (.slice a5 L5.length c5)).setCell ⟨w.heap.size + 1 + 1 + 1, 0, none⟩ (.bool n4)).setCell ⟨w.heap.size + 1 + 1 + 1, 1, none⟩ (.slice a4 L4.length c4)).drew := Below.drew (bset (bset (bset (bset hBy (by simp <;> omega) _) (by simp <;> omega) _) (by simp <;> omega) _) (by simp <;> omega) _)
     have e0 : wy.cell? ⟨w.heap.size + 1 + 1, 0, none⟩ = some (.bool false) := e0
     have e1 : wy.cell? ⟨w.heap.size + 1 + 1, 1, none⟩ = some (.slice none 0 0) := e1
     have o0 : wy.cell? ⟨w.heap.size + 1 + 1 + 1, 0, none⟩ = some (.bool false) := o0
     have o1 : wy.cell? ⟨w.heap.size + 1 + 1 + 1, 1, none⟩ = some (.slice none 0 0) := o1
     refine bodyPost_ret (v := .tuple #[.agg #[.bool n5, .slice a5 L5.length c5], .agg #[.bool n4, .slice a4 L4.length c4]]) (by simp [results, Tryz.results200, go_sem, *]) rfl ⟨⟨_, _, rfl, ?_, ?_⟩, hbe⟩
     · rw [PL.out.1]
       exact ((HI5.out.put2 e0 e1 _ _).put2 (cell_far (cell_far o0 (by simp) _) (by simp) _) (cell_far (cell_far o1 (by simp) _) (by simp) _) _ _).keep (Below.drew (Below.refl _ _))
     · rw [PL.out.2]
       exact ((HR5.out.put2 e0 e1 _ _).put2 (cell_far (cell_far o0 (by simp) _) (by simp) _) (cell_far (cell_far o1 (by simp) _) (by simp) _) _ _).keep (Below.drew (Below.refl _ _))
end
section
open Num
theorem sg_ne {n : Bool} {k : Nat} (h : sg n k ≠ 0) : 0 < k := by
 apply Nat.pos_of_ne_zero; intro e; subst e; exact h (sg_zero n)
theorem rdivmod_c (vx vy : Value) (x y : Int) (k : Nat) (w : World) (hx : IsRef w vx x) (hy : IsRef w vy y) (bx : Bd k x) (by' : Bd k y) (hk : k ≤ 17179869184) (h0 : y ≠ 0) :
 Calls Tryz.prog 200 #[vx, vy] w fun e w' => (∃ u v, e = .returned (.tuple #[u, v]) ∧ IsRef w' u (x / y) ∧ IsRef w' v (x % y)) ∧ Below w.heap.size w w' := by
 obtain ⟨n1, a1, c1, l1, rfl, u1, q1, g1, s1, rfl⟩ := hx
 obtain ⟨n2, a2, c2, l2, rfl, u2, q2, g2, s2, rfl⟩ := hy
 exact rdivmodV_c n1 n2 a1 a2 c1 c2 l1 l2 w u1 u2 q1 q2 g1 g2 (sg_ne h0) (Nat.le_trans (rbd_len g1 (rsg_bd bx) hk) (by omega)) (Nat.le_trans (rbd_len g2 (rsg_bd by') hk) (by omega)) s1 s2
theorem ref_len {n : Bool} {l : List Nat} (hn : Nrm l) : sg n (NumR.val l) = 0 ↔ l = [] := by
 constructor
 · intro h
   by_cases e : l = []
   · exact e
   · have h1 := Nat.lt_of_lt_of_le (Nat.pow_pos NumR.BB_pos) (NumR.nrm_val_pos hn e)
     have h2 := congrArg Int.natAbs h
     rw [sg_abs] at h2
     simp at h2; omega
 · rintro rfl; exact sg_zero n
theorem rover_yes (vx vy : Value) (x y : Int) (k : Nat) (w : World) (hx : IsRef w vx x) (hy : IsRef w vy y) (bx : Bd k x) (by' : Bd k y) (hk : k ≤ 17179869184) (h0 : y ≠ 0) (hd : x % y = 0) :
 Calls Tryz.prog 112 #[vx, vy] w fun e w' => (∃ v, e = .returned (.tuple #[v, .bool true]) ∧ IsRef w' v (x / y)) ∧ Below w.heap.size w w' := by
 have dc := fun W (h : Below w.heap.size w W) => rdivmod_c vx vy x y k W (hx.keep h) (hy.keep h) bx by' hk h0
 obtain ⟨n1, a1, c1, l1, rfl, -⟩ := hx
 obtain ⟨n2, a2, c2, l2, rfl, -⟩ := hy
 unfold iv at *
 have HD := hZ hd
 clear bx by' hk h0 hd
 have hB := Below.refl w.heap.size w
 go_enter Tryz.func112, Tryz.ntmps112
 go_wp2_with fail
 refine (dc _ bZ).mono ?_
 rintro e w1 ⟨⟨u, v, rfl, hu, hv⟩, hb1⟩
 have r0 : w1.cell? ⟨w.heap.size + 2, 0, none⟩ = some (.bool false) := bkc hb1
 have zr0 := cell_lt r0
 have r0f : w1.frozen? ⟨w.heap.size + 2, 0, none⟩ = false := bkcf (v := .bool false) hb1
 have r1 : w1.cell? ⟨w.heap.size + 2, 1, none⟩ = some (.slice none 0 0) := bkc hb1
 have r1f : w1.frozen? ⟨w.heap.size + 2, 1, none⟩ = false := bkcf (v := .slice none 0 0) hb1
 have hB : Below w.heap.size w w1 := bthen bZ hb1
 have hz := hB.size
 clear dc
 have HU := hZ hu
 obtain ⟨nu, au, cu, lu, rfl, -⟩ := hu
 obtain ⟨nv, av, cv, lv, rfl, _, _, gv, _, ev⟩ := hv
 unfold iv at *
 have zr1 : w.heap.size + 2 < w1.heap.size + 1 := by omega
 have zr2 : w.heap.size + 2 < w1.heap.size + 1 + 1 := by omega
 obtain rfl : lv = [] := (ref_len gv).1 (by rw [← ev]; exact HD.out)
 clear gv ev
 go_wp2
 refine bodyPost_ret (v := .tuple #[.agg #[.bool nu, .slice au lu.length cu], .bool true]) (by simp [results, Tryz.results112, go_sem, *]) rfl ⟨⟨_, rfl, ?_⟩, ?_⟩
 · refine IsRef.keep (HU.out.put2 r0 r1 (.bool nu) (.slice au lu.length cu)) ?_
   repeat exact bZ
 ·
  repeat exact bZ
end
end Go.Proofs.YtbmaffijncapiaaGreatDoor
