/- Texts of this seat, laid together: IntK, RwE, ExA, ExF, ExG, ExH, ExB, ExC, ExK, Rnh, VwB, EwA. What each theorem proves, and under which conditions, its statement says. -/
import Derived.Test.YtbmaffijncapiaaGreatDoorB09
import Derived.Deep.LoopGhost
set_option maxRecDepth 100000
set_option maxHeartbeats 32000000
set_option linter.unusedVariables false
set_option linter.unusedSimpArgs false
namespace Go.Proofs.YtbmaffijncapiaaGreatDoor
open Go.ChangeShapes Go.WideShapes Go.ChangeAt Go.RowKit
section
open Num
def sgI (n : Bool) (k : Nat) : Int := if k = 0 then 0 else if n then -1 else 1
theorem Free.al' {w : World} {g : Nat} (h : Free w g) (o : Obj) : Free (w.alloc o) g := h.keep (bal (Below.refl _ _) _)
theorem Free.dr' {w : World} {g : Nat} (h : Free w g) : Free w.drew g := h
theorem madeW_c (neg : Bool) (a : Option Addr) (ca : Nat) (l : List Nat) (w : World) :
 Calls Tryz.prog 122 #[.bool neg, .slice a l.length ca] w fun e w' => e = .returned (iv (neg && decide (0 < l.length)) a l.length ca) ∧ w' = w.alloc (.cells #[.bool (neg && decide (0 < l.length)), .slice a l.length ca] 50) := by
 generalize hk : l.length = k
 clear hk
 cases neg with
 | false =>
  go_enter Tryz.func122, Tryz.ntmps122
  go_wp2
  refine bodyPost_ret (v := iv false a k ca) (by simp [iv, results, Tryz.results122, go_sem, *]) rfl ⟨rfl, by simp⟩
 | true =>
  by_cases hk : 0 < k
  · have e : (0 : Int) < (k : Int) := by omega
    go_enter Tryz.func122, Tryz.ntmps122
    go_wp2
    refine bodyPost_ret (v := iv true a k ca) (by simp [iv, results, Tryz.results122, go_sem, *]) rfl ⟨by simp [hk], by simp [hk]⟩
  · obtain rfl : k = 0 := by omega
    go_enter Tryz.func122, Tryz.ntmps122
    go_wp2
    refine bodyPost_ret (v := iv false a 0 ca) (by simp [iv, results, Tryz.results122, go_sem, *]) rfl ⟨by simp, by simp⟩
theorem int_of {w : World} {a : Option Addr} {c : Nat} {l : List Nat} {b s : Bool} (hu : U32 w a c l) (hn : Nrm l) (hb : b = (s && decide (0 < l.length))) : IsInt w (.agg #[.bool b, .slice a l.length c]) (sg s (val l)) := by
 refine ⟨b, a, c, l, rfl, hu, hn, ?_, ?_⟩
 · intro h
   rw [hb] at h
   simp at h
   intro e
   rw [e] at h
   simp at h
 · cases l with
   | nil => cases s <;> cases b <;> simp [sg, val]
   | cons x t => simp at hb; rw [hb]
theorem isg_sign {n : Bool} {l : List Nat} (hn : Nrm l) (hs : n = true → l ≠ []) : (sg n (val l)).sign = sgI n l.length := by
 unfold sgI
 by_cases h0 : l = []
 · subst h0; cases n <;> simp [sg, val]
 · have h1 := List.length_pos_iff.2 h0
   have h2 : 0 < val l := Nat.pos_of_ne_zero fun e => h0 ((val_nil_iff hn).1 e)
   rw [if_neg (by omega)]
   cases n with
   | true => simp only [sg, if_true]; rw [Int.sign_neg, Int.sign_eq_one_of_pos (by omega)]
   | false => simp only [sg]; exact Int.sign_eq_one_of_pos (by simp; omega)
theorem divmodV_c (n1 n2 : Bool) (a1 a2 : Option Addr) (c1 c2 : Nat) (l1 l2 : List Nat) (k : Nat) (w : World) (u1 : U32 w a1 c1 l1) (u2 : U32 w a2 c2 l2) (g1 : Nrm l1) (g2 : Nrm l2) (hz : 0 < val l2) (k1 : l1.length ≤ 274877906944) (k2 : l2.length ≤ 274877906944) (b1 : val l1 < 2 ^ k) (b2 : val l2 < 2 ^ k) (hk : k ≤ 17179869184) (h1k : 1 ≤ k) (s1 : n1 = true → l1 ≠ []) (s2 : n2 = true → l2 ≠ []) :
 Calls Tryz.prog 163 #[.agg #[.bool n1, .slice a1 l1.length c1], .agg #[.bool n2, .slice a2 l2.length c2]] w fun e w' => (∃ u v, e = .returned (.tuple #[u, v, .int .i64 0]) ∧ IsInt w' u (sg n1 (val l1) / sg n2 (val l2)) ∧ IsInt w' v (sg n1 (val l1) % sg n2 (val l2))) ∧ Below w.heap.size w w' := by
 have dc := fun w h1 h2 => limbDivMod_c a1 a2 c1 c2 l1 l2 w h1 h2 k1 k2 hz
 have HBD := hZ (And.intro b1 (And.intro b2 (And.intro hk h1k)))
 have hB0 := Below.refl w.heap.size w
 have HK := hZ (And.intro k1 k2)
 have HZ := hZ hz
 have HS := hZ (And.intro s1 s2)
 clear k1 k2 hz s1 s2 b1 b2 hk h1k
 go_enter Tryz.func163, Tryz.ntmps163
 go_wp2_with fail
 refine (dc _ (u1.keep bZ) (u2.keep bZ)).mono ?_
 rintro e w1 ⟨⟨u, v, rfl, hu, hv⟩, hb1⟩
 have x0 : w1.cell? ⟨w.heap.size, 0, none⟩ = some (.bool n1) := bkc hb1
 have zx0 := cell_lt x0
 have x1 : w1.cell? ⟨w.heap.size, 1, none⟩ = some (.slice a1 l1.length c1) := bkc hb1
 have y0 : w1.cell? ⟨w.heap.size + 1, 0, none⟩ = some (.bool n2) := bkc hb1
 have zy0 := cell_lt y0
 have y1 : w1.cell? ⟨w.heap.size + 1, 1, none⟩ = some (.slice a2 l2.length c2) := bkc hb1
 have r0 : w1.cell? ⟨w.heap.size + 2, 0, none⟩ = some (.bool false) := bkc hb1
 have zr0 := cell_lt r0
 have r0f : w1.frozen? ⟨w.heap.size + 2, 0, none⟩ = false := bkcf (v := .bool false) hb1
 have r1 : w1.cell? ⟨w.heap.size + 2, 1, none⟩ = some (.slice none 0 0) := bkc hb1
 have r1f : w1.frozen? ⟨w.heap.size + 2, 1, none⟩ = false := bkcf (v := .slice none 0 0) hb1
 have t0 : w1.cell? ⟨w.heap.size + 3, 0, none⟩ = some (.bool false) := bkc hb1
 have zt0 := cell_lt t0
 have t0f : w1.frozen? ⟨w.heap.size + 3, 0, none⟩ = false := bkcf (v := .bool false) hb1
 have t1 : w1.cell? ⟨w.heap.size + 3, 1, none⟩ = some (.slice none 0 0) := bkc hb1
 have t1f : w1.frozen? ⟨w.heap.size + 3, 1, none⟩ = false := bkcf (v := .slice none 0 0) hb1
 have hB : Below w.heap.size w w1 := bthen bZ hb1
 have hz := hB.size
 clear dc
 obtain ⟨aq, cq, Q, rfl, rfl, uq, gq, vq⟩ := hu
 obtain ⟨ar, cr, R, rfl, rfl, ur, gr, vr⟩ := hv
 have nc := fun W => madeW_c (!(n1 == n2)) aq Q.length Q W
 have nd := fun W => madeW_c n1 ar R.length R W
 obtain ⟨b1, hb1'⟩ : ∃ b, b = ((!(n1 == n2)) && decide (0 < Q.length)) := ⟨_, rfl⟩
 obtain ⟨b2, hb2'⟩ : ∃ b, b = (n1 && decide (0 < R.length)) := ⟨_, rfl⟩
 rw [← hb1'] at nc
 rw [← hb2'] at nd
 have HQ := hZ (And.intro uq (And.intro gq (And.intro vq hb1')))
 have HR := hZ (And.intro ur (And.intro gr (And.intro vr hb2')))
 clear uq ur gq gr vq vr hb1' hb2'
 unfold iv at nc nd
 have hs0 := cell_lt x0
 have hs1 : w.heap.size < w1.heap.size + 1 := by omega
 have hs2 : w.heap.size < w1.heap.size + 1 + 1 := by omega
 have hs3 : w.heap.size < w1.heap.size + 1 + 1 + 1 := by omega
 have hv0 := cell_lt y0
 have hv1 : w.heap.size + 1 < w1.heap.size + 1 := by omega
 have hv2 : w.heap.size + 1 < w1.heap.size + 1 + 1 := by omega
 have hv3 : w.heap.size + 1 < w1.heap.size + 1 + 1 + 1 := by omega
 go_upto_region 4 with (fail)
 have hBw := Below.refl w1.heap.size w1
 have HSS := hZ (fun W (h : Below w1.heap.size w1 W) => And.intro (bkeep h x0) (bkeep h y0))
 go_cut [10, 11] (fun p q wx => ∃ g h : Nat, p = .pointer (some ⟨g, 0, none⟩) ∧ q = .pointer (some ⟨h, 0, none⟩) ∧ g ≠ h ∧ w1.heap.size ≤ g ∧ w1.heap.size ≤ h ∧ wx.cell? ⟨g, 0, none⟩ = some (.bool b1) ∧ wx.cell? ⟨g, 1, none⟩ = some (.slice aq Q.length Q.length) ∧ wx.cell? ⟨h, 0, none⟩ = some (.bool b2) ∧ wx.cell? ⟨h, 1, none⟩ = some (.slice ar R.length R.length) ∧ Free wx g ∧ Free wx h ∧ Below w1.heap.size w1 wx)
 case first =>
  go_region_held3 (fun w' => w'.cell? ⟨w.heap.size, 0, none⟩ = some (.bool n1) ∧ w'.cell? ⟨w.heap.size + 1, 0, none⟩ = some (.bool n2))
   (first | (refine HSS.out _ ?_; (repeat (first|exact bzR _ _|exact hBw|refine bzD ?_|refine bzN ?_|refine bzS ?_|refine bzA ?_)); done) | fail)
   (first | (go_at_call 122; (first | (with_reducible refine (nc _).mono ?_) | (with_reducible refine (nd _).mono ?_)); rintro e w5 ⟨rfl, rfl⟩) | fail)
  all_goals
   go_wp2_with fail
   go_meet
   refine ⟨_, _, rfl, rfl, by omega, by omega, by omega, ?_, ?_, ?_, ?_, ?_, ?_, ?_⟩
   · repeat (first | (refine cell_new ?_ rfl; first | (with_reducible rfl) | (simp only [World.size_alloc]; done)) | (with_reducible refine cell_drew ?_) | (with_reducible refine cell_alloc ?_ _))
   · repeat (first | (refine cell_new ?_ rfl; first | (with_reducible rfl) | (simp only [World.size_alloc]; done)) | (with_reducible refine cell_drew ?_) | (with_reducible refine cell_alloc ?_ _))
   · repeat (first | (refine cell_new ?_ rfl; first | (with_reducible rfl) | (simp only [World.size_alloc]; done)) | (with_reducible refine cell_drew ?_) | (with_reducible refine cell_alloc ?_ _))
   · repeat (first | (refine cell_new ?_ rfl; first | (with_reducible rfl) | (simp only [World.size_alloc]; done)) | (with_reducible refine cell_drew ?_) | (with_reducible refine cell_alloc ?_ _))
   · repeat (first | (refine Free.new ?_; first | (with_reducible rfl) | (simp only [World.size_alloc]; done)) | (with_reducible refine Free.dr' ?_) | (with_reducible refine Free.al' ?_ _))
   · repeat (first | (refine Free.new ?_; first | (with_reducible rfl) | (simp only [World.size_alloc]; done)) | (with_reducible refine Free.dr' ?_) | (with_reducible refine Free.al' ?_ _))
   · exact Below.drew (bal (bal (bal (bal (Below.refl _ _) _) _) _) _)
 case rest =>
  obtain ⟨g, h, rfl, rfl, hgh, hg, hh, m0, m1, d0, d1, fg, fh, hBx⟩ := hcut
  have hBy := bthen hB hBx
  have k0 := bkeep hBx y0
  have k1 := bkeep hBx y1
  have e0 := bkeep hBx r0
  have e1 := bkeep hBx r1
  have e0f := bkeepf hBx r0 r0f
  have e1f := bkeepf hBx r1 r1f
  have o0 := bkeep hBx t0
  have o1 := bkeep hBx t1
  have o0f := bkeepf hBx t0 t0f
  have o1f := bkeepf hBx t1 t1f
  have fg0 := fg.2 0
  have fg1 := fg.2 1
  have fh0 := fh.2 0
  have fh1 := fh.2 1
  have hlt := cell_lt t0
  have hg3 : w.heap.size + 3 < g := by omega
  have hh3 : w.heap.size + 3 < h := by omega
  have HUQ := hZ (HQ.out.1.keep hBx)
  have HUR := hZ (HR.out.1.keep hBx)
  have HYR := hZ (show IsInt wc (.agg #[.bool n2, .slice a2 l2.length c2]) (sg n2 (val l2)) from ⟨n2, a2, c2, l2, rfl, u2.keep hBy, g2, HS.out.2, rfl⟩)
  clear nc nd hs0 hs1 hs2 hs3 hv0 hv1 hv2 hv3 x0 x1 y0 y1 r0 r1 r0f r1f t0 t1 t0f t1f hb1 hB HSS u1 u2 hBw
  cases b2 with
  | false =>
   have PL := hZ (show sg n1 (val l1) / sg n2 (val l2) = sg (!(n1 == n2)) (val Q) ∧ sg n1 (val l1) % sg n2 (val l2) = sg false (val R) by
    rw [HQ.out.2.2.1, HR.out.2.2.1]
    refine dm_low HZ.out ?_
    have h := HR.out.2.2.2
    cases n1 with
    | false => exact .inl rfl
    | true =>
     right
     have h2 : R = [] := by cases hR : R with | nil => rfl | cons x t => rw [hR] at h; simp at h
     rw [← HR.out.2.2.1, h2]; rfl)
   go_upto_region 8 with (fail)
   go_region
   go_wp2
   have hbe : Below w.heap.size w ((((wc.setCell ⟨w.heap.size + 1 + 1, 0, none⟩ (.bool b1)).setCell ⟨w.heap.size + 1 + 1, 1, none⟩ (.slice aq Q.length Q.length)).setCell ⟨w.heap.size + 1 + 1 + 1, 0, none⟩ (.bool false)).setCell ⟨w.heap.size + 1 + 1 + 1, 1, none⟩ (.slice ar R.length R.length)).drew := Below.drew (bset (bset (bset (bset hBy (by simp <;> omega) _) (by simp <;> omega) _) (by simp <;> omega) _) (by simp <;> omega) _)
   have e0 : wc.cell? ⟨w.heap.size + 1 + 1, 0, none⟩ = some (.bool false) := e0
   have e1 : wc.cell? ⟨w.heap.size + 1 + 1, 1, none⟩ = some (.slice none 0 0) := e1
   have o0 : wc.cell? ⟨w.heap.size + 1 + 1 + 1, 0, none⟩ = some (.bool false) := o0
   have o1 : wc.cell? ⟨w.heap.size + 1 + 1 + 1, 1, none⟩ = some (.slice none 0 0) := o1
   refine bodyPost_ret (v := .tuple #[.agg #[.bool b1, .slice aq Q.length Q.length], .agg #[.bool false, .slice ar R.length R.length], .int .i64 0]) (by simp [results, Tryz.results163, go_sem, *]) rfl ⟨⟨_, _, rfl, ?_, ?_⟩, hbe⟩
   · rw [PL.out.1]
     exact (((int_of HUQ.out HQ.out.2.1 HQ.out.2.2.2).put2 e0 e1 _ _).put2 (cell_far (cell_far o0 (by simp) _) (by simp) _) (cell_far (cell_far o1 (by simp) _) (by simp) _) _ _).keep (Below.drew (Below.refl _ _))
   · rw [PL.out.2]
     exact (((int_of (s := false) HUR.out HR.out.2.1 rfl).put2 e0 e1 _ _).put2 (cell_far (cell_far o0 (by simp) _) (by simp) _) (cell_far (cell_far o1 (by simp) _) (by simp) _) _ _).keep (Below.drew (Below.refl _ _))
  | true =>
   have hn1 : n1 = true ∧ 0 < R.length := by have h := HR.out.2.2.2; simpa using h.symm
   obtain ⟨rfl, hRl⟩ := hn1
   have HM := hZ (show IsInt wc (.agg #[.bool true, .slice ar R.length R.length]) (sg true (val R)) from int_of HUR.out HR.out.2.1 HR.out.2.2.2)
   have HN := hZ (show IsInt wc (.agg #[.bool b1, .slice aq Q.length Q.length]) (sg (!(true == n2)) (val Q)) from int_of HUQ.out HQ.out.2.1 HQ.out.2.2.2)
   have hRv : 0 < val R := Nat.pos_of_ne_zero fun e => (List.length_pos_iff.1 hRl) ((val_nil_iff HR.out.2.1).1 e)
   have hRl2 : val R ≤ val l2 := by rw [HR.out.2.2.1]; exact Nat.le_of_lt (Nat.mod_lt _ HZ.out)
   have hQl1 : val Q ≤ val l1 := by rw [HQ.out.2.2.1]; exact Nat.div_le_self _ _
   have hl1 : 1 ≤ val l1 := by
    have h : val R ≤ val l1 := by rw [HR.out.2.2.1]; exact Nat.mod_le _ _
    omega
   have PL := hZ (show sg true (val l1) / sg n2 (val l2) = sg (!(true == n2)) (val Q) - sgI n2 l2.length ∧ sg true (val l1) % sg n2 (val l2) = sg true (val R) + ((sg n2 (val l2)).natAbs : Int) by
    have h : sgI n2 l2.length = (sg n2 (val l2)).sign := by rw [isg_sign g2 HS.out.2]
    rw [h, HQ.out.2.2.1, HR.out.2.2.1]
    exact dm_high HZ.out (by rw [← HR.out.2.2.1]; exact hRv))
   have hsv : -1 ≤ sgI n2 l2.length ∧ sgI n2 l2.length ≤ 1 := by unfold sgI; split <;> (try split) <;> omega
   have ax := fun W (k : Below wc.heap.size wc W) => abs_c _ _ W (HYR.out.keep k)
   have ad := fun vy W (h : Below wc.heap.size wc W) (hy : IsInt W vy ((sg n2 (val l2)).natAbs : Int)) => addI_c _ vy _ _ k W (HM.out.keep h) hy (by unfold Bd; rw [sg_abs]; exact Nat.lt_of_le_of_lt hRl2 HBD.out.2.1) (by unfold Bd; rw [Int.natAbs_natCast, sg_abs]; exact HBD.out.2.1) HBD.out.2.2.1
   have hsi : (sg n2 (val l2)).sign = sgI n2 l2.length := by rw [isg_sign g2 HS.out.2]
   have ox := fun W => of_c (sgI n2 l2.length) W (by omega) (by omega)
   have sd := fun vx vy W (hx : IsInt W vx (sg (!(true == n2)) (val Q))) (hy : IsInt W vy (sgI n2 l2.length)) => subI_c vx vy _ _ k W hx hy (by unfold Bd; rw [sg_abs]; exact Nat.lt_of_le_of_lt hQl1 HBD.out.1) (Nat.lt_of_le_of_lt (show (sgI n2 l2.length).natAbs ≤ 1 by omega) (Nat.lt_of_lt_of_le (by omega) (Nat.pow_le_pow_right (by omega) HBD.out.2.2.2))) HBD.out.2.2.1
   clear hRv hRl hRl2 hQl1 hl1
   obtain ⟨sv, hsvE⟩ : ∃ sv, sv = sgI n2 l2.length := ⟨_, rfl⟩
   rw [← hsvE] at PL hsv hsi ox sd
   have HSV := hZ hsi
   clear hsvE hsi
   go_upto_region 6 with (fail)
   go_cut [] (fun wx => ∃ n4 a4 c4, ∃ L4 : List Nat, wx.cell? ⟨h, 0, none⟩ = some (.bool n4) ∧ wx.cell? ⟨h, 1, none⟩ = some (.slice a4 L4.length c4) ∧ IsInt wx (.agg #[.bool n4, .slice a4 L4.length c4]) (sg true (val R) + ((sg n2 (val l2)).natAbs : Int)) ∧ Out (fun k => k = h) wc wx ∧ Lim wc wx)
   case first =>
    have hBw := Below.refl wc.heap.size wc
    go_region_law (go_simp; go_wp2_with (first
     | (go_at_call 224; refine (ax _ ?_).mono ?_; (repeat (first|exact bzR _ _|exact hBw|refine bzD ?_|refine bzN ?_|refine bzS ?_|refine bzA ?_)); rintro e w5 ⟨⟨v5, rfl, hi5⟩, hb5⟩; have hB5 : Below wc.heap.size wc w5 := bthen bZ hb5; have HI5 := hZ hi5; have d05 := bkeep hB5 d0; have d15 := bkeep hB5 d1; obtain ⟨n5, a5, c5, l5, rfl, -⟩ := hi5; unfold iv at *)
     | (go_at_call 37; refine (ad _ _ ?_ ?_).mono ?_; (repeat (first|exact bzR _ _|exact hB5|refine bzD ?_|refine bzN ?_|refine bzS ?_|refine bzA ?_)); (refine HI5.out.keep ?_; have hBz := Below.refl w5.heap.size w5; (repeat (first|exact bzR _ _|exact hBz|refine bzD ?_|refine bzN ?_|refine bzS ?_|refine bzA ?_))); rintro e w6 ⟨⟨v6, rfl, hi6⟩, hb6⟩; have hB6 : Below wc.heap.size wc w6 := bthen bZ hb6; have HI6 := hZ hi6; have d06 := bkeep hB6 d0; have d16 := bkeep hB6 d1; have d06f := bkeepf hB6 d0 fh0; have d16f := bkeepf hB6 d1 fh1; obtain ⟨n6, a6, c6, l6, rfl, -⟩ := hi6; unfold iv at *)))
    all_goals
     go_wp2_with fail
     go_meet
     refine ⟨n6, a6, c6, l6, cell_far (cell_here d06 _) (by simp) _, cell_here (cell_far d16 (by simp) _) _, HI6.out.put2 d06 d16 _ _, (Out.of_below (fun k => k = h) hB6).set2 (fun _ => rfl) _ _, (Lim.of_below hB6).trans (Lim.set2 d06 d16 _ _)⟩
   case rest =>
    obtain ⟨n4, a4, c4, L4, d0, d1, hi4, hO4, hL4⟩ := hcut
    rename World => wd
    have HI4 := hZ hi4
    have HN4 := hZ (HN.out.lim hL4)
    have hgh' : ¬ (w.heap.size + 1 = h) := by omega
    have hgh2 : ¬ (w.heap.size + 2 = h) := by omega
    have hgh3 : ¬ (w.heap.size + 3 = h) := by omega
    have fg : Free wd g := Free.out (show Free wc g from fg) hO4 hgh
    have e0f := okeepf hO4 e0 e0f hgh2
    have e1f := okeepf hO4 e1 e1f hgh2
    have o0f := okeepf hO4 o0 o0f hgh3
    have o1f := okeepf hO4 o1 o1f hgh3
    have k0 := okeep hO4 k0 hgh'
    have k1 := okeep hO4 k1 hgh'
    have m0 := okeep hO4 m0 hgh
    have m1 := okeep hO4 m1 hgh
    have e0 := okeep hO4 e0 hgh2
    have e1 := okeep hO4 e1 hgh2
    have o0 := okeep hO4 o0 hgh3
    have o1 := okeep hO4 o1 hgh3
    have hBd : Below w.heap.size w wd := hBy.trans (hO4.to_below (fun k hk _ e => by omega) hBy.size)
    have fg0 := fg.2 0
    have fg1 := fg.2 1
    have HYR4 := hZ (HYR.out.lim hL4)
    have sx := fun W (k : Below wd.heap.size wd W) => sign_c _ _ W (HYR4.out.keep k)
    rw [HSV.out] at sx
    clear hi4 hO4 hL4 hBy HM HN ad
    go_upto_region 7 with (fail)
    go_cut [] (fun wx => ∃ n5 a5 c5, ∃ L5 : List Nat, wx.cell? ⟨g, 0, none⟩ = some (.bool n5) ∧ wx.cell? ⟨g, 1, none⟩ = some (.slice a5 L5.length c5) ∧ IsInt wx (.agg #[.bool n5, .slice a5 L5.length c5]) (sg (!(true == n2)) (val Q) - sv) ∧ Out (fun k => k = g) wd wx ∧ Lim wd wx)
    case first =>
     have hBw := Below.refl wd.heap.size wd
     go_region_law (go_simp; go_wp2_with (first
      | (go_at_call 25; refine (sx _ ?_).mono ?_; (repeat (first|exact bzR _ _|exact hBw|refine bzD ?_|refine bzN ?_|refine bzS ?_|refine bzA ?_)); rintro e w5 ⟨rfl, hb5⟩; have hB5 : Below wd.heap.size wd w5 := bthen bZ hb5; have d05 := bkeep hB5 m0; have d15 := bkeep hB5 m1)
      | (go_at_call 45; refine (ox _).mono ?_; rintro e w6 ⟨⟨v6, rfl, hi6⟩, hb6⟩; have hB6 : Below wd.heap.size wd w6 := bthen bZ hb6; have HI6 := hZ hi6; have d06 := bkeep hB6 m0; have d16 := bkeep hB6 m1; obtain ⟨n6, a6, c6, l6, rfl, -⟩ := hi6; unfold iv at *)
      | (go_at_call 211; refine (sd _ _ _ ?_ ?_).mono ?_; (refine HN4.out.keep ?_; (repeat (first|exact bzR _ _|exact hB6|refine bzD ?_|refine bzN ?_|refine bzS ?_|refine bzA ?_))); (refine HI6.out.keep ?_; have hBz := Below.refl w6.heap.size w6; (repeat (first|exact bzR _ _|exact hBz|refine bzD ?_|refine bzN ?_|refine bzS ?_|refine bzA ?_))); rintro e w7 ⟨⟨v7, rfl, hi7⟩, hb7⟩; have hB7 : Below wd.heap.size wd w7 := bthen bZ hb7; have HI7 := hZ hi7; have d07 := bkeep hB7 m0; have d17 := bkeep hB7 m1; have d07f := bkeepf hB7 m0 fg0; have d17f := bkeepf hB7 m1 fg1; obtain ⟨n7, a7, c7, l7, rfl, -⟩ := hi7; unfold iv at *)))
     all_goals
      go_wp2_with fail
      go_meet
      refine ⟨n7, a7, c7, l7, cell_far (cell_here d07 _) (by simp) _, cell_here (cell_far d17 (by simp) _) _, HI7.out.put2 d07 d17 _ _, (Out.of_below (fun k => k = g) hB7).set2 (fun _ => rfl) _ _, (Lim.of_below hB7).trans (Lim.set2 d07 d17 _ _)⟩
    case rest =>
     obtain ⟨n5, a5, c5, L5, m0, m1, hi5, hO5, hL5⟩ := hcut
     rename World => wy
     have HI5 := hZ hi5
     have HR5 := hZ (HI4.out.lim hL5)
     have hgh4 : ¬ (w.heap.size + 2 = g) := by omega
     have hgh5 : ¬ (w.heap.size + 3 = g) := by omega
     have e0f := okeepf hO5 e0 e0f hgh4
     have e1f := okeepf hO5 e1 e1f hgh4
     have o0f := okeepf hO5 o0 o0f hgh5
     have o1f := okeepf hO5 o1 o1f hgh5
     have d0 := okeep hO5 d0 (show ¬ h = g from fun e => hgh e.symm)
     have d1 := okeep hO5 d1 (show ¬ h = g from fun e => hgh e.symm)
     have e0 := okeep hO5 e0 hgh4
     have e1 := okeep hO5 e1 hgh4
     have o0 := okeep hO5 o0 hgh5
     have o1 := okeep hO5 o1 hgh5
     have hBy : Below w.heap.size w wy := hBd.trans (hO5.to_below (fun k hk _ e => by omega) hBd.size)
     clear hi5 hO5 hL5 hBd HI4 HN4
     go_upto_region 8 with (fail)
     go_region
     go_wp2
     have hbe : Below w.heap.size w ((((wy.setCell ⟨w.heap.size + 1 + 1, 0, none⟩ (.bool n5)).setCell ⟨w.heap.size + 1 + 1, 1, none⟩ (.slice a5 L5.length c5)).setCell ⟨w.heap.size + 1 + 1 + 1, 0, none⟩ (.bool n4)).setCell ⟨w.heap.size + 1 + 1 + 1, 1, none⟩ (.slice a4 L4.length c4)).drew := Below.drew (bset (bset (bset (bset hBy (by simp <;> omega) _) (by simp <;> omega) _) (by simp <;> omega) _) (by simp <;> omega) _)
     have e0 : wy.cell? ⟨w.heap.size + 1 + 1, 0, none⟩ = some (.bool false) := e0
     have e1 : wy.cell? ⟨w.heap.size + 1 + 1, 1, none⟩ = some (.slice none 0 0) := e1
     have o0 : wy.cell? ⟨w.heap.size + 1 + 1 + 1, 0, none⟩ = some (.bool false) := o0
     have o1 : wy.cell? ⟨w.heap.size + 1 + 1 + 1, 1, none⟩ = some (.slice none 0 0) := o1
     refine bodyPost_ret (v := .tuple #[.agg #[.bool n5, .slice a5 L5.length c5], .agg #[.bool n4, .slice a4 L4.length c4], .int .i64 0]) (by simp [results, Tryz.results163, go_sem, *]) rfl ⟨⟨_, _, rfl, ?_, ?_⟩, hbe⟩
     · rw [PL.out.1]
       exact ((HI5.out.put2 e0 e1 _ _).put2 (cell_far (cell_far o0 (by simp) _) (by simp) _) (cell_far (cell_far o1 (by simp) _) (by simp) _) _ _).keep (Below.drew (Below.refl _ _))
     · rw [PL.out.2]
       exact ((HR5.out.put2 e0 e1 _ _).put2 (cell_far (cell_far o0 (by simp) _) (by simp) _) (cell_far (cell_far o1 (by simp) _) (by simp) _) _ _).keep (Below.drew (Below.refl _ _))
theorem isg_ne {n : Bool} {k : Nat} (h : sg n k ≠ 0) : 0 < k := by
 apply Nat.pos_of_ne_zero; intro e; subst e; exact h (sg_zero n)
theorem divmod_c (vx vy : Value) (x y : Int) (k : Nat) (w : World) (hx : IsInt w vx x) (hy : IsInt w vy y) (bx : Bd k x) (by' : Bd k y) (hk : k ≤ 17179869184) (h0 : y ≠ 0) :
 Calls Tryz.prog 163 #[vx, vy] w fun e w' => (∃ u v, e = .returned (.tuple #[u, v, .int .i64 0]) ∧ IsInt w' u (x / y) ∧ IsInt w' v (x % y)) ∧ Below w.heap.size w w' := by
 obtain ⟨n1, a1, c1, l1, rfl, u1, g1, s1, rfl⟩ := hx
 obtain ⟨n2, a2, c2, l2, rfl, u2, g2, s2, rfl⟩ := hy
 have hp := isg_ne h0
 have k1 := bd_len g1 (sg_bd bx) hk
 have k2 := bd_len g2 (sg_bd by') hk
 have h1k : 1 ≤ k := by
  apply Nat.pos_of_ne_zero; intro e; subst e
  have := sg_bd by'
  simp at this; omega
 exact divmodV_c n1 n2 a1 a2 c1 c2 l1 l2 k w u1 u2 g1 g2 hp (by omega) (by omega) (sg_bd bx) (sg_bd by') hk h1k s1 s2
end
section
open Num
attribute [local go_sem ↓] Go.wp_at_zero Go.wp_at_succ
def rowBlk : Value → Option Nat
 | .slice (some p) _ _ => some p.block
 | _ => none
end
section
open Num
attribute [local go_sem ↓] Go.wp_at_zero Go.wp_at_succ
theorem out_others {X : Nat → Prop} {a b : World} (h : Out X a b) (hx : ∀ q, X q → q < a.heap.size → ∃ o : Obj, a.heap[q]? = some o ∧ o.isCells = true) : KeepsOthers a b :=
 ⟨h.size, fun k o hk ho => by
  have hl := (Array.getElem?_eq_some_iff.1 hk).1
  rw [h.block k hl (fun hX => by
   obtain ⟨o', ho', hc⟩ := hx k hX hl
   rw [hk] at ho'; cases ho'; rw [ho] at hc; cases hc)]
  exact hk⟩
theorem typ_cells {w : World} {q : Nat} {t : TypeId} (h : typOf w q = some t) : ∃ o : Obj, w.heap[q]? = some o ∧ o.isCells = true := by
 unfold typOf at h
 cases e : w.heap[q]? with
 | none => rw [e] at h; cases h
 | some o =>
  rw [e] at h
  cases o with
  | cells c t' f => exact ⟨_, rfl, rfl⟩
  | _ => cases h
theorem typ_outK {X : Nat → Prop} {a b : World} {g : Nat} {t : TypeId} (h : typOf a g = some t) (ho : Out X a b) (hx : ¬ X g) : typOf b g = some t := by
 rw [typ_of_block (w := a) (ho.block g (typ_lt h) hx)]; exact h
end
structure Clo (n0 : Nat) (S : Nat → Prop) (a b : World) : Prop where
 os : b.os = a.os
 tape : b.tape = a.tape
 output : b.output = a.output
 size : a.heap.size ≤ b.heap.size
 block : ∀ q, q < a.heap.size → (q < n0 ∨ S q ∨ typOf a q = some 177) → b.heap[q]? = a.heap[q]?
section
variable {n0 : Nat} {S : Nat → Prop} {a b c : World}
theorem Clo.refl (n0 : Nat) (S : Nat → Prop) (a : World) : Clo n0 S a a := ⟨rfl, rfl, rfl, Nat.le_refl _, fun _ _ _ => rfl⟩
theorem Clo.trans (h : Clo n0 S a b) (k : Clo n0 S b c) : Clo n0 S a c :=
 ⟨k.os.trans h.os, k.tape.trans h.tape, k.output.trans h.output, Nat.le_trans h.size k.size, fun q hq hs =>
  (k.block q (Nat.lt_of_lt_of_le hq h.size) (hs.imp id (Or.imp id fun ht => by unfold typOf; rw [h.block q hq hs]; exact ht))).trans (h.block q hq hs)⟩
theorem Clo.of_below (h : Below a.heap.size a b) : Clo n0 S a b := ⟨h.os, h.tape, h.output, h.size, fun q hq _ => h.block q hq⟩
theorem Clo.of_out {X : Nat → Prop} (h : Out X a b) (hx : ∀ q, X q → q < a.heap.size → n0 ≤ q ∧ ¬ S q ∧ typOf a q ≠ some 177) : Clo n0 S a b :=
 ⟨h.os, h.tape, h.output, h.size, fun q hq hs => h.block q hq fun hX => by
  obtain ⟨h1, h2, h3⟩ := hx q hX hq
  rcases hs with h | h | h
  · omega
  · exact h2 h
  · exact h3 h⟩
theorem Clo.low (h : Clo n0 S a b) (hn : n0 ≤ a.heap.size) : Below n0 a b := ⟨h.os, h.tape, h.output, h.size, fun q hq => h.block q (by omega) (.inl hq)⟩
theorem Clo.cell (h : Clo n0 S a b) {p : Addr} {v : Value} (hp : p.block < n0 ∨ S p.block) (hc : a.cell? p = some v) : b.cell? p = some v := by
 have hq : p.block < a.heap.size := by
  unfold World.cell? at hc
  rcases Nat.lt_or_ge p.block a.heap.size with h1 | h1
  · exact h1
  · rw [Array.getElem?_eq_none h1] at hc; cases hc
 rw [World.cell?_of_block (w := a) (h.block p.block hq (hp.imp id .inl))]; exact hc
theorem Clo.frz (h : Clo n0 S a b) {p : Addr} {v : Value} (hp : p.block < n0 ∨ S p.block) (hc : a.cell? p = some v) (hf : a.frozen? p = false) : b.frozen? p = false := by
 have hq : p.block < a.heap.size := by
  unfold World.cell? at hc
  rcases Nat.lt_or_ge p.block a.heap.size with h1 | h1
  · exact h1
  · rw [Array.getElem?_eq_none h1] at hc; cases hc
 rw [World.frozen?_of_block (w := a) (h.block p.block hq (hp.imp id .inl))]; exact hf
theorem Clo.typ (h : Clo n0 S a b) {q : Nat} {t : TypeId} (hp : q < n0 ∨ S q) (ht : typOf a q = some t) : typOf b q = some t := by
 have hq : q < a.heap.size := by
  unfold typOf at ht
  rcases Nat.lt_or_ge q a.heap.size with h1 | h1
  · exact h1
  · rw [Array.getElem?_eq_none h1] at ht; cases ht
 unfold typOf; rw [h.block q hq (hp.imp id .inl)]; exact ht
end
theorem typ_none {X : World} {q : Nat} {o : Obj} (h : X.heap[q]? = some o) (hc : o.isCells = false) : typOf X q = none := by
 unfold typOf; rw [h]
 cases o with
 | cells _ _ _ => cases hc
 | _ => rfl
def Soil (S : Nat → Prop) (X : World) : Prop := ∀ q, S q → ∃ t, typOf X q = some t ∧ t ≠ 177
def Grew (S S' : Nat → Prop) (X : World) : Prop := ∀ q, S' q → S q ∨ X.heap.size ≤ q
theorem Grew.same (S : Nat → Prop) (X : World) : Grew S S X := fun _ h => .inl h
def IterD (P : Program) (gf : Nat) (lb : Array Value) (A : Nat → Array Value → World → Prop) (m : Nat) (Xs : Array Value → Nat → Prop) (n0 : Nat) (S0 : Nat → Prop) (G : World → Prop) : Prop :=
 ∀ (l : Nat) (J Jx : Nat → (Nat → Prop) → World → Prop) (W : World), G W → (∀ k S X Y, J k S X → Clo n0 S X Y → KeepsOthers X Y → J k S Y) → (∀ k S X Y, Jx k S X → Clo n0 S X Y → KeepsOthers X Y → Jx k S Y) →
  (∀ k S X, J k S X → Soil S X) →
  (∀ k args S X, k < m → J k S X → A k args X → (∀ q, Xs args q → ¬ S q) → YieldAt Fence.wide 7 P l args X fun e Y => (e = .returned (.bool true) ∧ ∃ S', Grew S S' X ∧ J (k + 1) S' Y ∧ OutT (fun q => S q ∨ Xs args q) X Y) ∨ (e = .returned (.bool false) ∧ ∃ S', Jx (k + 1) S' Y)) →
  J 0 S0 W → CallsIn Fence.wide 8 P gf (#[.func (.yield l) #[] #[]] ++ lb) W fun e Y => (∃ v, e = .returned v) ∧ ((∃ S, J m S Y) ∨ ∃ k S, k ≤ m ∧ Jx k S Y)
def postD (X0 S : Nat → Prop) (I : Nat → (Nat → Prop) → World → Prop) (Ix : Code → Nat → (Nat → Prop) → World → Prop) (k : Nat) (X : World) : Exit → Act → World → Prop
 | .normal, _, Y => OutT X0 X Y ∧ ∃ S', Grew S S' X ∧ I k S' Y
 | .ret, _, Y => OutT X0 X Y ∧ ∃ S', Ix .ret k S' Y
 | .exit id, _, Y => OutT X0 X Y ∧ ∃ S', Ix (.exit id) k S' Y
 | .goto t, _, Y => OutT X0 X Y ∧ ∃ S', Ix (.goto t) k S' Y
 | .panic _, _, _ => False
 | .outgrown, _, _ => False
theorem wp_rangeD {P : Program} {g : Operand} {ps : Array Tmp} {assign body : Code} {Q : Exit → Act → World → Prop} {a : Act} {w : World}
 {gf : Nat} {lb : Array Value} (hg : a.eval g = .func (.func gf) #[] lb) (eg : ∀ args w, (callFunc gf args).run P w = .ok (.enter gf args) w)
 {A : Nat → Array Value → World → Prop} {m n0 : Nat} {Xs : Array Value → Nat → Prop} {S0 : Nat → Prop} {G : World → Prop} (hseq : IterD P gf lb A m Xs n0 S0 G)
 (hn0 : n0 ≤ w.heap.size) (hG : ∀ W, Below w.heap.size w W → G W) (hps : ∀ k args X, A k args X → args.size = ps.size)
 (I : Nat → (Nat → Prop) → World → Prop) (Ix : Code → Nat → (Nat → Prop) → World → Prop) (hI : ∀ k S X Y, I k S X → Clo n0 S X Y → I k S Y) (hIx : ∀ c k S X Y, Ix c k S X → Clo n0 S X Y → Ix c k S Y)
 (hS : ∀ k S X, I k S X → Soil S X) (hSx : ∀ c k S X, Ix c k S X → Soil S X) (h0 : I 0 S0 w)
 (Ax : Array Value → Nat → Array Value → (Nat → Prop) → Act → World → Prop) (hAx : ∀ k args S a' (X : World) (l : Nat) (o o' : Obj), w.heap.size ≤ l → X.heap[l]? = some o → o.isCells = false → Ax a.tmps k args S a' X → Ax a.tmps k args S a' (X.putObj l o'))
 (hXs : ∀ k args X q, A k args X → Xs args q → ∃ o, X.heap[q]? = some o ∧ o.isCells = true)
 (hassign : ∀ (l k : Nat) (args : Array Value) (S : Nat → Prop) (X : World) (K : Act → World → Prop), k < m → I k S X → A k args X → (∀ q, Xs args q → ¬ S q) → (∀ a' Y, Below X.heap.size X Y → I k S Y → Ax a.tmps k args S a' Y → K a' Y) →
  assign.wpIn (Fence.wide.inRound l) 7 P (Exit.then K (fun _ _ _ => False)) { tmps := (ps.zip args).foldl (fun t (p, v) => t.setIfInBounds p v) a.tmps, defers := [] } X)
 (hbody : ∀ (l k : Nat) (args : Array Value) (S : Nat → Prop) (a' : Act) (X : World), k < m → I k S X → Ax a.tmps k args S a' X → body.wpIn (Fence.wide.inRound l) 7 P (postD (fun q => S q ∨ Xs args q) S I Ix (k + 1) X) a' X)
 (hdone : ∀ (D : Nat) (S : Nat → Prop) (Y : World), w.heap.size ≤ D → I m S Y → Y.heap[D]? = some (.deferred (some [])) → Q .normal { a with defers := { target := .collected D, args := #[] } :: a.defers } Y)
 (hstop : ∀ (D : Nat) (c : Code) (k : Nat) (S : Nat → Prop) (Y : World), w.heap.size ≤ D → k ≤ m → Ix c k S Y → Y.heap[D]? = some (.deferred (some [])) → c.wp P Q { a with defers := { target := .collected D, args := #[] } :: a.defers } Y) :
 (Code.rangeFunc g ps assign body).wp P Q a w := by
 refine (wpIn_wide (n := 9)).1 (wpIn_rangeFunc fun fn hfn => ?_)
 let R : LoopState → Option Code → Loop := fun st pe => { state := st, pending := pe, fn, tmps := a.tmps, params := ps, assign, body, defers := w.heap.size }
 generalize hl : w.heap.size + 1 = l
 have hlw : w.heap.size ≤ l := by omega
 let V : World := (w.alloc (.deferred (some []))).alloc (.loop (R .ready none))
 have rec0 : V.heap[l]? = some (.loop (R .ready none)) := by
  have h := World.alloc_heap_new (w.alloc (.deferred (some []))) (.loop (R .ready none))
  rw [World.size_alloc, hl] at h
  exact h
 have put0 : V.heap[w.heap.size]? = some (.deferred (some [])) := (Below.heap_alloc _ _ _ (by simp)).trans (World.alloc_heap_new w _)
 have bV : Below w.heap.size w V := bal (bal (Below.refl _ _) _) _
 -- the loop's record is set: nothing of the body's, no limbs
 have cP : ∀ (S : Nat → Prop) (X : World) (o o' : Obj), Soil S X → X.heap[l]? = some o → o.isCells = false → Clo n0 S X (X.putObj l o') := fun S X o o' hs ho hc => by
  refine ⟨rfl, rfl, rfl, by simp [World.putObj], fun q hq h => World.putObj_heap_other (fun e => ?_)⟩
  subst e
  have ht : ∀ t, typOf X q ≠ some t := fun t h => by rw [typ_none ho hc] at h; cases h
  rcases h with h | h | h
  · omega
  · obtain ⟨t, h1, _⟩ := hs q h
    exact ht t h1
  · exact ht _ h
 refine ⟨l, [{ target := .collected w.heap.size, args := #[] }], V, { target := .fn (.func gf) lb, args := #[.func (.yield l) #[] #[]] }, V, gf, #[.func (.yield l) #[] #[]] ++ lb, V, ?_, ?_, fun f' _ => trivial, ?_, fun _ => by omega, ?_⟩
 · have h := run_enterLoop_outer (P := P) (w := w) fn a.tmps ps assign body
   rw [hl] at h
   exact h
 · simp only [resolve, hg]
   simp [go_sem]
 · simp [invoke, go_sem, eg]
 let J : Nat → (Nat → Prop) → World → Prop := fun k S X => I k S X ∧ X.heap[l]? = some (.loop (R .ready none)) ∧ X.heap[w.heap.size]? = some (.deferred (some []))
 let Jx : Nat → (Nat → Prop) → World → Prop := fun k S X => ∃ c, Ix c k S X ∧ X.heap[l]? = some (.loop (R .done (some c))) ∧ X.heap[w.heap.size]? = some (.deferred (some []))
 refine (hseq l J Jx V (hG V bV) ?_ ?_ ?_ ?_ ⟨hI 0 S0 _ _ h0 (.of_below bV), rec0, put0⟩).mono ?_
 · rintro k S X Y ⟨h1, h2, h3⟩ hc hk
   exact ⟨hI k S X Y h1 hc, hk.same _ _ h2 rfl, hk.same _ _ h3 rfl⟩
 · rintro k S X Y ⟨c, h1, h2, h3⟩ hc hk
   exact ⟨c, hIx c k S X Y h1 hc, hk.same _ _ h2 rfl, hk.same _ _ h3 rfl⟩
 · rintro k S X ⟨h1, _⟩
   exact hS k S X h1
 · -- one round
   rintro k args S X hkm ⟨h1, h2, h3⟩ hA hxs
   have nX : ∀ q o, X.heap[q]? = some o → o.isCells = false → ¬ (S q ∨ Xs args q) := fun q o hq ho hx => by
    rcases hx with hx | hx
    · obtain ⟨t, ht, _⟩ := hS k S X h1 q hx
      rw [typ_none hq ho] at ht; cases ht
    · obtain ⟨o', ho', hc⟩ := hXs k args X q hA hx
      rw [hq] at ho'; cases ho'; rw [ho] at hc; cases hc
   have nl : ¬ (S l ∨ Xs args l) := nX _ _ h2 rfl
   have nd : ¬ (S w.heap.size ∨ Xs args w.heap.size) := nX _ _ h3 rfl
   have hy := run_yield (P := P) (args := args) h2 (hps k args X hA)
   refine ⟨fn, _, assign, body, hy, roundIn_of_wpIn hfn (hassign l k args S X _ hkm h1 hA hxs ?_)⟩
   intro a' X1 hb i1 ax
   have hlX : l < X.heap.size := (Array.getElem?_eq_some_iff.1 h2).1
   have l1 : X1.heap[l]? = some (.loop (R .ready none)) := (hb.block _ hlX).trans h2
   have d1 : X1.heap[w.heap.size]? = some (.deferred (some [])) := (hb.block _ (Array.getElem?_eq_some_iff.1 h3).1).trans h3
   have hl1 : l < X1.heap.size := (Array.getElem?_eq_some_iff.1 l1).1
   refine ⟨_, run_beginRound l1 rfl, ?_⟩
   have cb : Clo n0 S X1 (X1.putObj l (.loop { R .ready none with state := .busy })) := cP _ _ _ _ (hS _ _ _ i1) l1 rfl
   have l2 : (X1.putObj l (.loop { R .ready none with state := .busy })).heap[l]? = some (.loop { R .ready none with state := .busy }) := World.putObj_heap_same hl1
   have o2 : ∀ b, b ≠ l → (X1.putObj l (.loop { R .ready none with state := .busy })).heap[b]? = X1.heap[b]? := fun b hb => World.putObj_heap_other hb
   have s2 : (X1.putObj l (.loop { R .ready none with state := .busy })).heap.size = X1.heap.size := by simp [World.putObj]
   refine wpIn_mono (hbody l k args S a' _ hkm (hI k S _ _ i1 cb) (hAx k args S a' _ _ _ _ hlw l1 rfl ax)) ?_
   have fin : ∀ (jump : Option Code) (Y : World) (S' : Nat → Prop), OutT (fun q => S q ∨ Xs args q) (X1.putObj l (.loop { R .ready none with state := .busy })) Y → Soil S' Y →
    (Instr.endRound l jump).run P Y = .ok (.bool jump.isNone) (Y.putObj l (.loop (R (if jump.isNone then .ready else .done) jump))) ∧ Clo n0 S' Y (Y.putObj l (.loop (R (if jump.isNone then .ready else .done) jump))) ∧
    (Y.putObj l (.loop (R (if jump.isNone then .ready else .done) jump))).heap[l]? = some (.loop (R (if jump.isNone then .ready else .done) jump)) ∧ (Y.putObj l (.loop (R (if jump.isNone then .ready else .done) jump))).heap[w.heap.size]? = some (.deferred (some [])) := fun jump Y S' hoT hs => by
    have ho := hoT.1
    have lY : Y.heap[l]? = some (.loop { R .ready none with state := .busy }) := (ho.block _ (by rw [s2]; exact hl1) nl).trans l2
    refine ⟨run_endRound (P := P) jump lY, cP _ _ _ _ hs lY rfl, World.putObj_heap_same (Array.getElem?_eq_some_iff.1 lY).1, ?_⟩
    rw [World.putObj_heap_other (by omega), ho.block _ (by rw [s2]; exact (Array.getElem?_eq_some_iff.1 d1).1) nd, o2 _ (by omega), d1]
   rintro e a3 Y hp
   cases e with
   | normal =>
    obtain ⟨ho, S', hg', i3⟩ := hp
    obtain ⟨hr, hc, e1, e2⟩ := fin none Y S' ho (hS _ _ _ i3)
    obtain ⟨ho, ht⟩ := ho
    refine ⟨_, _, hr, .inl ⟨rfl, S', fun q hq => (hg' q hq).imp id fun h => Nat.le_trans hb.size (by rw [s2] at h; exact h), ⟨hI _ _ _ _ i3 hc, e1, e2⟩, ⟨ho.os.trans hb.os, ho.tape.trans hb.tape, ho.output.trans hb.output, ?_, fun i hi hx => ?_⟩, fun q hq hqs => ?_⟩⟩
    · have := ho.size; have := hb.size; simp [World.putObj] at *; omega
    · by_cases e : i = l
      · subst e; exact e1.trans h2.symm
      · rw [World.putObj_heap_other e, ho.block _ (by rw [s2]; have := hb.size; omega) hx, o2 _ e, hb.block _ hi]
    · have e : q ≠ l := fun e => nl (e ▸ hq)
      have t1 : typOf (Y.putObj l (.loop (R (if (none : Option Code).isNone then .ready else .done) none))) q = typOf Y q := by unfold typOf; rw [World.putObj_heap_other e]
      have t2 := ht q hq (by rw [s2]; have := hb.size; omega)
      have t3 : typOf (X1.putObj l (.loop { R .ready none with state := .busy })) q = typOf X1 q := by unfold typOf; rw [o2 _ e]
      have t4 : typOf X1 q = typOf X q := by unfold typOf; rw [hb.block _ hqs]
      exact (t1.trans t2).trans (t3.trans t4)
   | ret =>
    obtain ⟨ho, S', i3⟩ := hp
    obtain ⟨hr, hc, e1, e2⟩ := fin (some .ret) Y S' ho (hSx _ _ _ _ i3)
    exact ⟨_, _, hr, .inr ⟨rfl, S', .ret, hIx _ _ _ _ _ i3 hc, e1, e2⟩⟩
   | exit id =>
    obtain ⟨ho, S', i3⟩ := hp
    obtain ⟨hr, hc, e1, e2⟩ := fin (some (.exit id)) Y S' ho (hSx _ _ _ _ i3)
    exact ⟨_, _, hr, .inr ⟨rfl, S', .exit id, hIx _ _ _ _ _ i3 hc, e1, e2⟩⟩
   | goto t =>
    obtain ⟨ho, S', i3⟩ := hp
    obtain ⟨hr, hc, e1, e2⟩ := fin (some (.goto t)) Y S' ho (hSx _ _ _ _ i3)
    exact ⟨_, _, hr, .inr ⟨rfl, S', .goto t, hIx _ _ _ _ _ i3 hc, e1, e2⟩⟩
   | panic ch => exact hp.elim
   | outgrown => exact hp.elim
 · -- behind it
   rintro e Y ⟨⟨v, rfl⟩, h⟩
   rcases h with ⟨S, i1, l1, d1⟩ | ⟨k, S, hk, c, i1, l1, d1⟩
   · refine ⟨none, _, run_endLoop (P := P) l1 (by simp [R]), hdone _ S _ (Nat.le_refl _) (hI _ _ _ _ i1 (cP _ _ _ _ (hS _ _ _ i1) l1 rfl)) ?_⟩
     rw [World.putObj_heap_other (by omega)]; exact d1
   · refine ⟨some c, _, run_endLoop (P := P) l1 (by simp [R]), wpIn_wide.2 (hstop _ c k S _ (Nat.le_refl _) hk (hIx _ _ _ _ _ i1 (cP _ _ _ _ (hSx _ _ _ _ i1) l1 rfl)) ?_)⟩
     rw [World.putObj_heap_other (by omega)]; exact d1
end Go.Proofs.YtbmaffijncapiaaGreatDoor
