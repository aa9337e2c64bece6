/- Texts of this seat, laid together: RefO, RefQ, RpA, Vo. Each opens with its own remark, which says what it proves, and under which conditions. -/
import Derived.Test.YtdllbdfchloijaaGreatDoorE20
import Derived.Test.YtdllbdfchloijaaGreatDoorE17
import Derived.Test.YtdllbdfchloijaaGreatDoorE21
import Derived.Test.YtdllbdfchloijaaGreatDoorE12
import Derived.Deep.DeepCutAuto
import Derived.Deep.RegionLaw
import Derived.Test.YtdllbdfchloijaaGreatDoorE02
import Derived.Test.YtdllbdfchloijaaGreatDoorRows
import Derived.Test.YtdllbdfchloijaaGreatDoorE16
import Derived.Lib.SmallJoins
import Derived.Deep.Slices
import Derived.Deep.Matrix
import Derived.Deep.Fields
import Derived.ChangeSame
import Derived.DataShut
set_option linter.unusedVariables false
set_option linter.unusedSimpArgs false
/- The reference's numbers: DivMod. -/
namespace Go.Proofs.YtdllbdfchloijaaGreatDoor
open Num
open Go.ChangeShapes Go.WideShapes Go.ChangeAt Go.RowKit
set_option linter.unusedVariables false
set_option linter.unusedSimpArgs false
theorem Free.al {w : World} {g : Nat} (h : Free w g) (o : Obj) : Free (w.alloc o) g := h.keep (bal (Below.refl _ _) _)
theorem Free.dr {w : World} {g : Nat} (h : Free w g) : Free w.drew g := h
set_option maxRecDepth 100000 in
set_option maxHeartbeats 2000000 in
theorem rdivmodV_c (n1 n2 : Bool) (a1 a2 : Option Addr) (c1 c2 : Nat) (l1 l2 : List Nat) (w : World) (u1 : U32 w a1 c1 l1) (u2 : U32 w a2 c2 l2) (q1 : NumR.Limbs l1) (q2 : NumR.Limbs l2) (g1 : Nrm l1) (g2 : Nrm l2) (hz : 0 < NumR.val l2) (k1 : l1.length ≤ 1073741826) (k2 : l2.length ≤ 1073741826) (s1 : n1 = true → l1 ≠ []) (s2 : n2 = true → l2 ≠ []) :
    Calls Tryz.prog 158 #[.agg #[.bool n1, .slice a1 l1.length c1], .agg #[.bool n2, .slice a2 l2.length c2]] w fun e w' => (∃ u v, e = .returned (.tuple #[u, v]) ∧ IsRef w' u (sg n1 (NumR.val l1) / sg n2 (NumR.val l2)) ∧ IsRef w' v (sg n1 (NumR.val l1) % sg n2 (NumR.val l2))) ∧ Below w.heap.size w w' := by
  have dc := fun w h1 h2 => rdivide_c a1 a2 c1 c2 l1 l2 w h1 h2 q1 q2 g1 g2 hz k1 k2
  have hB0 := Below.refl w.heap.size w
  have HK := Lib.hid (And.intro k1 k2)
  have HZ := Lib.hid hz
  have HS := Lib.hid (And.intro s1 s2)
  clear k1 k2 hz s1 s2
  go_enter Tryz.func158, Tryz.ntmps158
  go_wp2_with fail
  refine (dc _ (u1.keep (by repeat (first | exact Below.refl _ _ | exact hB0 | refine Below.drew ?_ | refine below_drewN ?_ _ | refine bset ?_ (by simp <;> omega) _ | refine bal ?_ _))) (u2.keep (by repeat (first | exact Below.refl _ _ | exact hB0 | refine Below.drew ?_ | refine below_drewN ?_ _ | refine bset ?_ (by simp <;> omega) _ | refine bal ?_ _)))).mono ?_
  rintro e w1 ⟨⟨u, v, rfl, hu, hv⟩, hb1⟩
  have x0 : w1.cell? ⟨w.heap.size, 0, none⟩ = some (.bool n1) := bkc hb1
  have zx0 := cell_lt x0
  have x1 : w1.cell? ⟨w.heap.size, 1, none⟩ = some (.slice a1 l1.length c1) := bkc hb1
  have y0 : w1.cell? ⟨w.heap.size + 1, 0, none⟩ = some (.bool n2) := bkc hb1
  have zy0 := cell_lt y0
  have y1 : w1.cell? ⟨w.heap.size + 1, 1, none⟩ = some (.slice a2 l2.length c2) := bkc hb1
  have r0 : w1.cell? ⟨w.heap.size + 2, 0, none⟩ = some (.bool false) := bkc hb1
  have zr0 := cell_lt r0
  have r0f : w1.frozen? ⟨w.heap.size + 2, 0, none⟩ = false := bkcf (v := .bool false) hb1
  have r1 : w1.cell? ⟨w.heap.size + 2, 1, none⟩ = some (.slice none 0 0) := bkc hb1
  have r1f : w1.frozen? ⟨w.heap.size + 2, 1, none⟩ = false := bkcf (v := .slice none 0 0) hb1
  have t0 : w1.cell? ⟨w.heap.size + 3, 0, none⟩ = some (.bool false) := bkc hb1
  have zt0 := cell_lt t0
  have t0f : w1.frozen? ⟨w.heap.size + 3, 0, none⟩ = false := bkcf (v := .bool false) hb1
  have t1 : w1.cell? ⟨w.heap.size + 3, 1, none⟩ = some (.slice none 0 0) := bkc hb1
  have t1f : w1.frozen? ⟨w.heap.size + 3, 1, none⟩ = false := bkcf (v := .slice none 0 0) hb1
  have hB : Below w.heap.size w w1 := bthen (by repeat (first | exact Below.refl _ _ | exact hB | refine Below.drew ?_ | refine below_drewN ?_ _ | refine bset ?_ (by simp <;> omega) _ | refine bal ?_ _)) hb1
  have hz : w.heap.size ≤ w1.heap.size := hB.size
  clear dc
  obtain ⟨aq, cq, Q, rfl, uq, qq, gq, vq⟩ := hu
  obtain ⟨ar, cr, R, rfl, ur, qr, gr, vr⟩ := hv
  have nc := fun W (h : Below w1.heap.size w1 W) => rnormW_c (!(n1 == n2)) aq cq Q W (uq.keep h)
  have nd := fun W (h : Below w1.heap.size w1 W) => rnormW_c n1 ar cr R W (ur.keep h)
  rw [trim_of_nrm gq] at nc
  rw [trim_of_nrm gr] at nd
  obtain ⟨b1, hb1'⟩ : ∃ b, b = ((!(n1 == n2)) && decide (0 < Q.length)) := ⟨_, rfl⟩
  obtain ⟨b2, hb2'⟩ : ∃ b, b = (n1 && decide (0 < R.length)) := ⟨_, rfl⟩
  rw [← hb1'] at nc
  rw [← hb2'] at nd
  have HQ := Lib.hid (And.intro uq (And.intro qq (And.intro gq (And.intro vq hb1'))))
  have HR := Lib.hid (And.intro ur (And.intro qr (And.intro gr (And.intro vr hb2'))))
  clear uq ur qq qr gq gr vq vr hb1' hb2'
  unfold iv at nc nd
  have hs0 := cell_lt x0
  have hs1 : w.heap.size < w1.heap.size + 1 := by omega
  have hs2 : w.heap.size < w1.heap.size + 1 + 1 := by omega
  have hs3 : w.heap.size < w1.heap.size + 1 + 1 + 1 := by omega
  have hv0 := cell_lt y0
  have hv1 : w.heap.size + 1 < w1.heap.size + 1 := by omega
  have hv2 : w.heap.size + 1 < w1.heap.size + 1 + 1 := by omega
  have hv3 : w.heap.size + 1 < w1.heap.size + 1 + 1 + 1 := by omega
  go_upto_region 2 with (fail)
  have hBw := Below.refl w1.heap.size w1
  have HSS := Lib.hid (fun W (h : Below w1.heap.size w1 W) => And.intro (bkeep h x0) (bkeep h y0))
  go_cut [8, 9] (fun p q wx => ∃ g h : Nat, p = .pointer (some ⟨g, 0, none⟩) ∧ q = .pointer (some ⟨h, 0, none⟩) ∧ g ≠ h ∧ w1.heap.size ≤ g ∧ w1.heap.size ≤ h ∧ wx.cell? ⟨g, 0, none⟩ = some (.bool b1) ∧ wx.cell? ⟨g, 1, none⟩ = some (.slice aq Q.length cq) ∧ wx.cell? ⟨h, 0, none⟩ = some (.bool b2) ∧ wx.cell? ⟨h, 1, none⟩ = some (.slice ar R.length cr) ∧ Free wx g ∧ Free wx h ∧ Below w1.heap.size w1 wx)
  case first =>
    go_region_held3 (fun w' => w'.cell? ⟨w.heap.size, 0, none⟩ = some (.bool n1) ∧ w'.cell? ⟨w.heap.size + 1, 0, none⟩ = some (.bool n2))
      (first | (refine HSS.out _ ?_; (repeat (first | exact Below.refl _ _ | exact hBw | refine Below.drew ?_ | refine below_drewN ?_ _ | refine bset ?_ (by simp <;> omega) _ | refine bal ?_ _)); done) | fail)
      (first | (go_at_call 89; (first | (with_reducible refine (nc _ ?_).mono ?_) | (with_reducible refine (nd _ ?_).mono ?_)); (repeat (first | exact Below.refl _ _ | exact hBw | refine Below.drew ?_ | refine below_drewN ?_ _ | refine bset ?_ (by simp <;> omega) _ | refine bal ?_ _)); rintro e w5 ⟨rfl, rfl⟩) | fail)
    all_goals
      go_wp2_with fail
      go_meet
      refine ⟨_, _, rfl, rfl, by omega, by omega, by omega, ?_, ?_, ?_, ?_, ?_, ?_, ?_⟩
      · repeat (first | (refine cell_new ?_ rfl; first | (with_reducible rfl) | (simp only [World.size_alloc]; done)) | (with_reducible refine cell_drew ?_) | (with_reducible refine cell_alloc ?_ _))
      · repeat (first | (refine cell_new ?_ rfl; first | (with_reducible rfl) | (simp only [World.size_alloc]; done)) | (with_reducible refine cell_drew ?_) | (with_reducible refine cell_alloc ?_ _))
      · repeat (first | (refine cell_new ?_ rfl; first | (with_reducible rfl) | (simp only [World.size_alloc]; done)) | (with_reducible refine cell_drew ?_) | (with_reducible refine cell_alloc ?_ _))
      · repeat (first | (refine cell_new ?_ rfl; first | (with_reducible rfl) | (simp only [World.size_alloc]; done)) | (with_reducible refine cell_drew ?_) | (with_reducible refine cell_alloc ?_ _))
      · repeat (first | (refine Free.new ?_; first | (with_reducible rfl) | (simp only [World.size_alloc]; done)) | (with_reducible refine Free.dr ?_) | (with_reducible refine Free.al ?_ _))
      · repeat (first | (refine Free.new ?_; first | (with_reducible rfl) | (simp only [World.size_alloc]; done)) | (with_reducible refine Free.dr ?_) | (with_reducible refine Free.al ?_ _))
      · exact Below.drew (bal (bal (bal (bal (Below.refl _ _) _) _) _) _)
  case rest =>
    obtain ⟨g, h, rfl, rfl, hgh, hg, hh, m0, m1, d0, d1, fg, fh, hBx⟩ := hcut
    have hBy := bthen hB hBx
    have k0 := bkeep hBx y0
    have k1 := bkeep hBx y1
    have e0 := bkeep hBx r0
    have e1 := bkeep hBx r1
    have e0f := bkeepf hBx r0 r0f
    have e1f := bkeepf hBx r1 r1f
    have o0 := bkeep hBx t0
    have o1 := bkeep hBx t1
    have o0f := bkeepf hBx t0 t0f
    have o1f := bkeepf hBx t1 t1f
    have fg0 := fg.2 0
    have fg1 := fg.2 1
    have fh0 := fh.2 0
    have fh1 := fh.2 1
    have hlt := cell_lt t0
    have hg3 : w.heap.size + 3 < g := by omega
    have hh3 : w.heap.size + 3 < h := by omega
    have HUQ := Lib.hid (HQ.out.1.keep hBx)
    have HUR := Lib.hid (HR.out.1.keep hBx)
    have HYR := Lib.hid (show IsRef wc (.agg #[.bool n2, .slice a2 l2.length c2]) (sg n2 (NumR.val l2)) from ⟨n2, a2, c2, l2, rfl, u2.keep hBy, q2, g2, HS.out.2, rfl⟩)
    clear nc nd hs0 hs1 hs2 hs3 hv0 hv1 hv2 hv3 x0 x1 y0 y1 r0 r1 r0f r1f t0 t1 t0f t1f hb1 hB HSS u1 u2 hBw
    cases b2 with
    | false =>
      have PL := Lib.hid (show sg n1 (NumR.val l1) / sg n2 (NumR.val l2) = sg (!(n1 == n2)) (NumR.val Q) ∧ sg n1 (NumR.val l1) % sg n2 (NumR.val l2) = sg false (NumR.val R) by
        rw [HQ.out.2.2.2.1, HR.out.2.2.2.1]
        refine dm_low HZ.out ?_
        have h := HR.out.2.2.2.2
        cases n1 with
        | false => exact .inl rfl
        | true =>
          right
          have h2 : R = [] := by cases hR : R with | nil => rfl | cons x t => rw [hR] at h; simp at h
          rw [← HR.out.2.2.2.1, h2]; rfl)
      go_upto_region 6 with (fail)
      go_region
      go_wp2
      have hbe : Below w.heap.size w ((((wc.setCell ⟨w.heap.size + 1 + 1, 0, none⟩ (.bool b1)).setCell ⟨w.heap.size + 1 + 1, 1, none⟩ (.slice aq Q.length cq)).setCell ⟨w.heap.size + 1 + 1 + 1, 0, none⟩ (.bool false)).setCell ⟨w.heap.size + 1 + 1 + 1, 1, none⟩ (.slice ar R.length cr)).drew := Below.drew (bset (bset (bset (bset hBy (by simp <;> omega) _) (by simp <;> omega) _) (by simp <;> omega) _) (by simp <;> omega) _)
      have e0 : wc.cell? ⟨w.heap.size + 1 + 1, 0, none⟩ = some (.bool false) := e0
      have e1 : wc.cell? ⟨w.heap.size + 1 + 1, 1, none⟩ = some (.slice none 0 0) := e1
      have o0 : wc.cell? ⟨w.heap.size + 1 + 1 + 1, 0, none⟩ = some (.bool false) := o0
      have o1 : wc.cell? ⟨w.heap.size + 1 + 1 + 1, 1, none⟩ = some (.slice none 0 0) := o1
      refine bodyPost_ret (v := .tuple #[.agg #[.bool b1, .slice aq Q.length cq], .agg #[.bool false, .slice ar R.length cr]]) (by simp [results, Tryz.results158, go_sem, *]) rfl ⟨⟨_, _, rfl, ?_, ?_⟩, hbe⟩
      · rw [PL.out.1]
        exact (((ref_of HUQ.out HQ.out.2.1 HQ.out.2.2.1 HQ.out.2.2.2.2).put2 e0 e1 _ _).put2 (cell_far (cell_far o0 (by simp) _) (by simp) _) (cell_far (cell_far o1 (by simp) _) (by simp) _) _ _).keep (Below.drew (Below.refl _ _))
      · rw [PL.out.2]
        exact (((ref_of (s := false) HUR.out HR.out.2.1 HR.out.2.2.1 rfl).put2 e0 e1 _ _).put2 (cell_far (cell_far o0 (by simp) _) (by simp) _) (cell_far (cell_far o1 (by simp) _) (by simp) _) _ _).keep (Below.drew (Below.refl _ _))
    | true =>
      have hn1 : n1 = true ∧ 0 < R.length := by have h := HR.out.2.2.2.2; simpa using h.symm
      obtain ⟨rfl, hRl⟩ := hn1
      have HM := Lib.hid (show IsRef wc (.agg #[.bool true, .slice ar R.length cr]) (sg true (NumR.val R)) from ref_of HUR.out HR.out.2.1 HR.out.2.2.1 HR.out.2.2.2.2)
      have HN := Lib.hid (show IsRef wc (.agg #[.bool b1, .slice aq Q.length cq]) (sg (!(true == n2)) (NumR.val Q)) from ref_of HUQ.out HQ.out.2.1 HQ.out.2.2.1 HQ.out.2.2.2.2)
      have hRv : 0 < NumR.val R := Nat.lt_of_lt_of_le (Nat.pow_pos NumR.BB_pos) (NumR.nrm_val_pos HR.out.2.2.1 (List.length_pos_iff.1 hRl))
      have hRl2 : NumR.val R ≤ NumR.val l2 := by rw [HR.out.2.2.2.1]; exact Nat.le_of_lt (Nat.mod_lt _ HZ.out)
      have hQl1 : NumR.val Q ≤ NumR.val l1 := by rw [HQ.out.2.2.2.1]; exact Nat.div_le_self _ _
      have hl1 : 1 ≤ NumR.val l1 := by
        have h : NumR.val R ≤ NumR.val l1 := by rw [HR.out.2.2.2.1]; exact Nat.mod_le _ _
        omega
      have PL := Lib.hid (show sg true (NumR.val l1) / sg n2 (NumR.val l2) = sg (!(true == n2)) (NumR.val Q) - sgV n2 l2.length ∧ sg true (NumR.val l1) % sg n2 (NumR.val l2) = sg true (NumR.val R) + ((sg n2 (NumR.val l2)).natAbs : Int) by
        have h : sgV n2 l2.length = (sg n2 (NumR.val l2)).sign := by rw [rsg_sign g2 HS.out.2]; rfl
        rw [h, HQ.out.2.2.2.1, HR.out.2.2.2.1]
        exact dm_high HZ.out (by rw [← HR.out.2.2.2.1]; exact hRv))
      have hsv : -1 ≤ sgV n2 l2.length ∧ sgV n2 l2.length ≤ 1 := by unfold sgV; split <;> (try split) <;> omega
      have ax := fun W (k : Below wc.heap.size wc W) => rabs_c _ _ W (HYR.out.keep k)
      have ad := fun vy W (k : Below wc.heap.size wc W) (hy : IsRef W vy ((sg n2 (NumR.val l2)).natAbs : Int)) => radd_n _ vy _ _ l2 W (HM.out.keep k) hy q2 (by rw [sg_abs]; exact hRl2) (by rw [Int.natAbs_natCast, sg_abs]; exact Nat.le_refl _) (by have := HK.out; omega)
      have sx := fun W => rsignV_c n2 a2 l2.length c2 W
      have ox := fun W => rof_c (sgV n2 l2.length) W (by omega) (by omega)
      have sd := fun vx vy W (hx : IsRef W vx (sg (!(true == n2)) (NumR.val Q))) (hy : IsRef W vy (sgV n2 l2.length)) => rsub_n vx vy _ _ l1 W hx hy q1 (by rw [sg_abs]; exact hQl1) (by omega) (by have := HK.out; omega)
      clear hRv hRl hRl2 hQl1 hl1
      obtain ⟨sv, hsvE⟩ : ∃ sv, sv = sgV n2 l2.length := ⟨_, rfl⟩
      rw [← hsvE] at PL hsv sx ox sd
      have HSV := Lib.hid hsvE
      clear hsvE
      go_upto_region 4 with (fail)
      go_cut [] (fun wx => ∃ n4 a4 c4, ∃ L4 : List Nat, wx.cell? ⟨h, 0, none⟩ = some (.bool n4) ∧ wx.cell? ⟨h, 1, none⟩ = some (.slice a4 L4.length c4) ∧ IsRef wx (.agg #[.bool n4, .slice a4 L4.length c4]) (sg true (NumR.val R) + ((sg n2 (NumR.val l2)).natAbs : Int)) ∧ Out (fun k => k = h) wc wx ∧ Lim wc wx)
      case first =>
        have hBw := Below.refl wc.heap.size wc
        go_region_law (go_simp; go_wp2_with (first
          | (go_at_call 166; refine (ax _ ?_).mono ?_; (repeat (first | exact Below.refl _ _ | exact hBw | refine Below.drew ?_ | refine below_drewN ?_ _ | refine bset ?_ (by simp <;> omega) _ | refine bal ?_ _)); rintro e w5 ⟨⟨v5, rfl, hi5⟩, hb5⟩; have hB5 : Below wc.heap.size wc w5 := bthen (by repeat (first | exact Below.refl _ _ | exact hBw | refine Below.drew ?_ | refine below_drewN ?_ _ | refine bset ?_ (by simp <;> omega) _ | refine bal ?_ _)) hb5; have HI5 := Lib.hid hi5; have d05 := bkeep hB5 d0; have d15 := bkeep hB5 d1; obtain ⟨n5, a5, c5, l5, rfl, -⟩ := hi5; unfold iv at *)
          | (go_at_call 52; refine (ad _ _ ?_ ?_).mono ?_; (repeat (first | exact Below.refl _ _ | exact hB5 | refine Below.drew ?_ | refine below_drewN ?_ _ | refine bset ?_ (by simp <;> omega) _ | refine bal ?_ _)); (refine HI5.out.keep ?_; have hBz := Below.refl w5.heap.size w5; (repeat (first | exact Below.refl _ _ | exact hBz | refine Below.drew ?_ | refine below_drewN ?_ _ | refine bset ?_ (by simp <;> omega) _ | refine bal ?_ _))); rintro e w6 ⟨⟨v6, rfl, hi6⟩, hb6⟩; have hB6 : Below wc.heap.size wc w6 := bthen (by repeat (first | exact Below.refl _ _ | exact hB5 | refine Below.drew ?_ | refine below_drewN ?_ _ | refine bset ?_ (by simp <;> omega) _ | refine bal ?_ _)) hb6; have HI6 := Lib.hid hi6; have d06 := bkeep hB6 d0; have d16 := bkeep hB6 d1; have d06f := bkeepf hB6 d0 fh0; have d16f := bkeepf hB6 d1 fh1; obtain ⟨n6, a6, c6, l6, rfl, -⟩ := hi6; unfold iv at *)))
        all_goals
          go_wp2_with fail
          go_meet
          refine ⟨n6, a6, c6, l6, cell_far (cell_here d06 _) (by simp) _, cell_here (cell_far d16 (by simp) _) _, HI6.out.put2 d06 d16 _ _, (Out.of_below (fun k => k = h) hB6).set2 (fun _ => rfl) _ _, (Lim.of_below hB6).trans (Lim.set2 d06 d16 _ _)⟩
      case rest =>
        obtain ⟨n4, a4, c4, L4, d0, d1, hi4, hO4, hL4⟩ := hcut
        rename World => wd
        have HI4 := Lib.hid hi4
        have HN4 := Lib.hid (HN.out.lim hL4)
        have hgh' : ¬ (w.heap.size + 1 = h) := by omega
        have hgh2 : ¬ (w.heap.size + 2 = h) := by omega
        have hgh3 : ¬ (w.heap.size + 3 = h) := by omega
        have fg : Free wd g := Free.out (show Free wc g from fg) hO4 hgh
        have e0f := okeepf hO4 e0 e0f hgh2
        have e1f := okeepf hO4 e1 e1f hgh2
        have o0f := okeepf hO4 o0 o0f hgh3
        have o1f := okeepf hO4 o1 o1f hgh3
        have k0 := okeep hO4 k0 hgh'
        have k1 := okeep hO4 k1 hgh'
        have m0 := okeep hO4 m0 hgh
        have m1 := okeep hO4 m1 hgh
        have e0 := okeep hO4 e0 hgh2
        have e1 := okeep hO4 e1 hgh2
        have o0 := okeep hO4 o0 hgh3
        have o1 := okeep hO4 o1 hgh3
        have hBd : Below w.heap.size w wd := hBy.trans (hO4.to_below (fun k hk _ e => by omega) hBy.size)
        have fg0 := fg.2 0
        have fg1 := fg.2 1
        clear hi4 hO4 hL4 hBy HM HN ad
        go_upto_region 5 with (fail)
        go_cut [] (fun wx => ∃ n5 a5 c5, ∃ L5 : List Nat, wx.cell? ⟨g, 0, none⟩ = some (.bool n5) ∧ wx.cell? ⟨g, 1, none⟩ = some (.slice a5 L5.length c5) ∧ IsRef wx (.agg #[.bool n5, .slice a5 L5.length c5]) (sg (!(true == n2)) (NumR.val Q) - sv) ∧ Out (fun k => k = g) wd wx ∧ Lim wd wx)
        case first =>
          have hBw := Below.refl wd.heap.size wd
          go_region_law (go_simp; go_wp2_with (first
            | (go_at_call 119; refine (sx _).mono ?_; rintro e w5 ⟨rfl, hb5⟩; have hB5 : Below wd.heap.size wd w5 := bthen (by repeat (first | exact Below.refl _ _ | exact hBw | refine Below.drew ?_ | refine below_drewN ?_ _ | refine bset ?_ (by simp <;> omega) _ | refine bal ?_ _)) hb5; have d05 := bkeep hB5 m0; have d15 := bkeep hB5 m1)
            | (go_at_call 54; refine (ox _).mono ?_; rintro e w6 ⟨⟨v6, rfl, hi6⟩, hb6⟩; have hB6 : Below wd.heap.size wd w6 := bthen (by repeat (first | exact Below.refl _ _ | exact hB5 | refine Below.drew ?_ | refine below_drewN ?_ _ | refine bset ?_ (by simp <;> omega) _ | refine bal ?_ _)) hb6; have HI6 := Lib.hid hi6; have d06 := bkeep hB6 m0; have d16 := bkeep hB6 m1; obtain ⟨n6, a6, c6, l6, rfl, -⟩ := hi6; unfold iv at *)
            | (go_at_call 167; refine (sd _ _ _ ?_ ?_).mono ?_; (refine HN4.out.keep ?_; (repeat (first | exact Below.refl _ _ | exact hB6 | refine Below.drew ?_ | refine below_drewN ?_ _ | refine bset ?_ (by simp <;> omega) _ | refine bal ?_ _))); (refine HI6.out.keep ?_; have hBz := Below.refl w6.heap.size w6; (repeat (first | exact Below.refl _ _ | exact hBz | refine Below.drew ?_ | refine below_drewN ?_ _ | refine bset ?_ (by simp <;> omega) _ | refine bal ?_ _))); rintro e w7 ⟨⟨v7, rfl, hi7⟩, hb7⟩; have hB7 : Below wd.heap.size wd w7 := bthen (by repeat (first | exact Below.refl _ _ | exact hB6 | refine Below.drew ?_ | refine below_drewN ?_ _ | refine bset ?_ (by simp <;> omega) _ | refine bal ?_ _)) hb7; have HI7 := Lib.hid hi7; have d07 := bkeep hB7 m0; have d17 := bkeep hB7 m1; have d07f := bkeepf hB7 m0 fg0; have d17f := bkeepf hB7 m1 fg1; obtain ⟨n7, a7, c7, l7, rfl, -⟩ := hi7; unfold iv at *)))
          all_goals
            go_wp2_with fail
            go_meet
            refine ⟨n7, a7, c7, l7, cell_far (cell_here d07 _) (by simp) _, cell_here (cell_far d17 (by simp) _) _, HI7.out.put2 d07 d17 _ _, (Out.of_below (fun k => k = g) hB7).set2 (fun _ => rfl) _ _, (Lim.of_below hB7).trans (Lim.set2 d07 d17 _ _)⟩
        case rest =>
          obtain ⟨n5, a5, c5, L5, m0, m1, hi5, hO5, hL5⟩ := hcut
          rename World => wy
          have HI5 := Lib.hid hi5
          have HR5 := Lib.hid (HI4.out.lim hL5)
          have hgh4 : ¬ (w.heap.size + 2 = g) := by omega
          have hgh5 : ¬ (w.heap.size + 3 = g) := by omega
          have e0f := okeepf hO5 e0 e0f hgh4
          have e1f := okeepf hO5 e1 e1f hgh4
          have o0f := okeepf hO5 o0 o0f hgh5
          have o1f := okeepf hO5 o1 o1f hgh5
          have d0 := okeep hO5 d0 (show ¬ h = g from fun e => hgh e.symm)
          have d1 := okeep hO5 d1 (show ¬ h = g from fun e => hgh e.symm)
          have e0 := okeep hO5 e0 hgh4
          have e1 := okeep hO5 e1 hgh4
          have o0 := okeep hO5 o0 hgh5
          have o1 := okeep hO5 o1 hgh5
          have hBy : Below w.heap.size w wy := hBd.trans (hO5.to_below (fun k hk _ e => by omega) hBd.size)
          clear hi5 hO5 hL5 hBd HI4 HN4
          go_upto_region 6 with (fail)
          go_region
          go_wp2
          have hbe : Below w.heap.size w ((((wy.setCell ⟨w.heap.size + 1 + 1, 0, none⟩ (.bool n5)).setCell ⟨w.heap.size + 1 + 1, 1, none⟩ (.slice a5 L5.length c5)).setCell ⟨w.heap.size + 1 + 1 + 1, 0, none⟩ (.bool n4)).setCell ⟨w.heap.size + 1 + 1 + 1, 1, none⟩ (.slice a4 L4.length c4)).drew := Below.drew (bset (bset (bset (bset hBy (by simp <;> omega) _) (by simp <;> omega) _) (by simp <;> omega) _) (by simp <;> omega) _)
          have e0 : wy.cell? ⟨w.heap.size + 1 + 1, 0, none⟩ = some (.bool false) := e0
          have e1 : wy.cell? ⟨w.heap.size + 1 + 1, 1, none⟩ = some (.slice none 0 0) := e1
          have o0 : wy.cell? ⟨w.heap.size + 1 + 1 + 1, 0, none⟩ = some (.bool false) := o0
          have o1 : wy.cell? ⟨w.heap.size + 1 + 1 + 1, 1, none⟩ = some (.slice none 0 0) := o1
          refine bodyPost_ret (v := .tuple #[.agg #[.bool n5, .slice a5 L5.length c5], .agg #[.bool n4, .slice a4 L4.length c4]]) (by simp [results, Tryz.results158, go_sem, *]) rfl ⟨⟨_, _, rfl, ?_, ?_⟩, hbe⟩
          · rw [PL.out.1]
            exact ((HI5.out.put2 e0 e1 _ _).put2 (cell_far (cell_far o0 (by simp) _) (by simp) _) (cell_far (cell_far o1 (by simp) _) (by simp) _) _ _).keep (Below.drew (Below.refl _ _))
          · rw [PL.out.2]
            exact ((HR5.out.put2 e0 e1 _ _).put2 (cell_far (cell_far o0 (by simp) _) (by simp) _) (cell_far (cell_far o1 (by simp) _) (by simp) _) _ _).keep (Below.drew (Below.refl _ _))
end Go.Proofs.YtdllbdfchloijaaGreatDoor

/- The reference's numbers: DivMod, by values; Over. -/
namespace Go.Proofs.YtdllbdfchloijaaGreatDoor
open Num
open Go.ChangeShapes Go.WideShapes Go.ChangeAt Go.RowKit
set_option linter.unusedVariables false
set_option linter.unusedSimpArgs false
theorem sg_ne {n : Bool} {k : Nat} (h : sg n k ≠ 0) : 0 < k := by
  apply Nat.pos_of_ne_zero; intro e; subst e; exact h (sg_zero n)
theorem rdivmod_c (vx vy : Value) (x y : Int) (k : Nat) (w : World) (hx : IsRef w vx x) (hy : IsRef w vy y) (bx : Bd k x) (by' : Bd k y) (hk : k ≤ 17179869184) (h0 : y ≠ 0) :
    Calls Tryz.prog 158 #[vx, vy] w fun e w' => (∃ u v, e = .returned (.tuple #[u, v]) ∧ IsRef w' u (x / y) ∧ IsRef w' v (x % y)) ∧ Below w.heap.size w w' := by
  obtain ⟨n1, a1, c1, l1, rfl, u1, q1, g1, s1, rfl⟩ := hx
  obtain ⟨n2, a2, c2, l2, rfl, u2, q2, g2, s2, rfl⟩ := hy
  exact rdivmodV_c n1 n2 a1 a2 c1 c2 l1 l2 w u1 u2 q1 q2 g1 g2 (sg_ne h0) (Nat.le_trans (rbd_len g1 (rsg_bd bx) hk) (by omega)) (Nat.le_trans (rbd_len g2 (rsg_bd by') hk) (by omega)) s1 s2
theorem ref_len {n : Bool} {l : List Nat} (hn : Nrm l) : sg n (NumR.val l) = 0 ↔ l = [] := by
  constructor
  · intro h
    by_cases e : l = []
    · exact e
    · have h1 := Nat.lt_of_lt_of_le (Nat.pow_pos NumR.BB_pos) (NumR.nrm_val_pos hn e)
      have h2 := congrArg Int.natAbs h
      rw [sg_abs] at h2
      simp at h2; omega
  · rintro rfl; exact sg_zero n
set_option maxRecDepth 100000 in
set_option maxHeartbeats 2000000 in
theorem rover_yes (vx vy : Value) (x y : Int) (k : Nat) (w : World) (hx : IsRef w vx x) (hy : IsRef w vy y) (bx : Bd k x) (by' : Bd k y) (hk : k ≤ 17179869184) (h0 : y ≠ 0) (hd : x % y = 0) :
    Calls Tryz.prog 146 #[vx, vy] w fun e w' => (∃ v, e = .returned (.tuple #[v, .bool true]) ∧ IsRef w' v (x / y)) ∧ Below w.heap.size w w' := by
  have dc := fun W (h : Below w.heap.size w W) => rdivmod_c vx vy x y k W (hx.keep h) (hy.keep h) bx by' hk h0
  obtain ⟨n1, a1, c1, l1, rfl, -⟩ := hx
  obtain ⟨n2, a2, c2, l2, rfl, -⟩ := hy
  unfold iv at *
  have HD := Lib.hid hd
  clear bx by' hk h0 hd
  have hB := Below.refl w.heap.size w
  go_enter Tryz.func146, Tryz.ntmps146
  go_wp2_with fail
  refine (dc _ (by repeat (first | exact Below.refl _ _ | exact hB | refine Below.drew ?_ | refine below_drewN ?_ _ | refine bset ?_ (by simp <;> omega) _ | refine bal ?_ _))).mono ?_
  rintro e w1 ⟨⟨u, v, rfl, hu, hv⟩, hb1⟩
  have r0 : w1.cell? ⟨w.heap.size + 2, 0, none⟩ = some (.bool false) := bkc hb1
  have zr0 := cell_lt r0
  have r0f : w1.frozen? ⟨w.heap.size + 2, 0, none⟩ = false := bkcf (v := .bool false) hb1
  have r1 : w1.cell? ⟨w.heap.size + 2, 1, none⟩ = some (.slice none 0 0) := bkc hb1
  have r1f : w1.frozen? ⟨w.heap.size + 2, 1, none⟩ = false := bkcf (v := .slice none 0 0) hb1
  have hB : Below w.heap.size w w1 := bthen (by repeat (first | exact Below.refl _ _ | exact hB | refine Below.drew ?_ | refine below_drewN ?_ _ | refine bset ?_ (by simp <;> omega) _ | refine bal ?_ _)) hb1
  have hz : w.heap.size ≤ w1.heap.size := hB.size
  clear dc
  have HU := Lib.hid hu
  obtain ⟨nu, au, cu, lu, rfl, -⟩ := hu
  obtain ⟨nv, av, cv, lv, rfl, _, _, gv, _, ev⟩ := hv
  unfold iv at *
  have zr1 : w.heap.size + 2 < w1.heap.size + 1 := by omega
  have zr2 : w.heap.size + 2 < w1.heap.size + 1 + 1 := by omega
  obtain rfl : lv = [] := (ref_len gv).1 (by rw [← ev]; exact HD.out)
  clear gv ev
  go_wp2
  refine bodyPost_ret (v := .tuple #[.agg #[.bool nu, .slice au lu.length cu], .bool true]) (by simp [results, Tryz.results146, go_sem, *]) rfl ⟨⟨_, rfl, ?_⟩, ?_⟩
  · refine IsRef.keep (HU.out.put2 r0 r1 (.bool nu) (.slice au lu.length cu)) ?_
    repeat (first | exact Below.refl _ _ | exact hB | refine Below.drew ?_ | refine below_drewN ?_ _ | refine bset ?_ (by simp <;> omega) _ | refine bal ?_ _)
  ·
    repeat (first | exact Below.refl _ _ | exact hB | refine Below.drew ?_ | refine below_drewN ?_ _ | refine bset ?_ (by simp <;> omega) _ | refine bal ?_ _)
set_option maxRecDepth 100000 in
set_option maxHeartbeats 2000000 in
theorem rover_no (vx vy : Value) (x y : Int) (k : Nat) (w : World) (hx : IsRef w vx x) (hy : IsRef w vy y) (bx : Bd k x) (by' : Bd k y) (hk : k ≤ 17179869184) (h0 : y ≠ 0) (hd : x % y ≠ 0) :
    Calls Tryz.prog 146 #[vx, vy] w fun e w' => e = .returned (.tuple #[.agg #[.bool false, .slice none 0 0], .bool false]) ∧ Below w.heap.size w w' := by
  have dc := fun W (h : Below w.heap.size w W) => rdivmod_c vx vy x y k W (hx.keep h) (hy.keep h) bx by' hk h0
  obtain ⟨n1, a1, c1, l1, rfl, -⟩ := hx
  obtain ⟨n2, a2, c2, l2, rfl, -⟩ := hy
  unfold iv at *
  have HD := Lib.hid hd
  clear bx by' hk h0 hd
  have hB := Below.refl w.heap.size w
  go_enter Tryz.func146, Tryz.ntmps146
  go_wp2_with fail
  refine (dc _ (by repeat (first | exact Below.refl _ _ | exact hB | refine Below.drew ?_ | refine below_drewN ?_ _ | refine bset ?_ (by simp <;> omega) _ | refine bal ?_ _))).mono ?_
  rintro e w1 ⟨⟨u, v, rfl, hu, hv⟩, hb1⟩
  have r0 : w1.cell? ⟨w.heap.size + 2, 0, none⟩ = some (.bool false) := bkc hb1
  have zr0 := cell_lt r0
  have r0f : w1.frozen? ⟨w.heap.size + 2, 0, none⟩ = false := bkcf (v := .bool false) hb1
  have r1 : w1.cell? ⟨w.heap.size + 2, 1, none⟩ = some (.slice none 0 0) := bkc hb1
  have r1f : w1.frozen? ⟨w.heap.size + 2, 1, none⟩ = false := bkcf (v := .slice none 0 0) hb1
  have hB : Below w.heap.size w w1 := bthen (by repeat (first | exact Below.refl _ _ | exact hB | refine Below.drew ?_ | refine below_drewN ?_ _ | refine bset ?_ (by simp <;> omega) _ | refine bal ?_ _)) hb1
  have hz : w.heap.size ≤ w1.heap.size := hB.size
  clear dc
  have HU := Lib.hid hu
  obtain ⟨nu, au, cu, lu, rfl, -⟩ := hu
  obtain ⟨nv, av, cv, lv, rfl, _, _, gv, _, ev⟩ := hv
  unfold iv at *
  have zr1 : w.heap.size + 2 < w1.heap.size + 1 := by omega
  have zr2 : w.heap.size + 2 < w1.heap.size + 1 + 1 := by omega
  have hl : (0 : Int) < (lv.length : Int) := by
    have : lv ≠ [] := fun e => HD.out (by rw [ev]; exact (ref_len gv).2 e)
    have := List.length_pos_iff.2 this
    omega
  clear gv ev
  go_wp2
  refine bodyPost_ret (v := .tuple #[.agg #[.bool false, .slice none 0 0], .bool false]) (by simp [results, Tryz.results146, go_sem, *]) rfl ⟨rfl, ?_⟩
  repeat (first | exact Below.refl _ _ | exact hB | refine Below.drew ?_ | refine below_drewN ?_ _ | refine bset ?_ (by simp <;> omega) _ | refine bal ?_ _)
end Go.Proofs.YtdllbdfchloijaaGreatDoor

/- The reference's programs: May. -/
namespace Go.Proofs.YtdllbdfchloijaaGreatDoor
open Go.ChangeShapes Go.WideShapes Go.ChangeAt Go.RowKit
set_option linter.unusedVariables false
set_option linter.unusedSimpArgs false
theorem mayB_34 {op t a b c regs : Int} (h : op = 3 ∨ op = 4) : mayB op t a b c regs = decide (0 ≤ t ∧ t < regs ∧ c = 0 ∧ 0 ≤ a ∧ a < regs ∧ 0 ≤ b ∧ b < regs) := by
  unfold mayB; rcases h with rfl | rfl <;> (rw [Bool.eq_iff_iff]; simp [twoB, constB] <;> omega)
theorem mayB_12 {op t a b c regs : Int} (h : op = 1 ∨ op = 2) : mayB op t a b c regs = decide (0 ≤ t ∧ t < regs ∧ c = 0 ∧ 0 ≤ a ∧ a < regs ∧ b = 0) := by
  unfold mayB; rcases h with rfl | rfl <;> (rw [Bool.eq_iff_iff]; simp [twoB, constB] <;> omega)
theorem mayB_56 {op t a b c regs : Int} (h : op = 5 ∨ op = 6) : mayB op t a b c regs = decide (0 ≤ t ∧ t < regs ∧ c ≠ 0 ∧ -512 ≤ c ∧ c ≤ 512 ∧ 0 ≤ a ∧ a < regs ∧ b = 0) := by
  unfold mayB; rcases h with rfl | rfl <;> (rw [Bool.eq_iff_iff]; simp [twoB, constB] <;> omega)
theorem mayB_78 {op t a b c regs : Int} (h : op = 7 ∨ op = 8) : mayB op t a b c regs = decide (0 ≤ t ∧ t < regs ∧ 1 ≤ c ∧ c ≤ 64 ∧ 0 ≤ a ∧ a < regs ∧ b = 0) := by
  unfold mayB; rcases h with rfl | rfl <;> (rw [Bool.eq_iff_iff]; simp [twoB, constB] <;> omega)
set_option maxRecDepth 100000 in
set_option maxHeartbeats 8000000 in
theorem rmay_c (op t a b c regs : Int) (w : World) : Calls Tryz.prog 73 #[.agg #[.int .i64 op, .int .i64 t, .int .i64 a, .int .i64 b, .int .i64 c], .int .i64 regs] w fun e w' => e = .returned (.bool (mayB op t a b c regs)) ∧ Below w.heap.size w w' := by
  by_cases h1 : op < 1
  · have HM := Lib.hid (show mayB op t a b c regs = false from mayB_no (by omega))
    go_enter Tryz.func73, Tryz.ntmps73
    go_wp2
    go_ret
    exact ⟨bret (by rw [HM.out]), by repeat (first | exact Below.refl _ _ | assumption | refine bset ?_ (by simp) _ | refine bal ?_ _)⟩
  by_cases h2 : 8 < op
  · have HM := Lib.hid (show mayB op t a b c regs = false from mayB_no (by omega))
    go_enter Tryz.func73, Tryz.ntmps73
    go_wp2
    go_ret
    exact ⟨bret (by rw [HM.out]), by repeat (first | exact Below.refl _ _ | assumption | refine bset ?_ (by simp) _ | refine bal ?_ _)⟩
  by_cases h3 : t < 0
  · have HM := Lib.hid (show mayB op t a b c regs = false from mayB_no (by omega))
    go_enter Tryz.func73, Tryz.ntmps73
    go_wp2
    go_ret
    exact ⟨bret (by rw [HM.out]), by repeat (first | exact Below.refl _ _ | assumption | refine bset ?_ (by simp) _ | refine bal ?_ _)⟩
  by_cases h4 : regs ≤ t
  · have HM := Lib.hid (show mayB op t a b c regs = false from mayB_no (by omega))
    go_enter Tryz.func73, Tryz.ntmps73
    go_wp2
    go_ret
    exact ⟨bret (by rw [HM.out]), by repeat (first | exact Below.refl _ _ | assumption | refine bset ?_ (by simp) _ | refine bal ?_ _)⟩
  by_cases h5 : a < 0
  · have HM := Lib.hid (show mayB op t a b c regs = false from mayB_no (by omega))
    go_enter Tryz.func73, Tryz.ntmps73
    go_wp2
    go_ret
    exact ⟨bret (by rw [HM.out]), by repeat (first | exact Below.refl _ _ | assumption | refine bset ?_ (by simp) _ | refine bal ?_ _)⟩
  by_cases h6 : regs ≤ a
  · have HM := Lib.hid (show mayB op t a b c regs = false from mayB_no (by omega))
    go_enter Tryz.func73, Tryz.ntmps73
    go_wp2
    go_ret
    exact ⟨bret (by rw [HM.out]), by repeat (first | exact Below.refl _ _ | assumption | refine bset ?_ (by simp) _ | refine bal ?_ _)⟩
  have hop : op = 1 ∨ op = 2 ∨ op = 3 ∨ op = 4 ∨ op = 5 ∨ op = 6 ∨ op = 7 ∨ op = 8 := by omega
  have h12 : ¬ op < 1 ∧ ¬ 8 < op := ⟨h1, h2⟩
  clear h1 h2 h12
  rcases hop with rfl | rfl | rfl | rfl | rfl | rfl | rfl | rfl
  ·
    rw [mayB_12 (.inl rfl)]
    go_enter Tryz.func73, Tryz.ntmps73
    go_wp2
    all_goals go_ret
    all_goals exact ⟨bret (by first | (rw [Bool.eq_iff_iff]; done) | (rw [Bool.eq_iff_iff]; simp; first | done | omega | (simp_all; done) | (simp_all; omega))), by repeat (first | exact Below.refl _ _ | assumption | refine bset ?_ (by simp) _ | refine bal ?_ _)⟩
  ·
    rw [mayB_12 (.inr rfl)]
    go_enter Tryz.func73, Tryz.ntmps73
    go_wp2
    all_goals go_ret
    all_goals exact ⟨bret (by first | (rw [Bool.eq_iff_iff]; done) | (rw [Bool.eq_iff_iff]; simp; first | done | omega | (simp_all; done) | (simp_all; omega))), by repeat (first | exact Below.refl _ _ | assumption | refine bset ?_ (by simp) _ | refine bal ?_ _)⟩
  ·
    rw [mayB_34 (.inl rfl)]
    go_enter Tryz.func73, Tryz.ntmps73
    go_wp2
    all_goals go_ret
    all_goals exact ⟨bret (by first | (rw [Bool.eq_iff_iff]; done) | (rw [Bool.eq_iff_iff]; simp; first | done | omega | (simp_all; done) | (simp_all; omega))), by repeat (first | exact Below.refl _ _ | assumption | refine bset ?_ (by simp) _ | refine bal ?_ _)⟩
  ·
    rw [mayB_34 (.inr rfl)]
    go_enter Tryz.func73, Tryz.ntmps73
    go_wp2
    all_goals go_ret
    all_goals exact ⟨bret (by first | (rw [Bool.eq_iff_iff]; done) | (rw [Bool.eq_iff_iff]; simp; first | done | omega | (simp_all; done) | (simp_all; omega))), by repeat (first | exact Below.refl _ _ | assumption | refine bset ?_ (by simp) _ | refine bal ?_ _)⟩
  ·
    rw [mayB_56 (.inl rfl)]
    go_enter Tryz.func73, Tryz.ntmps73
    go_wp2
    all_goals go_ret
    all_goals exact ⟨bret (by first | (rw [Bool.eq_iff_iff]; done) | (rw [Bool.eq_iff_iff]; simp; first | done | omega | (simp_all; done) | (simp_all; omega))), by repeat (first | exact Below.refl _ _ | assumption | refine bset ?_ (by simp) _ | refine bal ?_ _)⟩
  ·
    rw [mayB_56 (.inr rfl)]
    go_enter Tryz.func73, Tryz.ntmps73
    go_wp2
    all_goals go_ret
    all_goals exact ⟨bret (by first | (rw [Bool.eq_iff_iff]; done) | (rw [Bool.eq_iff_iff]; simp; first | done | omega | (simp_all; done) | (simp_all; omega))), by repeat (first | exact Below.refl _ _ | assumption | refine bset ?_ (by simp) _ | refine bal ?_ _)⟩
  ·
    rw [mayB_78 (.inl rfl)]
    go_enter Tryz.func73, Tryz.ntmps73
    go_wp2
    all_goals go_ret
    all_goals exact ⟨bret (by first | (rw [Bool.eq_iff_iff]; done) | (rw [Bool.eq_iff_iff]; simp; first | done | omega | (simp_all; done) | (simp_all; omega))), by repeat (first | exact Below.refl _ _ | assumption | refine bset ?_ (by simp) _ | refine bal ?_ _)⟩
  ·
    rw [mayB_78 (.inr rfl)]
    go_enter Tryz.func73, Tryz.ntmps73
    go_wp2
    all_goals go_ret
    all_goals exact ⟨bret (by first | (rw [Bool.eq_iff_iff]; done) | (rw [Bool.eq_iff_iff]; simp; first | done | omega | (simp_all; done) | (simp_all; omega))), by repeat (first | exact Below.refl _ _ | assumption | refine bset ?_ (by simp) _ | refine bal ?_ _)⟩
end Go.Proofs.YtdllbdfchloijaaGreatDoor

/- Arguments as they come in, opened: a program; rows of int64; what their bulk gives. -/
namespace Go.Proofs.YtdllbdfchloijaaGreatDoor
open Go.ChangeShapes Go.WideShapes Go.ChangeAt Go.RowKit Go.Joins Go.Deep
set_option linter.unusedVariables false
set_option linter.unusedSimpArgs false
namespace bulks
theorem one_le {H : Type} (d : DataW H) : 1 ≤ Rows.uptoBulk d := by
  cases d with
  | lit l => cases l <;> simp [Rows.uptoBulk]
  | nil => simp [Rows.uptoBulk]
  | ptr d => simp [Rows.uptoBulk]
  | slice elems spare => simp [Rows.uptoBulk]
  | agg parts => simp [Rows.uptoBulk]
  | iface t d => simp [Rows.uptoBulk]
  | map entries => simp [Rows.uptoBulk]
  | held h => simp [Rows.uptoBulk]
theorem length_le {H : Type} (l : List (DataW H)) : l.length ≤ Rows.uptoBulkAll l := by
  induction l with
  | nil => simp [Rows.uptoBulkAll]
  | cons x r ih => have := one_le x; simp only [Rows.uptoBulkAll, List.length_cons]; omega
end bulks
section
variable {H : Type} {enc : TypeId × Value → H} {P : Program} {w : World} {base : Nat} {spare : Nat → Bool} {held : Bool}
theorem open_slice_fields {t e : TypeId} {fs : Array Field} {fuel : Nat} {cs : List Value} {x : DataW H × List MemPlace} (ht : P.underlying t = some (.slice e)) (he : P.underlying e = some (.struct fs))
    (hone : oneCellFields P fs = true) (hC : P.cellsOf e = fs.size) (h : DataW.trod enc P w base spare held fuel t cs = some x) :
    (cs = [.slice none 0 0] ∧ x = (.nil, [])) ∨
    ∃ (a : Addr) (len cap m : Nat) (D : Nat → DataW H) (Pl : Nat → List MemPlace), cs = [.slice (some a) len cap] ∧ base ≤ a.block ∧ len ≤ cap ∧ cap ≤ maxLen ∧ m = (if spare a.block then cap else len) ∧
      x = (.slice ((List.range len).map D) ((List.range (m - len)).map fun j => D (len + j)), MemPlace.row a (m * fs.size) ++ (List.range m).flatMap Pl) ∧
      ∀ i, i < m → ∃ (ys : List (DataW H × List MemPlace)) (n : Nat), D i = .agg (ys.map (·.1)) ∧ Pl i = ys.flatMap (·.2) ∧ ys.length = fs.size ∧
        ∀ (j : Nat) (f : Field), fs[j]? = some f → ∃ (v : Value) (y : DataW H × List MemPlace), w.cell? (a.add (i * fs.size + j)) = some v ∧ ys[j]? = some y ∧ DataW.trod enc P w base spare held n f.type [v] = some y := by
  rcases open_slice ht h with h0 | ⟨a, len, cap, m, n, D, Pl, hcs, hb, hl, hm, hmm, hx, hi⟩
  · exact .inl h0
  · refine .inr ⟨a, len, cap, m, D, Pl, hcs, hb, hl, hm, hmm, by rw [hC] at hx; exact hx, fun i him => ?_⟩
    obtain ⟨cs', hc, ht'⟩ := hi i him
    rw [hC] at hc
    obtain ⟨ys, n', hn', hy, hlen, hyl, hf⟩ := DataW.trod_struct he ht'
    obtain ⟨_, hcl, hat⟩ := World.cells?_some hc
    simp only [Prod.mk.injEq] at hy
    refine ⟨ys, n', hy.1, hy.2, hyl, fun j f hj => ?_⟩
    obtain ⟨ho, hk⟩ := hone_of hone j f hj
    have hjl : j < fs.size := (Array.getElem?_eq_some_iff.1 hj).1
    have hcell := hat j hjl
    have hv : cs'[j]? = some (cs'[j]'(by omega)) := List.getElem?_eq_getElem (by omega)
    have h1 := hf j f hj
    rw [ho, hk] at h1
    have hone' : (cs'.drop j).take 1 = [cs'[j]'(by omega)] := by
      rw [List.drop_eq_getElem_cons (by omega)]
      rfl
    rw [hone'] at h1
    have hys : ys[j]? = some (ys[j]'(by omega)) := List.getElem?_eq_getElem (by omega)
    refine ⟨_, _, ?_, hys, h1.trans hys⟩
    rw [← Go.Deep.add_add, hcell, hv]
end
/-- what an address is, of which a cell is known -/
theorem addr_plain {w : World} {a : Addr} {v : Value} (h : w.cell? a = some v) : a = ⟨a.block, a.off, none⟩ := by
  obtain ⟨b, o, s⟩ := a
  cases s with
  | none => rfl
  | some s =>
    simp only [World.cell?] at h
    split at h <;> simp at h
theorem add_plain (b o k : Nat) : (⟨b, o, none⟩ : Addr).add k = ⟨b, o + k, none⟩ := by
  unfold Addr.add; split
  · subst_vars; rfl
  · rfl
/-- an address, the first cell behind which is known -/
theorem plain_at {w : World} {a : Addr} {v : Value} (h : w.cell? (a.add 0) = some v) : ∃ b o, a = ⟨b, o, none⟩ := by
  have h2 : w.cell? a = some v := by simpa [Addr.add] using h
  exact ⟨_, _, addr_plain h2⟩
section
variable {H : Type} {enc : TypeId × Value → H} {W : World} {b0 : Nat} {r : Reach} {v : Value} {d : DataW H} {p : List MemPlace}
theorem i64_of {n : Int} (h : (Lit.int .i64 n).wf = true) : I64 n := by
  have h1 := (Lit.wf_int_iff .i64 n).1 h
  have e1 : IntKind.i64.min = -9223372036854775808 := by decide
  have e2 : IntKind.i64.max = 9223372036854775807 := by decide
  rw [e1, e2] at h1
  exact h1
/-- a list of ints that came in, inside a struct -/
theorem open_intsV {fuel : Nat} {v : Value} {y : DataW H × List MemPlace} (h : DataW.trod enc Tryz.prog W 0 (fun _ => true) true fuel 25 [v] = some y) :
    ∃ a c L, v = .slice a (List.length L) c ∧ IntsV W a c L ∧ (a = none → L = []) ∧ L.length ≤ Rows.uptoBulk y.1 := by
  rcases open_ints Tryz.underlying25 Tryz.underlying3 (by kernel_rfl) h with ⟨hcs, rfl⟩ | ⟨a, len, cap, zs, hcs, _, hl, hm, hz, rfl, hc, hw⟩
  · simp at hcs; subst hcs
    exact ⟨_, _, [], rfl, .inl rfl, fun _ => rfl, by simp⟩
  · simp at hcs; subst hcs
    simp only [if_true] at hz
    have hlen : (zs.take len).length = len := by rw [List.length_take]; omega
    refine ⟨some a, cap, zs.take len, by rw [hlen], ?_, (fun e => by cases e), ?_⟩
    · by_cases h0 : len = 0
      · exact .inl (by subst h0; simp)
      · obtain ⟨b, o, rfl⟩ := plain_at (hc 0 (by omega))
        refine .inr ⟨b, o, rfl, by rw [hlen]; exact hl, fun k hk => ?_⟩
        rw [hlen] at hk
        have h9 := hc k (by omega)
        rw [add_plain] at h9
        rw [h9, List.getD_eq_getElem?_getD, List.getD_eq_getElem?_getD, List.getElem?_take_of_lt hk]
    · have := bulks.length_le (H := H) (lits .i64 (zs.take len))
      simp only [lits, List.length_map] at this
      simp only [Rows.uptoBulk, lits]; omega
theorem cells_ins : Tryz.prog.cellsOf 39 = 5 := by kernel_rfl
/-- a list of instructions that came in -/
theorem open_insV {fuel : Nat} {v : Value} {y : DataW H × List MemPlace} (h : DataW.trod enc Tryz.prog W 0 (fun _ => true) true fuel 24 [v] = some y) :
    ∃ a c L, v = .slice a (List.length L) c ∧ InsV W a c L ∧ (a = none → L = []) ∧ L.length ≤ Rows.uptoBulk y.1 := by
  rcases open_slice_fields Tryz.underlying24 Tryz.underlying39 (by kernel_rfl) cells_ins h with ⟨hcs, rfl⟩ | ⟨x, n, c, m, D, Pl, hcs, _, hl, hm, hmm, rfl, hcell⟩
  · simp at hcs; subst hcs
    exact ⟨_, _, [], rfl, .inl rfl, fun _ => rfl, by simp⟩
  · simp at hcs; subst hcs
    simp only [if_true] at hmm
    subst hmm
    have hall : ∀ i, i < m → ∃ q : Ins, W.cell? (x.add (i * 5)) = some (.int .i64 q.op) ∧ W.cell? (x.add (i * 5 + 1)) = some (.int .i64 q.to) ∧ W.cell? (x.add (i * 5 + 2)) = some (.int .i64 q.a) ∧ W.cell? (x.add (i * 5 + 3)) = some (.int .i64 q.b) ∧ W.cell? (x.add (i * 5 + 4)) = some (.int .i64 q.c) := by
      intro i hi
      obtain ⟨ys, k, _, _, _, hf⟩ := hcell i hi
      obtain ⟨u0, y0, c0, _, t0⟩ := hf 0 _ rfl
      obtain ⟨u1, y1, c1, _, t1⟩ := hf 1 _ rfl
      obtain ⟨u2, y2, c2, _, t2⟩ := hf 2 _ rfl
      obtain ⟨u3, y3, c3, _, t3⟩ := hf 3 _ rfl
      obtain ⟨u4, y4, c4, _, t4⟩ := hf 4 _ rfl
      obtain ⟨a0, e0, _, _⟩ := DataW.trod_int Tryz.underlying3 t0
      obtain ⟨a1, e1, _, _⟩ := DataW.trod_int Tryz.underlying3 t1
      obtain ⟨a2, e2, _, _⟩ := DataW.trod_int Tryz.underlying3 t2
      obtain ⟨a3, e3, _, _⟩ := DataW.trod_int Tryz.underlying3 t3
      obtain ⟨a4, e4, _, _⟩ := DataW.trod_int Tryz.underlying3 t4
      simp at e0 e1 e2 e3 e4
      subst e0 e1 e2 e3 e4
      exact ⟨⟨a0, a1, a2, a3, a4⟩, c0, c1, c2, c3, c4⟩
    have hf : ∃ f : Nat → Ins, ∀ i, i < m → W.cell? (x.add (i * 5)) = some (.int .i64 (f i).op) ∧ W.cell? (x.add (i * 5 + 1)) = some (.int .i64 (f i).to) ∧ W.cell? (x.add (i * 5 + 2)) = some (.int .i64 (f i).a) ∧ W.cell? (x.add (i * 5 + 3)) = some (.int .i64 (f i).b) ∧ W.cell? (x.add (i * 5 + 4)) = some (.int .i64 (f i).c) := by
      refine ⟨fun i => if hi : i < m then (hall i hi).choose else default, fun i hi => ?_⟩
      simp only [dif_pos hi]
      exact (hall i hi).choose_spec
    obtain ⟨f, hf⟩ := hf
    refine ⟨some x, m, (List.range n).map f, by simp, ?_, (fun e => by cases e), ?_⟩
    · by_cases h0 : n = 0
      · exact .inl (by subst h0; simp)
      · obtain ⟨b, o, rfl⟩ := plain_at (by have := (hf 0 (by omega)).1; simpa using this)
        refine .inr ⟨b, o, rfl, by simpa using hl, fun k hk => ?_⟩
        rw [List.length_map, List.length_range] at hk
        obtain ⟨c0, c1, c2, c3, c4⟩ := hf k (by omega)
        rw [add_plain] at c0 c1 c2 c3 c4
        have e : ((List.range n).map f).getD k default = f k := by simp [hk]
        rw [e]
        exact ⟨c0, c1, c2, c3, c4⟩
    · have := bulks.length_le (H := H) ((List.range n).map D)
      simp only [List.length_map, List.length_range] at this ⊢
      simp only [Rows.uptoBulk]; omega
theorem cells_prog : Tryz.prog.cellsOf 27 = 4 := by kernel_rfl
set_option maxRecDepth 100000 in
theorem open_prog (hv : Value.okWide Tryz.prog W r b0 27 v) (h : DataW.Trod enc Tryz.prog W 0 (fun _ => true) true 27 v d p) :
    ∃ ins regs ca oa cc oc code outs, v = .agg #[.int .i64 ins, .int .i64 regs, .slice ca (List.length code) cc, .slice oa (List.length outs) oc] ∧ InsV W ca cc code ∧ IntsV W oa oc outs ∧ (ca = none → code = []) ∧ (oa = none → outs = []) ∧ code.length + outs.length ≤ Rows.uptoBulk d := by
  obtain ⟨v0, v1, v2, v3, y0, y1, y2, y3, n, rfl, rfl, rfl, t0, t1, t2, t3⟩ := open_agg4 Tryz.underlying27 (by kernel_rfl) cells_prog hv h
  obtain ⟨a0, e0, rfl, _⟩ := DataW.trod_int Tryz.underlying3 t0
  obtain ⟨a1, e1, rfl, _⟩ := DataW.trod_int Tryz.underlying3 t1
  simp at e0 e1
  subst e0 e1
  obtain ⟨ca, cc, code, rfl, hc, hcn, hcl⟩ := open_insV t2
  obtain ⟨oa, oc, outs, rfl, ho, hon, hol⟩ := open_intsV t3
  exact ⟨a0, a1, ca, oa, cc, oc, code, outs, rfl, hc, ho, hcn, hon, by simp only [Rows.uptoBulk, Rows.uptoBulkAll]; omega⟩
end
end Go.Proofs.YtdllbdfchloijaaGreatDoor

