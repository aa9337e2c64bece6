/- Texts of this seat, laid together: IntK, PrgD, PrgE, Bdc, VmQ, ExP, RefQ, RtA. Each opens with its own remark, which says what it proves, and under which conditions. -/
import Derived.Test.YtdllbdfchloijaaGreatDoorV10
import Derived.Test.YtdllbdfchloijaaGreatDoorV11
import Derived.Test.YtdllbdfchloijaaGreatDoorV08
import Derived.Test.YtdllbdfchloijaaGreatDoorV09
import Derived.Test.YtdllbdfchloijaaGreatDoorV05
import Derived.Deep.DeepCutAuto
import Derived.Deep.RegionLaw
import Derived.Test.YtdllbdfchloijaaGreatDoorV03
import Derived.Test.YtdllbdfchloijaaGreatDoorV02
import Derived.Laws.AppendOwn
import Derived.Deep.DrawnRows
set_option linter.unusedVariables false
set_option linter.unusedSimpArgs false
/- integer: DivMod, where what divides is not 0. -/
namespace Go.Proofs.YtdllbdfchloijaaGreatDoor
open Num
open Go.ChangeShapes Go.WideShapes Go.ChangeAt Go.RowKit
set_option linter.unusedVariables false
set_option linter.unusedSimpArgs false
/-- the sign, by a number's parts -/
def sgI (n : Bool) (k : Nat) : Int := if k = 0 then 0 else if n then -1 else 1
theorem Free.al' {w : World} {g : Nat} (h : Free w g) (o : Obj) : Free (w.alloc o) g := h.keep (bal (Below.refl _ _) _)
theorem Free.dr' {w : World} {g : Nat} (h : Free w g) : Free w.drew g := h
set_option maxRecDepth 100000 in
set_option maxHeartbeats 1000000 in
theorem madeW_c (neg : Bool) (a : Option Addr) (ca : Nat) (l : List Nat) (w : World) :
    Calls Tryz.prog 96 #[.bool neg, .slice a l.length ca] w fun e w' => e = .returned (iv (neg && decide (0 < l.length)) a l.length ca) ∧ w' = w.alloc (.cells #[.bool (neg && decide (0 < l.length)), .slice a l.length ca] 50) := by
  generalize hk : l.length = k
  clear hk
  cases neg with
  | false =>
    go_enter Tryz.func96, Tryz.ntmps96
    go_wp2
    refine bodyPost_ret (v := iv false a k ca) (by simp [iv, results, Tryz.results96, go_sem, *]) rfl ⟨rfl, by simp⟩
  | true =>
    by_cases hk : 0 < k
    · have e : (0 : Int) < (k : Int) := by omega
      go_enter Tryz.func96, Tryz.ntmps96
      go_wp2
      refine bodyPost_ret (v := iv true a k ca) (by simp [iv, results, Tryz.results96, go_sem, *]) rfl ⟨by simp [hk], by simp [hk]⟩
    · obtain rfl : k = 0 := by omega
      go_enter Tryz.func96, Tryz.ntmps96
      go_wp2
      refine bodyPost_ret (v := iv false a 0 ca) (by simp [iv, results, Tryz.results96, go_sem, *]) rfl ⟨by simp, by simp⟩
/-- a number out of its limbs and a sign that stands where there are limbs -/
theorem int_of {w : World} {a : Option Addr} {c : Nat} {l : List Nat} {b s : Bool} (hu : U32 w a c l) (hn : Nrm l) (hb : b = (s && decide (0 < l.length))) : IsInt w (.agg #[.bool b, .slice a l.length c]) (sg s (val l)) := by
  refine ⟨b, a, c, l, rfl, hu, hn, ?_, ?_⟩
  · intro h
    rw [hb] at h
    simp at h
    intro e
    rw [e] at h
    simp at h
  · cases l with
    | nil => cases s <;> cases b <;> simp [sg, val]
    | cons x t => simp at hb; rw [hb]
theorem isg_sign {n : Bool} {l : List Nat} (hn : Nrm l) (hs : n = true → l ≠ []) : (sg n (val l)).sign = sgI n l.length := by
  unfold sgI
  by_cases h0 : l = []
  · subst h0; cases n <;> simp [sg, val]
  · have h1 := List.length_pos_iff.2 h0
    have h2 : 0 < val l := Nat.pos_of_ne_zero fun e => h0 ((val_nil_iff hn).1 e)
    rw [if_neg (by omega)]
    cases n with
    | true => simp only [sg, if_true]; rw [Int.sign_neg, Int.sign_eq_one_of_pos (by omega)]
    | false => simp only [sg]; exact Int.sign_eq_one_of_pos (by simp; omega)
set_option maxRecDepth 100000 in
set_option maxHeartbeats 2000000 in
theorem divmodV_c (n1 n2 : Bool) (a1 a2 : Option Addr) (c1 c2 : Nat) (l1 l2 : List Nat) (k : Nat) (w : World) (u1 : U32 w a1 c1 l1) (u2 : U32 w a2 c2 l2) (g1 : Nrm l1) (g2 : Nrm l2) (hz : 0 < val l2) (k1 : l1.length ≤ 274877906944) (k2 : l2.length ≤ 274877906944) (b1 : val l1 < 2 ^ k) (b2 : val l2 < 2 ^ k) (hk : k ≤ 17179869184) (h1k : 1 ≤ k) (s1 : n1 = true → l1 ≠ []) (s2 : n2 = true → l2 ≠ []) :
    Calls Tryz.prog 104 #[.agg #[.bool n1, .slice a1 l1.length c1], .agg #[.bool n2, .slice a2 l2.length c2]] w fun e w' => (∃ u v, e = .returned (.tuple #[u, v, .int .i64 0]) ∧ IsInt w' u (sg n1 (val l1) / sg n2 (val l2)) ∧ IsInt w' v (sg n1 (val l1) % sg n2 (val l2))) ∧ Below w.heap.size w w' := by
  have dc := fun w h1 h2 => limbDivMod_c a1 a2 c1 c2 l1 l2 w h1 h2 k1 k2 hz
  have HBD := Lib.hid (And.intro b1 (And.intro b2 (And.intro hk h1k)))
  have hB0 := Below.refl w.heap.size w
  have HK := Lib.hid (And.intro k1 k2)
  have HZ := Lib.hid hz
  have HS := Lib.hid (And.intro s1 s2)
  clear k1 k2 hz s1 s2 b1 b2 hk h1k
  go_enter Tryz.func104, Tryz.ntmps104
  go_wp2_with fail
  refine (dc _ (u1.keep (by repeat (first | exact Below.refl _ _ | exact hB0 | refine Below.drew ?_ | refine below_drewN ?_ _ | refine bset ?_ (by simp <;> omega) _ | refine bal ?_ _))) (u2.keep (by repeat (first | exact Below.refl _ _ | exact hB0 | refine Below.drew ?_ | refine below_drewN ?_ _ | refine bset ?_ (by simp <;> omega) _ | refine bal ?_ _)))).mono ?_
  rintro e w1 ⟨⟨u, v, rfl, hu, hv⟩, hb1⟩
  have x0 : w1.cell? ⟨w.heap.size, 0, none⟩ = some (.bool n1) := bkc hb1
  have zx0 := cell_lt x0
  have x1 : w1.cell? ⟨w.heap.size, 1, none⟩ = some (.slice a1 l1.length c1) := bkc hb1
  have y0 : w1.cell? ⟨w.heap.size + 1, 0, none⟩ = some (.bool n2) := bkc hb1
  have zy0 := cell_lt y0
  have y1 : w1.cell? ⟨w.heap.size + 1, 1, none⟩ = some (.slice a2 l2.length c2) := bkc hb1
  have r0 : w1.cell? ⟨w.heap.size + 2, 0, none⟩ = some (.bool false) := bkc hb1
  have zr0 := cell_lt r0
  have r0f : w1.frozen? ⟨w.heap.size + 2, 0, none⟩ = false := bkcf (v := .bool false) hb1
  have r1 : w1.cell? ⟨w.heap.size + 2, 1, none⟩ = some (.slice none 0 0) := bkc hb1
  have r1f : w1.frozen? ⟨w.heap.size + 2, 1, none⟩ = false := bkcf (v := .slice none 0 0) hb1
  have t0 : w1.cell? ⟨w.heap.size + 3, 0, none⟩ = some (.bool false) := bkc hb1
  have zt0 := cell_lt t0
  have t0f : w1.frozen? ⟨w.heap.size + 3, 0, none⟩ = false := bkcf (v := .bool false) hb1
  have t1 : w1.cell? ⟨w.heap.size + 3, 1, none⟩ = some (.slice none 0 0) := bkc hb1
  have t1f : w1.frozen? ⟨w.heap.size + 3, 1, none⟩ = false := bkcf (v := .slice none 0 0) hb1
  have hB : Below w.heap.size w w1 := bthen (by repeat (first | exact Below.refl _ _ | exact hB | refine Below.drew ?_ | refine below_drewN ?_ _ | refine bset ?_ (by simp <;> omega) _ | refine bal ?_ _)) hb1
  have hz : w.heap.size ≤ w1.heap.size := hB.size
  clear dc
  obtain ⟨aq, cq, Q, rfl, rfl, uq, gq, vq⟩ := hu
  obtain ⟨ar, cr, R, rfl, rfl, ur, gr, vr⟩ := hv
  have nc := fun W => madeW_c (!(n1 == n2)) aq Q.length Q W
  have nd := fun W => madeW_c n1 ar R.length R W
  obtain ⟨b1, hb1'⟩ : ∃ b, b = ((!(n1 == n2)) && decide (0 < Q.length)) := ⟨_, rfl⟩
  obtain ⟨b2, hb2'⟩ : ∃ b, b = (n1 && decide (0 < R.length)) := ⟨_, rfl⟩
  rw [← hb1'] at nc
  rw [← hb2'] at nd
  have HQ := Lib.hid (And.intro uq (And.intro gq (And.intro vq hb1')))
  have HR := Lib.hid (And.intro ur (And.intro gr (And.intro vr hb2')))
  clear uq ur gq gr vq vr hb1' hb2'
  unfold iv at nc nd
  have hs0 := cell_lt x0
  have hs1 : w.heap.size < w1.heap.size + 1 := by omega
  have hs2 : w.heap.size < w1.heap.size + 1 + 1 := by omega
  have hs3 : w.heap.size < w1.heap.size + 1 + 1 + 1 := by omega
  have hv0 := cell_lt y0
  have hv1 : w.heap.size + 1 < w1.heap.size + 1 := by omega
  have hv2 : w.heap.size + 1 < w1.heap.size + 1 + 1 := by omega
  have hv3 : w.heap.size + 1 < w1.heap.size + 1 + 1 + 1 := by omega
  go_upto_region 4 with (fail)
  have hBw := Below.refl w1.heap.size w1
  have HSS := Lib.hid (fun W (h : Below w1.heap.size w1 W) => And.intro (bkeep h x0) (bkeep h y0))
  go_cut [10, 11] (fun p q wx => ∃ g h : Nat, p = .pointer (some ⟨g, 0, none⟩) ∧ q = .pointer (some ⟨h, 0, none⟩) ∧ g ≠ h ∧ w1.heap.size ≤ g ∧ w1.heap.size ≤ h ∧ wx.cell? ⟨g, 0, none⟩ = some (.bool b1) ∧ wx.cell? ⟨g, 1, none⟩ = some (.slice aq Q.length Q.length) ∧ wx.cell? ⟨h, 0, none⟩ = some (.bool b2) ∧ wx.cell? ⟨h, 1, none⟩ = some (.slice ar R.length R.length) ∧ Free wx g ∧ Free wx h ∧ Below w1.heap.size w1 wx)
  case first =>
    go_region_held3 (fun w' => w'.cell? ⟨w.heap.size, 0, none⟩ = some (.bool n1) ∧ w'.cell? ⟨w.heap.size + 1, 0, none⟩ = some (.bool n2))
      (first | (refine HSS.out _ ?_; (repeat (first | exact Below.refl _ _ | exact hBw | refine Below.drew ?_ | refine below_drewN ?_ _ | refine bset ?_ (by simp <;> omega) _ | refine bal ?_ _)); done) | fail)
      (first | (go_at_call 96; (first | (with_reducible refine (nc _).mono ?_) | (with_reducible refine (nd _).mono ?_)); rintro e w5 ⟨rfl, rfl⟩) | fail)
    all_goals
      go_wp2_with fail
      go_meet
      refine ⟨_, _, rfl, rfl, by omega, by omega, by omega, ?_, ?_, ?_, ?_, ?_, ?_, ?_⟩
      · repeat (first | (refine cell_new ?_ rfl; first | (with_reducible rfl) | (simp only [World.size_alloc]; done)) | (with_reducible refine cell_drew ?_) | (with_reducible refine cell_alloc ?_ _))
      · repeat (first | (refine cell_new ?_ rfl; first | (with_reducible rfl) | (simp only [World.size_alloc]; done)) | (with_reducible refine cell_drew ?_) | (with_reducible refine cell_alloc ?_ _))
      · repeat (first | (refine cell_new ?_ rfl; first | (with_reducible rfl) | (simp only [World.size_alloc]; done)) | (with_reducible refine cell_drew ?_) | (with_reducible refine cell_alloc ?_ _))
      · repeat (first | (refine cell_new ?_ rfl; first | (with_reducible rfl) | (simp only [World.size_alloc]; done)) | (with_reducible refine cell_drew ?_) | (with_reducible refine cell_alloc ?_ _))
      · repeat (first | (refine Free.new ?_; first | (with_reducible rfl) | (simp only [World.size_alloc]; done)) | (with_reducible refine Free.dr' ?_) | (with_reducible refine Free.al' ?_ _))
      · repeat (first | (refine Free.new ?_; first | (with_reducible rfl) | (simp only [World.size_alloc]; done)) | (with_reducible refine Free.dr' ?_) | (with_reducible refine Free.al' ?_ _))
      · exact Below.drew (bal (bal (bal (bal (Below.refl _ _) _) _) _) _)
  case rest =>
    obtain ⟨g, h, rfl, rfl, hgh, hg, hh, m0, m1, d0, d1, fg, fh, hBx⟩ := hcut
    have hBy := bthen hB hBx
    have k0 := bkeep hBx y0
    have k1 := bkeep hBx y1
    have e0 := bkeep hBx r0
    have e1 := bkeep hBx r1
    have e0f := bkeepf hBx r0 r0f
    have e1f := bkeepf hBx r1 r1f
    have o0 := bkeep hBx t0
    have o1 := bkeep hBx t1
    have o0f := bkeepf hBx t0 t0f
    have o1f := bkeepf hBx t1 t1f
    have fg0 := fg.2 0
    have fg1 := fg.2 1
    have fh0 := fh.2 0
    have fh1 := fh.2 1
    have hlt := cell_lt t0
    have hg3 : w.heap.size + 3 < g := by omega
    have hh3 : w.heap.size + 3 < h := by omega
    have HUQ := Lib.hid (HQ.out.1.keep hBx)
    have HUR := Lib.hid (HR.out.1.keep hBx)
    have HYR := Lib.hid (show IsInt wc (.agg #[.bool n2, .slice a2 l2.length c2]) (sg n2 (val l2)) from ⟨n2, a2, c2, l2, rfl, u2.keep hBy, g2, HS.out.2, rfl⟩)
    clear nc nd hs0 hs1 hs2 hs3 hv0 hv1 hv2 hv3 x0 x1 y0 y1 r0 r1 r0f r1f t0 t1 t0f t1f hb1 hB HSS u1 u2 hBw
    cases b2 with
    | false =>
      have PL := Lib.hid (show sg n1 (val l1) / sg n2 (val l2) = sg (!(n1 == n2)) (val Q) ∧ sg n1 (val l1) % sg n2 (val l2) = sg false (val R) by
        rw [HQ.out.2.2.1, HR.out.2.2.1]
        refine dm_low HZ.out ?_
        have h := HR.out.2.2.2
        cases n1 with
        | false => exact .inl rfl
        | true =>
          right
          have h2 : R = [] := by cases hR : R with | nil => rfl | cons x t => rw [hR] at h; simp at h
          rw [← HR.out.2.2.1, h2]; rfl)
      go_upto_region 8 with (fail)
      go_region
      go_wp2
      have hbe : Below w.heap.size w ((((wc.setCell ⟨w.heap.size + 1 + 1, 0, none⟩ (.bool b1)).setCell ⟨w.heap.size + 1 + 1, 1, none⟩ (.slice aq Q.length Q.length)).setCell ⟨w.heap.size + 1 + 1 + 1, 0, none⟩ (.bool false)).setCell ⟨w.heap.size + 1 + 1 + 1, 1, none⟩ (.slice ar R.length R.length)).drew := Below.drew (bset (bset (bset (bset hBy (by simp <;> omega) _) (by simp <;> omega) _) (by simp <;> omega) _) (by simp <;> omega) _)
      have e0 : wc.cell? ⟨w.heap.size + 1 + 1, 0, none⟩ = some (.bool false) := e0
      have e1 : wc.cell? ⟨w.heap.size + 1 + 1, 1, none⟩ = some (.slice none 0 0) := e1
      have o0 : wc.cell? ⟨w.heap.size + 1 + 1 + 1, 0, none⟩ = some (.bool false) := o0
      have o1 : wc.cell? ⟨w.heap.size + 1 + 1 + 1, 1, none⟩ = some (.slice none 0 0) := o1
      refine bodyPost_ret (v := .tuple #[.agg #[.bool b1, .slice aq Q.length Q.length], .agg #[.bool false, .slice ar R.length R.length], .int .i64 0]) (by simp [results, Tryz.results104, go_sem, *]) rfl ⟨⟨_, _, rfl, ?_, ?_⟩, hbe⟩
      · rw [PL.out.1]
        exact (((int_of HUQ.out HQ.out.2.1 HQ.out.2.2.2).put2 e0 e1 _ _).put2 (cell_far (cell_far o0 (by simp) _) (by simp) _) (cell_far (cell_far o1 (by simp) _) (by simp) _) _ _).keep (Below.drew (Below.refl _ _))
      · rw [PL.out.2]
        exact (((int_of (s := false) HUR.out HR.out.2.1 rfl).put2 e0 e1 _ _).put2 (cell_far (cell_far o0 (by simp) _) (by simp) _) (cell_far (cell_far o1 (by simp) _) (by simp) _) _ _).keep (Below.drew (Below.refl _ _))
    | true =>
      have hn1 : n1 = true ∧ 0 < R.length := by have h := HR.out.2.2.2; simpa using h.symm
      obtain ⟨rfl, hRl⟩ := hn1
      have HM := Lib.hid (show IsInt wc (.agg #[.bool true, .slice ar R.length R.length]) (sg true (val R)) from int_of HUR.out HR.out.2.1 HR.out.2.2.2)
      have HN := Lib.hid (show IsInt wc (.agg #[.bool b1, .slice aq Q.length Q.length]) (sg (!(true == n2)) (val Q)) from int_of HUQ.out HQ.out.2.1 HQ.out.2.2.2)
      have hRv : 0 < val R := Nat.pos_of_ne_zero fun e => (List.length_pos_iff.1 hRl) ((val_nil_iff HR.out.2.1).1 e)
      have hRl2 : val R ≤ val l2 := by rw [HR.out.2.2.1]; exact Nat.le_of_lt (Nat.mod_lt _ HZ.out)
      have hQl1 : val Q ≤ val l1 := by rw [HQ.out.2.2.1]; exact Nat.div_le_self _ _
      have hl1 : 1 ≤ val l1 := by
        have h : val R ≤ val l1 := by rw [HR.out.2.2.1]; exact Nat.mod_le _ _
        omega
      have PL := Lib.hid (show sg true (val l1) / sg n2 (val l2) = sg (!(true == n2)) (val Q) - sgI n2 l2.length ∧ sg true (val l1) % sg n2 (val l2) = sg true (val R) + ((sg n2 (val l2)).natAbs : Int) by
        have h : sgI n2 l2.length = (sg n2 (val l2)).sign := by rw [isg_sign g2 HS.out.2]
        rw [h, HQ.out.2.2.1, HR.out.2.2.1]
        exact dm_high HZ.out (by rw [← HR.out.2.2.1]; exact hRv))
      have hsv : -1 ≤ sgI n2 l2.length ∧ sgI n2 l2.length ≤ 1 := by unfold sgI; split <;> (try split) <;> omega
      have ax := fun W (k : Below wc.heap.size wc W) => abs_c _ _ W (HYR.out.keep k)
      have ad := fun vy W (h : Below wc.heap.size wc W) (hy : IsInt W vy ((sg n2 (val l2)).natAbs : Int)) => addI_c _ vy _ _ k W (HM.out.keep h) hy (by unfold Bd; rw [sg_abs]; exact Nat.lt_of_le_of_lt hRl2 HBD.out.2.1) (by unfold Bd; rw [Int.natAbs_natCast, sg_abs]; exact HBD.out.2.1) HBD.out.2.2.1
      have hsi : (sg n2 (val l2)).sign = sgI n2 l2.length := by rw [isg_sign g2 HS.out.2]
      have ox := fun W => of_c (sgI n2 l2.length) W (by omega) (by omega)
      have sd := fun vx vy W (hx : IsInt W vx (sg (!(true == n2)) (val Q))) (hy : IsInt W vy (sgI n2 l2.length)) => subI_c vx vy _ _ k W hx hy (by unfold Bd; rw [sg_abs]; exact Nat.lt_of_le_of_lt hQl1 HBD.out.1) (Nat.lt_of_le_of_lt (show (sgI n2 l2.length).natAbs ≤ 1 by omega) (Nat.lt_of_lt_of_le (by omega) (Nat.pow_le_pow_right (by omega) HBD.out.2.2.2))) HBD.out.2.2.1
      clear hRv hRl hRl2 hQl1 hl1
      obtain ⟨sv, hsvE⟩ : ∃ sv, sv = sgI n2 l2.length := ⟨_, rfl⟩
      rw [← hsvE] at PL hsv hsi ox sd
      have HSV := Lib.hid hsi
      clear hsvE hsi
      go_upto_region 6 with (fail)
      go_cut [] (fun wx => ∃ n4 a4 c4, ∃ L4 : List Nat, wx.cell? ⟨h, 0, none⟩ = some (.bool n4) ∧ wx.cell? ⟨h, 1, none⟩ = some (.slice a4 L4.length c4) ∧ IsInt wx (.agg #[.bool n4, .slice a4 L4.length c4]) (sg true (val R) + ((sg n2 (val l2)).natAbs : Int)) ∧ Out (fun k => k = h) wc wx ∧ Lim wc wx)
      case first =>
        have hBw := Below.refl wc.heap.size wc
        go_region_law (go_simp; go_wp2_with (first
          | (go_at_call 140; refine (ax _ ?_).mono ?_; (repeat (first | exact Below.refl _ _ | exact hBw | refine Below.drew ?_ | refine below_drewN ?_ _ | refine bset ?_ (by simp <;> omega) _ | refine bal ?_ _)); rintro e w5 ⟨⟨v5, rfl, hi5⟩, hb5⟩; have hB5 : Below wc.heap.size wc w5 := bthen (by repeat (first | exact Below.refl _ _ | exact hBw | refine Below.drew ?_ | refine below_drewN ?_ _ | refine bset ?_ (by simp <;> omega) _ | refine bal ?_ _)) hb5; have HI5 := Lib.hid hi5; have d05 := bkeep hB5 d0; have d15 := bkeep hB5 d1; obtain ⟨n5, a5, c5, l5, rfl, -⟩ := hi5; unfold iv at *)
          | (go_at_call 56; refine (ad _ _ ?_ ?_).mono ?_; (repeat (first | exact Below.refl _ _ | exact hB5 | refine Below.drew ?_ | refine below_drewN ?_ _ | refine bset ?_ (by simp <;> omega) _ | refine bal ?_ _)); (refine HI5.out.keep ?_; have hBz := Below.refl w5.heap.size w5; (repeat (first | exact Below.refl _ _ | exact hBz | refine Below.drew ?_ | refine below_drewN ?_ _ | refine bset ?_ (by simp <;> omega) _ | refine bal ?_ _))); rintro e w6 ⟨⟨v6, rfl, hi6⟩, hb6⟩; have hB6 : Below wc.heap.size wc w6 := bthen (by repeat (first | exact Below.refl _ _ | exact hB5 | refine Below.drew ?_ | refine below_drewN ?_ _ | refine bset ?_ (by simp <;> omega) _ | refine bal ?_ _)) hb6; have HI6 := Lib.hid hi6; have d06 := bkeep hB6 d0; have d16 := bkeep hB6 d1; have d06f := bkeepf hB6 d0 fh0; have d16f := bkeepf hB6 d1 fh1; obtain ⟨n6, a6, c6, l6, rfl, -⟩ := hi6; unfold iv at *)))
        all_goals
          go_wp2_with fail
          go_meet
          refine ⟨n6, a6, c6, l6, cell_far (cell_here d06 _) (by simp) _, cell_here (cell_far d16 (by simp) _) _, HI6.out.put2 d06 d16 _ _, (Out.of_below (fun k => k = h) hB6).set2 (fun _ => rfl) _ _, (Lim.of_below hB6).trans (Lim.set2 d06 d16 _ _)⟩
      case rest =>
        obtain ⟨n4, a4, c4, L4, d0, d1, hi4, hO4, hL4⟩ := hcut
        rename World => wd
        have HI4 := Lib.hid hi4
        have HN4 := Lib.hid (HN.out.lim hL4)
        have hgh' : ¬ (w.heap.size + 1 = h) := by omega
        have hgh2 : ¬ (w.heap.size + 2 = h) := by omega
        have hgh3 : ¬ (w.heap.size + 3 = h) := by omega
        have fg : Free wd g := Free.out (show Free wc g from fg) hO4 hgh
        have e0f := okeepf hO4 e0 e0f hgh2
        have e1f := okeepf hO4 e1 e1f hgh2
        have o0f := okeepf hO4 o0 o0f hgh3
        have o1f := okeepf hO4 o1 o1f hgh3
        have k0 := okeep hO4 k0 hgh'
        have k1 := okeep hO4 k1 hgh'
        have m0 := okeep hO4 m0 hgh
        have m1 := okeep hO4 m1 hgh
        have e0 := okeep hO4 e0 hgh2
        have e1 := okeep hO4 e1 hgh2
        have o0 := okeep hO4 o0 hgh3
        have o1 := okeep hO4 o1 hgh3
        have hBd : Below w.heap.size w wd := hBy.trans (hO4.to_below (fun k hk _ e => by omega) hBy.size)
        have fg0 := fg.2 0
        have fg1 := fg.2 1
        have HYR4 := Lib.hid (HYR.out.lim hL4)
        have sx := fun W (k : Below wd.heap.size wd W) => sign_c _ _ W (HYR4.out.keep k)
        rw [HSV.out] at sx
        clear hi4 hO4 hL4 hBy HM HN ad
        go_upto_region 7 with (fail)
        go_cut [] (fun wx => ∃ n5 a5 c5, ∃ L5 : List Nat, wx.cell? ⟨g, 0, none⟩ = some (.bool n5) ∧ wx.cell? ⟨g, 1, none⟩ = some (.slice a5 L5.length c5) ∧ IsInt wx (.agg #[.bool n5, .slice a5 L5.length c5]) (sg (!(true == n2)) (val Q) - sv) ∧ Out (fun k => k = g) wd wx ∧ Lim wd wx)
        case first =>
          have hBw := Below.refl wd.heap.size wd
          go_region_law (go_simp; go_wp2_with (first
            | (go_at_call 24; refine (sx _ ?_).mono ?_; (repeat (first | exact Below.refl _ _ | exact hBw | refine Below.drew ?_ | refine below_drewN ?_ _ | refine bset ?_ (by simp <;> omega) _ | refine bal ?_ _)); rintro e w5 ⟨rfl, hb5⟩; have hB5 : Below wd.heap.size wd w5 := bthen (by repeat (first | exact Below.refl _ _ | exact hBw | refine Below.drew ?_ | refine below_drewN ?_ _ | refine bset ?_ (by simp <;> omega) _ | refine bal ?_ _)) hb5; have d05 := bkeep hB5 m0; have d15 := bkeep hB5 m1)
            | (go_at_call 49; refine (ox _).mono ?_; rintro e w6 ⟨⟨v6, rfl, hi6⟩, hb6⟩; have hB6 : Below wd.heap.size wd w6 := bthen (by repeat (first | exact Below.refl _ _ | exact hB5 | refine Below.drew ?_ | refine below_drewN ?_ _ | refine bset ?_ (by simp <;> omega) _ | refine bal ?_ _)) hb6; have HI6 := Lib.hid hi6; have d06 := bkeep hB6 m0; have d16 := bkeep hB6 m1; obtain ⟨n6, a6, c6, l6, rfl, -⟩ := hi6; unfold iv at *)
            | (go_at_call 102; refine (sd _ _ _ ?_ ?_).mono ?_; (refine HN4.out.keep ?_; (repeat (first | exact Below.refl _ _ | exact hB6 | refine Below.drew ?_ | refine below_drewN ?_ _ | refine bset ?_ (by simp <;> omega) _ | refine bal ?_ _))); (refine HI6.out.keep ?_; have hBz := Below.refl w6.heap.size w6; (repeat (first | exact Below.refl _ _ | exact hBz | refine Below.drew ?_ | refine below_drewN ?_ _ | refine bset ?_ (by simp <;> omega) _ | refine bal ?_ _))); rintro e w7 ⟨⟨v7, rfl, hi7⟩, hb7⟩; have hB7 : Below wd.heap.size wd w7 := bthen (by repeat (first | exact Below.refl _ _ | exact hB6 | refine Below.drew ?_ | refine below_drewN ?_ _ | refine bset ?_ (by simp <;> omega) _ | refine bal ?_ _)) hb7; have HI7 := Lib.hid hi7; have d07 := bkeep hB7 m0; have d17 := bkeep hB7 m1; have d07f := bkeepf hB7 m0 fg0; have d17f := bkeepf hB7 m1 fg1; obtain ⟨n7, a7, c7, l7, rfl, -⟩ := hi7; unfold iv at *)))
          all_goals
            go_wp2_with fail
            go_meet
            refine ⟨n7, a7, c7, l7, cell_far (cell_here d07 _) (by simp) _, cell_here (cell_far d17 (by simp) _) _, HI7.out.put2 d07 d17 _ _, (Out.of_below (fun k => k = g) hB7).set2 (fun _ => rfl) _ _, (Lim.of_below hB7).trans (Lim.set2 d07 d17 _ _)⟩
        case rest =>
          obtain ⟨n5, a5, c5, L5, m0, m1, hi5, hO5, hL5⟩ := hcut
          rename World => wy
          have HI5 := Lib.hid hi5
          have HR5 := Lib.hid (HI4.out.lim hL5)
          have hgh4 : ¬ (w.heap.size + 2 = g) := by omega
          have hgh5 : ¬ (w.heap.size + 3 = g) := by omega
          have e0f := okeepf hO5 e0 e0f hgh4
          have e1f := okeepf hO5 e1 e1f hgh4
          have o0f := okeepf hO5 o0 o0f hgh5
          have o1f := okeepf hO5 o1 o1f hgh5
          have d0 := okeep hO5 d0 (show ¬ h = g from fun e => hgh e.symm)
          have d1 := okeep hO5 d1 (show ¬ h = g from fun e => hgh e.symm)
          have e0 := okeep hO5 e0 hgh4
          have e1 := okeep hO5 e1 hgh4
          have o0 := okeep hO5 o0 hgh5
          have o1 := okeep hO5 o1 hgh5
          have hBy : Below w.heap.size w wy := hBd.trans (hO5.to_below (fun k hk _ e => by omega) hBd.size)
          clear hi5 hO5 hL5 hBd HI4 HN4
          go_upto_region 8 with (fail)
          go_region
          go_wp2
          have hbe : Below w.heap.size w ((((wy.setCell ⟨w.heap.size + 1 + 1, 0, none⟩ (.bool n5)).setCell ⟨w.heap.size + 1 + 1, 1, none⟩ (.slice a5 L5.length c5)).setCell ⟨w.heap.size + 1 + 1 + 1, 0, none⟩ (.bool n4)).setCell ⟨w.heap.size + 1 + 1 + 1, 1, none⟩ (.slice a4 L4.length c4)).drew := Below.drew (bset (bset (bset (bset hBy (by simp <;> omega) _) (by simp <;> omega) _) (by simp <;> omega) _) (by simp <;> omega) _)
          have e0 : wy.cell? ⟨w.heap.size + 1 + 1, 0, none⟩ = some (.bool false) := e0
          have e1 : wy.cell? ⟨w.heap.size + 1 + 1, 1, none⟩ = some (.slice none 0 0) := e1
          have o0 : wy.cell? ⟨w.heap.size + 1 + 1 + 1, 0, none⟩ = some (.bool false) := o0
          have o1 : wy.cell? ⟨w.heap.size + 1 + 1 + 1, 1, none⟩ = some (.slice none 0 0) := o1
          refine bodyPost_ret (v := .tuple #[.agg #[.bool n5, .slice a5 L5.length c5], .agg #[.bool n4, .slice a4 L4.length c4], .int .i64 0]) (by simp [results, Tryz.results104, go_sem, *]) rfl ⟨⟨_, _, rfl, ?_, ?_⟩, hbe⟩
          · rw [PL.out.1]
            exact ((HI5.out.put2 e0 e1 _ _).put2 (cell_far (cell_far o0 (by simp) _) (by simp) _) (cell_far (cell_far o1 (by simp) _) (by simp) _) _ _).keep (Below.drew (Below.refl _ _))
          · rw [PL.out.2]
            exact ((HR5.out.put2 e0 e1 _ _).put2 (cell_far (cell_far o0 (by simp) _) (by simp) _) (cell_far (cell_far o1 (by simp) _) (by simp) _) _ _).keep (Below.drew (Below.refl _ _))
theorem isg_ne {n : Bool} {k : Nat} (h : sg n k ≠ 0) : 0 < k := by
  apply Nat.pos_of_ne_zero; intro e; subst e; exact h (sg_zero n)
theorem divmod_c (vx vy : Value) (x y : Int) (k : Nat) (w : World) (hx : IsInt w vx x) (hy : IsInt w vy y) (bx : Bd k x) (by' : Bd k y) (hk : k ≤ 17179869184) (h0 : y ≠ 0) :
    Calls Tryz.prog 104 #[vx, vy] w fun e w' => (∃ u v, e = .returned (.tuple #[u, v, .int .i64 0]) ∧ IsInt w' u (x / y) ∧ IsInt w' v (x % y)) ∧ Below w.heap.size w w' := by
  obtain ⟨n1, a1, c1, l1, rfl, u1, g1, s1, rfl⟩ := hx
  obtain ⟨n2, a2, c2, l2, rfl, u2, g2, s2, rfl⟩ := hy
  have hp := isg_ne h0
  have k1 := bd_len g1 (sg_bd bx) hk
  have k2 := bd_len g2 (sg_bd by') hk
  have h1k : 1 ≤ k := by
    apply Nat.pos_of_ne_zero; intro e; subst e
    have := sg_bd by'
    simp at this; omega
  exact divmodV_c n1 n2 a1 a2 c1 c2 l1 l2 k w u1 u2 g1 g2 hp (by omega) (by omega) (sg_bd bx) (sg_bd by') hk h1k s1 s2
end Go.Proofs.YtdllbdfchloijaaGreatDoor

/- slices.Clone at []int. -/
namespace Go.Proofs.YtdllbdfchloijaaGreatDoor
open Go.ChangeShapes Go.WideShapes Go.ChangeAt Go.RowKit
set_option linter.unusedVariables false
set_option linter.unusedSimpArgs false
def icel (L : List Int) : List Value := L.map fun x => .int .i64 x
theorem icel_len (L : List Int) : (icel L).length = L.length := by simp [icel]
theorem icel_get (L : List Int) (k : Nat) (h : k < L.length) : (icel L)[k]? = some (.int .i64 (L.getD k 0)) := by simp [icel, h]
theorem icel_one (L : List Int) : ∀ v ∈ icel L, v.oneCell' = true := by
  intro v hv; simp only [icel, List.mem_map] at hv; obtain ⟨x, _, rfl⟩ := hv; rfl
theorem infoI : (Tryz.prog.info? 3).map (fun i => (i.zero, i.size, i.bytes)) = some (some (.int .i64 0), 1, 8) := by kernel_rfl
theorem elI : Elt Tryz.prog 25 3 1 8 := Elt.mk' Tryz.underlying25 infoI rfl (by decide) (by decide)
theorem own_ints {w : World} {base : Nat} {v : Value} {n : Nat} {L : List Int} (h : w.ownsRow base 3 1 v n (icel L)) : ∃ a c, v = .slice a L.length c ∧ IntsV w a c L ∧ FromA base 3 w a := by
  have hn : L.length = n := by have := h.1; rw [icel_len] at this; omega
  subst hn
  have h' := h
  rcases h.2 with ⟨rfl, h1⟩ | ⟨g, cap, cur, rfl, hb, hgg, hc, _⟩
  · exact ⟨none, 0, by rw [h1], .inl (List.length_eq_zero_iff.1 h1), FromA.nil _ _ _⟩
  · refine ⟨_, _, rfl, .inr ⟨g, 0, rfl, hc, fun k hk => ?_⟩, fun p e => by cases e; exact ⟨hb, by unfold typOf; rw [hgg]⟩⟩
    rw [Nat.zero_add, World.ownsRow.cellAt h' k (by omega), icel_get L k hk]
set_option maxRecDepth 100000 in
set_option maxHeartbeats 1000000 in
theorem cloneInts_c (a : Option Addr) (ca : Nat) (L : List Int) (w : World) (ha : IntsV w a ca L) (hn : a = none → L = []) (h1 : L.length ≤ 1099511627776) :
    Calls Tryz.prog 106 #[.slice a L.length ca] w fun e w' => (∃ a' c', e = .returned (.slice a' L.length c') ∧ IntsV w' a' c' L ∧ FromA w.heap.size 3 w' a') ∧ Below w.heap.size w w' := by
  have hB0 := Below.refl w.heap.size w
  have hq := fun w => Lib.run_eql_slice_nil w 25 3 a L.length ca 0 0 Tryz.underlying25
  cases a with
  | none =>
    obtain rfl : L = [] := hn rfl
    have hq2 : ∀ w, (binOp .eql 25 (.slice none 0 ca) (.slice none 0 0)).run Tryz.prog w = .ok (.bool true) w := hq
    clear hq
    go_enter Tryz.func106, Tryz.ntmps106
    go_wp2
    go_ret
    exact ⟨⟨none, 0, rfl, .inl rfl, FromA.nil _ _ _⟩, Below.refl _ _⟩
  | some ad =>
    obtain ⟨i0, z0, hi, hz0, hz1, hz2, hz3⟩ := elI.info
    have hnews : ∀ (W : World), Below w.heap.size w W → ∀ j u, (icel L)[j]? = some u → W.cell? (ad.add j) = some u := by
      intro W hW j v hj
      have hjl : j < L.length := by have := (List.getElem?_eq_some_iff.1 hj).1; rwa [icel_len] at this
      rw [icel_get L j hjl] at hj
      cases hj
      rcases ha with h | ⟨b, off, h, _, hcell⟩
      · subst h; simp at hjl
      · cases h
        have := bkeep hW (hcell j hjl)
        unfold Addr.add
        split
        · subst_vars; simpa using this
        · exact this
    clear ha
    have ho : (w.alloc (.cells #[] 3)).ownsRow w.heap.size 3 1 (.slice (some ⟨w.heap.size, 0, none⟩) 0 0) 0 [] := ⟨rfl, .inr ⟨w.heap.size, 0, #[], rfl, Nat.le_refl _, (MapKept.heap_alloc w _).1, Nat.le_refl _, by unfold maxLen; omega, rfl, rfl⟩⟩
    go_enter Tryz.func106, Tryz.ntmps106
    go_wp2_with (at_builtin; refine wpList_append_own _ rfl _ _ 25 rfl w.heap.size 3 i0 z0 1 8 Tryz.underlying25 hi hz0 hz1 hz2 hz3 (by decide) _ 0 [] rfl ho ad L.length ca (icel L) rfl (by rw [icel_len, Nat.mul_one]) (hnews _ (bal hB0 _)) (icel_one L) (by unfold maxLen; omega) (by omega) (by simp) ?_)
    intro v' w1 hown hgrow _
    have hbel := below_append (wr := w) (bal hB0 _) ho hgrow
    obtain ⟨a', c', rfl, hu, hfr⟩ := own_ints hown
    have HU := Lib.hid (And.intro hu hfr)
    clear hown hnews hq hgrow hu ho hfr
    go_wp2
    go_ret
    exact ⟨⟨a', c', rfl, HU.out.1, HU.out.2⟩, hbel⟩
end Go.Proofs.YtdllbdfchloijaaGreatDoor

/- slices.Clone at []Instr. -/
namespace Go.Proofs.YtdllbdfchloijaaGreatDoor
open Go.ChangeShapes Go.WideShapes Go.ChangeAt Go.RowKit
set_option linter.unusedVariables false
set_option linter.unusedSimpArgs false
def Ins.cel (i : Ins) : List Value := [.int .i64 i.op, .int .i64 i.to, .int .i64 i.a, .int .i64 i.b, .int .i64 i.c]
def pcel (L : List Ins) : List Value := L.flatMap Ins.cel
theorem pcel_len (L : List Ins) : (pcel L).length = L.length * 5 := by
  induction L with
  | nil => rfl
  | cons i L ih => simp only [pcel, List.flatMap_cons, List.length_append, List.length_cons] at ih ⊢; rw [ih]; simp [Ins.cel]; omega
theorem pcel_get (L : List Ins) : ∀ k r, k < L.length → r < 5 → (pcel L)[k * 5 + r]? = (Ins.cel (L.getD k default))[r]? := by
  induction L with
  | nil => intro k r hk; simp at hk
  | cons x L ih =>
    intro k r hk hr
    cases k with
    | zero =>
      have e : pcel (x :: L) = Ins.cel x ++ pcel L := rfl
      rw [e, Nat.zero_mul, Nat.zero_add, List.getElem?_append_left (by simp [Ins.cel]; omega)]; rfl
    | succ k =>
      have e : pcel (x :: L) = Ins.cel x ++ pcel L := rfl
      have h5 : (Ins.cel x).length = 5 := rfl
      rw [e, List.getElem?_append_right (by rw [h5]; omega), h5, show (k + 1) * 5 + r - 5 = k * 5 + r by omega, ih k r (by simpa using hk) hr]
      rfl
theorem pcel_one (L : List Ins) : ∀ v ∈ pcel L, v.oneCell' = true := by
  intro v hv
  simp only [pcel, List.mem_flatMap] at hv
  obtain ⟨x, _, hx⟩ := hv
  simp [Ins.cel] at hx
  rcases hx with rfl | rfl | rfl | rfl | rfl <;> rfl
theorem InsAt.at {w : World} {b off : Nat} {i : Ins} (h : InsAt w b off i) {r : Nat} (hr : r < 5) {u : Value} (hu : (Ins.cel i)[r]? = some u) : w.cell? ⟨b, off + r, none⟩ = some u := by
  have : r = 0 ∨ r = 1 ∨ r = 2 ∨ r = 3 ∨ r = 4 := by omega
  rcases this with rfl | rfl | rfl | rfl | rfl <;> (simp [Ins.cel] at hu; subst hu)
  · exact h.c0
  · exact h.c1
  · exact h.c2
  · exact h.c3
  · exact h.c4
theorem infoP : (Tryz.prog.info? 39).map (fun i => (i.zero, i.size, i.bytes)) = some (some (.agg #[.int .i64 0, .int .i64 0, .int .i64 0, .int .i64 0, .int .i64 0]), 5, 40) := by kernel_rfl
theorem elP : Elt Tryz.prog 24 39 5 40 := Elt.mk' Tryz.underlying24 infoP rfl (by decide) (by decide)
theorem own_ins {w : World} {base : Nat} {v : Value} {n : Nat} {L : List Ins} (h : w.ownsRow base 39 5 v n (pcel L)) : ∃ a c, v = .slice a L.length c ∧ InsV w a c L ∧ FromA base 39 w a := by
  have hn : L.length = n := by have := h.1; rw [pcel_len] at this; omega
  subst hn
  have h' := h
  rcases h.2 with ⟨rfl, h1⟩ | ⟨g, cap, cur, rfl, hb, hgg, hc, _⟩
  · exact ⟨none, 0, by rw [h1], .inl (List.length_eq_zero_iff.1 h1), FromA.nil _ _ _⟩
  · refine ⟨_, _, rfl, .inr ⟨g, 0, rfl, hc, fun k hk => ?_⟩, fun p e => by cases e; exact ⟨hb, by unfold typOf; rw [hgg]⟩⟩
    have key : ∀ r, r < 5 → w.cell? ⟨g, 0 + k * 5 + r, none⟩ = (Ins.cel (L.getD k default))[r]? := fun r hr => by
      rw [Nat.zero_add, World.ownsRow.cellAt h' (k * 5 + r) (by omega), pcel_get L k r hk hr]
    exact ⟨key 0 (by omega), key 1 (by omega), key 2 (by omega), key 3 (by omega), key 4 (by omega)⟩
set_option maxRecDepth 100000 in
set_option maxHeartbeats 1000000 in
theorem cloneIns_c (a : Option Addr) (ca : Nat) (L : List Ins) (w : World) (ha : InsV w a ca L) (hn : a = none → L = []) (h1 : L.length ≤ 1099511627776) :
    Calls Tryz.prog 105 #[.slice a L.length ca] w fun e w' => (∃ a' c', e = .returned (.slice a' L.length c') ∧ InsV w' a' c' L ∧ FromA w.heap.size 39 w' a') ∧ Below w.heap.size w w' := by
  have hB0 := Below.refl w.heap.size w
  have hq := fun w => Lib.run_eql_slice_nil w 24 39 a L.length ca 0 0 Tryz.underlying24
  cases a with
  | none =>
    obtain rfl : L = [] := hn rfl
    have hq2 : ∀ w, (binOp .eql 24 (.slice none 0 ca) (.slice none 0 0)).run Tryz.prog w = .ok (.bool true) w := hq
    clear hq
    go_enter Tryz.func105, Tryz.ntmps105
    go_wp2
    go_ret
    exact ⟨⟨none, 0, rfl, .inl rfl, FromA.nil _ _ _⟩, Below.refl _ _⟩
  | some ad =>
    obtain ⟨i0, z0, hi, hz0, hz1, hz2, hz3⟩ := elP.info
    have hnews : ∀ (W : World), Below w.heap.size w W → ∀ j u, (pcel L)[j]? = some u → W.cell? (ad.add j) = some u := by
      intro W hW j v hj
      have hjl : j < L.length * 5 := by have := (List.getElem?_eq_some_iff.1 hj).1; rwa [pcel_len] at this
      have hj2 : j = j / 5 * 5 + j % 5 := by omega
      rw [hj2, pcel_get L (j / 5) (j % 5) (by omega) (by omega)] at hj
      rcases ha with h | ⟨b, off, h, _, hcell⟩
      · subst h; simp at hjl
      · cases h
        have h3 := ((hcell (j / 5) (by omega)).keep hW).at (by omega) hj
        rw [show off + j / 5 * 5 + j % 5 = off + j by omega] at h3
        unfold Addr.add
        split
        · subst_vars; simpa using h3
        · exact h3
    clear ha
    have ho : (w.alloc (.cells #[] 39)).ownsRow w.heap.size 39 5 (.slice (some ⟨w.heap.size, 0, none⟩) 0 0) 0 [] := ⟨rfl, .inr ⟨w.heap.size, 0, #[], rfl, Nat.le_refl _, (MapKept.heap_alloc w _).1, Nat.le_refl _, by unfold maxLen; omega, rfl, rfl⟩⟩
    go_enter Tryz.func105, Tryz.ntmps105
    go_wp2_with (at_builtin; refine wpList_append_own _ rfl _ _ 24 rfl w.heap.size 39 i0 z0 5 40 Tryz.underlying24 hi hz0 hz1 hz2 hz3 (by decide) _ 0 [] rfl ho ad L.length ca (pcel L) rfl (pcel_len L) (hnews _ (bal hB0 _)) (pcel_one L) (by unfold maxLen; omega) (by omega) (by simp) ?_)
    intro v' w1 hown hgrow _
    have hbel := below_append (wr := w) (bal hB0 _) ho hgrow
    obtain ⟨a', c', rfl, hu, hfr⟩ := own_ins hown
    have HU := Lib.hid (And.intro hu hfr)
    clear hown hnews hq hgrow hu ho hfr
    go_wp2
    go_ret
    exact ⟨⟨a', c', rfl, HU.out.1, HU.out.2⟩, hbel⟩
end Go.Proofs.YtdllbdfchloijaaGreatDoor

/- How many bits constants have. -/
namespace Go.Proofs.YtdllbdfchloijaaGreatDoor
open Num
theorem pow2_bd {n k : Nat} (h : n < k) : Bd k ((2 : Int) ^ n) := by
  unfold Bd
  rw [Int.natAbs_pow]
  exact Nat.pow_lt_pow_right (by decide) h
theorem const_bd {c : Int} {k : Nat} (h1 : -512 ≤ c) (h2 : c ≤ 512) (hk : 10 ≤ k) : Bd k c := by
  unfold Bd
  exact Nat.lt_of_lt_of_le (show c.natAbs < 2 ^ 10 by omega) (Nat.pow_le_pow_right (by decide) hk)
theorem p2_ne (n : Nat) : (2 : Int) ^ n ≠ 0 := by
  have := Nat.pow_pos (n := n) (show 0 < 2 by omega)
  have e : ((2 ^ n : Nat) : Int) = (2 : Int) ^ n := by rw [Int.natCast_pow]; rfl
  rw [← e]; omega
end Go.Proofs.YtdllbdfchloijaaGreatDoor

/- vm, in plain Lean: sums go to sums. -/
namespace Go.Proofs.YtdllbdfchloijaaGreatDoor
open Num
set_option linter.unusedVariables false
set_option linter.unusedSimpArgs false
theorem startG_len {g : Grid} {regs n : Nat} (h : g.length ≤ regs) : (startG g regs n).length = regs := by simp [startG]; omega
theorem startG_rect {g : Grid} {regs n : Nat} (h : Rect n g) : Rect n (startG g regs n) := by
  intro k hk
  unfold startG at hk ⊢
  by_cases e : k < g.length
  · have := h k e
    simp [List.getD_eq_getElem?_getD, List.getElem?_append_left e] at this ⊢; exact this
  · simp [List.length_append] at hk
    simp [List.getD_eq_getElem?_getD, List.getElem?_append_right (Nat.le_of_not_lt e), show k - g.length < regs - g.length by omega]
theorem startG_bd {k : Nat} {g : Grid} {regs n : Nat} (h : BdG k g) : BdG k (startG g regs n) := by
  intro i j
  unfold startG
  by_cases e : i < g.length
  · have := h i j
    simp [List.getD_eq_getElem?_getD, List.getElem?_append_left e] at this ⊢; exact this
  · have e2 : (g ++ List.replicate (regs - g.length) (List.replicate n (0 : Int))).getD i [] = (List.replicate (regs - g.length) (List.replicate n (0 : Int))).getD (i - g.length) [] := by
      simp [List.getD_eq_getElem?_getD, List.getElem?_append_right (Nat.le_of_not_lt e)]
    rw [e2]
    have : ((List.replicate (regs - g.length) (List.replicate n (0 : Int))).getD (i - g.length) []).getD j 0 = 0 := by
      simp only [List.getD_eq_getElem?_getD, List.getElem?_replicate]
      split
      · simp only [Option.getD_some, List.getElem?_replicate]
        split <;> rfl
      · simp
    rw [this]; exact bd_zero
end Go.Proofs.YtdllbdfchloijaaGreatDoor

/- exact, in plain Lean: what a program makes of numbers; columns of a grid. -/
namespace Go.Proofs.YtdllbdfchloijaaGreatDoor
open Num
set_option linter.unusedVariables false
set_option linter.unusedSimpArgs false
/-- the registers behind n instructions, each of which holds a number; none: one of them has failed -/
def afterN (code : List Ins) (r : List Int) : Nat → Option (List Int)
  | 0 => some r
  | n + 1 => (afterN code r n).bind fun s => (opI (code.getD n default) (s.getD (code.getD n default).a.toNat 0) (s.getD (code.getD n default).b.toNat 0)).map fun x => s.set (code.getD n default).to.toNat x
theorem afterN_succ {code : List Ins} {r s : List Int} {n : Nat} (e : afterN code r n = some s) : afterN code r (n + 1) = (opI (code.getD n default) (s.getD (code.getD n default).a.toNat 0) (s.getD (code.getD n default).b.toNat 0)).map fun x => s.set (code.getD n default).to.toNat x := by
  rw [afterN, e]; rfl
theorem afterN_len {code : List Ins} {r : List Int} : ∀ {n : Nat} {s : List Int}, afterN code r n = some s → s.length = r.length := by
  intro n
  induction n with
  | zero => intro s e; cases e; rfl
  | succ n ih =>
    intro s e
    unfold afterN at e
    cases e1 : afterN code r n with
    | none => rw [e1] at e; cases e
    | some s1 =>
      rw [e1, Option.bind_some] at e
      obtain ⟨x, _, rfl⟩ := Option.map_eq_some_iff.1 e
      rw [List.length_set]; exact ih e1
theorem afterN_mono {code : List Ins} {r : List Int} {n m : Nat} (h : afterN code r n = none) (hm : n ≤ m) : afterN code r m = none := by
  induction m with
  | zero => obtain rfl : n = 0 := by omega
            exact h
  | succ m ih =>
    by_cases e : n = m + 1
    · subst e; exact h
    · unfold afterN; rw [ih (by omega)]; rfl
theorem set_bd {s : List Int} {k t : Nat} {x : Int} (hs : ∀ j, Bd k (s.getD j 0)) (hx : Bd k x) : ∀ j, Bd k ((s.set t x).getD j 0) := by
  intro j
  by_cases e : t = j
  · subst e
    by_cases hl : t < s.length
    · have : (s.set t x).getD t 0 = x := by simp [hl]
      rw [this]; exact hx
    · rw [List.set_eq_of_length_le (by omega)]; exact hs t
  · have : (s.set t x).getD j 0 = s.getD j 0 := by simp [List.getElem?_set_ne e]
    rw [this]; exact hs j
theorem afterN_bd {code : List Ins} {r : List Int} {k : Nat} (hr : ∀ j, Bd k (r.getD j 0)) (hc : Cs code) : ∀ {n : Nat} {s : List Int}, n ≤ code.length → afterN code r n = some s → ∀ j, Bd (k + 65 * n) (s.getD j 0) := by
  intro n
  induction n with
  | zero => intro s _ e; cases e; exact hr
  | succ n ih =>
    intro s hn e
    unfold afterN at e
    cases e1 : afterN code r n with
    | none => rw [e1] at e; cases e
    | some s1 =>
      rw [e1, Option.bind_some] at e
      obtain ⟨x, hx, rfl⟩ := Option.map_eq_some_iff.1 e
      have h2 := ih (by omega) e1
      have h3 := opI_bd hx (h2 _) (h2 _) (hc n (by omega)).1 (hc n (by omega)).2
      exact set_bd (fun j => (h2 j).mono (by omega)) (h3.mono (by omega))
/-- a column of a grid -/
def colG (g : Grid) (k : Nat) : List Int := g.map fun r => r.getD k 0
theorem colG_get (g : Grid) (k j : Nat) : (colG g k).getD j 0 = (g.getD j []).getD k 0 := by
  unfold colG
  by_cases h : j < g.length
  · simp [List.getD_eq_getElem?_getD, h]
  · simp [List.getD_eq_getElem?_getD, List.getElem?_eq_none (Nat.le_of_not_lt h)]
theorem colG_set (g : Grid) (k t : Nat) (r : List Int) : colG (g.set t r) k = (colG g k).set t (r.getD k 0) := by
  unfold colG
  rw [List.map_set]
/-- a step on rows, at a place -/
theorem col_step {code : List Ins} {h : Grid} {m n k : Nat} {r : List Int} (hR : (h.getD (code.getD n default).a.toNat []).length = m) (hk : k < m) (e : stepR (code.getD n default) (h.getD (code.getD n default).a.toNat []) (h.getD (code.getD n default).b.toNat []) = some r) :
    opI (code.getD n default) ((colG h k).getD (code.getD n default).a.toNat 0) ((colG h k).getD (code.getD n default).b.toNat 0) = some (r.getD k 0) := by
  rw [colG_get, colG_get]
  exact stepR_get e k (by omega)
/-- a run on rows is a run at each place -/
theorem col_after {code : List Ins} {g : Grid} {m k regs : Nat} (hg : Rect m g) (hlen : g.length = regs) (ha : ∀ n, n < code.length → (code.getD n default).a.toNat < regs) (hk : k < m) : ∀ {n : Nat} {h : Grid}, n ≤ code.length → after code g n = some h → afterN code (colG g k) n = some (colG h k) := by
  intro n
  induction n with
  | zero => intro h _ e; cases e; rfl
  | succ n ih =>
    intro h hn e
    unfold after at e
    cases e1 : after code g n with
    | none => rw [e1] at e; cases e
    | some h1 =>
      rw [e1, Option.bind_some] at e
      obtain ⟨r, hr, rfl⟩ := Option.map_eq_some_iff.1 e
      have hR := after_rect hg hlen ha (by omega) e1
      have h2 := hR (code.getD n default).a.toNat (by rw [after_len e1, hlen]; exact ha n (by omega))
      rw [afterN_succ (ih (by omega) e1), col_step h2 hk hr, Option.map_some, colG_set]
end Go.Proofs.YtdllbdfchloijaaGreatDoor

/- The reference's numbers: DivMod, by values; Over. -/
namespace Go.Proofs.YtdllbdfchloijaaGreatDoor
open Num
open Go.ChangeShapes Go.WideShapes Go.ChangeAt Go.RowKit
set_option linter.unusedVariables false
set_option linter.unusedSimpArgs false
end Go.Proofs.YtdllbdfchloijaaGreatDoor

/- The reference's rows: Combine, Add, Sub, Scale, Zero. -/
namespace Go.Proofs.YtdllbdfchloijaaGreatDoor
open Num
open Go.ChangeShapes Go.WideShapes Go.ChangeAt Go.RowKit
set_option linter.unusedVariables false
set_option linter.unusedSimpArgs false
attribute [local go_sem ↓] Go.wp_at_zero Go.wp_at_succ
end Go.Proofs.YtdllbdfchloijaaGreatDoor

