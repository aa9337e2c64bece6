/- MatrixReckons: any two matrices: added, multiplied, turned, applied. -/
import Derived.Test.YthaohpfbengabaaGreatDoorQ16
import Derived.Test.YthaohpfbengabaaGreatDoorQ11
import Derived.Deep.DeepCutAuto
import Derived.BigQuiet
set_option linter.unusedVariables false
set_option linter.unusedSimpArgs false
namespace Go.Proofs.YthaohpfbengabaaGreatDoor
open Num
open Go.ChangeShapes Go.WideShapes Go.ChangeAt Go.RowKit
set_option linter.unusedVariables false
set_option linter.unusedSimpArgs false
attribute [local go_sem ↓] Go.wp_at_zero Go.wp_at_succ
theorem rrow_keep {base : Nat} {w w' : World} {v : Value} {l : List Int} (h : RRow base w v l) (k : Below w.heap.size w w') : RRow base w' v l := IsRow.keep lims_ref h k
set_option maxRecDepth 100000 in
set_option maxHeartbeats 16000000 in
theorem matrixReckons_h (va vb vv : Value) (a b : Grid) (v : List Int) (c : Int) (w : World) (ha : GridI w va a) (hb : GridI w vb b) (hv : RowI w vv v) (hc : I64 c) (la : a.length ≤ 1048576) (lb : b.length ≤ 1048576) (hla : ∀ k, k < a.length → (a.getD k []).length ≤ 1048576) (hlb : ∀ k, k < b.length → (b.getD k []).length ≤ 1048576) (lv : v.length ≤ 1048576) :
    Calls Tryz.prog 5 #[va, vb, vv, .int .i64 c] w fun e w' => e = .returned (.bool true) ∧ Below w.heap.size w w' := by
  have BA := Lib.hid (fun W (q : Below w.heap.size w W) => both5_c va a W (ha.keep q) la hla)
  have BB := Lib.hid (fun W (q : Below w.heap.size w W) => both5_c vb b W (hb.keep q) lb hlb)
  have LV := Lib.hid (fun W (q : Below w.heap.size w W) => list_c vv v W (hv.keep q) (by omega))
  have RV := Lib.hid (fun W (q : Below w.heap.size w W) => ref5_c vv v W (hv.keep q) (by omega))
  have HBD := Lib.hid (And.intro (i64_bdM ha) (And.intro (i64_bdM hb) (i64_bd hv)))
  have HC := Lib.hid hc
  obtain ⟨aa, ca, rfl, -⟩ := ha
  obtain ⟨ab, cb, rfl, -⟩ := hb
  obtain ⟨av, cv, rfl, -⟩ := hv
  clear hla hlb la lb hc
  have hB := Below.refl w.heap.size w
  have HV := Lib.hid (show v.length ≤ 1048576 from lv)
  obtain ⟨na, hna⟩ : ∃ n, a.length = n := ⟨_, rfl⟩
  obtain ⟨nb, hnb⟩ : ∃ n, b.length = n := ⟨_, rfl⟩
  obtain ⟨nv, hnv⟩ : ∃ n, v.length = n := ⟨_, rfl⟩
  have HN := Lib.hid (And.intro hna (And.intro hnb hnv))
  rw [hna] at BA ⊢
  rw [hnb] at BB ⊢
  rw [hnv] at LV RV ⊢
  clear hna hnb hnv lv
  go_enter Tryz.func5, Tryz.ntmps5
  go_wp2_with fail
  (with_reducible refine (works_c _).mono ?_)
  rintro e w1 ⟨rfl, hb1⟩
  have hB1 : Below w.heap.size w w1 := bthen (by repeat (first | exact Below.refl _ _ | exact hB | refine Below.drew ?_ | refine below_drewN ?_ _ | refine bset ?_ (by simp <;> omega) _ | refine bal ?_ _)) hb1
  clear hb1
  go_wp2_with fail
  (with_reducible refine (BA.out _ ?_).mono ?_); (repeat (first | exact Below.refl _ _ | exact hB1 | refine Below.drew ?_ | refine below_drewN ?_ _ | refine bset ?_ (by simp <;> omega) _ | refine bal ?_ _))
  unfold BothPost
  rintro e w2 ⟨(⟨-, hfa, x, r, rfl, hx, hr⟩ | ⟨-, rfl⟩), hb2⟩
  rotate_left
  · have hB2 : Below w.heap.size w w2 := bthen (by repeat (first | exact Below.refl _ _ | exact hB1 | refine Below.drew ?_ | refine below_drewN ?_ _ | refine bset ?_ (by simp <;> omega) _ | refine bal ?_ _)) hb2
    clear BA hb2
    go_wp2_with fail
    (with_reducible refine (BB.out _ ?_).mono ?_); (repeat (first | exact Below.refl _ _ | exact hB2 | refine Below.drew ?_ | refine below_drewN ?_ _ | refine bset ?_ (by simp <;> omega) _ | refine bal ?_ _))
    unfold BothPost
    rintro e w3 ⟨(⟨-, -, y, s, rfl, hy, hs⟩ | ⟨-, rfl⟩), hb3⟩
    · have hB3 : Below w.heap.size w w3 := bthen (by repeat (first | exact Below.refl _ _ | exact hB2 | refine Below.drew ?_ | refine below_drewN ?_ _ | refine bset ?_ (by simp <;> omega) _ | refine bal ?_ _)) hb3
      obtain ⟨ya, yc, rfl⟩ := hy.lit
      obtain ⟨sa, sn, sc, rfl⟩ : ∃ a n c, s = .slice a n c := by obtain ⟨a, c, e, _⟩ := (show IsL 33 (RRow 0) 0 w3 s b from hs).view; exact ⟨a, _, c, e⟩
      clear BB hb3 hy hs
      go_wp2
      go_ret
      exact ⟨rfl, by repeat (first | exact Below.refl _ _ | exact hB3 | refine Below.drew ?_ | refine below_drewN ?_ _ | refine bset ?_ (by simp <;> omega) _ | refine bal ?_ _)⟩
    · have hB3 : Below w.heap.size w w3 := bthen (by repeat (first | exact Below.refl _ _ | exact hB2 | refine Below.drew ?_ | refine below_drewN ?_ _ | refine bset ?_ (by simp <;> omega) _ | refine bal ?_ _)) hb3
      clear BB hb3
      go_wp2
      go_ret
      exact ⟨rfl, by repeat (first | exact Below.refl _ _ | exact hB3 | refine Below.drew ?_ | refine below_drewN ?_ _ | refine bset ?_ (by simp <;> omega) _ | refine bal ?_ _)⟩
  · have hB2 : Below w.heap.size w w2 := bthen (by repeat (first | exact Below.refl _ _ | exact hB1 | refine Below.drew ?_ | refine below_drewN ?_ _ | refine bset ?_ (by simp <;> omega) _ | refine bal ?_ _)) hb2
    obtain ⟨n1p, m1p, n1l, m1l, rgA⟩ := fits_yes hfa
    have HX := Lib.hid hx
    have HR := Lib.hid (show RefM w2 r a from hr)
    obtain ⟨xa, xc, rfl⟩ := hx.lit
    obtain ⟨ra, rc, rfl, -⟩ : ∃ a' c', r = .slice a' a.length c' ∧ True := by obtain ⟨a', c', e, _⟩ := (show IsL 33 (RRow 0) 0 w2 r a from hr).view; exact ⟨a', c', e, trivial⟩
    have hBw2 := Below.refl w2.heap.size w2
    have hna2 := HN.out.1
    rw [hna2] at HX HR n1p n1l ⊢
    have HFA := Lib.hid (And.intro m1p (And.intro m1l rgA))
    clear BA hb2 hx hr hfa hna2 rgA m1p m1l
    go_wp2_with fail
    (with_reducible refine (BB.out _ ?_).mono ?_); (repeat (first | exact Below.refl _ _ | exact hB2 | refine Below.drew ?_ | refine below_drewN ?_ _ | refine bset ?_ (by simp <;> omega) _ | refine bal ?_ _))
    unfold BothPost
    rintro e w3 ⟨(⟨-, hfb, y, s, rfl, hy, hs⟩ | ⟨-, rfl⟩), hb3⟩
    rotate_left
    · have hB3 : Below w.heap.size w w3 := bthen (by repeat (first | exact Below.refl _ _ | exact hB2 | refine Below.drew ?_ | refine below_drewN ?_ _ | refine bset ?_ (by simp <;> omega) _ | refine bal ?_ _)) hb3
      clear BB hb3
      go_wp2
      go_ret
      exact ⟨rfl, by repeat (first | exact Below.refl _ _ | exact hB3 | refine Below.drew ?_ | refine below_drewN ?_ _ | refine bset ?_ (by simp <;> omega) _ | refine bal ?_ _)⟩
    · have hB3 : Below w.heap.size w w3 := bthen (by repeat (first | exact Below.refl _ _ | exact hB2 | refine Below.drew ?_ | refine below_drewN ?_ _ | refine bset ?_ (by simp <;> omega) _ | refine bal ?_ _)) hb3
      have hx0 : w3.cell? ⟨w2.heap.size, 0, none⟩ = some (.slice xa na xc) := bkeep hb3 (by simp [go_sem])
      have hb23 : Below w2.heap.size w2 w3 := bthen (by repeat (first | exact Below.refl _ _ | exact hBw2 | refine Below.drew ?_ | refine below_drewN ?_ _ | refine bset ?_ (by simp <;> omega) _ | refine bal ?_ _)) hb3
      obtain ⟨n2p, m2p, n2l, m2l, rgB⟩ := fits_yes hfb
      have HY := Lib.hid hy
      have HS := Lib.hid (show RefM w3 s b from hs)
      obtain ⟨ya, yc, rfl⟩ := hy.lit
      obtain ⟨sa, sc, rfl, -⟩ : ∃ a' c', s = .slice a' b.length c' ∧ True := by obtain ⟨a', c', e, _⟩ := (show IsL 33 (RRow 0) 0 w3 s b from hs).view; exact ⟨a', c', e, trivial⟩
      have hnb2 := HN.out.2.1
      rw [hnb2] at HY HS n2p n2l ⊢
      have HFB := Lib.hid (And.intro m2p (And.intro m2l rgB))
      clear BB hb3 hy hs hfb hnb2 rgB m2p m2l
      by_cases hv64 : nv ≤ 64
      rotate_left
      · have hvI : (64 : Int) < (nv : Int) := by omega
        clear hv64
        go_wp2
        go_ret
        exact ⟨rfl, by repeat (first | exact Below.refl _ _ | exact hB3 | refine Below.drew ?_ | refine below_drewN ?_ _ | refine bset ?_ (by simp <;> omega) _ | refine bal ?_ _)⟩
      · have hvI : ¬ (64 : Int) < (nv : Int) := by omega
        have hBw3 := Below.refl w3.heap.size w3
        go_wp2
        refine wp_name fun w4 hW4 => ?_
        have hb34 : Below w3.heap.size w3 w4 := by rw [hW4]; repeat (first | exact Below.refl _ _ | exact hBw3 | refine Below.drew ?_ | refine below_drewN ?_ _ | refine bset ?_ (by simp <;> omega) _ | refine bal ?_ _)
        have hB4 := bthen hB3 hb34
        have hx4 : w4.cell? ⟨w2.heap.size, 0, none⟩ = some (.slice xa na xc) := bkeep hb34 hx0
        have hy4 : w4.cell? ⟨w3.heap.size, 0, none⟩ = some (.slice ya nb yc) := by rw [hW4]; simp [go_sem]
        have HX4 := Lib.hid (HX.out.keep (bthen hb23 hb34))
        have HR4 := Lib.hid (show IsL 33 (RRow 0) 0 w4 (.slice ra na rc) a from HR.out.keep (bthen hb23 hb34))
        have HY4 := Lib.hid (HY.out.keep hb34)
        have HS4 := Lib.hid (show IsL 33 (RRow 0) 0 w4 (.slice sa nb sc) b from HS.out.keep hb34)
        clear hW4 HX HR HY HS hx0 hb23 hb34 hBw3 hBw2 hB3 hB2 hB1
        obtain ⟨c1, gb, go, rra, rrc, e1, hu1, -⟩ := IsL.rrow HR4.out (i := 0) (by rw [HN.out.1]; exact n1p)
        obtain ⟨rfl, -, rfl⟩ := Value.slice.inj e1
        obtain ⟨c2, hb, ho, ssa, ssc, e2, hu2, -⟩ := IsL.rrow HS4.out (i := 0) (by rw [HN.out.2.1]; exact n2p)
        obtain ⟨rfl, -, rfl⟩ := Value.slice.inj e2
        obtain ⟨ma, hma⟩ : ∃ n, cols a = n := ⟨_, rfl⟩
        obtain ⟨mb, hmb⟩ : ∃ n, cols b = n := ⟨_, rfl⟩
        have HM := Lib.hid (And.intro hma hmb)
        rw [show (a.getD 0 []).length = ma from hma, Nat.add_zero] at hu1
        rw [show (b.getD 0 []).length = mb from hmb, Nat.add_zero] at hu2
        rw [hma] at HFA
        rw [hmb] at HFB
        clear e1 e2 hma hmb
        have zu1 := cell_lt hu1
        have zu2 := cell_lt hu2
        have zx4 := cell_lt hx4
        have zy4 := cell_lt hy4
        have n1I : (0 : Int) < (na : Int) := by omega
        have n2I : (0 : Int) < (nb : Int) := by omega
        obtain ⟨al, hal⟩ : ∃ q, decide (na = nb ∧ ma = mb) = q := ⟨_, rfl⟩
        have HAL := Lib.hid hal
        have hBw4 := Below.refl w4.heap.size w4
        go_cut [15] (fun s15 wx => s15 = .bool al ∧ Below w4.heap.size w4 wx)
        case first =>
          by_cases h1 : na = nb
          · subst h1
            have hb1 : ((na : Int) == (na : Int)) = true := by simp
            by_cases h2 : ma = mb
            · subst h2
              have hb2 : ((ma : Int) == (ma : Int)) = true := by simp
              have hat : al = true := by rw [← hal]; simp
              clear hal
              subst hat
              go_quiet (fail)
              go_wp2_with fail
              go_meet
              exact ⟨rfl, by repeat (first | exact Below.refl _ _ | exact hBw4 | refine Below.drew ?_ | refine below_drewN ?_ _ | refine bset ?_ (by simp <;> omega) _ | refine bal ?_ _)⟩
            · have hb2 : ((ma : Int) == (mb : Int)) = false := by simp; omega
              have hat : al = false := by rw [← hal]; simp [h2]
              clear hal h2
              subst hat
              go_quiet (fail)
              go_wp2_with fail
              go_meet
              exact ⟨rfl, by repeat (first | exact Below.refl _ _ | exact hBw4 | refine Below.drew ?_ | refine below_drewN ?_ _ | refine bset ?_ (by simp <;> omega) _ | refine bal ?_ _)⟩
          · have hb1 : ((na : Int) == (nb : Int)) = false := by simp; omega
            have hat : al = false := by rw [← hal]; simp [h1]
            clear hal h1
            subst hat
            go_quiet (fail)
            go_wp2_with fail
            go_meet
            exact ⟨rfl, by repeat (first | exact Below.refl _ _ | exact hBw4 | refine Below.drew ?_ | refine below_drewN ?_ _ | refine bset ?_ (by simp <;> omega) _ | refine bal ?_ _)⟩
        case rest =>
          obtain ⟨rfl, hbx⟩ := hcut
          obtain ⟨no, hno⟩ : ∃ q : Int, (if al then 0 else 5) = q := ⟨_, rfl⟩
          have HNO := Lib.hid hno
          clear hal
          go_upto_if 64 with (fail)
          go_cut [16] (fun s16 wx => s16 = .int .i64 no ∧ Below w4.heap.size w4 wx)
          case first =>
            cases al with
            | true =>
              have hno2 : no = 0 := by rw [← hno]; rfl
              clear hno
              subst hno2
              go_wp2
              go_meet
              exact ⟨rfl, by repeat (first | exact Below.refl _ _ | exact hbx | refine Below.drew ?_ | refine below_drewN ?_ _ | refine bset ?_ (by simp <;> omega) _ | refine bal ?_ _)⟩
            | false =>
              have hno2 : no = 5 := by rw [← hno]; rfl
              clear hno
              subst hno2
              go_wp2
              go_meet
              exact ⟨rfl, by repeat (first | exact Below.refl _ _ | exact hbx | refine Below.drew ?_ | refine below_drewN ?_ _ | refine bset ?_ (by simp <;> omega) _ | refine bal ?_ _)⟩
          case rest =>
            clear hbx hno
            obtain ⟨rfl, hbx⟩ := hcut
            have PC := Lib.hid (fun W (q : Below w4.heap.size w4 W) => plusM_c _ _ a b 64 W (HX4.out.keep q) (HY4.out.keep q) (by rw [HM.out.1]; exact HFA.out.2.2) (by rw [HM.out.2]; exact HFB.out.2.2) HBD.out.1 HBD.out.2.1 (by decide) (by rw [HN.out.1]; omega) (by rw [HM.out.1]; have := HFA.out.2.1; omega))
            rw [HN.out.1, HN.out.2.1, HM.out.1, HM.out.2] at PC
            have hal2 : al = true ↔ (na = nb ∧ ma = mb) := by rw [← HAL.out]; simp
            have HAL2 := Lib.hid hal2
            have hxc := bkeep hbx hx4
            have hyc := bkeep hbx hy4
            have zxc := cell_lt hxc
            have zyc := cell_lt hyc
            have HU0 := Lib.hid hu1
            clear hal2 hu1 hu2 zu1 zu2
            go_wp2_with fail
            (with_reducible refine (PC.out _ ?_).mono ?_); (repeat (first | exact Below.refl _ _ | exact hbx | refine Below.drew ?_ | refine below_drewN ?_ _ | refine bset ?_ (by simp <;> omega) _ | refine bal ?_ _))
            intro e w6 hP
            obtain ⟨⟨pa, pn, pc, ne, rfl, hpp⟩, hb6⟩ := mor_any al HAL2.out hP
            have HPP := Lib.hid hpp
            have hb46 : Below w4.heap.size w4 w6 := bthen (by repeat (first | exact Below.refl _ _ | exact hbx | refine Below.drew ?_ | refine below_drewN ?_ _ | refine bset ?_ (by simp <;> omega) _ | refine bal ?_ _)) hb6
            have hx6 := bkeep hb46 hx4
            have hy6 := bkeep hb46 hy4
            clear hP hpp PC hxc hyc zxc zyc hb6 hbx
            have hBw6 := Below.refl w6.heap.size w6
            go_upto_if 71 with (fail)
            refine wp_name fun w7 hW7 => ?_
            have hb67 : Below w6.heap.size w6 w7 := by rw [hW7]; repeat (first | exact Below.refl _ _ | exact hBw6 | refine Below.drew ?_ | refine below_drewN ?_ _ | refine bset ?_ (by simp <;> omega) _ | refine bal ?_ _)
            have hb47 := bthen hb46 hb67
            have hp7 : w7.cell? ⟨w6.heap.size, 0, none⟩ = some (.slice pa pn pc) := by rw [hW7]; simp [go_sem]
            have hp7f : w7.frozen? ⟨w6.heap.size, 0, none⟩ = false := by rw [hW7]; simp [go_sem]
            have HT7 := Lib.hid (show typOf w7 w6.heap.size = some 27 from by rw [hW7]; first | exact typ_fresh rfl | (rw [typ_set]; exact typ_fresh rfl) | (simp [typ_set]; exact typ_fresh rfl))
            have HP7 := Lib.hid (show (al = true ∧ ne = 0 ∧ IsM 0 w7 (.agg #[.slice pa pn pc]) (plusG a b)) ∨ (al = false ∧ ne = 5 ∧ (Value.agg #[.slice pa pn pc]) = .agg #[.slice none 0 0]) from by
              rcases HPP.out with ⟨h1, h2, h3⟩ | h
              · exact .inl ⟨h1, h2, h3.keep hb67⟩
              · exact .inr h)
            have hBw7 := Below.refl w7.heap.size w7
            have h46 : w4.heap.size ≤ w6.heap.size := hb46.size
            clear hW7 hx6 hy6 HPP hb67 hBw6
            go_cut [19] (fun s19 wx => (∃ sa sn sc, s19 = .slice sa sn sc ∧ Hid (CmS 65 (plusG a b) (.agg #[.slice pa pn pc]) ne (.slice sa sn sc) no wx)) ∧ Below w7.heap.size w7 wx)
            case first =>
              cases al with
              | true =>
                obtain ⟨hnn, hmm⟩ := HAL2.out.1 rfl
                have h1 : IsM 0 w7 (.agg #[.slice pa pn pc]) (plusG a b) ∧ ne = 0 := by
                  rcases HP7.out with h | ⟨h, _⟩
                  · exact ⟨h.2.2, h.2.1⟩
                  · cases h
                have HP1 := Lib.hid h1
                have RP := Lib.hid (fun W (q : Below w4.heap.size w4 W) => rplusM_c (.slice (some ⟨gb, go, none⟩) na rc) (.slice (some ⟨hb, ho, none⟩) nb sc) a b 64 W (HR4.out.keep prs_rrow q) (HS4.out.keep prs_rrow q) (by rw [HM.out.1]; exact HFA.out.2.2) (by rw [HM.out.1, hmm]; exact HFB.out.2.2) (by rw [HN.out.1, HN.out.2.1, hnn]) (by rw [HN.out.1]; omega) (by rw [HM.out.1]; have := HFA.out.2.1; omega) HBD.out.1 HBD.out.2.1 (by decide))
                clear h1 hnn hmm
                go_wp2_with fail
                (with_reducible refine (RP.out _ ?_).mono ?_); (repeat (first | exact Below.refl _ _ | exact hb47 | refine Below.drew ?_ | refine below_drewN ?_ _ | refine bset ?_ (by simp <;> omega) _ | refine bal ?_ _))
                rintro e w8 ⟨⟨u, rfl, hu⟩, hb8⟩
                have hb78 : Below w7.heap.size w7 w8 := bthen (by repeat (first | exact Below.refl _ _ | exact hBw7 | refine Below.drew ?_ | refine below_drewN ?_ _ | refine bset ?_ (by simp <;> omega) _ | refine bal ?_ _)) hb8
                have HU := Lib.hid hu
                obtain ⟨ua, un, uc, rfl⟩ : ∃ a n c, u = .slice a n c := by obtain ⟨a, c, e, _⟩ := (show IsL 33 (RRow 0) 0 w8 u _ from hu).view; exact ⟨a, _, c, e⟩
                have HCM := Lib.hid (show CmS 65 (plusG a b) (.agg #[.slice pa pn pc]) ne (.slice ua un uc) no w8 from .inl ⟨by rw [← HNO.out]; rfl, HP1.out.2, HP1.out.1.keep hb78, HU.out, by rw [show cols (plusG a b) = cols a from plus_cols (by rw [HN.out.1]; exact n1p)]; exact tab_rect _ _ _, by rw [plus_len, HN.out.1]; omega, by rw [show cols (plusG a b) = cols a from plus_cols (by rw [HN.out.1]; exact n1p), HM.out.1]; have := HFA.out.2.1; omega, plus_bd HBD.out.1 HBD.out.2.1⟩)
                clear hu hb8 RP
                go_wp2_with fail
                go_meet
                exact ⟨⟨ua, un, uc, rfl, HCM⟩, by repeat (first | exact Below.refl _ _ | exact hb78 | refine Below.drew ?_ | refine below_drewN ?_ _ | refine bset ?_ (by simp <;> omega) _ | refine bal ?_ _)⟩
              | false =>
                have HCM := Lib.hid (show CmS 65 (plusG a b) (.agg #[.slice pa pn pc]) ne (.slice none 0 0) no w7 from by
                  rcases HP7.out with ⟨h, _⟩ | ⟨_, h2, h3⟩
                  · cases h
                  · exact .inr ⟨by rw [← HNO.out]; decide, by rw [← HNO.out, h2]; rfl, h3, _, _, _, rfl⟩)
                go_wp2
                go_meet
                exact ⟨⟨_, _, _, rfl, HCM⟩, by repeat (first | exact Below.refl _ _ | exact hBw7 | refine Below.drew ?_ | refine below_drewN ?_ _ | refine bset ?_ (by simp <;> omega) _ | refine bal ?_ _)⟩
            case rest =>
              obtain ⟨⟨va', vn', vc', rfl, HCM⟩, hbx⟩ := hcut
              have hb4c := bthen hb47 hbx
              have HCC := Lib.hid (fun W (q : Below wc.heap.size wc W) => mComes_any (HCM.out.keep q) (by decide))
              have HSM := Lib.hid (fun W (q : Below w4.heap.size w4 W) => sameM_c _ _ a b W (HX4.out.keep q) (HY4.out.keep q) (by rw [HN.out.1]; omega) (fun i hi => by rw [(HFA.out.2.2) i hi]; have := HFA.out.2.1; omega) (fun i hi => by rw [(HFB.out.2.2) i hi]; have := HFB.out.2.1; omega))
              have HRS := Lib.hid (fun W (q : Below w4.heap.size w4 W) => rsameM_c (.slice (some ⟨gb, go, none⟩) na rc) (.slice (some ⟨hb, ho, none⟩) nb sc) a b W (HR4.out.keep prs_rrow q) (HS4.out.keep prs_rrow q) (by rw [HN.out.1]; omega) (fun i hi => by rw [(HFA.out.2.2) i hi]; have := HFA.out.2.1; omega))
              obtain ⟨sm, hsm⟩ : ∃ q, decide (a = b) = q := ⟨_, rfl⟩
              rw [hsm] at HSM HRS
              clear hsm
              have hsq : (sm != sm) = false := by simp
              have hB7 := bthen hB4 hb47
              have p0 := bkeep hbx hp7
              have zp0 := cell_lt p0
              have x0 := bkeep hb4c hx4
              have zx0 := cell_lt x0
              have y0 := bkeep hb4c hy4
              have zy0 := cell_lt y0
              have hBc := Below.refl wc.heap.size wc
              go_wp2_with fail
              (with_reducible refine (HCC.out _ ?_).mono ?_); (repeat (first | exact Below.refl _ _ | exact hBc | refine Below.drew ?_ | refine below_drewN ?_ _ | refine bset ?_ (by simp <;> omega) _ | refine bal ?_ _))
              rintro e w9 ⟨rfl, hb9⟩
              have hbc9 : Below wc.heap.size wc w9 := bthen (by repeat (first | exact Below.refl _ _ | exact hBc | refine Below.drew ?_ | refine below_drewN ?_ _ | refine bset ?_ (by simp <;> omega) _ | refine bal ?_ _)) hb9
              have hb49 := bthen hb4c hbc9
              have hb79 := bthen hbx hbc9
              have x9 := bkeep hb49 hx4
              have zx9 := cell_lt x9
              have y9 := bkeep hb49 hy4
              have zy9 := cell_lt y9
              clear x0 zx0 y0 zy0 p0 zp0 HCC HCM hb9 hbc9 hbx hBc
              go_wp2_with fail
              (with_reducible refine (HSM.out _ ?_).mono ?_); (repeat (first | exact Below.refl _ _ | exact hb49 | refine Below.drew ?_ | refine below_drewN ?_ _ | refine bset ?_ (by simp <;> omega) _ | refine bal ?_ _))
              rintro e w10 ⟨rfl, hb10⟩
              have hb4a : Below w4.heap.size w4 w10 := bthen (by repeat (first | exact Below.refl _ _ | exact hb49 | refine Below.drew ?_ | refine below_drewN ?_ _ | refine bset ?_ (by simp <;> omega) _ | refine bal ?_ _)) hb10
              have hb7a : Below w7.heap.size w7 w10 := bthen (by repeat (first | exact Below.refl _ _ | exact hb79 | refine Below.drew ?_ | refine below_drewN ?_ _ | refine bset ?_ (by simp <;> omega) _ | refine bal ?_ _)) hb10
              clear x9 zx9 y9 zy9 HSM hb10 hb49 hb79
              go_wp2_with fail
              (with_reducible refine (HRS.out _ ?_).mono ?_); (repeat (first | exact Below.refl _ _ | exact hb4a | refine Below.drew ?_ | refine below_drewN ?_ _ | refine bset ?_ (by simp <;> omega) _ | refine bal ?_ _))
              rintro e w11 ⟨rfl, hb11⟩
              have hb411 : Below w4.heap.size w4 w11 := bthen (by repeat (first | exact Below.refl _ _ | exact hb4a | refine Below.drew ?_ | refine below_drewN ?_ _ | refine bset ?_ (by simp <;> omega) _ | refine bal ?_ _)) hb11
              have hb711 : Below w7.heap.size w7 w11 := bthen (by repeat (first | exact Below.refl _ _ | exact hb7a | refine Below.drew ?_ | refine below_drewN ?_ _ | refine bset ?_ (by simp <;> omega) _ | refine bal ?_ _)) hb11
              have x11 := bkeep hb411 hx4
              have zx11 := cell_lt x11
              have y11 := bkeep hb411 hy4
              have zy11 := cell_lt y11
              have p11 := bkeep hb711 hp7
              have p11f := bkeepf hb711 hp7 hp7f
              have zp11 := cell_lt p11
              clear HRS hb11 hb4a hb7a
              have TC := Lib.hid (fun W (q : Below w4.heap.size w4 W) => timesM_c _ _ a b 64 64 W (HX4.out.keep q) (HY4.out.keep q) (by rw [HM.out.1]; exact HFA.out.2.2) (by rw [HM.out.2]; exact HFB.out.2.2) HBD.out.1 HBD.out.2.1 (by rw [HM.out.1]; have := HFA.out.2.1; omega) (by rw [HN.out.1]; omega) (by rw [HM.out.2]; have := HFB.out.2.1; omega) (by rw [HM.out.1]; have := HFA.out.2.1; omega))
              rw [HN.out.2.1, HM.out.1] at TC
              obtain ⟨tl, htl⟩ : ∃ q, decide (ma = nb) = q := ⟨_, rfl⟩
              have HTL := Lib.hid (show tl = true ↔ (ma = nb ∧ 0 < ma) from by
                have := HFA.out.1
                rw [← htl]; simp; omega)
              have htI : ((ma : Int) == (nb : Int)) = tl := by
                rw [← htl]
                by_cases h : ma = nb
                · simp [h]
                · simp [h]; omega
              clear htl
              go_wp2_with fail
              (with_reducible refine (TC.out _ ?_).mono ?_); (repeat (first | exact Below.refl _ _ | exact hb411 | refine Below.drew ?_ | refine below_drewN ?_ _ | refine bset ?_ (by simp <;> omega) _ | refine bal ?_ _))
              intro e w12 hP
              obtain ⟨⟨qa, qn, qc, nf, rfl, hqq⟩, hb12⟩ := mor_any tl HTL.out hP
              have HQQ := Lib.hid hqq
              have hb412 : Below w4.heap.size w4 w12 := bthen (by repeat (first | exact Below.refl _ _ | exact hb411 | refine Below.drew ?_ | refine below_drewN ?_ _ | refine bset ?_ (by simp <;> omega) _ | refine bal ?_ _)) hb12
              have hb712 : Below w7.heap.size w7 w12 := bthen (by repeat (first | exact Below.refl _ _ | exact hb711 | refine Below.drew ?_ | refine below_drewN ?_ _ | refine bset ?_ (by simp <;> omega) _ | refine bal ?_ _)) hb12
              have p12 := bkeep hb712 hp7
              have p12f := bkeepf hb712 hp7 hp7f
              have zp12 := cell_lt p12
              have hu12 := bkeep hb412 HU0.out
              have zu12 := cell_lt hu12
              have hgne : ¬ gb = w6.heap.size := by have := cell_lt HU0.out; omega
              have hgne2 : ¬ w6.heap.size = gb := fun e => hgne e.symm
              clear hP hqq TC hb12 x11 zx11 y11 zy11 p11 zp11 p11f hb411 hb711
              go_upto_if 102 with (fail)
              refine wp_name fun w13 hW13 => ?_
              have hb413 : Below w4.heap.size w4 w13 := by rw [hW13]; repeat (first | exact Below.refl _ _ | exact hb412 | refine Below.drew ?_ | refine below_drewN ?_ _ | refine bset ?_ (by simp <;> omega) _ | refine bal ?_ _)
              have p13 : w13.cell? ⟨w6.heap.size, 0, none⟩ = some (.slice qa qn qc) := by rw [hW13]; exact cell_here p12 _
              have HQ13 := Lib.hid (show (tl = true ∧ nf = 0 ∧ IsM 0 w13 (.agg #[.slice qa qn qc]) (timesG a b)) ∨ (tl = false ∧ nf = 5 ∧ (Value.agg #[.slice qa qn qc]) = .agg #[.slice none 0 0]) from by
                rcases HQQ.out with ⟨h1, h2, h3⟩ | h
                · exact .inl ⟨h1, h2, by rw [hW13]; exact h3.setM (p := ⟨w6.heap.size, 0, none⟩) (typ_keep HT7.out hb712) _⟩
                · exact .inr h)
              have hBw13 := Below.refl w13.heap.size w13
              clear hW13 HQQ p12 p12f zp12 hu12 zu12 hb412 hb712
              go_cut [16, 19] (fun s16 s19 wx => (∃ n0 sa sn sc, s16 = .int .i64 n0 ∧ s19 = .slice sa sn sc ∧ Hid (CmS 144 (timesG a b) (.agg #[.slice qa qn qc]) nf (.slice sa sn sc) n0 wx)) ∧ Below w13.heap.size w13 wx)
              case first =>
                cases tl with
                | true =>
                  obtain ⟨hmn, -⟩ := HTL.out.1 rfl
                  have h1 : IsM 0 w13 (.agg #[.slice qa qn qc]) (timesG a b) ∧ nf = 0 := by
                    rcases HQ13.out with h | ⟨h, _⟩
                    · exact ⟨h.2.2, h.2.1⟩
                    · cases h
                  have HP1 := Lib.hid h1
                  have RP := Lib.hid (fun W (q : Below w4.heap.size w4 W) => rtimesM_c (.slice (some ⟨gb, go, none⟩) na rc) (.slice (some ⟨hb, ho, none⟩) nb sc) a b 64 64 W (HR4.out.keep prs_rrow q) (HS4.out.keep prs_rrow q) (by rw [HM.out.1]; exact HFA.out.2.2) (by rw [HM.out.2]; exact HFB.out.2.2) (by rw [HM.out.1, HN.out.2.1, hmn]) (by rw [HN.out.1]; omega) (by rw [HM.out.1]; have := HFA.out.2.1; omega) (by rw [HM.out.2]; have := HFB.out.2.1; omega) HBD.out.1 HBD.out.2.1 (by rw [HM.out.1]; have := HFA.out.2.1; omega))
                  clear h1 hmn
                  go_wp2_with fail
                  (with_reducible refine (RP.out _ ?_).mono ?_); (repeat (first | exact Below.refl _ _ | exact hb413 | refine Below.drew ?_ | refine below_drewN ?_ _ | refine bset ?_ (by simp <;> omega) _ | refine bal ?_ _))
                  rintro e w14 ⟨⟨u, rfl, hu⟩, hb14⟩
                  have hb1314 : Below w13.heap.size w13 w14 := bthen (by repeat (first | exact Below.refl _ _ | exact hBw13 | refine Below.drew ?_ | refine below_drewN ?_ _ | refine bset ?_ (by simp <;> omega) _ | refine bal ?_ _)) hb14
                  have HU := Lib.hid hu
                  obtain ⟨ua, un, uc, rfl⟩ := RefM.lit hu
                  have HCM := Lib.hid (show CmS 144 (timesG a b) (.agg #[.slice qa qn qc]) nf (.slice ua un uc) 0 w14 from .inl ⟨rfl, HP1.out.2, HP1.out.1.keep hb1314, HU.out, by rw [times_cols (by rw [HN.out.1]; exact n1p)]; exact times_rct _ _, by rw [times_len, HN.out.1]; omega, by rw [times_cols (by rw [HN.out.1]; exact n1p), HM.out.2]; have := HFB.out.2.1; omega, (times_bd HBD.out.1 HBD.out.2.1).mono (by rw [HM.out.1]; have := HFA.out.2.1; omega)⟩)
                  clear hu hb14 RP
                  go_wp2_with fail
                  go_meet
                  exact ⟨⟨0, ua, un, uc, rfl, rfl, HCM⟩, by repeat (first | exact Below.refl _ _ | exact hb1314 | refine Below.drew ?_ | refine below_drewN ?_ _ | refine bset ?_ (by simp <;> omega) _ | refine bal ?_ _)⟩
                | false =>
                  have HCM := Lib.hid (show CmS 144 (timesG a b) (.agg #[.slice qa qn qc]) nf (.slice none 0 0) 5 w13 from by
                    rcases HQ13.out with ⟨h, _⟩ | ⟨_, h2, h3⟩
                    · cases h
                    · exact .inr ⟨by decide, h2, h3, _, _, _, rfl⟩)
                  go_wp2
                  go_meet
                  exact ⟨⟨5, _, _, _, rfl, rfl, HCM⟩, by repeat (first | exact Below.refl _ _ | exact hBw13 | refine Below.drew ?_ | refine below_drewN ?_ _ | refine bset ?_ (by simp <;> omega) _ | refine bal ?_ _)⟩
              case rest =>
                obtain ⟨⟨n0, wa', wn', wc', rfl, rfl, HCM⟩, hbx⟩ := hcut
                have hb4c := bthen hb413 hbx
                have x14 := bkeep hb4c hx4
                have p14 := bkeep hbx p13
                have zx14 := cell_lt x14
                have zp14 := cell_lt p14
                have HSS := Lib.hid (show ∀ W, Below wc.heap.size wc W → W.cell? ⟨w2.heap.size, 0, none⟩ = some (.slice xa na xc) ∧ W.cell? ⟨w6.heap.size, 0, none⟩ = some (.slice qa qn qc) from fun W q => ⟨bkeep q x14, bkeep q p14⟩)
                have CC2 := Lib.hid (fun W (q : Below wc.heap.size wc W) => mComes_any (HCM.out.keep q) (by decide))
                have TU := Lib.hid (fun W (q : Below wc.heap.size wc W) => turnM_c _ a W (HX4.out.keep (bthen hb4c q)) (by rw [HM.out.1]; exact HFA.out.2.2) (by rw [HN.out.1]; omega) (by rw [HM.out.1]; have := HFA.out.2.1; omega))
                have RT := Lib.hid (fun W (q : Below wc.heap.size wc W) => rturnM_c (.slice (some ⟨gb, go, none⟩) na rc) a W (HR4.out.keep prs_rrow (bthen hb4c q)) (by rw [HM.out.1]; exact HFA.out.2.2) (by rw [HN.out.1]; omega) (by rw [HM.out.1]; have := HFA.out.2.1; omega))
                have OC := Lib.hid (fun W => of_c c W HC.out.1 HC.out.2)
                have ROC := Lib.hid (fun W => rof_c c W HC.out.1 HC.out.2)
                have hbc64 : Bd 64 c := by have h := HC.out; unfold I64 at h; unfold Bd; omega
                have SC := Lib.hid (fun u W (q : Below wc.heap.size wc W) (hu : IsInt W u c) => scaleM_c _ u a c 64 64 W (HX4.out.keep (bthen hb4c q)) hu (by rw [HM.out.1]; exact HFA.out.2.2) HBD.out.1 hbc64 (by decide) (by decide) (by rw [HN.out.1]; omega) (by rw [HM.out.1]; have := HFA.out.2.1; omega))
                have RSC := Lib.hid (fun u W (q : Below wc.heap.size wc W) (hu : IsRef W u c) => rscaleM_c (.slice (some ⟨gb, go, none⟩) na rc) u a c 64 64 W (HR4.out.keep prs_rrow (bthen hb4c q)) hu (by rw [HM.out.1]; exact HFA.out.2.2) (by rw [HN.out.1]; omega) (by rw [HM.out.1]; have := HFA.out.2.1; omega) HBD.out.1 hbc64 (by decide))
                have TF := Lib.hid (show Rct (turnG a) (cols (turnG a)) ∧ (turnG a).length ≤ 65536 ∧ cols (turnG a) ≤ 65536 from by
                  have h1 := HFA.out.1
                  have h2 := HFA.out.2.1
                  have e : cols (turnG a) = a.length := turn_cols (by rw [HM.out.1]; exact h1)
                  exact ⟨by rw [e]; exact tab_rect _ _ _, by rw [turn_len, HM.out.1]; omega, by rw [e, HN.out.1]; omega⟩)
                have SF := Lib.hid (show Rct (scaleG a c) (cols (scaleG a c)) ∧ (scaleG a c).length ≤ 65536 ∧ cols (scaleG a c) ≤ 65536 ∧ BdM 128 (scaleG a c) from by
                  have h2 := HFA.out.2.1
                  have e : cols (scaleG a c) = cols a := tab_cols _ (by rw [HN.out.1]; exact n1p)
                  exact ⟨by rw [e]; exact tab_rect _ _ _, by rw [scale_len, HN.out.1]; omega, by rw [e, HM.out.1]; omega, scale_bd HBD.out.1 hbc64⟩)
                have hBc := Below.refl wc.heap.size wc
                clear HCM HQ13 hbc64
                go_wp2
                go_region_held3 (fun W => W.cell? ⟨w2.heap.size, 0, none⟩ = some (.slice xa na xc) ∧ W.cell? ⟨w6.heap.size, 0, none⟩ = some (.slice qa qn qc))
                  (first | (refine HSS.out _ ?_; (repeat (first | exact Below.refl _ _ | exact hBc | refine Below.drew ?_ | refine below_drewN ?_ _ | refine bset ?_ (by simp <;> omega) _ | refine bal ?_ _)); done) | fail)
                  (first
                  | (go_at_call 26; (with_reducible refine (CC2.out _ ?_).mono ?_); (repeat (first | exact Below.refl _ _ | exact hBc | refine Below.drew ?_ | refine below_drewN ?_ _ | refine bset ?_ (by simp <;> omega) _ | refine bal ?_ _)); rintro e w21 ⟨rfl, hb21⟩; (have hBd : Below wc.heap.size wc w21 := bthen (by repeat (first | exact Below.refl _ _ | exact hBc | refine Below.drew ?_ | refine below_drewN ?_ _ | refine bset ?_ (by simp <;> omega) _ | refine bal ?_ _)) hb21; clear hBc; have hBc := hBd; clear hBd))
                  | (go_at_call 38; (with_reducible refine (TU.out _ ?_).mono ?_); (repeat (first | exact Below.refl _ _ | exact hBc | refine Below.drew ?_ | refine below_drewN ?_ _ | refine bset ?_ (by simp <;> omega) _ | refine bal ?_ _)); rintro e w22 ⟨⟨tv, rfl, htv⟩, hb22⟩; (have hBd : Below wc.heap.size wc w22 := bthen (by repeat (first | exact Below.refl _ _ | exact hBc | refine Below.drew ?_ | refine below_drewN ?_ _ | refine bset ?_ (by simp <;> omega) _ | refine bal ?_ _)) hb22; clear hBc; have hBc := hBd; clear hBd); have HT22 := Lib.hid (htv.rebase (Nat.zero_le _)); obtain ⟨ta, tc, rfl⟩ := htv.lit; have hy22 := Below.refl w22.heap.size w22; clear htv)
                  | (go_at_call 39; (with_reducible refine (RT.out _ ?_).mono ?_); (repeat (first | exact Below.refl _ _ | exact hBc | refine Below.drew ?_ | refine below_drewN ?_ _ | refine bset ?_ (by simp <;> omega) _ | refine bal ?_ _)); rintro e w23 ⟨⟨tr, rfl, htr⟩, hb23⟩; (have hs23 : Below w22.heap.size w22 w23 := bthen (by repeat (first | exact Below.refl _ _ | exact hy22 | refine Below.drew ?_ | refine below_drewN ?_ _ | refine bset ?_ (by simp <;> omega) _ | refine bal ?_ _)) hb23); (have hBd : Below wc.heap.size wc w23 := bthen (by repeat (first | exact Below.refl _ _ | exact hBc | refine Below.drew ?_ | refine below_drewN ?_ _ | refine bset ?_ (by simp <;> omega) _ | refine bal ?_ _)) hb23; clear hBc; have hBc := hBd; clear hBd); have PT := Lib.hid (fun W (q : Below w23.heap.size w23 W) => Pair.is_c (k := 64) (w := W) ⟨HT22.out.keep (bthen hs23 q), RefM.keep htr q, TF.out.1, TF.out.2.1, TF.out.2.2, turn_bd HBD.out.1⟩ (by decide)); obtain ⟨tra, trn, trc, rfl⟩ := RefM.lit htr; have hy23 := Below.refl w23.heap.size w23; clear htr)
                  | (go_at_call 29; (with_reducible refine (PT.out _ ?_).mono ?_); (repeat (first | exact Below.refl _ _ | exact hy23 | refine Below.drew ?_ | refine below_drewN ?_ _ | refine bset ?_ (by simp <;> omega) _ | refine bal ?_ _)); rintro e w24 ⟨rfl, hb24⟩; (have hBd : Below wc.heap.size wc w24 := bthen (by repeat (first | exact Below.refl _ _ | exact hBc | refine Below.drew ?_ | refine below_drewN ?_ _ | refine bset ?_ (by simp <;> omega) _ | refine bal ?_ _)) hb24; clear hBc; have hBc := hBd; clear hBd))
                  | (go_at_call 25; (with_reducible refine (OC.out _).mono ?_); rintro e w25 ⟨⟨ov, rfl, hov⟩, hb25⟩; (have hBd : Below wc.heap.size wc w25 := bthen (by repeat (first | exact Below.refl _ _ | exact hBc | refine Below.drew ?_ | refine below_drewN ?_ _ | refine bset ?_ (by simp <;> omega) _ | refine bal ?_ _)) hb25; clear hBc; have hBc := hBd; clear hBd); have HO25 := Lib.hid hov; have hy25 := Below.refl w25.heap.size w25; obtain ⟨n25, a25, c25, l25, rfl, -⟩ := hov; unfold iv at *)
                  | (go_at_call 40; (with_reducible refine (SC.out _ _ ?_ (HO25.out.keep ?_)).mono ?_); (repeat (first | exact Below.refl _ _ | exact hBc | refine Below.drew ?_ | refine below_drewN ?_ _ | refine bset ?_ (by simp <;> omega) _ | refine bal ?_ _)); (repeat (first | exact Below.refl _ _ | exact hy25 | refine Below.drew ?_ | refine below_drewN ?_ _ | refine bset ?_ (by simp <;> omega) _ | refine bal ?_ _)); rintro e w26 ⟨⟨sv, rfl, hsv⟩, hb26⟩; (have hBd : Below wc.heap.size wc w26 := bthen (by repeat (first | exact Below.refl _ _ | exact hBc | refine Below.drew ?_ | refine below_drewN ?_ _ | refine bset ?_ (by simp <;> omega) _ | refine bal ?_ _)) hb26; clear hBc; have hBc := hBd; clear hBd); have HS26 := Lib.hid (hsv.rebase (Nat.zero_le _)); obtain ⟨ta2, tc2, rfl⟩ := hsv.lit; have hy26 := Below.refl w26.heap.size w26; clear hsv)
                  | (go_at_call 42; (with_reducible refine (ROC.out _).mono ?_); rintro e w27 ⟨⟨ov2, rfl, hov2⟩, hb27⟩; (have hs27 : Below w26.heap.size w26 w27 := bthen (by repeat (first | exact Below.refl _ _ | exact hy26 | refine Below.drew ?_ | refine below_drewN ?_ _ | refine bset ?_ (by simp <;> omega) _ | refine bal ?_ _)) hb27); (have hBd : Below wc.heap.size wc w27 := bthen (by repeat (first | exact Below.refl _ _ | exact hBc | refine Below.drew ?_ | refine below_drewN ?_ _ | refine bset ?_ (by simp <;> omega) _ | refine bal ?_ _)) hb27; clear hBc; have hBc := hBd; clear hBd); have HS27 := Lib.hid (HS26.out.keep hs27); have HO27 := Lib.hid hov2; have hy27 := Below.refl w27.heap.size w27; obtain ⟨n27, a27, c27, l27, rfl, -⟩ := hov2; unfold iv at *)
                  | (go_at_call 41; (with_reducible refine (RSC.out _ _ ?_ (HO27.out.keep ?_)).mono ?_); (repeat (first | exact Below.refl _ _ | exact hBc | refine Below.drew ?_ | refine below_drewN ?_ _ | refine bset ?_ (by simp <;> omega) _ | refine bal ?_ _)); (repeat (first | exact Below.refl _ _ | exact hy27 | refine Below.drew ?_ | refine below_drewN ?_ _ | refine bset ?_ (by simp <;> omega) _ | refine bal ?_ _)); rintro e w28 ⟨⟨sr, rfl, hsr⟩, hb28⟩; (have hs28 : Below w27.heap.size w27 w28 := bthen (by repeat (first | exact Below.refl _ _ | exact hy27 | refine Below.drew ?_ | refine below_drewN ?_ _ | refine bset ?_ (by simp <;> omega) _ | refine bal ?_ _)) hb28); (have hBd : Below wc.heap.size wc w28 := bthen (by repeat (first | exact Below.refl _ _ | exact hBc | refine Below.drew ?_ | refine below_drewN ?_ _ | refine bset ?_ (by simp <;> omega) _ | refine bal ?_ _)) hb28; clear hBc; have hBc := hBd; clear hBd); have PS := Lib.hid (fun W (q : Below w28.heap.size w28 W) => Pair.is_c (k := 128) (w := W) ⟨HS27.out.keep (bthen hs28 q), RefM.keep hsr q, SF.out.1, SF.out.2.1, SF.out.2.2.1, SF.out.2.2.2⟩ (by decide)); obtain ⟨sra, srn, src, rfl⟩ := RefM.lit hsr; have hy28 := Below.refl w28.heap.size w28; clear hsr)
                  | (go_at_call 29; (with_reducible refine (PS.out _ ?_).mono ?_); (repeat (first | exact Below.refl _ _ | exact hy28 | refine Below.drew ?_ | refine below_drewN ?_ _ | refine bset ?_ (by simp <;> omega) _ | refine bal ?_ _)); rintro e w29 ⟨rfl, hb29⟩; (have hBd : Below wc.heap.size wc w29 := bthen (by repeat (first | exact Below.refl _ _ | exact hBc | refine Below.drew ?_ | refine below_drewN ?_ _ | refine bset ?_ (by simp <;> omega) _ | refine bal ?_ _)) hb29; clear hBc; have hBc := hBd; clear hBd))
                  | fail)
                all_goals
                  have hB4z := bthen hb4c hBc
                  have hBz := bthen hB4 hB4z
                  clear HSS CC2 TU RT OC ROC SC RSC TF SF x14 p14 zx14 zp14 hbx hb4c hb413 hBc
                  go_wp2_with fail
                  (with_reducible refine (LV.out _ ?_).mono ?_); (repeat (first | exact Below.refl _ _ | exact hBz | refine Below.drew ?_ | refine below_drewN ?_ _ | refine bset ?_ (by simp <;> omega) _ | refine bal ?_ _))
                  rintro e w31 ⟨⟨lv, rfl, hlv⟩, hb31⟩
                  have hb431 : Below w4.heap.size w4 w31 := bthen (by repeat (first | exact Below.refl _ _ | exact hB4z | refine Below.drew ?_ | refine below_drewN ?_ _ | refine bset ?_ (by simp <;> omega) _ | refine bal ?_ _)) hb31
                  have HL31 := Lib.hid (show PRow 0 w31 lv v from hlv.row.rebase (Nat.zero_le _))
                  obtain ⟨la, lc, rfl⟩ := hlv.ex
                  have AC := Lib.hid (fun W (q : Below w31.heap.size w31 W) => applyM_c (.agg #[.slice xa na xc]) (.slice la v.length lc) a v 64 64 W (HX4.out.keep (bthen hb431 q)) (HL31.out.keep lims_int q) (by rw [HM.out.1]; exact HFA.out.2.2) (by rw [HN.out.1]; omega) (by rw [HM.out.1]; have := HFA.out.2.1; omega) (by rw [HN.out.2.2]; omega) HBD.out.1 HBD.out.2.2 (by rw [HM.out.1]; have := HFA.out.2.1; omega))
                  rw [HN.out.2.2] at AC HL31 ⊢
                  have hx31 := bkeep hb431 hx4
                  have zx31 := cell_lt hx31
                  have hBw31 := Below.refl w31.heap.size w31
                  clear hlv hb31 hB4z hBz
                  go_wp2_with fail
                  (with_reducible refine (AC.out _ ?_).mono ?_); (repeat (first | exact Below.refl _ _ | exact hBw31 | refine Below.drew ?_ | refine below_drewN ?_ _ | refine bset ?_ (by simp <;> omega) _ | refine bal ?_ _))
                  unfold AppPost
                  rw [HM.out.1, HN.out.2.2]
                  rintro e w32 ⟨(⟨hc0, hvl, u, rfl, hu⟩ | ⟨hno, rfl⟩), hb32⟩
                  · subst hvl
                    have hb3132 : Below w31.heap.size w31 w32 := bthen (by repeat (first | exact Below.refl _ _ | exact hBw31 | refine Below.drew ?_ | refine below_drewN ?_ _ | refine bset ?_ (by simp <;> omega) _ | refine bal ?_ _)) hb32
                    have hb432 := bthen hb431 hb3132
                    have hB32 := bthen hB4 hb432
                    have HU32 := Lib.hid (show PRow 0 w32 u (applyG a v) from hu.row.rebase (Nat.zero_le _))
                    obtain ⟨ua, uc, rfl⟩ := hu.ex
                    have HAL := Lib.hid (show (applyG a v).length = na from by rw [app_len, HN.out.1])
                    rw [HAL.out] at HU32 ⊢
                    have x32 := bkeep hb432 hx4
                    have y32 := bkeep hb432 hy4
                    have u32 := bkeep hb432 HU0.out
                    have zx32 := cell_lt x32
                    have zy32 := cell_lt y32
                    have zu32 := cell_lt u32
                    have hne : ((nv : Int) != (nv : Int)) = false := by simp
                    have RVC := Lib.hid (fun W (q : Below w32.heap.size w32 W) => RV.out W (bthen hB32 q))
                    have RAC := Lib.hid (fun lv W (q : Below w32.heap.size w32 W) (hlv : RRow 0 W lv v) => rapplyM_c (.slice (some ⟨gb, go, none⟩) na rc) lv a v 64 64 W (HR4.out.keep prs_rrow (bthen hb432 q)) hlv (by rw [HM.out.1]; exact HFA.out.2.2) (by rw [HM.out.1, HN.out.2.2]) (by rw [HN.out.1]; omega) (by rw [HM.out.1]; have := HFA.out.2.1; omega) HBD.out.1 HBD.out.2.2 (by rw [HM.out.1]; have := HFA.out.2.1; omega))
                    have L1C := Lib.hid (fun lv W (q : Below w32.heap.size w32 W) (hlv : RRow 0 W lv (applyG a v)) => mLine_c (.slice ua na uc) lv (applyG a v) 144 W (HU32.out.keep lims_int q) hlv (fun j => (app_bd (by rw [HM.out.1]; exact HFA.out.2.2) (by rw [HM.out.1, HN.out.2.2]) HBD.out.1 HBD.out.2.2 j).mono (by rw [HM.out.1]; have := HFA.out.2.1; omega)) (by decide) (by rw [HAL.out]; omega))
                    have L2C := Lib.hid (fun lv W (q : Below w32.heap.size w32 W) (hlv : RRow 0 W lv v) => mLine_c (.slice la nv lc) lv v 64 W (HL31.out.keep lims_int (bthen hb3132 q)) hlv HBD.out.2.2 (by decide) (by rw [HN.out.2.2]; omega))
                    have P1 := Lib.hid (fun W (q : Below w32.heap.size w32 W) => Pair.is_c (k := 64) (g := a) (vm := .agg #[.slice xa na xc]) (vr := .slice (some ⟨gb, go, none⟩) na rc) (w := W) ⟨HX4.out.keep (bthen hb432 q), HR4.out.keep prs_rrow (bthen hb432 q), by rw [HM.out.1]; exact HFA.out.2.2, by rw [HN.out.1]; omega, by rw [HM.out.1]; have := HFA.out.2.1; omega, HBD.out.1⟩ (by decide))
                    have P2 := Lib.hid (fun W (q : Below w32.heap.size w32 W) => Pair.is_c (k := 64) (g := b) (vm := .agg #[.slice ya nb yc]) (vr := .slice (some ⟨hb, ho, none⟩) nb sc) (w := W) ⟨HY4.out.keep (bthen hb432 q), HS4.out.keep prs_rrow (bthen hb432 q), by rw [HM.out.2]; exact HFB.out.2.2, by rw [HN.out.2.1]; omega, by rw [HM.out.2]; have := HFB.out.2.1; omega, HBD.out.2.1⟩ (by decide))
                    have hBe := Below.refl w32.heap.size w32
                    clear AC hu hb32 hb3132 hb431 hBw31 hx31 zx31
                    go_wp2_with fail
                    (with_reducible refine (RVC.out _ ?_).mono ?_); (repeat (first | exact Below.refl _ _ | exact hBe | refine Below.drew ?_ | refine below_drewN ?_ _ | refine bset ?_ (by simp <;> omega) _ | refine bal ?_ _))
                    rintro e w33 ⟨⟨rv, rfl, hrv⟩, hb33⟩
                    have hBd : Below w32.heap.size w32 w33 := bthen (by repeat (first | exact Below.refl _ _ | exact hBe | refine Below.drew ?_ | refine below_drewN ?_ _ | refine bset ?_ (by simp <;> omega) _ | refine bal ?_ _)) hb33
                    clear hBe
                    have hBe := hBd
                    clear hBd
                    have HRV := Lib.hid (show RRow 0 w33 rv v from hrv.row.rebase (Nat.zero_le _))
                    obtain ⟨rva, rvc, rfl⟩ := hrv.ex
                    rw [HN.out.2.2] at HRV ⊢
                    have hy33 := Below.refl w33.heap.size w33
                    clear hrv
                    go_wp2_with fail
                    (with_reducible refine (RAC.out _ _ ?_ (rrow_keep HRV.out ?_)).mono ?_); (repeat (first | exact Below.refl _ _ | exact hBe | refine Below.drew ?_ | refine below_drewN ?_ _ | refine bset ?_ (by simp <;> omega) _ | refine bal ?_ _))
                    (repeat (first | exact Below.refl _ _ | exact hy33 | refine Below.drew ?_ | refine below_drewN ?_ _ | refine bset ?_ (by simp <;> omega) _ | refine bal ?_ _))
                    rintro e w34 ⟨⟨ra, rfl, hra⟩, hb34⟩
                    have hBd : Below w32.heap.size w32 w34 := bthen (by repeat (first | exact Below.refl _ _ | exact hBe | refine Below.drew ?_ | refine below_drewN ?_ _ | refine bset ?_ (by simp <;> omega) _ | refine bal ?_ _)) hb34
                    clear hBe
                    have hBe := hBd
                    clear hBd
                    have HRA := Lib.hid hra
                    obtain ⟨raa, rac, rfl, -⟩ := hra.view
                    rw [HAL.out] at HRA ⊢
                    have hy34 := Below.refl w34.heap.size w34
                    clear hra
                    go_wp2_with fail
                    (with_reducible refine (L1C.out _ _ ?_ (rrow_keep HRA.out ?_)).mono ?_); (repeat (first | exact Below.refl _ _ | exact hBe | refine Below.drew ?_ | refine below_drewN ?_ _ | refine bset ?_ (by simp <;> omega) _ | refine bal ?_ _))
                    (repeat (first | exact Below.refl _ _ | exact hy34 | refine Below.drew ?_ | refine below_drewN ?_ _ | refine bset ?_ (by simp <;> omega) _ | refine bal ?_ _))
                    rintro e w35 ⟨rfl, hb35⟩
                    have hBd : Below w32.heap.size w32 w35 := bthen (by repeat (first | exact Below.refl _ _ | exact hBe | refine Below.drew ?_ | refine below_drewN ?_ _ | refine bset ?_ (by simp <;> omega) _ | refine bal ?_ _)) hb35
                    clear hBe
                    have hBe := hBd
                    clear hBd
                    go_wp2_with fail
                    (with_reducible refine (RVC.out _ ?_).mono ?_); (repeat (first | exact Below.refl _ _ | exact hBe | refine Below.drew ?_ | refine below_drewN ?_ _ | refine bset ?_ (by simp <;> omega) _ | refine bal ?_ _))
                    rintro e w36 ⟨⟨rv, rfl, hrv⟩, hb36⟩
                    have hBd : Below w32.heap.size w32 w36 := bthen (by repeat (first | exact Below.refl _ _ | exact hBe | refine Below.drew ?_ | refine below_drewN ?_ _ | refine bset ?_ (by simp <;> omega) _ | refine bal ?_ _)) hb36
                    clear hBe
                    have hBe := hBd
                    clear hBd
                    have HRV := Lib.hid (show RRow 0 w36 rv v from hrv.row.rebase (Nat.zero_le _))
                    obtain ⟨rva, rvc, rfl⟩ := hrv.ex
                    rw [HN.out.2.2] at HRV ⊢
                    have hy36 := Below.refl w36.heap.size w36
                    clear hrv
                    go_wp2_with fail
                    (with_reducible refine (L2C.out _ _ ?_ (rrow_keep HRV.out ?_)).mono ?_); (repeat (first | exact Below.refl _ _ | exact hBe | refine Below.drew ?_ | refine below_drewN ?_ _ | refine bset ?_ (by simp <;> omega) _ | refine bal ?_ _))
                    (repeat (first | exact Below.refl _ _ | exact hy36 | refine Below.drew ?_ | refine below_drewN ?_ _ | refine bset ?_ (by simp <;> omega) _ | refine bal ?_ _))
                    rintro e w37 ⟨rfl, hb37⟩
                    have hBd : Below w32.heap.size w32 w37 := bthen (by repeat (first | exact Below.refl _ _ | exact hBe | refine Below.drew ?_ | refine below_drewN ?_ _ | refine bset ?_ (by simp <;> omega) _ | refine bal ?_ _)) hb37
                    clear hBe
                    have hBe := hBd
                    clear hBd
                    have x37 := bkeep hBe x32
                    have y37 := bkeep hBe y32
                    have zx37 := cell_lt x37
                    have zy37 := cell_lt y37
                    go_wp2_with fail
                    (with_reducible refine (P1.out _ ?_).mono ?_); (repeat (first | exact Below.refl _ _ | exact hBe | refine Below.drew ?_ | refine below_drewN ?_ _ | refine bset ?_ (by simp <;> omega) _ | refine bal ?_ _))
                    rintro e w38 ⟨rfl, hb38⟩
                    have hBd : Below w32.heap.size w32 w38 := bthen (by repeat (first | exact Below.refl _ _ | exact hBe | refine Below.drew ?_ | refine below_drewN ?_ _ | refine bset ?_ (by simp <;> omega) _ | refine bal ?_ _)) hb38
                    clear hBe
                    have hBe := hBd
                    clear hBd
                    have x38 := bkeep hBe x32
                    have y38 := bkeep hBe y32
                    have zx38 := cell_lt x38
                    have zy38 := cell_lt y38
                    go_wp2_with fail
                    (with_reducible refine (P2.out _ ?_).mono ?_); (repeat (first | exact Below.refl _ _ | exact hBe | refine Below.drew ?_ | refine below_drewN ?_ _ | refine bset ?_ (by simp <;> omega) _ | refine bal ?_ _))
                    rintro e w39 ⟨rfl, hb39⟩
                    have hBd : Below w32.heap.size w32 w39 := bthen (by repeat (first | exact Below.refl _ _ | exact hBe | refine Below.drew ?_ | refine below_drewN ?_ _ | refine bset ?_ (by simp <;> omega) _ | refine bal ?_ _)) hb39
                    clear hBe
                    have hBe := hBd
                    clear hBd
                    have hBf := bthen hB32 hBe
                    go_wp2
                    go_ret
                    exact ⟨rfl, by repeat (first | exact Below.refl _ _ | exact hBf | refine Below.drew ?_ | refine below_drewN ?_ _ | refine bset ?_ (by simp <;> omega) _ | refine bal ?_ _)⟩
                  · have hb3132 : Below w31.heap.size w31 w32 := bthen (by repeat (first | exact Below.refl _ _ | exact hBw31 | refine Below.drew ?_ | refine below_drewN ?_ _ | refine bset ?_ (by simp <;> omega) _ | refine bal ?_ _)) hb32
                    have hb432 := bthen hb431 hb3132
                    have hB32 := bthen hB4 hb432
                    have u32 := bkeep hb432 HU0.out
                    have zu32 := cell_lt u32
                    have hne : ((nv : Int) != (ma : Int)) = true := by
                      have h1 := HFA.out.1
                      simp only [bne_iff_ne, ne_eq]
                      intro h2
                      exact hno ⟨by omega, by omega⟩
                    clear hno AC hb32
                    have hq : ∀ w, (binOp .eql 59 (.slice none 0 0) (.slice none 0 0)).run Tryz.prog w = .ok (.bool true) w := fun w => Lib.run_eql_slice_nil w 59 36 none 0 0 0 0 Tryz.underlying59
                    go_wp2
                    go_ret
                    exact ⟨rfl, by repeat (first | exact Below.refl _ _ | exact hB32 | refine Below.drew ?_ | refine below_drewN ?_ _ | refine bset ?_ (by simp <;> omega) _ | refine bal ?_ _)⟩
theorem matrixReckons_u (va : Value) (a : Grid) (vb : Value) (b : Grid) (vv : Value) (v : List Int) (c : Int) (w : World) (ha : GridI w va a ∧ sumG a ≤ 1048576 ∧ a.length ≤ 1048576) (hb : GridI w vb b ∧ sumG b ≤ 1048576 ∧ b.length ≤ 1048576) (hv : RowI w vv v ∧ v.length ≤ 1048576) (hc : (Lit.int .i64 c).wf = true) :
    Calls Tryz.prog 5 #[va, vb, vv, .int .i64 c] w fun e w' => e = .returned (.bool true) ∧ Below w.heap.size w w' :=
  matrixReckons_h va vb vv a b v c w ha.1 hb.1 hv.1 (i64_of hc) ha.2.2 hb.2.2 (fun k hk => Nat.le_trans (sumG_le hk) ha.2.1) (fun k hk => Nat.le_trans (sumG_le hk) hb.2.1) hv.2
end Go.Proofs.YthaohpfbengabaaGreatDoor

