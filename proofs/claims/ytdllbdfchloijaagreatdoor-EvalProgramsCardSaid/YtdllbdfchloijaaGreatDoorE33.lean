/- EvalHolds: whether any program evaluates so many coefficients at any points. -/
import Derived.Test.YtdllbdfchloijaaGreatDoorE31
import Derived.Test.YtdllbdfchloijaaGreatDoorE32
import Derived.Test.YtdllbdfchloijaaGreatDoorE26
set_option linter.unusedVariables false
set_option linter.unusedSimpArgs false
namespace Go.Proofs.YtdllbdfchloijaaGreatDoor
open Pt
open Num
open Go.ChangeShapes Go.WideShapes Go.ChangeAt Go.RowKit
set_option linter.unusedVariables false
set_option linter.unusedSimpArgs false
attribute [local go_sem ↓] Go.wp_at_zero Go.wp_at_succ
theorem rright_v (ins regs : Int) (ca oa : Option Addr) (cc oc : Nat) (code : List Ins) (outs : List Int) (b : Bool) (w : World) (hc : InsV w ca cc code) (ho : IntsV w oa oc outs) (hb : b = true ↔ ProgOk ins regs code outs) :
    Calls Tryz.prog 12 #[.agg #[.int .i64 ins, .int .i64 regs, .slice ca code.length cc, .slice oa outs.length oc]] w fun e w' => e = .returned (.bool b) ∧ Below w.heap.size w w' := by
  refine (rright_c ins regs ca oa cc oc code outs w hc ho).mono ?_
  rintro e w' ⟨b', rfl, h, hbe⟩
  refine ⟨ret_bool ?_, hbe⟩
  rw [Bool.eq_iff_iff, h, hb]
set_option maxRecDepth 100000 in
set_option maxHeartbeats 16000000 in
theorem evalHolds_h (ins regs : Int) (ca oa : Option Addr) (cc oc : Nat) (code : List Ins) (outs : List Int) (k : Int) (a : Option Addr) (n cap : Nat) (f : Nat → Int × Int) (w : World) (hc : InsV w ca cc code) (ho : IntsV w oa oc outs) (h : PtsV w a n cap f) (hn : n ≤ 4611686018427387904) (hT : Tz64 w) :
    Calls Tryz.prog 4 #[.agg #[.int .i64 ins, .int .i64 regs, .slice ca code.length cc, .slice oa outs.length oc], .int .i64 k, .slice a n cap] w fun e w' => e = .returned (.bool true) ∧ Below w.heap.size w w' := by
  have hB := Below.refl w.heap.size w
  have HP := Lib.hid h
  have HC := Lib.hid (And.intro hc ho)
  have WC := Lib.hid (fun V (q : Below w.heap.size w V) => works11_c V (hT.keep q))
  clear h hc ho hT
  go_enter Tryz.func4, Tryz.ntmps4
  go_wp2_with fail
  (with_reducible refine (WC.out _ ?_).mono ?_); (repeat (first | exact Below.refl _ _ | exact hB | refine Below.drew ?_ | refine below_drewN ?_ _ | refine bset ?_ (by simp <;> omega) _ | refine bal ?_ _))
  rintro e w1 ⟨rfl, hb1⟩
  have p0 : w1.cell? ⟨w.heap.size, 0, none⟩ = some (.int .i64 ins) := bkc hb1
  have zp0 := cell_lt p0
  have p1 : w1.cell? ⟨w.heap.size, 1, none⟩ = some (.int .i64 regs) := bkc hb1
  have p2 : w1.cell? ⟨w.heap.size, 2, none⟩ = some (.slice ca code.length cc) := bkc hb1
  have p3 : w1.cell? ⟨w.heap.size, 3, none⟩ = some (.slice oa outs.length oc) := bkc hb1
  have hB : Below w.heap.size w w1 := bthen (by repeat (first | exact Below.refl _ _ | exact hB | refine Below.drew ?_ | refine below_drewN ?_ _ | refine bset ?_ (by simp <;> omega) _ | refine bal ?_ _)) hb1
  have hz : w.heap.size ≤ w1.heap.size := hB.size
  have hB1 := hB
  have HB1 := Lib.hid hB
  have HPV := Lib.hid (show ∀ V, Below w1.heap.size w1 V → V.cell? ⟨w.heap.size, 0, none⟩ = some (.int .i64 ins) ∧ V.cell? ⟨w.heap.size, 1, none⟩ = some (.int .i64 regs) ∧ V.cell? ⟨w.heap.size, 2, none⟩ = some (.slice ca code.length cc) ∧ V.cell? ⟨w.heap.size, 3, none⟩ = some (.slice oa outs.length oc) from fun V q => ⟨bkeep q p0, bkeep q p1, bkeep q p2, bkeep q p3⟩)
  have hBw := Below.refl w1.heap.size w1
  clear WC hb1 hB
  by_cases b1 : (200 : Int) < (code.length : Int)
  · by_cases b2 : (code.length : Int) ≤ 16384
    ·
      go_wp2
      go_ret
      exact ⟨rfl, by repeat (first | exact Below.refl _ _ | exact hB1 | refine Below.drew ?_ | refine below_drewN ?_ _ | refine bset ?_ (by simp <;> omega) _ | refine bal ?_ _)⟩
    by_cases b3 : 60 < regs
    · by_cases b4 : regs ≤ 128
      ·
        go_wp2
        go_ret
        exact ⟨rfl, by repeat (first | exact Below.refl _ _ | exact hB1 | refine Below.drew ?_ | refine below_drewN ?_ _ | refine bset ?_ (by simp <;> omega) _ | refine bal ?_ _)⟩
      by_cases hr : 1 ≤ k ∧ k ≤ 8 ∧ PtsOk n f
      rotate_left
      · have HRB := Lib.hid (show rightB k n f = false from by rw [Bool.eq_false_iff]; exact fun q => hr ((rightB_iff k n f).1 q))
        have EC := Lib.hid (fun V (qB : Below w1.heap.size w1 V) => evals_no (.agg #[.int .i64 ins, .int .i64 regs, .slice ca code.length cc, .slice oa outs.length oc]) ins regs _ _ k a n cap f V (HP.out.keep (bthen HB1.out qB)) hn rfl ⟨_, _, _, rfl⟩ ⟨_, _, _, rfl⟩ hr)
        have RC := Lib.hid (fun V (qB : Below w1.heap.size w1 V) => rright11_c k a n cap f V (HP.out.keep (bthen HB1.out qB)) hn)
        rw [HRB.out] at RC
        clear hr
        go_wp2_with fail
        (with_reducible refine (EC.out _ ?_).mono ?_); (repeat (first | exact Below.refl _ _ | exact hBw | refine Below.drew ?_ | refine below_drewN ?_ _ | refine bset ?_ (by simp <;> omega) _ | refine bal ?_ _))
        rintro e w2 ⟨rfl, hb2⟩
        have hk2 : Below w1.heap.size w1 w2 := bthen (by repeat (first | exact Below.refl _ _ | exact hBw | refine Below.drew ?_ | refine below_drewN ?_ _ | refine bset ?_ (by simp <;> omega) _ | refine bal ?_ _)) hb2
        clear EC hb2 hBw
        go_wp2_with fail
        (with_reducible refine (RC.out _ ?_).mono ?_); (repeat (first | exact Below.refl _ _ | exact hk2 | refine Below.drew ?_ | refine below_drewN ?_ _ | refine bset ?_ (by simp <;> omega) _ | refine bal ?_ _))
        rintro e w3 ⟨rfl, hb3⟩
        have hk3 : Below w1.heap.size w1 w3 := bthen (by repeat (first | exact Below.refl _ _ | exact hk2 | refine Below.drew ?_ | refine below_drewN ?_ _ | refine bset ?_ (by simp <;> omega) _ | refine bal ?_ _)) hb3
        have hB := bthen HB1.out hk3
        clear RC hb3 hk2 hk3
        go_wp2
        go_ret
        exact ⟨rfl, by repeat (first | exact Below.refl _ _ | exact hB | refine Below.drew ?_ | refine below_drewN ?_ _ | refine bset ?_ (by simp <;> omega) _ | refine bal ?_ _)⟩
      obtain ⟨kn, rfl⟩ := Int.eq_ofNat_of_zero_le (show 0 ≤ k by omega)
      have HR := Lib.hid hr
      have hk1 : 1 ≤ kn := by omega
      have hk8 : kn ≤ 8 := by omega
      have HRB := Lib.hid ((rightB_iff (kn : Int) n f).2 hr)
      clear hr
      have EC := Lib.hid (fun V (qB : Below w1.heap.size w1 V) => evals_c ins regs ca oa cc oc code outs kn a n cap f V (HC.out.1.keep (bthen HB1.out qB)) (HC.out.2.keep (bthen HB1.out qB)) (HP.out.keep (bthen HB1.out qB)) hk1 hk8 HR.out.2.2)
      have RC := Lib.hid (fun V (qB : Below w1.heap.size w1 V) => rright11_c (kn : Int) a n cap f V (HP.out.keep (bthen HB1.out qB)) hn)
      rw [HRB.out] at RC
      go_wp2_with fail
      (with_reducible refine (EC.out _ ?_).mono ?_); (repeat (first | exact Below.refl _ _ | exact hBw | refine Below.drew ?_ | refine below_drewN ?_ _ | refine bset ?_ (by simp <;> omega) _ | refine bal ?_ _))
      intro e w2 hE
      obtain ⟨hE, hb2⟩ := hE
      have hk2 : Below w1.heap.size w1 w2 := bthen (by repeat (first | exact Below.refl _ _ | exact hBw | refine Below.drew ?_ | refine below_drewN ?_ _ | refine bset ?_ (by simp <;> omega) _ | refine bal ?_ _)) hb2
      obtain ⟨p0, p1, p2, p3⟩ := HPV.out w2 hk2
      have zp2 := cell_lt p0
      have hBw2 := Below.refl w2.heap.size w2
      clear EC hb2 hBw
      rcases hE with ⟨hno, rfl⟩ | ⟨hok, his, rfl⟩ | ⟨hok, his, rfl⟩
      · have QC := Lib.hid (fun V (qB : Below w1.heap.size w1 V) => rright_v ins regs ca oa cc oc code outs false V (HC.out.1.keep (bthen HB1.out qB)) (HC.out.2.keep (bthen HB1.out qB)) ⟨(fun h => by cases h), fun h => absurd h hno⟩)
        clear hno
        go_wp2_with fail
        (with_reducible refine (RC.out _ ?_).mono ?_); (repeat (first | exact Below.refl _ _ | exact hk2 | refine Below.drew ?_ | refine below_drewN ?_ _ | refine bset ?_ (by simp <;> omega) _ | refine bal ?_ _))
        rintro e w3 ⟨rfl, hb3⟩
        have hk3 : Below w1.heap.size w1 w3 := bthen (by repeat (first | exact Below.refl _ _ | exact hk2 | refine Below.drew ?_ | refine below_drewN ?_ _ | refine bset ?_ (by simp <;> omega) _ | refine bal ?_ _)) hb3
        obtain ⟨p0, p1, p2, p3⟩ := HPV.out w3 hk3
        have zp3 := cell_lt p0
        clear RC hb3 hk2
        go_wp2_with fail
        (with_reducible refine (QC.out _ ?_).mono ?_); (repeat (first | exact Below.refl _ _ | exact hk3 | refine Below.drew ?_ | refine below_drewN ?_ _ | refine bset ?_ (by simp <;> omega) _ | refine bal ?_ _))
        rintro e w4 ⟨rfl, hb4⟩
        have hk4 : Below w1.heap.size w1 w4 := bthen (by repeat (first | exact Below.refl _ _ | exact hk3 | refine Below.drew ?_ | refine below_drewN ?_ _ | refine bset ?_ (by simp <;> omega) _ | refine bal ?_ _)) hb4
        have hB := bthen HB1.out hk4
        clear QC hb4 hk3 hk4
        go_wp2
        go_ret
        exact ⟨rfl, by repeat (first | exact Below.refl _ _ | exact hB | refine Below.drew ?_ | refine below_drewN ?_ _ | refine bset ?_ (by simp <;> omega) _ | refine bal ?_ _)⟩
      all_goals
        obtain ⟨R, rfl⟩ := Int.eq_ofNat_of_zero_le (show 0 ≤ regs by have := hok.i1; have := hok.i2; omega)
        have QC := Lib.hid (fun V (qB : Below w1.heap.size w1 V) => rright_v ins (R : Int) ca oa cc oc code outs true V (HC.out.1.keep (bthen HB1.out qB)) (HC.out.2.keep (bthen HB1.out qB)) ⟨fun _ => hok, fun _ => rfl⟩)
        have VC := Lib.hid (fun V (qB : Below w1.heap.size w1 V) => revals_c ins R ca oa cc oc code outs kn a n cap f V (HC.out.1.keep (bthen HB1.out qB)) (HC.out.2.keep (bthen HB1.out qB)) (HP.out.keep (bthen HB1.out qB)) hk1 hk8 HR.out.2.2 hok)
        have HIS := Lib.hid his
        clear hok his
        go_wp2_with fail
        (with_reducible refine (RC.out _ ?_).mono ?_); (repeat (first | exact Below.refl _ _ | exact hk2 | refine Below.drew ?_ | refine below_drewN ?_ _ | refine bset ?_ (by simp <;> omega) _ | refine bal ?_ _))
        rintro e w3 ⟨rfl, hb3⟩
        have hk3 : Below w1.heap.size w1 w3 := bthen (by repeat (first | exact Below.refl _ _ | exact hk2 | refine Below.drew ?_ | refine below_drewN ?_ _ | refine bset ?_ (by simp <;> omega) _ | refine bal ?_ _)) hb3
        obtain ⟨p0, p1, p2, p3⟩ := HPV.out w3 hk3
        have zp3 := cell_lt p0
        clear RC hb3 hk2
        go_wp2_with fail
        (with_reducible refine (QC.out _ ?_).mono ?_); (repeat (first | exact Below.refl _ _ | exact hk3 | refine Below.drew ?_ | refine below_drewN ?_ _ | refine bset ?_ (by simp <;> omega) _ | refine bal ?_ _))
        rintro e w4 ⟨rfl, hb4⟩
        have hk4 : Below w1.heap.size w1 w4 := bthen (by repeat (first | exact Below.refl _ _ | exact hk3 | refine Below.drew ?_ | refine below_drewN ?_ _ | refine bset ?_ (by simp <;> omega) _ | refine bal ?_ _)) hb4
        obtain ⟨p0, p1, p2, p3⟩ := HPV.out w4 hk4
        have zp4 := cell_lt p0
        clear QC hb4 hk3
        go_wp2_with fail
        (with_reducible refine (VC.out _ ?_).mono ?_); (repeat (first | exact Below.refl _ _ | exact hk4 | refine Below.drew ?_ | refine below_drewN ?_ _ | refine bset ?_ (by simp <;> omega) _ | refine bal ?_ _))
        intro e w5 hV
        obtain ⟨hV, hb5⟩ := hV
        have hk5 : Below w1.heap.size w1 w5 := bthen (by repeat (first | exact Below.refl _ _ | exact hk4 | refine Below.drew ?_ | refine below_drewN ?_ _ | refine bset ?_ (by simp <;> omega) _ | refine bal ?_ _)) hb5
        have hB := bthen HB1.out hk5
        clear VC hb5 hk4 hk5
        rcases hV with ⟨hi2, rfl⟩ | ⟨hi2, rfl⟩
        all_goals
          first
          | exact absurd HIS.out hi2
          | exact absurd hi2 HIS.out
          | (clear hi2; go_wp2; go_ret; exact ⟨rfl, by repeat (first | exact Below.refl _ _ | exact hB | refine Below.drew ?_ | refine below_drewN ?_ _ | refine bset ?_ (by simp <;> omega) _ | refine bal ?_ _)⟩)
    by_cases hr : 1 ≤ k ∧ k ≤ 8 ∧ PtsOk n f
    rotate_left
    · have HRB := Lib.hid (show rightB k n f = false from by rw [Bool.eq_false_iff]; exact fun q => hr ((rightB_iff k n f).1 q))
      have EC := Lib.hid (fun V (qB : Below w1.heap.size w1 V) => evals_no (.agg #[.int .i64 ins, .int .i64 regs, .slice ca code.length cc, .slice oa outs.length oc]) ins regs _ _ k a n cap f V (HP.out.keep (bthen HB1.out qB)) hn rfl ⟨_, _, _, rfl⟩ ⟨_, _, _, rfl⟩ hr)
      have RC := Lib.hid (fun V (qB : Below w1.heap.size w1 V) => rright11_c k a n cap f V (HP.out.keep (bthen HB1.out qB)) hn)
      rw [HRB.out] at RC
      clear hr
      go_wp2_with fail
      (with_reducible refine (EC.out _ ?_).mono ?_); (repeat (first | exact Below.refl _ _ | exact hBw | refine Below.drew ?_ | refine below_drewN ?_ _ | refine bset ?_ (by simp <;> omega) _ | refine bal ?_ _))
      rintro e w2 ⟨rfl, hb2⟩
      have hk2 : Below w1.heap.size w1 w2 := bthen (by repeat (first | exact Below.refl _ _ | exact hBw | refine Below.drew ?_ | refine below_drewN ?_ _ | refine bset ?_ (by simp <;> omega) _ | refine bal ?_ _)) hb2
      clear EC hb2 hBw
      go_wp2_with fail
      (with_reducible refine (RC.out _ ?_).mono ?_); (repeat (first | exact Below.refl _ _ | exact hk2 | refine Below.drew ?_ | refine below_drewN ?_ _ | refine bset ?_ (by simp <;> omega) _ | refine bal ?_ _))
      rintro e w3 ⟨rfl, hb3⟩
      have hk3 : Below w1.heap.size w1 w3 := bthen (by repeat (first | exact Below.refl _ _ | exact hk2 | refine Below.drew ?_ | refine below_drewN ?_ _ | refine bset ?_ (by simp <;> omega) _ | refine bal ?_ _)) hb3
      have hB := bthen HB1.out hk3
      clear RC hb3 hk2 hk3
      go_wp2
      go_ret
      exact ⟨rfl, by repeat (first | exact Below.refl _ _ | exact hB | refine Below.drew ?_ | refine below_drewN ?_ _ | refine bset ?_ (by simp <;> omega) _ | refine bal ?_ _)⟩
    obtain ⟨kn, rfl⟩ := Int.eq_ofNat_of_zero_le (show 0 ≤ k by omega)
    have HR := Lib.hid hr
    have hk1 : 1 ≤ kn := by omega
    have hk8 : kn ≤ 8 := by omega
    have HRB := Lib.hid ((rightB_iff (kn : Int) n f).2 hr)
    clear hr
    have EC := Lib.hid (fun V (qB : Below w1.heap.size w1 V) => evals_c ins regs ca oa cc oc code outs kn a n cap f V (HC.out.1.keep (bthen HB1.out qB)) (HC.out.2.keep (bthen HB1.out qB)) (HP.out.keep (bthen HB1.out qB)) hk1 hk8 HR.out.2.2)
    have RC := Lib.hid (fun V (qB : Below w1.heap.size w1 V) => rright11_c (kn : Int) a n cap f V (HP.out.keep (bthen HB1.out qB)) hn)
    rw [HRB.out] at RC
    go_wp2_with fail
    (with_reducible refine (EC.out _ ?_).mono ?_); (repeat (first | exact Below.refl _ _ | exact hBw | refine Below.drew ?_ | refine below_drewN ?_ _ | refine bset ?_ (by simp <;> omega) _ | refine bal ?_ _))
    intro e w2 hE
    obtain ⟨hE, hb2⟩ := hE
    have hk2 : Below w1.heap.size w1 w2 := bthen (by repeat (first | exact Below.refl _ _ | exact hBw | refine Below.drew ?_ | refine below_drewN ?_ _ | refine bset ?_ (by simp <;> omega) _ | refine bal ?_ _)) hb2
    obtain ⟨p0, p1, p2, p3⟩ := HPV.out w2 hk2
    have zp2 := cell_lt p0
    have hBw2 := Below.refl w2.heap.size w2
    clear EC hb2 hBw
    rcases hE with ⟨hno, rfl⟩ | ⟨hok, his, rfl⟩ | ⟨hok, his, rfl⟩
    · have QC := Lib.hid (fun V (qB : Below w1.heap.size w1 V) => rright_v ins regs ca oa cc oc code outs false V (HC.out.1.keep (bthen HB1.out qB)) (HC.out.2.keep (bthen HB1.out qB)) ⟨(fun h => by cases h), fun h => absurd h hno⟩)
      clear hno
      go_wp2_with fail
      (with_reducible refine (RC.out _ ?_).mono ?_); (repeat (first | exact Below.refl _ _ | exact hk2 | refine Below.drew ?_ | refine below_drewN ?_ _ | refine bset ?_ (by simp <;> omega) _ | refine bal ?_ _))
      rintro e w3 ⟨rfl, hb3⟩
      have hk3 : Below w1.heap.size w1 w3 := bthen (by repeat (first | exact Below.refl _ _ | exact hk2 | refine Below.drew ?_ | refine below_drewN ?_ _ | refine bset ?_ (by simp <;> omega) _ | refine bal ?_ _)) hb3
      obtain ⟨p0, p1, p2, p3⟩ := HPV.out w3 hk3
      have zp3 := cell_lt p0
      clear RC hb3 hk2
      go_wp2_with fail
      (with_reducible refine (QC.out _ ?_).mono ?_); (repeat (first | exact Below.refl _ _ | exact hk3 | refine Below.drew ?_ | refine below_drewN ?_ _ | refine bset ?_ (by simp <;> omega) _ | refine bal ?_ _))
      rintro e w4 ⟨rfl, hb4⟩
      have hk4 : Below w1.heap.size w1 w4 := bthen (by repeat (first | exact Below.refl _ _ | exact hk3 | refine Below.drew ?_ | refine below_drewN ?_ _ | refine bset ?_ (by simp <;> omega) _ | refine bal ?_ _)) hb4
      have hB := bthen HB1.out hk4
      clear QC hb4 hk3 hk4
      go_wp2
      go_ret
      exact ⟨rfl, by repeat (first | exact Below.refl _ _ | exact hB | refine Below.drew ?_ | refine below_drewN ?_ _ | refine bset ?_ (by simp <;> omega) _ | refine bal ?_ _)⟩
    all_goals
      obtain ⟨R, rfl⟩ := Int.eq_ofNat_of_zero_le (show 0 ≤ regs by have := hok.i1; have := hok.i2; omega)
      have QC := Lib.hid (fun V (qB : Below w1.heap.size w1 V) => rright_v ins (R : Int) ca oa cc oc code outs true V (HC.out.1.keep (bthen HB1.out qB)) (HC.out.2.keep (bthen HB1.out qB)) ⟨fun _ => hok, fun _ => rfl⟩)
      have VC := Lib.hid (fun V (qB : Below w1.heap.size w1 V) => revals_c ins R ca oa cc oc code outs kn a n cap f V (HC.out.1.keep (bthen HB1.out qB)) (HC.out.2.keep (bthen HB1.out qB)) (HP.out.keep (bthen HB1.out qB)) hk1 hk8 HR.out.2.2 hok)
      have HIS := Lib.hid his
      clear hok his
      go_wp2_with fail
      (with_reducible refine (RC.out _ ?_).mono ?_); (repeat (first | exact Below.refl _ _ | exact hk2 | refine Below.drew ?_ | refine below_drewN ?_ _ | refine bset ?_ (by simp <;> omega) _ | refine bal ?_ _))
      rintro e w3 ⟨rfl, hb3⟩
      have hk3 : Below w1.heap.size w1 w3 := bthen (by repeat (first | exact Below.refl _ _ | exact hk2 | refine Below.drew ?_ | refine below_drewN ?_ _ | refine bset ?_ (by simp <;> omega) _ | refine bal ?_ _)) hb3
      obtain ⟨p0, p1, p2, p3⟩ := HPV.out w3 hk3
      have zp3 := cell_lt p0
      clear RC hb3 hk2
      go_wp2_with fail
      (with_reducible refine (QC.out _ ?_).mono ?_); (repeat (first | exact Below.refl _ _ | exact hk3 | refine Below.drew ?_ | refine below_drewN ?_ _ | refine bset ?_ (by simp <;> omega) _ | refine bal ?_ _))
      rintro e w4 ⟨rfl, hb4⟩
      have hk4 : Below w1.heap.size w1 w4 := bthen (by repeat (first | exact Below.refl _ _ | exact hk3 | refine Below.drew ?_ | refine below_drewN ?_ _ | refine bset ?_ (by simp <;> omega) _ | refine bal ?_ _)) hb4
      obtain ⟨p0, p1, p2, p3⟩ := HPV.out w4 hk4
      have zp4 := cell_lt p0
      clear QC hb4 hk3
      go_wp2_with fail
      (with_reducible refine (VC.out _ ?_).mono ?_); (repeat (first | exact Below.refl _ _ | exact hk4 | refine Below.drew ?_ | refine below_drewN ?_ _ | refine bset ?_ (by simp <;> omega) _ | refine bal ?_ _))
      intro e w5 hV
      obtain ⟨hV, hb5⟩ := hV
      have hk5 : Below w1.heap.size w1 w5 := bthen (by repeat (first | exact Below.refl _ _ | exact hk4 | refine Below.drew ?_ | refine below_drewN ?_ _ | refine bset ?_ (by simp <;> omega) _ | refine bal ?_ _)) hb5
      have hB := bthen HB1.out hk5
      clear VC hb5 hk4 hk5
      rcases hV with ⟨hi2, rfl⟩ | ⟨hi2, rfl⟩
      all_goals
        first
        | exact absurd HIS.out hi2
        | exact absurd hi2 HIS.out
        | (clear hi2; go_wp2; go_ret; exact ⟨rfl, by repeat (first | exact Below.refl _ _ | exact hB | refine Below.drew ?_ | refine below_drewN ?_ _ | refine bset ?_ (by simp <;> omega) _ | refine bal ?_ _)⟩)
  by_cases b3 : 60 < regs
  · by_cases b4 : regs ≤ 128
    ·
      go_wp2
      go_ret
      exact ⟨rfl, by repeat (first | exact Below.refl _ _ | exact hB1 | refine Below.drew ?_ | refine below_drewN ?_ _ | refine bset ?_ (by simp <;> omega) _ | refine bal ?_ _)⟩
    by_cases hr : 1 ≤ k ∧ k ≤ 8 ∧ PtsOk n f
    rotate_left
    · have HRB := Lib.hid (show rightB k n f = false from by rw [Bool.eq_false_iff]; exact fun q => hr ((rightB_iff k n f).1 q))
      have EC := Lib.hid (fun V (qB : Below w1.heap.size w1 V) => evals_no (.agg #[.int .i64 ins, .int .i64 regs, .slice ca code.length cc, .slice oa outs.length oc]) ins regs _ _ k a n cap f V (HP.out.keep (bthen HB1.out qB)) hn rfl ⟨_, _, _, rfl⟩ ⟨_, _, _, rfl⟩ hr)
      have RC := Lib.hid (fun V (qB : Below w1.heap.size w1 V) => rright11_c k a n cap f V (HP.out.keep (bthen HB1.out qB)) hn)
      rw [HRB.out] at RC
      clear hr
      go_wp2_with fail
      (with_reducible refine (EC.out _ ?_).mono ?_); (repeat (first | exact Below.refl _ _ | exact hBw | refine Below.drew ?_ | refine below_drewN ?_ _ | refine bset ?_ (by simp <;> omega) _ | refine bal ?_ _))
      rintro e w2 ⟨rfl, hb2⟩
      have hk2 : Below w1.heap.size w1 w2 := bthen (by repeat (first | exact Below.refl _ _ | exact hBw | refine Below.drew ?_ | refine below_drewN ?_ _ | refine bset ?_ (by simp <;> omega) _ | refine bal ?_ _)) hb2
      clear EC hb2 hBw
      go_wp2_with fail
      (with_reducible refine (RC.out _ ?_).mono ?_); (repeat (first | exact Below.refl _ _ | exact hk2 | refine Below.drew ?_ | refine below_drewN ?_ _ | refine bset ?_ (by simp <;> omega) _ | refine bal ?_ _))
      rintro e w3 ⟨rfl, hb3⟩
      have hk3 : Below w1.heap.size w1 w3 := bthen (by repeat (first | exact Below.refl _ _ | exact hk2 | refine Below.drew ?_ | refine below_drewN ?_ _ | refine bset ?_ (by simp <;> omega) _ | refine bal ?_ _)) hb3
      have hB := bthen HB1.out hk3
      clear RC hb3 hk2 hk3
      go_wp2
      go_ret
      exact ⟨rfl, by repeat (first | exact Below.refl _ _ | exact hB | refine Below.drew ?_ | refine below_drewN ?_ _ | refine bset ?_ (by simp <;> omega) _ | refine bal ?_ _)⟩
    obtain ⟨kn, rfl⟩ := Int.eq_ofNat_of_zero_le (show 0 ≤ k by omega)
    have HR := Lib.hid hr
    have hk1 : 1 ≤ kn := by omega
    have hk8 : kn ≤ 8 := by omega
    have HRB := Lib.hid ((rightB_iff (kn : Int) n f).2 hr)
    clear hr
    have EC := Lib.hid (fun V (qB : Below w1.heap.size w1 V) => evals_c ins regs ca oa cc oc code outs kn a n cap f V (HC.out.1.keep (bthen HB1.out qB)) (HC.out.2.keep (bthen HB1.out qB)) (HP.out.keep (bthen HB1.out qB)) hk1 hk8 HR.out.2.2)
    have RC := Lib.hid (fun V (qB : Below w1.heap.size w1 V) => rright11_c (kn : Int) a n cap f V (HP.out.keep (bthen HB1.out qB)) hn)
    rw [HRB.out] at RC
    go_wp2_with fail
    (with_reducible refine (EC.out _ ?_).mono ?_); (repeat (first | exact Below.refl _ _ | exact hBw | refine Below.drew ?_ | refine below_drewN ?_ _ | refine bset ?_ (by simp <;> omega) _ | refine bal ?_ _))
    intro e w2 hE
    obtain ⟨hE, hb2⟩ := hE
    have hk2 : Below w1.heap.size w1 w2 := bthen (by repeat (first | exact Below.refl _ _ | exact hBw | refine Below.drew ?_ | refine below_drewN ?_ _ | refine bset ?_ (by simp <;> omega) _ | refine bal ?_ _)) hb2
    obtain ⟨p0, p1, p2, p3⟩ := HPV.out w2 hk2
    have zp2 := cell_lt p0
    have hBw2 := Below.refl w2.heap.size w2
    clear EC hb2 hBw
    rcases hE with ⟨hno, rfl⟩ | ⟨hok, his, rfl⟩ | ⟨hok, his, rfl⟩
    · have QC := Lib.hid (fun V (qB : Below w1.heap.size w1 V) => rright_v ins regs ca oa cc oc code outs false V (HC.out.1.keep (bthen HB1.out qB)) (HC.out.2.keep (bthen HB1.out qB)) ⟨(fun h => by cases h), fun h => absurd h hno⟩)
      clear hno
      go_wp2_with fail
      (with_reducible refine (RC.out _ ?_).mono ?_); (repeat (first | exact Below.refl _ _ | exact hk2 | refine Below.drew ?_ | refine below_drewN ?_ _ | refine bset ?_ (by simp <;> omega) _ | refine bal ?_ _))
      rintro e w3 ⟨rfl, hb3⟩
      have hk3 : Below w1.heap.size w1 w3 := bthen (by repeat (first | exact Below.refl _ _ | exact hk2 | refine Below.drew ?_ | refine below_drewN ?_ _ | refine bset ?_ (by simp <;> omega) _ | refine bal ?_ _)) hb3
      obtain ⟨p0, p1, p2, p3⟩ := HPV.out w3 hk3
      have zp3 := cell_lt p0
      clear RC hb3 hk2
      go_wp2_with fail
      (with_reducible refine (QC.out _ ?_).mono ?_); (repeat (first | exact Below.refl _ _ | exact hk3 | refine Below.drew ?_ | refine below_drewN ?_ _ | refine bset ?_ (by simp <;> omega) _ | refine bal ?_ _))
      rintro e w4 ⟨rfl, hb4⟩
      have hk4 : Below w1.heap.size w1 w4 := bthen (by repeat (first | exact Below.refl _ _ | exact hk3 | refine Below.drew ?_ | refine below_drewN ?_ _ | refine bset ?_ (by simp <;> omega) _ | refine bal ?_ _)) hb4
      have hB := bthen HB1.out hk4
      clear QC hb4 hk3 hk4
      go_wp2
      go_ret
      exact ⟨rfl, by repeat (first | exact Below.refl _ _ | exact hB | refine Below.drew ?_ | refine below_drewN ?_ _ | refine bset ?_ (by simp <;> omega) _ | refine bal ?_ _)⟩
    all_goals
      obtain ⟨R, rfl⟩ := Int.eq_ofNat_of_zero_le (show 0 ≤ regs by have := hok.i1; have := hok.i2; omega)
      have QC := Lib.hid (fun V (qB : Below w1.heap.size w1 V) => rright_v ins (R : Int) ca oa cc oc code outs true V (HC.out.1.keep (bthen HB1.out qB)) (HC.out.2.keep (bthen HB1.out qB)) ⟨fun _ => hok, fun _ => rfl⟩)
      have VC := Lib.hid (fun V (qB : Below w1.heap.size w1 V) => revals_c ins R ca oa cc oc code outs kn a n cap f V (HC.out.1.keep (bthen HB1.out qB)) (HC.out.2.keep (bthen HB1.out qB)) (HP.out.keep (bthen HB1.out qB)) hk1 hk8 HR.out.2.2 hok)
      have HIS := Lib.hid his
      clear hok his
      go_wp2_with fail
      (with_reducible refine (RC.out _ ?_).mono ?_); (repeat (first | exact Below.refl _ _ | exact hk2 | refine Below.drew ?_ | refine below_drewN ?_ _ | refine bset ?_ (by simp <;> omega) _ | refine bal ?_ _))
      rintro e w3 ⟨rfl, hb3⟩
      have hk3 : Below w1.heap.size w1 w3 := bthen (by repeat (first | exact Below.refl _ _ | exact hk2 | refine Below.drew ?_ | refine below_drewN ?_ _ | refine bset ?_ (by simp <;> omega) _ | refine bal ?_ _)) hb3
      obtain ⟨p0, p1, p2, p3⟩ := HPV.out w3 hk3
      have zp3 := cell_lt p0
      clear RC hb3 hk2
      go_wp2_with fail
      (with_reducible refine (QC.out _ ?_).mono ?_); (repeat (first | exact Below.refl _ _ | exact hk3 | refine Below.drew ?_ | refine below_drewN ?_ _ | refine bset ?_ (by simp <;> omega) _ | refine bal ?_ _))
      rintro e w4 ⟨rfl, hb4⟩
      have hk4 : Below w1.heap.size w1 w4 := bthen (by repeat (first | exact Below.refl _ _ | exact hk3 | refine Below.drew ?_ | refine below_drewN ?_ _ | refine bset ?_ (by simp <;> omega) _ | refine bal ?_ _)) hb4
      obtain ⟨p0, p1, p2, p3⟩ := HPV.out w4 hk4
      have zp4 := cell_lt p0
      clear QC hb4 hk3
      go_wp2_with fail
      (with_reducible refine (VC.out _ ?_).mono ?_); (repeat (first | exact Below.refl _ _ | exact hk4 | refine Below.drew ?_ | refine below_drewN ?_ _ | refine bset ?_ (by simp <;> omega) _ | refine bal ?_ _))
      intro e w5 hV
      obtain ⟨hV, hb5⟩ := hV
      have hk5 : Below w1.heap.size w1 w5 := bthen (by repeat (first | exact Below.refl _ _ | exact hk4 | refine Below.drew ?_ | refine below_drewN ?_ _ | refine bset ?_ (by simp <;> omega) _ | refine bal ?_ _)) hb5
      have hB := bthen HB1.out hk5
      clear VC hb5 hk4 hk5
      rcases hV with ⟨hi2, rfl⟩ | ⟨hi2, rfl⟩
      all_goals
        first
        | exact absurd HIS.out hi2
        | exact absurd hi2 HIS.out
        | (clear hi2; go_wp2; go_ret; exact ⟨rfl, by repeat (first | exact Below.refl _ _ | exact hB | refine Below.drew ?_ | refine below_drewN ?_ _ | refine bset ?_ (by simp <;> omega) _ | refine bal ?_ _)⟩)
  by_cases hr : 1 ≤ k ∧ k ≤ 8 ∧ PtsOk n f
  rotate_left
  · have HRB := Lib.hid (show rightB k n f = false from by rw [Bool.eq_false_iff]; exact fun q => hr ((rightB_iff k n f).1 q))
    have EC := Lib.hid (fun V (qB : Below w1.heap.size w1 V) => evals_no (.agg #[.int .i64 ins, .int .i64 regs, .slice ca code.length cc, .slice oa outs.length oc]) ins regs _ _ k a n cap f V (HP.out.keep (bthen HB1.out qB)) hn rfl ⟨_, _, _, rfl⟩ ⟨_, _, _, rfl⟩ hr)
    have RC := Lib.hid (fun V (qB : Below w1.heap.size w1 V) => rright11_c k a n cap f V (HP.out.keep (bthen HB1.out qB)) hn)
    rw [HRB.out] at RC
    clear hr
    go_wp2_with fail
    (with_reducible refine (EC.out _ ?_).mono ?_); (repeat (first | exact Below.refl _ _ | exact hBw | refine Below.drew ?_ | refine below_drewN ?_ _ | refine bset ?_ (by simp <;> omega) _ | refine bal ?_ _))
    rintro e w2 ⟨rfl, hb2⟩
    have hk2 : Below w1.heap.size w1 w2 := bthen (by repeat (first | exact Below.refl _ _ | exact hBw | refine Below.drew ?_ | refine below_drewN ?_ _ | refine bset ?_ (by simp <;> omega) _ | refine bal ?_ _)) hb2
    clear EC hb2 hBw
    go_wp2_with fail
    (with_reducible refine (RC.out _ ?_).mono ?_); (repeat (first | exact Below.refl _ _ | exact hk2 | refine Below.drew ?_ | refine below_drewN ?_ _ | refine bset ?_ (by simp <;> omega) _ | refine bal ?_ _))
    rintro e w3 ⟨rfl, hb3⟩
    have hk3 : Below w1.heap.size w1 w3 := bthen (by repeat (first | exact Below.refl _ _ | exact hk2 | refine Below.drew ?_ | refine below_drewN ?_ _ | refine bset ?_ (by simp <;> omega) _ | refine bal ?_ _)) hb3
    have hB := bthen HB1.out hk3
    clear RC hb3 hk2 hk3
    go_wp2
    go_ret
    exact ⟨rfl, by repeat (first | exact Below.refl _ _ | exact hB | refine Below.drew ?_ | refine below_drewN ?_ _ | refine bset ?_ (by simp <;> omega) _ | refine bal ?_ _)⟩
  obtain ⟨kn, rfl⟩ := Int.eq_ofNat_of_zero_le (show 0 ≤ k by omega)
  have HR := Lib.hid hr
  have hk1 : 1 ≤ kn := by omega
  have hk8 : kn ≤ 8 := by omega
  have HRB := Lib.hid ((rightB_iff (kn : Int) n f).2 hr)
  clear hr
  have EC := Lib.hid (fun V (qB : Below w1.heap.size w1 V) => evals_c ins regs ca oa cc oc code outs kn a n cap f V (HC.out.1.keep (bthen HB1.out qB)) (HC.out.2.keep (bthen HB1.out qB)) (HP.out.keep (bthen HB1.out qB)) hk1 hk8 HR.out.2.2)
  have RC := Lib.hid (fun V (qB : Below w1.heap.size w1 V) => rright11_c (kn : Int) a n cap f V (HP.out.keep (bthen HB1.out qB)) hn)
  rw [HRB.out] at RC
  go_wp2_with fail
  (with_reducible refine (EC.out _ ?_).mono ?_); (repeat (first | exact Below.refl _ _ | exact hBw | refine Below.drew ?_ | refine below_drewN ?_ _ | refine bset ?_ (by simp <;> omega) _ | refine bal ?_ _))
  intro e w2 hE
  obtain ⟨hE, hb2⟩ := hE
  have hk2 : Below w1.heap.size w1 w2 := bthen (by repeat (first | exact Below.refl _ _ | exact hBw | refine Below.drew ?_ | refine below_drewN ?_ _ | refine bset ?_ (by simp <;> omega) _ | refine bal ?_ _)) hb2
  obtain ⟨p0, p1, p2, p3⟩ := HPV.out w2 hk2
  have zp2 := cell_lt p0
  have hBw2 := Below.refl w2.heap.size w2
  clear EC hb2 hBw
  rcases hE with ⟨hno, rfl⟩ | ⟨hok, his, rfl⟩ | ⟨hok, his, rfl⟩
  · have QC := Lib.hid (fun V (qB : Below w1.heap.size w1 V) => rright_v ins regs ca oa cc oc code outs false V (HC.out.1.keep (bthen HB1.out qB)) (HC.out.2.keep (bthen HB1.out qB)) ⟨(fun h => by cases h), fun h => absurd h hno⟩)
    clear hno
    go_wp2_with fail
    (with_reducible refine (RC.out _ ?_).mono ?_); (repeat (first | exact Below.refl _ _ | exact hk2 | refine Below.drew ?_ | refine below_drewN ?_ _ | refine bset ?_ (by simp <;> omega) _ | refine bal ?_ _))
    rintro e w3 ⟨rfl, hb3⟩
    have hk3 : Below w1.heap.size w1 w3 := bthen (by repeat (first | exact Below.refl _ _ | exact hk2 | refine Below.drew ?_ | refine below_drewN ?_ _ | refine bset ?_ (by simp <;> omega) _ | refine bal ?_ _)) hb3
    obtain ⟨p0, p1, p2, p3⟩ := HPV.out w3 hk3
    have zp3 := cell_lt p0
    clear RC hb3 hk2
    go_wp2_with fail
    (with_reducible refine (QC.out _ ?_).mono ?_); (repeat (first | exact Below.refl _ _ | exact hk3 | refine Below.drew ?_ | refine below_drewN ?_ _ | refine bset ?_ (by simp <;> omega) _ | refine bal ?_ _))
    rintro e w4 ⟨rfl, hb4⟩
    have hk4 : Below w1.heap.size w1 w4 := bthen (by repeat (first | exact Below.refl _ _ | exact hk3 | refine Below.drew ?_ | refine below_drewN ?_ _ | refine bset ?_ (by simp <;> omega) _ | refine bal ?_ _)) hb4
    have hB := bthen HB1.out hk4
    clear QC hb4 hk3 hk4
    go_wp2
    go_ret
    exact ⟨rfl, by repeat (first | exact Below.refl _ _ | exact hB | refine Below.drew ?_ | refine below_drewN ?_ _ | refine bset ?_ (by simp <;> omega) _ | refine bal ?_ _)⟩
  all_goals
    obtain ⟨R, rfl⟩ := Int.eq_ofNat_of_zero_le (show 0 ≤ regs by have := hok.i1; have := hok.i2; omega)
    have QC := Lib.hid (fun V (qB : Below w1.heap.size w1 V) => rright_v ins (R : Int) ca oa cc oc code outs true V (HC.out.1.keep (bthen HB1.out qB)) (HC.out.2.keep (bthen HB1.out qB)) ⟨fun _ => hok, fun _ => rfl⟩)
    have VC := Lib.hid (fun V (qB : Below w1.heap.size w1 V) => revals_c ins R ca oa cc oc code outs kn a n cap f V (HC.out.1.keep (bthen HB1.out qB)) (HC.out.2.keep (bthen HB1.out qB)) (HP.out.keep (bthen HB1.out qB)) hk1 hk8 HR.out.2.2 hok)
    have HIS := Lib.hid his
    clear hok his
    go_wp2_with fail
    (with_reducible refine (RC.out _ ?_).mono ?_); (repeat (first | exact Below.refl _ _ | exact hk2 | refine Below.drew ?_ | refine below_drewN ?_ _ | refine bset ?_ (by simp <;> omega) _ | refine bal ?_ _))
    rintro e w3 ⟨rfl, hb3⟩
    have hk3 : Below w1.heap.size w1 w3 := bthen (by repeat (first | exact Below.refl _ _ | exact hk2 | refine Below.drew ?_ | refine below_drewN ?_ _ | refine bset ?_ (by simp <;> omega) _ | refine bal ?_ _)) hb3
    obtain ⟨p0, p1, p2, p3⟩ := HPV.out w3 hk3
    have zp3 := cell_lt p0
    clear RC hb3 hk2
    go_wp2_with fail
    (with_reducible refine (QC.out _ ?_).mono ?_); (repeat (first | exact Below.refl _ _ | exact hk3 | refine Below.drew ?_ | refine below_drewN ?_ _ | refine bset ?_ (by simp <;> omega) _ | refine bal ?_ _))
    rintro e w4 ⟨rfl, hb4⟩
    have hk4 : Below w1.heap.size w1 w4 := bthen (by repeat (first | exact Below.refl _ _ | exact hk3 | refine Below.drew ?_ | refine below_drewN ?_ _ | refine bset ?_ (by simp <;> omega) _ | refine bal ?_ _)) hb4
    obtain ⟨p0, p1, p2, p3⟩ := HPV.out w4 hk4
    have zp4 := cell_lt p0
    clear QC hb4 hk3
    go_wp2_with fail
    (with_reducible refine (VC.out _ ?_).mono ?_); (repeat (first | exact Below.refl _ _ | exact hk4 | refine Below.drew ?_ | refine below_drewN ?_ _ | refine bset ?_ (by simp <;> omega) _ | refine bal ?_ _))
    intro e w5 hV
    obtain ⟨hV, hb5⟩ := hV
    have hk5 : Below w1.heap.size w1 w5 := bthen (by repeat (first | exact Below.refl _ _ | exact hk4 | refine Below.drew ?_ | refine below_drewN ?_ _ | refine bset ?_ (by simp <;> omega) _ | refine bal ?_ _)) hb5
    have hB := bthen HB1.out hk5
    clear VC hb5 hk4 hk5
    rcases hV with ⟨hi2, rfl⟩ | ⟨hi2, rfl⟩
    all_goals
      first
      | exact absurd HIS.out hi2
      | exact absurd hi2 HIS.out
      | (clear hi2; go_wp2; go_ret; exact ⟨rfl, by repeat (first | exact Below.refl _ _ | exact hB | refine Below.drew ?_ | refine below_drewN ?_ _ | refine bset ?_ (by simp <;> omega) _ | refine bal ?_ _)⟩)
theorem evalHolds_u (ins regs : Int) (ca oa : Option Addr) (cc oc : Nat) (code : List Ins) (outs : List Int) (k : Int) (pa : Option Addr) (n pc : Nat) (f : Nat → Int × Int) (w : World) (hc : InsV w ca cc code) (ho : IntsV w oa oc outs) (hk : (Lit.int .i64 k).wf = true) (wm : n * 16 ≤ 140737488355328) (h : PtsV w pa n pc f) (wi : ∀ i, i < n → I64 (f i).1 ∧ I64 (f i).2) (hT : Tz64 w) :
    Calls Tryz.prog 4 #[.agg #[.int .i64 ins, .int .i64 regs, .slice ca code.length cc, .slice oa outs.length oc], .int .i64 k, .slice pa n pc] w fun e w' => e = .returned (.bool true) ∧ Below w.heap.size w w' :=
  evalHolds_h ins regs ca oa cc oc code outs k pa n pc f w hc ho h (by omega) hT
end Go.Proofs.YtdllbdfchloijaaGreatDoor

