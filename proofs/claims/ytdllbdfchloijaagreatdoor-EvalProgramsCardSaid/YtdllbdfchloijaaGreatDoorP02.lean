/- Texts of this seat, laid together (what the earlier ones leave out): EvV. Each opens with its own remark, which says what it proves, and under which conditions. -/
import Derived.Test.YtdllbdfchloijaaGreatDoorE01
import Derived.Test.YtdllbdfchloijaaGreatDoorE02
import Derived.Test.YtdllbdfchloijaaGreatDoorE03
import Derived.Test.YtdllbdfchloijaaGreatDoorE04
import Derived.Test.YtdllbdfchloijaaGreatDoorE05
import Derived.Test.YtdllbdfchloijaaGreatDoorE06
import Derived.Test.YtdllbdfchloijaaGreatDoorE07
import Derived.Test.YtdllbdfchloijaaGreatDoorE08
import Derived.Test.YtdllbdfchloijaaGreatDoorE09
import Derived.Test.YtdllbdfchloijaaGreatDoorE10
import Derived.Test.YtdllbdfchloijaaGreatDoorE11
import Derived.Test.YtdllbdfchloijaaGreatDoorE12
import Derived.Test.YtdllbdfchloijaaGreatDoorE13
import Derived.Test.YtdllbdfchloijaaGreatDoorE14
import Derived.Test.YtdllbdfchloijaaGreatDoorE15
import Derived.Test.YtdllbdfchloijaaGreatDoorE16
import Derived.Test.YtdllbdfchloijaaGreatDoorE17
import Derived.Test.YtdllbdfchloijaaGreatDoorE18
import Derived.Test.YtdllbdfchloijaaGreatDoorE19
import Derived.Test.YtdllbdfchloijaaGreatDoorE20
import Derived.Test.YtdllbdfchloijaaGreatDoorE21
import Derived.Test.YtdllbdfchloijaaGreatDoorE22
import Derived.Test.YtdllbdfchloijaaGreatDoorE23
import Derived.Test.YtdllbdfchloijaaGreatDoorE24
import Derived.Test.YtdllbdfchloijaaGreatDoorE25
import Derived.Test.YtdllbdfchloijaaGreatDoorE26
import Derived.Test.YtdllbdfchloijaaGreatDoorE27
import Derived.Test.YtdllbdfchloijaaGreatDoorE28
import Derived.Test.YtdllbdfchloijaaGreatDoorE29
import Derived.Test.YtdllbdfchloijaaGreatDoorE30
import Derived.Test.YtdllbdfchloijaaGreatDoorE31
import Derived.Test.YtdllbdfchloijaaGreatDoorE32
import Derived.Test.YtdllbdfchloijaaGreatDoorE33
import Derived.Test.YtdllbdfchloijaaGreatDoorP01
import Derived.WalkKit
import Derived.ProofKit
import Derived.OpenShut
import Derived.Deep.QuietTactic
import Derived.BigQuiet
import Derived.Outline
import Derived.Lib.Hide
import Derived.WalkSmall
import Derived.WalkSpells
import Derived.WalkLawsBesides
import Derived.Deep.RegionWith
import Derived.Deep.RegionHeld3
import Derived.Laws.CopyOwn
import Derived.Shelf.Small.Bits
import Derived.Laws.BitsAllLaws
import Derived.Shelf.Spec.TrailingZeros
import Derived.Shelf.Strings.Builder1
import Derived.Shelf.Strings.Trim
import Derived.Deep.Cut
import Derived.Deep.DeepCutAuto
import Derived.ArgAppend
import Derived.Deep.DeepFit
import Derived.Laws.AppendOwn
import Derived.Deep.AppendLies
import Derived.OneCell
import Derived.Shelf.Abstract
import Derived.Laws.EntriesVeiled
import Derived.Deep.DrawnRows
import Derived.Deep.RegionLaw
import Derived.Deep.LoopGhost
import Derived.RegionTactic
import Derived.ChangeAlike
import Derived.Laws.OwnMore
import Derived.Deep.Onto
import Derived.Laws.CopyRow
import Derived.Laws.Rows
import Derived.Laws.Tables
import Derived.Laws.IdiomStrings
import Derived.Laws.BytesArg
import Derived.RangeFuncNested
import Derived.RangeFuncBound
import Derived.RangeFuncCalls
import Derived.RangeFuncLeaves
import Derived.Shelf.RegionOpen
import Derived.OwnWalkIn
import Derived.TacticsInMore
import Derived.LoopNIn
import Derived.LoopIn
import Derived.Laws.RangeString
import Derived.Lib.OthersKept
import Derived.Maps.AppendAt
import Derived.StillTail
import Derived.Deep.Quiet
import Derived.StillTailTactics
import Derived.LaidLaws
import Derived.Lib.LaidTab
import Derived.Lib.SmallJoins
import Derived.Deep.Slices
import Derived.Deep.Matrix
import Derived.Deep.Fields
import Derived.ChangeSame
import Derived.DataShut
import Derived.SizedLaws
set_option linter.unusedVariables false
set_option linter.unusedSimpArgs false
/- EvalPrograms: a program that evaluates, wherever it is asked rightly. -/
namespace Go.Proofs.YtdllbdfchloijaaGreatDoor
open Pt
open Num
open Go.ChangeShapes Go.WideShapes Go.ChangeAt Go.RowKit
attribute [local go_sem ↓] Go.wp_at_zero Go.wp_at_succ
theorem rright11_v (k : Int) (a : Option Addr) (n cap : Nat) (f : Nat → Int × Int) (b : Bool) (w : World) (h : PtsV w a n cap f) (hn : n ≤ 4611686018427387904) (hb : rightB k n f = b) :
    Calls Tryz.prog 10 #[.int .i64 k, .slice a n cap] w fun e w' => e = .returned (.bool b) ∧ Below w.heap.size w w' := by
  rw [← hb]; exact rright11_c k a n cap f w h hn
theorem revals_y (ins : Int) (R : Nat) (ca oa : Option Addr) (cc oc : Nat) (code : List Ins) (outs : List Int) (k : Nat) (a : Option Addr) (n cap : Nat) (f : Nat → Int × Int) (w : World) (hc : InsV w ca cc code) (ho : IntsV w oa oc outs) (h : PtsV w a n cap f) (hk : 1 ≤ k) (hk8 : k ≤ 8) (hp : PtsOk n f) (hok : ProgOk ins (R : Int) code outs) (hi : EvIs ins (R : Int) code outs k n f) :
    Calls Tryz.prog 13 #[.agg #[.int .i64 ins, .int .i64 (R : Int), .slice ca code.length cc, .slice oa outs.length oc], .int .i64 (k : Int), .slice a n cap] w fun e w' => e = .returned (.bool true) ∧ Below w.heap.size w w' := by
  refine (revals_c ins R ca oa cc oc code outs k a n cap f w hc ho h hk hk8 hp hok).mono ?_
  intro e w' hh
  obtain ⟨hh, hb⟩ := hh
  rcases hh with ⟨_, rfl⟩ | ⟨h2, _⟩
  · exact ⟨rfl, hb⟩
  · exact absurd hi h2
theorem half_ok {X A B k : Nat} (h : X * 2 ≤ B) (hA : A ≤ 120) (hk : k ≤ 8) (hb : A * (k + 3) = B) : decide ((X : Int) ≤ wrap64 ((B : Int) / 2)) = true := decide_eq_true (by
  have h2 : B ≤ 120 * 11 := by rw [← hb]; exact Nat.mul_le_mul hA (by omega)
  unfold wrap64; omega)
theorem regs_ok {k n R : Nat} (h : k + n + 1 = R) : decide ((R : Int) ≤ (k : Int) + (n : Int) + 2) = true := decide_eq_true (by omega)
theorem prod_ok {n k A : Nat} (hn : n ≤ 15) (hk : k ≤ 8) (h : n * k = A) : A ≤ 120 ∧ wrap64 ((n : Int) * (k : Int)) = (A : Int) := by
  have h2 : A ≤ 15 * 8 := by rw [← h]; exact Nat.mul_le_mul hn hk
  refine ⟨by omega, ?_⟩
  rw [← Int.natCast_mul, h]
  unfold wrap64; omega
theorem prod_ok2 {A k B : Nat} (hA : A ≤ 120) (hk : k ≤ 8) (h : A * (k + 3) = B) : wrap64 ((A : Int) * ((k : Int) + 3)) = (B : Int) := by
  have h2 : B ≤ 120 * 11 := by rw [← h]; exact Nat.mul_le_mul hA (by omega)
  rw [show (A : Int) * ((k : Int) + 3) = ((A * (k + 3) : Nat) : Int) by rw [Int.natCast_mul, Int.natCast_add]; rfl, h]
  unfold wrap64; omega
set_option maxRecDepth 100000 in
set_option maxHeartbeats 16000000 in
theorem evalPrograms_h (k : Int) (a : Option Addr) (n cap : Nat) (f : Nat → Int × Int) (w : World) (h : PtsV w a n cap f) (hm : n * 16 ≤ 140737488355328) (hT : Tz64 w) :
    Calls Tryz.prog 3 #[.int .i64 k, .slice a n cap] w fun e w' => e = .returned (.bool true) ∧ Below w.heap.size w w' := by
  have hB := Below.refl w.heap.size w
  have hBw := Below.refl w.heap.size w
  have HP := Lib.hid h
  have HA := Lib.hid (show a = none → n = 0 from fun e => by
    rcases h with h | ⟨_, _, h1, _⟩
    · exact h
    · rw [e] at h1; cases h1)
  have HM := Lib.hid hm
  have hn : n ≤ 4611686018427387904 := by omega
  have HT := Lib.hid hT
  have WC := Lib.hid (fun V (q : Below w.heap.size w V) => works11_c V (HT.out.keep q))
  clear h hT hm
  go_enter Tryz.func3, Tryz.ntmps3
  go_wp2_with fail
  (with_reducible refine (WC.out _ ?_).mono ?_); (repeat (first | exact Below.refl _ _ | exact hB | refine Below.drew ?_ | refine below_drewN ?_ _ | refine bset ?_ (by simp <;> omega) _ | refine bal ?_ _))
  rintro e w1 ⟨rfl, hb1⟩
  have hk : Below w.heap.size w w1 := bthen belA hb1
  clear hb1 WC hBw hB
  have hB := hk
  have hBw := Below.refl w1.heap.size w1
  clear hk
  have TC := Lib.hid (fun V (qB : Below w1.heap.size w1 V) => clonePts_c a cap n f V (HP.out.keep (bthen hB qB)) HA.out HM.out)
  go_wp2_with fail
  (with_reducible refine (TC.out _ ?_).mono ?_); (repeat (first | exact Below.refl _ _ | exact hBw | refine Below.drew ?_ | refine below_drewN ?_ _ | refine bset ?_ (by simp <;> omega) _ | refine bal ?_ _))
  rintro e w2 ⟨⟨x, xc, rfl, -, hx, -, -⟩, hb2⟩
  have hk : Below w1.heap.size w1 w2 := bthen belA hb2
  have hBn := bthen hB hk
  clear TC hBw hB hb2
  have hB := hBn
  clear hBn
  have hBw := Below.refl w2.heap.size w2
  have HX := Lib.hid hx
  clear hx hk
  by_cases hr : 1 ≤ k ∧ k ≤ 8 ∧ PtsOk n f
  rotate_left
  · have HR := Lib.hid hr
    have HRB := Lib.hid (show rightB k n f = false from by rw [Bool.eq_false_iff]; exact fun q => hr ((rightB_iff k n f).1 q))
    clear hr
    have TC := Lib.hid (fun V (qB : Below w2.heap.size w2 V) => program_no k x n xc f V (HX.out.keep qB) hn HR.out)
    go_wp2_with fail
    (with_reducible refine (TC.out _ ?_).mono ?_); (repeat (first | exact Below.refl _ _ | exact hBw | refine Below.drew ?_ | refine below_drewN ?_ _ | refine bset ?_ (by simp <;> omega) _ | refine bal ?_ _))
    rintro e w3 ⟨rfl, hb3⟩
    have hk : Below w2.heap.size w2 w3 := bthen belA hb3
    have hBn := bthen hB hk
    clear TC hBw hB hb3
    have hB := hBn
    clear hBn
    have hBw := Below.refl w3.heap.size w3
    clear hk
    have TC := Lib.hid (fun V (qB : Below w3.heap.size w3 V) => program_no k a n cap f V (HP.out.keep (bthen hB qB)) hn HR.out)
    go_wp2_with fail
    (with_reducible refine (TC.out _ ?_).mono ?_); (repeat (first | exact Below.refl _ _ | exact hBw | refine Below.drew ?_ | refine below_drewN ?_ _ | refine bset ?_ (by simp <;> omega) _ | refine bal ?_ _))
    rintro e w4 ⟨rfl, hb4⟩
    have hk : Below w3.heap.size w3 w4 := bthen belA hb4
    have p0 : w4.cell? ⟨w3.heap.size, 0, none⟩ = some (.int .i64 0) := bkc hb4
    have zp0 := cell_lt p0
    have p1 : w4.cell? ⟨w3.heap.size, 1, none⟩ = some (.int .i64 0) := bkc hb4
    have p2 : w4.cell? ⟨w3.heap.size, 2, none⟩ = some (.slice none 0 0) := bkc hb4
    have p3 : w4.cell? ⟨w3.heap.size, 3, none⟩ = some (.slice none 0 0) := bkc hb4
    have hB : Below w.heap.size w w4 := bthen belA hb4
    have hz : w.heap.size ≤ w4.heap.size := hB.size
    clear TC hBw hb4
    have hBw := Below.refl w4.heap.size w4
    clear hk
    have TC := Lib.hid (fun V (qB : Below w4.heap.size w4 V) => rright11_v k a n cap f false V (HP.out.keep (bthen hB qB)) hn HRB.out)
    go_wp2_with fail
    (with_reducible refine (TC.out _ ?_).mono ?_); (repeat (first | exact Below.refl _ _ | exact hBw | refine Below.drew ?_ | refine below_drewN ?_ _ | refine bset ?_ (by simp <;> omega) _ | refine bal ?_ _))
    rintro e w5 ⟨rfl, hb5⟩
    have hk : Below w4.heap.size w4 w5 := bthen belA hb5
    have p0 : w5.cell? ⟨w3.heap.size, 0, none⟩ = some (.int .i64 0) := bkc hb5
    have zp0 := cell_lt p0
    have p1 : w5.cell? ⟨w3.heap.size, 1, none⟩ = some (.int .i64 0) := bkc hb5
    have p2 : w5.cell? ⟨w3.heap.size, 2, none⟩ = some (.slice none 0 0) := bkc hb5
    have p3 : w5.cell? ⟨w3.heap.size, 3, none⟩ = some (.slice none 0 0) := bkc hb5
    have hB : Below w.heap.size w w5 := bthen belA hb5
    have hz : w.heap.size ≤ w5.heap.size := hB.size
    clear TC hBw hb5
    have hBw := Below.refl w5.heap.size w5
    clear hk
    have TC := Lib.hid (fun V (qB : Below w5.heap.size w5 V) => show Calls Tryz.prog 11 #[.agg #[.int .i64 0, .int .i64 0, .slice none 0 0, .slice none 0 0], .agg #[.int .i64 0, .int .i64 0, .slice none 0 0, .slice none 0 0]] V (fun e w' => e = .returned (.bool true) ∧ Below V.heap.size V w') from samePr_c 0 0 none none none none 0 0 0 0 [] [] V (.inl rfl) (.inl rfl) (.inl rfl) (.inl rfl) (by simp) (by simp))
    go_wp2_with fail
    (with_reducible refine (TC.out _ ?_).mono ?_); (repeat (first | exact Below.refl _ _ | exact hBw | refine Below.drew ?_ | refine below_drewN ?_ _ | refine bset ?_ (by simp <;> omega) _ | refine bal ?_ _))
    rintro e w6 ⟨rfl, hb6⟩
    have hk : Below w5.heap.size w5 w6 := bthen belA hb6
    have p0 : w6.cell? ⟨w3.heap.size, 0, none⟩ = some (.int .i64 0) := bkc hb6
    have zp0 := cell_lt p0
    have p1 : w6.cell? ⟨w3.heap.size, 1, none⟩ = some (.int .i64 0) := bkc hb6
    have p2 : w6.cell? ⟨w3.heap.size, 2, none⟩ = some (.slice none 0 0) := bkc hb6
    have p3 : w6.cell? ⟨w3.heap.size, 3, none⟩ = some (.slice none 0 0) := bkc hb6
    have hB : Below w.heap.size w w6 := bthen belA hb6
    have hz : w.heap.size ≤ w6.heap.size := hB.size
    clear TC hBw hb6
    have hBw := Below.refl w6.heap.size w6
    go_wp2
    go_ret
    exact ⟨rfl, by repeat (first | exact Below.refl _ _ | exact hB | refine Below.drew ?_ | refine below_drewN ?_ _ | refine bset ?_ (by simp <;> omega) _ | refine bal ?_ _)⟩
  obtain ⟨kn, rfl⟩ := Int.eq_ofNat_of_zero_le (show 0 ≤ k by omega)
  have HR := Lib.hid hr
  have hk1 : 1 ≤ kn := by omega
  have hk8 : kn ≤ 8 := by omega
  have hn15 : n ≤ 15 := hr.2.2.2.1
  have hn1 : 1 ≤ n := hr.2.2.1
  have HRB := Lib.hid ((rightB_iff (kn : Int) n f).2 hr)
  clear hr hn
  have TC := Lib.hid (fun V (qB : Below w2.heap.size w2 V) => program_c kn x n xc f V (HX.out.keep qB) hk1 hk8 HR.out.2.2 (HT.out.keep (bthen hB qB)))
  go_wp2_with fail
  (with_reducible refine (TC.out _ ?_).mono ?_); (repeat (first | exact Below.refl _ _ | exact hBw | refine Below.drew ?_ | refine below_drewN ?_ _ | refine bset ?_ (by simp <;> omega) _ | refine bal ?_ _))
  rintro e w3 ⟨⟨ca, cc, oa, oc, rfl, hc, ho, -, -⟩, hb3⟩
  have hk : Below w2.heap.size w2 w3 := bthen belA hb3
  have hBn := bthen hB hk
  clear TC hBw hB hb3
  have hB := hBn
  clear hBn
  have hBw := Below.refl w3.heap.size w3
  have HOK := Lib.hid (show ProgOk kn ((kn + n + 1 : Nat) : Int) (codeL kn n f n) (outsL kn n) from code_ok hk1 hk8 hn1 hn15 HR.out.2.2.2.2)
  have HEV := Lib.hid (show EvIs kn ((kn + n + 1 : Nat) : Int) (codeL kn n f n) (outsL kn n) kn n f from ⟨rfl, by rw [outsL_len], code_nodiv HR.out.2.2.2.2, code_evs hk1 HR.out.2.2.2.2⟩)
  have HFN := Lib.hid (show ∀ m, m < (codeL kn n f n).length → (((codeL kn n f n).getD m default).op = 5 → -16 ≤ ((codeL kn n f n).getD m default).c ∧ ((codeL kn n f n).getD m default).c ≤ 16) ∧ (((codeL kn n f n).getD m default).op = 7 → ((codeL kn n f n).getD m default).c ≤ 4) from fun m hm => ⟨(fine_all HR.out.2.2.2.2 m hm).2.2.2.1, (fine_all HR.out.2.2.2.2 m hm).2.2.2.2⟩)
  have HLE := Lib.hid (code_le kn n f hk1 n)
  obtain ⟨L, hL⟩ : ∃ L, codeL kn n f n = L := ⟨_, rfl⟩
  obtain ⟨O, hO⟩ : ∃ O, outsL kn n = O := ⟨_, rfl⟩
  obtain ⟨R, hR⟩ : ∃ R, kn + n + 1 = R := ⟨_, rfl⟩
  have HL := Lib.hid (And.intro hL (And.intro hO hR))
  rw [hL] at hc HOK HEV HFN HLE
  rw [hO] at ho HOK HEV
  rw [hR] at HOK HEV
  rw [hL, hO, hR]
  clear hL hO hR
  have hl1 : L.length ≤ 16384 := HOK.out.c1
  have hl2 : O.length ≤ 128 := HOK.out.o2
  have HC := Lib.hid (And.intro hc ho)
  clear hc ho hk
  have TC := Lib.hid (fun V (qB : Below w3.heap.size w3 V) => program_c kn a n cap f V (HP.out.keep (bthen hB qB)) hk1 hk8 HR.out.2.2 (HT.out.keep (bthen hB qB)))
  go_wp2_with fail
  (with_reducible refine (TC.out _ ?_).mono ?_); (repeat (first | exact Below.refl _ _ | exact hBw | refine Below.drew ?_ | refine below_drewN ?_ _ | refine bset ?_ (by simp <;> omega) _ | refine bal ?_ _))
  rintro e w4 ⟨⟨qa, qc, ra, rc, rfl, hc, ho, -, -⟩, hb4⟩
  have hk : Below w3.heap.size w3 w4 := bthen belA hb4
  have p0 : w4.cell? ⟨w3.heap.size, 0, none⟩ = some (.int .i64 (kn : Int)) := bkc hb4
  have zp0 := cell_lt p0
  have p1 : w4.cell? ⟨w3.heap.size, 1, none⟩ = some (.int .i64 (R : Int)) := bkc hb4
  have p2 : w4.cell? ⟨w3.heap.size, 2, none⟩ = some (.slice ca L.length cc) := bkc hb4
  have p3 : w4.cell? ⟨w3.heap.size, 3, none⟩ = some (.slice oa O.length oc) := bkc hb4
  have hB : Below w.heap.size w w4 := bthen belA hb4
  have hz : w.heap.size ≤ w4.heap.size := hB.size
  clear TC hBw hb4
  have hBw := Below.refl w4.heap.size w4
  rw [HL.out.1] at hc
  rw [HL.out.2.1] at ho
  rw [HL.out.1, HL.out.2.1, HL.out.2.2]
  have HC4 := Lib.hid (And.intro (HC.out.1.keep hk) (HC.out.2.keep hk))
  have HQ := Lib.hid (And.intro hc ho)
  clear hk hc ho HC
  have TC := Lib.hid (fun V (qB : Below w4.heap.size w4 V) => rright11_v kn a n cap f true V (HP.out.keep (bthen hB qB)) (by omega) HRB.out)
  go_wp2_with fail
  (with_reducible refine (TC.out _ ?_).mono ?_); (repeat (first | exact Below.refl _ _ | exact hBw | refine Below.drew ?_ | refine below_drewN ?_ _ | refine bset ?_ (by simp <;> omega) _ | refine bal ?_ _))
  rintro e w5 ⟨rfl, hb5⟩
  have hk : Below w4.heap.size w4 w5 := bthen belA hb5
  have p0 : w5.cell? ⟨w3.heap.size, 0, none⟩ = some (.int .i64 (kn : Int)) := bkc hb5
  have zp0 := cell_lt p0
  have p1 : w5.cell? ⟨w3.heap.size, 1, none⟩ = some (.int .i64 (R : Int)) := bkc hb5
  have p2 : w5.cell? ⟨w3.heap.size, 2, none⟩ = some (.slice ca L.length cc) := bkc hb5
  have p3 : w5.cell? ⟨w3.heap.size, 3, none⟩ = some (.slice oa O.length oc) := bkc hb5
  have q0 : w5.cell? ⟨w4.heap.size, 0, none⟩ = some (.int .i64 (kn : Int)) := bkc hb5
  have zq0 := cell_lt q0
  have q1 : w5.cell? ⟨w4.heap.size, 1, none⟩ = some (.int .i64 (R : Int)) := bkc hb5
  have q2 : w5.cell? ⟨w4.heap.size, 2, none⟩ = some (.slice qa L.length qc) := bkc hb5
  have q3 : w5.cell? ⟨w4.heap.size, 3, none⟩ = some (.slice ra O.length rc) := bkc hb5
  have hB : Below w.heap.size w w5 := bthen belA hb5
  have hz : w.heap.size ≤ w5.heap.size := hB.size
  clear TC hBw hb5
  have hBw := Below.refl w5.heap.size w5
  have HC5 := Lib.hid (And.intro (HC4.out.1.keep hk) (HC4.out.2.keep hk))
  have HQ5 := Lib.hid (And.intro (HQ.out.1.keep hk) (HQ.out.2.keep hk))
  clear hk HC4 HQ
  have TC := Lib.hid (fun V (qB : Below w5.heap.size w5 V) => samePr_c kn R ca oa qa ra cc oc qc rc L O V (HC5.out.1.keep qB) (HC5.out.2.keep qB) (HQ5.out.1.keep qB) (HQ5.out.2.keep qB) (by omega) (by omega))
  go_wp2_with fail
  (with_reducible refine (TC.out _ ?_).mono ?_); (repeat (first | exact Below.refl _ _ | exact hBw | refine Below.drew ?_ | refine below_drewN ?_ _ | refine bset ?_ (by simp <;> omega) _ | refine bal ?_ _))
  rintro e w6 ⟨rfl, hb6⟩
  have hk : Below w5.heap.size w5 w6 := bthen belA hb6
  have p0 : w6.cell? ⟨w3.heap.size, 0, none⟩ = some (.int .i64 (kn : Int)) := bkc hb6
  have zp0 := cell_lt p0
  have p1 : w6.cell? ⟨w3.heap.size, 1, none⟩ = some (.int .i64 (R : Int)) := bkc hb6
  have p2 : w6.cell? ⟨w3.heap.size, 2, none⟩ = some (.slice ca L.length cc) := bkc hb6
  have p3 : w6.cell? ⟨w3.heap.size, 3, none⟩ = some (.slice oa O.length oc) := bkc hb6
  have q0 : w6.cell? ⟨w4.heap.size, 0, none⟩ = some (.int .i64 (kn : Int)) := bkc hb6
  have zq0 := cell_lt q0
  have q1 : w6.cell? ⟨w4.heap.size, 1, none⟩ = some (.int .i64 (R : Int)) := bkc hb6
  have q2 : w6.cell? ⟨w4.heap.size, 2, none⟩ = some (.slice qa L.length qc) := bkc hb6
  have q3 : w6.cell? ⟨w4.heap.size, 3, none⟩ = some (.slice ra O.length rc) := bkc hb6
  have hB : Below w.heap.size w w6 := bthen belA hb6
  have hz : w.heap.size ≤ w6.heap.size := hB.size
  clear TC hBw hb6
  have hBw := Below.refl w6.heap.size w6
  have HC6 := Lib.hid (And.intro (HC5.out.1.keep hk) (HC5.out.2.keep hk))
  clear hk HC5 HQ5
  have TC := Lib.hid (fun V (qB : Below w6.heap.size w6 V) => rright_v kn R ca oa cc oc L O true V (HC6.out.1.keep qB) (HC6.out.2.keep qB) ⟨fun _ => HOK.out, fun _ => rfl⟩)
  go_wp2_with fail
  (with_reducible refine (TC.out _ ?_).mono ?_); (repeat (first | exact Below.refl _ _ | exact hBw | refine Below.drew ?_ | refine below_drewN ?_ _ | refine bset ?_ (by simp <;> omega) _ | refine bal ?_ _))
  rintro e w7 ⟨rfl, hb7⟩
  have hk : Below w6.heap.size w6 w7 := bthen belA hb7
  have p0 : w7.cell? ⟨w3.heap.size, 0, none⟩ = some (.int .i64 (kn : Int)) := bkc hb7
  have zp0 := cell_lt p0
  have p1 : w7.cell? ⟨w3.heap.size, 1, none⟩ = some (.int .i64 (R : Int)) := bkc hb7
  have p2 : w7.cell? ⟨w3.heap.size, 2, none⟩ = some (.slice ca L.length cc) := bkc hb7
  have p3 : w7.cell? ⟨w3.heap.size, 3, none⟩ = some (.slice oa O.length oc) := bkc hb7
  have hB : Below w.heap.size w w7 := bthen belA hb7
  have hz : w.heap.size ≤ w7.heap.size := hB.size
  clear TC hBw hb7
  have hBw := Below.refl w7.heap.size w7
  have HC7 := Lib.hid (And.intro (HC6.out.1.keep hk) (HC6.out.2.keep hk))
  clear hk HC6
  have TC := Lib.hid (fun V (qB : Below w7.heap.size w7 V) => revals_y kn R ca oa cc oc L O kn a n cap f V (HC7.out.1.keep qB) (HC7.out.2.keep qB) (HP.out.keep (bthen hB qB)) hk1 hk8 HR.out.2.2 HOK.out HEV.out)
  go_wp2_with fail
  (with_reducible refine (TC.out _ ?_).mono ?_); (repeat (first | exact Below.refl _ _ | exact hBw | refine Below.drew ?_ | refine below_drewN ?_ _ | refine bset ?_ (by simp <;> omega) _ | refine bal ?_ _))
  rintro e w8 ⟨rfl, hb8⟩
  have hk : Below w7.heap.size w7 w8 := bthen belA hb8
  have p0 : w8.cell? ⟨w3.heap.size, 0, none⟩ = some (.int .i64 (kn : Int)) := bkc hb8
  have zp0 := cell_lt p0
  have p1 : w8.cell? ⟨w3.heap.size, 1, none⟩ = some (.int .i64 (R : Int)) := bkc hb8
  have p2 : w8.cell? ⟨w3.heap.size, 2, none⟩ = some (.slice ca L.length cc) := bkc hb8
  have p3 : w8.cell? ⟨w3.heap.size, 3, none⟩ = some (.slice oa O.length oc) := bkc hb8
  have hB : Below w.heap.size w w8 := bthen belA hb8
  have hz : w.heap.size ≤ w8.heap.size := hB.size
  clear TC hBw hb8
  have hBw := Below.refl w8.heap.size w8
  have HC8 := Lib.hid (HC7.out.1.keep hk)
  have HB8 := Lib.hid hB
  clear hk HC7
  go_wp2
  refine wp_name fun w9 hW9 => ?_
  have hk : Below w8.heap.size w8 w9 := by rw [hW9]; repeat (first | exact Below.refl _ _ | exact hBw | refine Below.drew ?_ | refine below_drewN ?_ _ | refine bset ?_ (by simp <;> omega) _ | refine bal ?_ _)
  have HC9 := Lib.hid (HC8.out.keep hk)
  have HP9 := Lib.hid (And.intro (bkeep hk p1) (bkeep hk p2))
  have HB9 := Lib.hid (bthen hB hk)
  clear hW9 hBw hk hB p0 p1 p2 p3 zp0 HC8 HB8
  have hBw := Below.refl w9.heap.size w9
  go_loopw [68] (fun x wr => ∃ j : Nat, j ≤ L.length ∧ x = .int .i64 j ∧ Below w9.heap.size w9 wr) (fun x _ => L.length - (intOf x).toNat)
  case atStart => exact ⟨0, Nat.zero_le _, rfl, by repeat (first | exact Below.refl _ _ | exact hBw | refine Below.drew ?_ | refine below_drewN ?_ _ | refine bset ?_ (by simp <;> omega) _ | refine bal ?_ _)⟩
  case round =>
    obtain ⟨j, hj, rfl, hBr⟩ := hrel
    clear hBw
    by_cases hlt : j < L.length
    · have hltI : (j : Int) < (L.length : Int) := by omega
      rcases HC9.out.keep hBr with h0 | ⟨b, off, rfl, hcap, hcell⟩
      · rw [h0] at hlt; simp at hlt
      obtain ⟨c0, c1, c2, c3, c4⟩ := hcell j hlt
      have HLT := Lib.hid hlt
      have HF := Lib.hid (HFN.out j hlt)
      obtain ⟨i, hi⟩ : ∃ i, L.getD j default = i := ⟨_, rfl⟩
      rw [hi] at c0 c1 c2 c3 c4 HF
      obtain ⟨op, it, ia, ib, ic⟩ := i
      dsimp only at c0 c1 c2 c3 c4 HF
      have zb := cell_lt c0
      have hl := HLT.out
      clear hi hcell hcap hlt
      by_cases h5 : op = 5
      · have d1 : decide (ic < -16) = false := decide_eq_false (by have := HF.out.1 h5; omega)
        have d2 : decide (16 < ic) = false := decide_eq_false (by have := HF.out.1 h5; omega)
        clear HF
        subst h5
        go_wp2
        exact ⟨⟨j + 1, hl, by go_num, by repeat (first | exact Below.refl _ _ | exact hBr | refine Below.drew ?_ | refine below_drewN ?_ _ | refine bset ?_ (by simp <;> omega) _ | refine bal ?_ _)⟩, measS hl (by go_num) rfl⟩
      have h5I : (op == 5) = false := by simpa using h5
      by_cases h7 : op = 7
      · have d1 : decide (4 < ic) = false := decide_eq_false (by have := HF.out.2 h7; omega)
        clear HF
        subst h7
        go_wp2
        exact ⟨⟨j + 1, hl, by go_num, by repeat (first | exact Below.refl _ _ | exact hBr | refine Below.drew ?_ | refine below_drewN ?_ _ | refine bset ?_ (by simp <;> omega) _ | refine bal ?_ _)⟩, measS hl (by go_num) rfl⟩
      have h7I : (op == 7) = false := by simpa using h7
      clear HF h5 h7
      go_wp2
      exact ⟨⟨j + 1, hl, by go_num, by repeat (first | exact Below.refl _ _ | exact hBr | refine Below.drew ?_ | refine below_drewN ?_ _ | refine bset ?_ (by simp <;> omega) _ | refine bal ?_ _)⟩, measS hl (by go_num) rfl⟩
    · obtain rfl : L.length = j := by omega
      have hltI : ¬ (L.length : Int) < (L.length : Int) := by omega
      have p1 := bkeep hBr HP9.out.1
      have p2 := bkeep hBr HP9.out.2
      have zp := cell_lt p1
      have hB := bthen HB9.out hBr
      have hR : kn + n + 1 = R := HL.out.2.2
      obtain ⟨A, hA⟩ : ∃ A, n * kn = A := ⟨_, rfl⟩
      obtain ⟨B, hBB⟩ : ∃ B, A * (kn + 3) = B := ⟨_, rfl⟩
      have hA2 := (prod_ok hn15 hk8 hA).1
      have hLB : L.length * 2 ≤ B := by rw [← hBB, ← hA, Nat.mul_assoc]; exact HLE.out
      have hwA := (prod_ok hn15 hk8 hA).2
      have hwB := prod_ok2 hA2 hk8 hBB
      have d1 := regs_ok hR
      have d2 := half_ok hLB hA2 hk8 hBB
      clear hLB hA hBB hR hj hlt HC9 hBr
      go_wp2
      go_ret
      exact ⟨rfl, by repeat (first | exact Below.refl _ _ | exact hB | refine Below.drew ?_ | refine below_drewN ?_ _ | refine bset ?_ (by simp <;> omega) _ | refine bal ?_ _)⟩
theorem evalPrograms_u (k : Int) (pa : Option Addr) (n pc : Nat) (f : Nat → Int × Int) (w : World) (hk : (Lit.int .i64 k).wf = true) (wm : n * 16 ≤ 140737488355328) (h : PtsV w pa n pc f) (wi : ∀ i, i < n → I64 (f i).1 ∧ I64 (f i).2) (hT : Tz64 w) :
    Calls Tryz.prog 3 #[.int .i64 k, .slice pa n pc] w fun e w' => e = .returned (.bool true) ∧ Below w.heap.size w w' :=
  evalPrograms_h k pa n pc f w h wm hT
end Go.Proofs.YtdllbdfchloijaaGreatDoor

