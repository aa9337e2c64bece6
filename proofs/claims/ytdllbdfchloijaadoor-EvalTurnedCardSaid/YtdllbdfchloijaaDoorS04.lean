/- Texts of this seat, laid together (what the earlier ones leave out): EvT. Each opens with its own remark, which says what it proves, and under which conditions. -/
import Derived.Test.YtdllbdfchloijaaDoorR01
import Derived.Test.YtdllbdfchloijaaDoorR02
import Derived.Test.YtdllbdfchloijaaDoorR03
import Derived.Test.YtdllbdfchloijaaDoorR04
import Derived.Test.YtdllbdfchloijaaDoorR05
import Derived.Test.YtdllbdfchloijaaDoorR06
import Derived.Test.YtdllbdfchloijaaDoorR07
import Derived.Test.YtdllbdfchloijaaDoorR08
import Derived.Test.YtdllbdfchloijaaDoorR09
import Derived.Test.YtdllbdfchloijaaDoorR10
import Derived.Test.YtdllbdfchloijaaDoorR11
import Derived.Test.YtdllbdfchloijaaDoorR12
import Derived.Test.YtdllbdfchloijaaDoorR13
import Derived.Test.YtdllbdfchloijaaDoorR14
import Derived.Test.YtdllbdfchloijaaDoorR15
import Derived.Test.YtdllbdfchloijaaDoorR16
import Derived.Test.YtdllbdfchloijaaDoorR17
import Derived.Test.YtdllbdfchloijaaDoorR18
import Derived.Test.YtdllbdfchloijaaDoorR19
import Derived.Test.YtdllbdfchloijaaDoorR20
import Derived.Test.YtdllbdfchloijaaDoorR21
import Derived.Test.YtdllbdfchloijaaDoorR22
import Derived.Test.YtdllbdfchloijaaDoorR23
import Derived.Test.YtdllbdfchloijaaDoorS01
import Derived.Test.YtdllbdfchloijaaDoorS02
import Derived.Test.YtdllbdfchloijaaDoorS03
import Derived.WalkKit
import Derived.ProofKit
import Derived.OpenShut
import Derived.Deep.QuietTactic
import Derived.BigQuiet
import Derived.Outline
import Derived.Lib.Hide
import Derived.WalkSmall
import Derived.WalkSpells
import Derived.WalkLawsBesides
import Derived.Deep.RegionWith
import Derived.Deep.RegionHeld3
import Derived.Laws.CopyOwn
import Derived.Shelf.Small.Bits
import Derived.Laws.BitsAllLaws
import Derived.Shelf.Spec.TrailingZeros
import Derived.Shelf.Strings.Builder1
import Derived.Shelf.Strings.Trim
import Derived.Deep.Cut
import Derived.Deep.DeepCutAuto
import Derived.ArgAppend
import Derived.Deep.DeepFit
import Derived.Laws.AppendOwn
import Derived.Deep.AppendLies
import Derived.OneCell
import Derived.Shelf.Abstract
import Derived.Laws.EntriesVeiled
import Derived.Deep.DrawnRows
import Derived.Deep.RegionLaw
import Derived.Deep.LoopGhost
import Derived.RegionTactic
import Derived.ChangeAlike
import Derived.Laws.OwnMore
import Derived.Deep.Onto
import Derived.Laws.CopyRow
import Derived.Laws.Rows
import Derived.Laws.Tables
import Derived.Laws.IdiomStrings
import Derived.Laws.BytesArg
import Derived.RangeFuncNested
import Derived.RangeFuncBound
import Derived.RangeFuncCalls
import Derived.RangeFuncLeaves
import Derived.Shelf.RegionOpen
import Derived.OwnWalkIn
import Derived.TacticsInMore
import Derived.LoopNIn
import Derived.LoopIn
import Derived.Laws.RangeString
import Derived.Lib.OthersKept
import Derived.Maps.AppendAt
import Derived.StillTail
import Derived.Deep.Quiet
import Derived.StillTailTactics
import Derived.LaidLaws
import Derived.Lib.LaidTab
import Derived.Lib.SmallJoins
import Derived.Deep.Slices
import Derived.Deep.Matrix
import Derived.Deep.Fields
import Derived.ChangeSame
import Derived.DataShut
import Derived.SizedLaws
set_option linter.unusedVariables false
set_option linter.unusedSimpArgs false
/- EvalTurned: a point times a number; a point turned about. -/
namespace Go.Proofs.YtdllbdfchloijaaDoor
open Pt
open Num
open Go.ChangeShapes Go.WideShapes Go.ChangeAt Go.RowKit
attribute [local go_sem ↓] Go.wp_at_zero Go.wp_at_succ
theorem hvL_rev (l : List Int) (a b : Int) : hvL l.reverse b a = hvL l a b := by
  unfold hvL
  rw [List.length_reverse, ← Det.hv_turn l.length (fun i => l.getD i 0) a b]
  refine Det.hv_congr b a fun i hi => ?_
  rw [List.getD_eq_getElem?_getD, List.getElem?_reverse hi, ← List.getD_eq_getElem?_getD]
theorem rev_at {l : List Int} {i : Nat} (hi : i < l.length) : (fun m => l.getD (l.length - 1 - m) 0) i = l.reverse.getD i 0 := by
  rw [List.getD_eq_getElem?_getD (l := l.reverse), List.getElem?_reverse hi, ← List.getD_eq_getElem?_getD]
theorem hvL_times (l : List Int) (a b t : Int) : hvL l (t * a) (t * b) = hvL l a b * t ^ (l.length - 1) := Det.hv_times l.length (fun i => l.getD i 0) a b t
theorem hvL_bd {l : List Int} {a b : Int} {K : Nat} (h : PIn a b) (hl : l.length ≤ 16) (hb : ∀ j, Bd K (l.getD j 0)) : Bd (K + 216) (hvL l a b) := by
  have := hvP_bd h hl hb l.length (Nat.le_refl _)
  rw [hvP_all] at this
  exact this.mono (by omega)
theorem RowO.intsG {w : World} {base : Nat} {v : Value} {l : List Int} (h : RowO IsInt 31 base w v l) (h1 : 1 ≤ l.length) : ∃ g c, v = .slice (some ⟨g, 0, none⟩) l.length c ∧ base ≤ g ∧ IntsF IsInt w g 0 l.length (fun i => l.getD i 0) ∧ FreeI w g ∧ l.length ≤ c ∧ c ≤ maxLen := by
  have hr := h.row
  obtain ⟨xs, ⟨hl, h2⟩, h3⟩ := h
  rcases h2 with ⟨rfl, h0⟩ | ⟨g, cap, cur, rfl, hg, hh, hc, hm, hs, ht⟩
  · omega
  · obtain ⟨a, c, e, q1, q2, h4⟩ := hr
    cases e
    rcases h4 with h4 | ⟨b, off, e, -, -, hi⟩
    · rw [h4] at h1; simp at h1
    · cases e
      refine ⟨g, cap, rfl, hg, hi, ⟨(Array.getElem?_eq_some_iff.1 hh).1, fun j => by simp [World.frozen?, hh], by unfold typOf; rw [hh]⟩, q1, q2⟩
theorem row_madeG {R : World → Value → Int → Prop} {E : TypeId} {w : World} {base g k c : Nat} {F : Nat → Int} {l : List Int} (h : IntsF R w g 0 k F) (ht : typOf w g = some E) (hk : k ≤ c) (hc : c ≤ maxLen) (hg : base ≤ g) (hl : l.length = k) (he : ∀ j, j < k → F j = l.getD j 0) : IsRow R E base w (.slice (some ⟨g, 0, none⟩) k c) l := by
  subst hl
  exact ⟨_, _, rfl, hk, hc, .inr ⟨g, 0, rfl, hg, ht, h.congr he⟩⟩
theorem below_out {a b c : World} {g : Nat} (h : Below a.heap.size a b) (k : Out (fun q => q = g) b c) (hg : a.heap.size ≤ g) : Below a.heap.size a c :=
  ⟨k.os.trans h.os, k.tape.trans h.tape, k.output.trans h.output, Nat.le_trans h.size k.size, fun i hi => (k.block i (Nat.lt_of_lt_of_le hi h.size) (by omega)).trans (h.block i hi)⟩
theorem bitN_few : ∀ m, m < 17 → bitN m ≤ 5 := by decide
theorem rev_bdL {l : List Int} {K : Nat} (hb : ∀ j, Bd K (l.getD j 0)) (j : Nat) : Bd K (l.reverse.getD j 0) := by
  by_cases hj : j < l.length
  · rw [← rev_at hj]; exact hb _
  · have := hb l.length
    rw [List.getD_eq_getElem?_getD, List.getElem?_eq_none (Nat.le_refl _)] at this
    rw [List.getD_eq_getElem?_getD, List.getElem?_eq_none (by rw [List.length_reverse]; omega)]
    exact this
theorem pt_small {t a : Int} (ht : -16 ≤ t ∧ t ≤ 16) (ha : -16 ≤ a ∧ a ≤ 16) : -256 ≤ t * a ∧ t * a ≤ 256 := by
  have h1 : (t * a).natAbs ≤ 16 * 16 := by rw [Int.natAbs_mul]; exact Nat.mul_le_mul (by omega) (by omega)
  omega
theorem powL_c (vx : Value) (x : Int) (P : Nat) (w : World) (hx : IsInt w vx x) (h1 : 1 ≤ P) (h2 : P ≤ 16) (hs : -16 ≤ x ∧ x ≤ 16) :
    Calls Tryd.prog 22 #[vx, .int .i64 ((P : Int) - 1)] w fun e w' => (∃ v, e = .returned (.tuple #[v, .int .i64 0]) ∧ IsInt w' v (x ^ (P - 1))) ∧ Below w.heap.size w w' := by
  rw [show (P : Int) - 1 = ((P - 1 : Nat) : Int) by omega]
  have h5 := bitN_few x.natAbs (by omega)
  have h6 : (P - 1) * bitN x.natAbs ≤ 15 * 5 := Nat.mul_le_mul (by omega) h5
  exact pow_c vx x (P - 1) w hx (by omega) (by omega) (by omega)
set_option maxRecDepth 100000 in
set_option maxHeartbeats 16000000 in
theorem evalTurned_h (va : Value) (x : List Int) (a b t : Int) (w : World) (hx : RowI w va x) (hT : Tz64 w) :
    Calls Tryd.prog 5 #[va, pv a b, .int .i64 t] w fun e w' => e = .returned (.bool true) ∧ Below w.heap.size w w' := by
  have hB := Below.refl w.heap.size w
  have HXI := Lib.hid hx
  have HBI := Lib.hid (rowI_bdE hx)
  have WC := Lib.hid (fun V (q : Below w.heap.size w V) => works11_c V (hT.keep q))
  obtain ⟨xa, xc, rfl, -⟩ := hx
  clear hT
  obtain ⟨P, hP⟩ : ∃ P, x.length = P := ⟨_, rfl⟩
  have HLN := Lib.hid hP
  rw [hP] at HXI ⊢
  clear hP
  by_cases c1 : P < 1
  · have d1 : decide ((P : Int) < 1) = true := decide_eq_true (by omega)
    go_enter Tryd.func5, Tryd.ntmps5
    go_wp2_with fail
    (with_reducible refine (WC.out _ ?_).mono ?_); (repeat (first | exact Below.refl _ _ | exact hB | refine Below.drew ?_ | refine below_drewN ?_ _ | refine bset ?_ (by simp <;> omega) _ | refine bal ?_ _))
    rintro e w1 ⟨rfl, hb1⟩
    have hB1 : Below w.heap.size w w1 := bthen belA hb1
    clear WC hb1 hB
    go_wp2
    go_ret
    exact ⟨rfl, by repeat (first | exact Below.refl _ _ | exact hB1 | refine Below.drew ?_ | refine below_drewN ?_ _ | refine bset ?_ (by simp <;> omega) _ | refine bal ?_ _)⟩
  have d1 : decide ((P : Int) < 1) = false := decide_eq_false (by omega)
  by_cases c2 : 16 < P
  · have d2 : decide (16 < (P : Int)) = true := decide_eq_true (by omega)
    go_enter Tryd.func5, Tryd.ntmps5
    go_wp2_with fail
    (with_reducible refine (WC.out _ ?_).mono ?_); (repeat (first | exact Below.refl _ _ | exact hB | refine Below.drew ?_ | refine below_drewN ?_ _ | refine bset ?_ (by simp <;> omega) _ | refine bal ?_ _))
    rintro e w1 ⟨rfl, hb1⟩
    have hB1 : Below w.heap.size w w1 := bthen belA hb1
    clear WC hb1 hB
    go_wp2
    go_ret
    exact ⟨rfl, by repeat (first | exact Below.refl _ _ | exact hB1 | refine Below.drew ?_ | refine below_drewN ?_ _ | refine bset ?_ (by simp <;> omega) _ | refine bal ?_ _)⟩
  have d2 : decide (16 < (P : Int)) = false := decide_eq_false (by omega)
  by_cases c5 : PIn a b
  rotate_left
  · have hv := inB_no c5
    have IC := Lib.hid (fun V => ptIn_v a b false V (by assumption))
    go_enter Tryd.func5, Tryd.ntmps5
    go_wp2_with fail
    (with_reducible refine (WC.out _ ?_).mono ?_); (repeat (first | exact Below.refl _ _ | exact hB | refine Below.drew ?_ | refine below_drewN ?_ _ | refine bset ?_ (by simp <;> omega) _ | refine bal ?_ _))
    rintro e w1 ⟨rfl, hb1⟩
    have p0 : w1.cell? ⟨w.heap.size, 0, none⟩ = some (.int .i64 a) := bkc hb1
    have zp0 := cell_lt p0
    have p1 : w1.cell? ⟨w.heap.size, 1, none⟩ = some (.int .i64 b) := bkc hb1
    have hB : Below w.heap.size w w1 := bthen belA hb1
    have hz : w.heap.size ≤ w1.heap.size := hB.size
    clear WC hb1
    have hBw := Below.refl w1.heap.size w1
    go_wp2_with fail
    (with_reducible refine (IC.out _).mono ?_)
    rintro e w2 ⟨rfl, hb2⟩
    have hB2 := bthen hB (bthen (show Below w1.heap.size w1 _ by repeat (first | exact Below.refl _ _ | exact hBw | refine Below.drew ?_ | refine below_drewN ?_ _ | refine bset ?_ (by simp <;> omega) _ | refine bal ?_ _)) hb2)
    go_wp2
    go_ret
    exact ⟨rfl, by repeat (first | exact Below.refl _ _ | exact hB2 | refine Below.drew ?_ | refine below_drewN ?_ _ | refine bset ?_ (by simp <;> omega) _ | refine bal ?_ _)⟩
  have hv := inB_yes c5
  by_cases c6 : t < -16
  · have d6 : decide (t < -16) = true := decide_eq_true c6
    have IC := Lib.hid (fun V => ptIn_v a b true V (by assumption))
    go_enter Tryd.func5, Tryd.ntmps5
    go_wp2_with fail
    (with_reducible refine (WC.out _ ?_).mono ?_); (repeat (first | exact Below.refl _ _ | exact hB | refine Below.drew ?_ | refine below_drewN ?_ _ | refine bset ?_ (by simp <;> omega) _ | refine bal ?_ _))
    rintro e w1 ⟨rfl, hb1⟩
    have p0 : w1.cell? ⟨w.heap.size, 0, none⟩ = some (.int .i64 a) := bkc hb1
    have zp0 := cell_lt p0
    have p1 : w1.cell? ⟨w.heap.size, 1, none⟩ = some (.int .i64 b) := bkc hb1
    have hB : Below w.heap.size w w1 := bthen belA hb1
    have hz : w.heap.size ≤ w1.heap.size := hB.size
    clear WC hb1
    have hBw := Below.refl w1.heap.size w1
    go_wp2_with fail
    (with_reducible refine (IC.out _).mono ?_)
    rintro e w2 ⟨rfl, hb2⟩
    have hB2 := bthen hB (bthen (show Below w1.heap.size w1 _ by repeat (first | exact Below.refl _ _ | exact hBw | refine Below.drew ?_ | refine below_drewN ?_ _ | refine bset ?_ (by simp <;> omega) _ | refine bal ?_ _)) hb2)
    go_wp2
    go_ret
    exact ⟨rfl, by repeat (first | exact Below.refl _ _ | exact hB2 | refine Below.drew ?_ | refine below_drewN ?_ _ | refine bset ?_ (by simp <;> omega) _ | refine bal ?_ _)⟩
  have d6 : decide (t < -16) = false := decide_eq_false c6
  by_cases c7 : 16 < t
  · have d7 : decide (16 < t) = true := decide_eq_true c7
    have IC := Lib.hid (fun V => ptIn_v a b true V (by assumption))
    go_enter Tryd.func5, Tryd.ntmps5
    go_wp2_with fail
    (with_reducible refine (WC.out _ ?_).mono ?_); (repeat (first | exact Below.refl _ _ | exact hB | refine Below.drew ?_ | refine below_drewN ?_ _ | refine bset ?_ (by simp <;> omega) _ | refine bal ?_ _))
    rintro e w1 ⟨rfl, hb1⟩
    have p0 : w1.cell? ⟨w.heap.size, 0, none⟩ = some (.int .i64 a) := bkc hb1
    have zp0 := cell_lt p0
    have p1 : w1.cell? ⟨w.heap.size, 1, none⟩ = some (.int .i64 b) := bkc hb1
    have hB : Below w.heap.size w w1 := bthen belA hb1
    have hz : w.heap.size ≤ w1.heap.size := hB.size
    clear WC hb1
    have hBw := Below.refl w1.heap.size w1
    go_wp2_with fail
    (with_reducible refine (IC.out _).mono ?_)
    rintro e w2 ⟨rfl, hb2⟩
    have hB2 := bthen hB (bthen (show Below w1.heap.size w1 _ by repeat (first | exact Below.refl _ _ | exact hBw | refine Below.drew ?_ | refine below_drewN ?_ _ | refine bset ?_ (by simp <;> omega) _ | refine bal ?_ _)) hb2)
    go_wp2
    go_ret
    exact ⟨rfl, by repeat (first | exact Below.refl _ _ | exact hB2 | refine Below.drew ?_ | refine below_drewN ?_ _ | refine bset ?_ (by simp <;> omega) _ | refine bal ?_ _)⟩
  have d7 : decide (16 < t) = false := decide_eq_false c7
  have hp1 : 1 ≤ P := by omega
  have lx : P ≤ 16 := by omega
  have HPN := Lib.hid c5
  have HTN := Lib.hid (show -16 ≤ t ∧ t ≤ 16 by omega)
  have IC := Lib.hid (fun V => ptIn_v a b true V hv)
  have LX := Lib.hid (fun V (q : Below w.heap.size w V) => list11_c (.slice xa P xc) x V (HXI.out.keep q) (by rw [HLN.out]; omega))
  clear c1 c2 c5 c6 c7 hv
  go_enter Tryd.func5, Tryd.ntmps5
  go_wp2_with fail
  (with_reducible refine (WC.out _ ?_).mono ?_); (repeat (first | exact Below.refl _ _ | exact hB | refine Below.drew ?_ | refine below_drewN ?_ _ | refine bset ?_ (by simp <;> omega) _ | refine bal ?_ _))
  rintro e w1 ⟨rfl, hb1⟩
  have p0 : w1.cell? ⟨w.heap.size, 0, none⟩ = some (.int .i64 a) := bkc hb1
  have zp0 := cell_lt p0
  have p1 : w1.cell? ⟨w.heap.size, 1, none⟩ = some (.int .i64 b) := bkc hb1
  have hB : Below w.heap.size w w1 := bthen belA hb1
  have hz : w.heap.size ≤ w1.heap.size := hB.size
  clear WC hb1
  go_wp2_with fail
  (with_reducible refine (IC.out _).mono ?_)
  rintro e w2 ⟨rfl, hb2⟩
  have p0 : w2.cell? ⟨w.heap.size, 0, none⟩ = some (.int .i64 a) := bkc hb2
  have zp0 := cell_lt p0
  have p1 : w2.cell? ⟨w.heap.size, 1, none⟩ = some (.int .i64 b) := bkc hb2
  have hB : Below w.heap.size w w2 := bthen belA hb2
  have hz : w.heap.size ≤ w2.heap.size := hB.size
  clear IC hb2
  go_wp2_with fail
  (with_reducible refine (LX.out _ ?_).mono ?_); (repeat (first | exact Below.refl _ _ | exact hB | refine Below.drew ?_ | refine below_drewN ?_ _ | refine bset ?_ (by simp <;> omega) _ | refine bal ?_ _))
  rintro e w3 ⟨⟨vx, rfl, hvx⟩, hb3⟩
  have p0 : w3.cell? ⟨w.heap.size, 0, none⟩ = some (.int .i64 a) := bkc hb3
  have zp0 := cell_lt p0
  have p1 : w3.cell? ⟨w.heap.size, 1, none⟩ = some (.int .i64 b) := bkc hb3
  have hB : Below w.heap.size w w3 := bthen belA hb3
  have hz : w.heap.size ≤ w3.heap.size := hB.size
  have HVX := Lib.hid (show PRow 0 w3 vx x from hvx.row.rebase (Nat.zero_le _))
  obtain ⟨xa, xc, rfl⟩ := hvx.ex
  rw [HLN.out] at HVX ⊢
  have hBw := Below.refl w3.heap.size w3
  clear LX hb3 hvx
  have TC := Lib.hid (fun V (qB : Below w3.heap.size w3 V) => value_c (.slice xa P xc) x 64 a b V (IsRow.keep lims_int HVX.out qB) (by rw [HLN.out]; exact hp1) (by rw [HLN.out]; exact lx) HPN.out HBI.out (by decide))
  go_wp2_with fail
  (with_reducible refine (TC.out _ ?_).mono ?_); (repeat (first | exact Below.refl _ _ | exact hBw | refine Below.drew ?_ | refine below_drewN ?_ _ | refine bset ?_ (by simp <;> omega) _ | refine bal ?_ _))
  rintro e w4 ⟨⟨u, rfl, hu⟩, hb4⟩
  have hk : Below w3.heap.size w3 w4 := bthen belA hb4
  have p0 : w4.cell? ⟨w.heap.size, 0, none⟩ = some (.int .i64 a) := bkc hb4
  have zp0 := cell_lt p0
  have p1 : w4.cell? ⟨w.heap.size, 1, none⟩ = some (.int .i64 b) := bkc hb4
  have hB : Below w.heap.size w w4 := bthen belA hb4
  have hz : w.heap.size ≤ w4.heap.size := hB.size
  clear TC hBw hb4
  have hBw := Below.refl w4.heap.size w4
  have HVX4 := Lib.hid (IsRow.keep lims_int HVX.out hk)
  have HU4 := Lib.hid hu
  obtain ⟨un, ud, ul, uk, rfl⟩ := hu.litE
  clear hk hu HVX
  have TC := Lib.hid (fun V (qB : Below w4.heap.size w4 V) => cloneRow_c 0 (.slice xa P xc) x V (IsRow.keep lims_int HVX4.out qB) (by rw [HLN.out]; omega))
  go_wp2_with fail
  (with_reducible refine (TC.out _ ?_).mono ?_); (repeat (first | exact Below.refl _ _ | exact hBw | refine Below.drew ?_ | refine below_drewN ?_ _ | refine bset ?_ (by simp <;> omega) _ | refine bal ?_ _))
  rintro e w5 ⟨⟨vt, rfl, ht⟩, hb5⟩
  obtain ⟨g, gc, hgv, hgb, hG, hF, hgl, hgm⟩ := ht.intsG (by rw [HLN.out]; exact hp1)
  subst hgv
  rw [HLN.out] at hG hgl ⊢
  have HG := Lib.hid (And.intro hG (And.intro hF (And.intro hgl hgm)))
  clear TC hG hF hgl hgm ht
  have RC := Lib.hid (revInts_c g P gc (fun i => x.getD i 0) w5 HG.out.1 HG.out.2.1 hp1 (by omega))
  go_wp2_with fail
  (with_reducible refine (RC.out).mono ?_)
  rintro e w6 ⟨rfl, hG, hF, ho6, hl6⟩
  have hb6 := below_out hb5 ho6 hgb
  have hk : Below w4.heap.size w4 w6 := bthen belA hb6
  have p0 : w6.cell? ⟨w.heap.size, 0, none⟩ = some (.int .i64 a) := bkc hb6
  have zp0 := cell_lt p0
  have p1 : w6.cell? ⟨w.heap.size, 1, none⟩ = some (.int .i64 b) := bkc hb6
  have u0 : w6.cell? ⟨w4.heap.size, 0, none⟩ = some (.bool un) := bkc hb6
  have zu0 := cell_lt u0
  have u1 : w6.cell? ⟨w4.heap.size, 1, none⟩ = some (.slice ud ul uk) := bkc hb6
  have hB : Below w.heap.size w w6 := bthen belA hb6
  have hz : w.heap.size ≤ w6.heap.size := hB.size
  have HVX6 := Lib.hid (IsRow.keep lims_int HVX4.out hk)
  have HU6 := Lib.hid (HU4.out.keep hk)
  have HR6 := Lib.hid (show PRow 0 w6 (.slice (some ⟨g, 0, none⟩) P gc) x.reverse from row_madeG hG hF.ty HG.out.2.2.1 HG.out.2.2.2 (Nat.zero_le _) (by rw [List.length_reverse]; exact HLN.out) (fun j hj => by rw [← HLN.out] at hj ⊢; exact rev_at hj))
  clear RC hG hF ho6 hl6 hb5 hb6 hgb HVX4 HU4 HG hk hBw
  have hBw := Below.refl w6.heap.size w6
  have TC := Lib.hid (fun V (qB : Below w6.heap.size w6 V) => value_c (.slice (some ⟨g, 0, none⟩) P gc) x.reverse 64 b a V (IsRow.keep lims_int HR6.out qB) (by rw [List.length_reverse, HLN.out]; exact hp1) (by rw [List.length_reverse, HLN.out]; exact lx) ⟨HPN.out.2.2.1, HPN.out.2.2.2, HPN.out.1, HPN.out.2.1⟩ (rev_bdL HBI.out) (by decide))
  go_wp2_with fail
  (with_reducible refine (TC.out _ ?_).mono ?_); (repeat (first | exact Below.refl _ _ | exact hBw | refine Below.drew ?_ | refine below_drewN ?_ _ | refine bset ?_ (by simp <;> omega) _ | refine bal ?_ _))
  rintro e w7 ⟨⟨v, rfl, hv⟩, hb7⟩
  have hk : Below w6.heap.size w6 w7 := bthen belA hb7
  have p0 : w7.cell? ⟨w.heap.size, 0, none⟩ = some (.int .i64 a) := bkc hb7
  have zp0 := cell_lt p0
  have p1 : w7.cell? ⟨w.heap.size, 1, none⟩ = some (.int .i64 b) := bkc hb7
  have u0 : w7.cell? ⟨w4.heap.size, 0, none⟩ = some (.bool un) := bkc hb7
  have zu0 := cell_lt u0
  have u1 : w7.cell? ⟨w4.heap.size, 1, none⟩ = some (.slice ud ul uk) := bkc hb7
  have hB : Below w.heap.size w w7 := bthen belA hb7
  have hz : w.heap.size ≤ w7.heap.size := hB.size
  clear TC hBw hb7
  have hBw := Below.refl w7.heap.size w7
  have HVX7 := Lib.hid (IsRow.keep lims_int HVX6.out hk)
  have HU7 := Lib.hid (HU6.out.keep hk)
  have HV7 := Lib.hid hv
  obtain ⟨vn, vd, vl, vk, rfl⟩ := hv.litE
  clear hk hv HVX6 HU6 HR6
  have TC := Lib.hid (fun V (qB : Below w7.heap.size w7 V) => cmpE_c (.agg #[.bool un, .slice ud ul uk]) (.agg #[.bool vn, .slice vd vl vk]) (hvL x a b) (hvL x.reverse b a) V (HU7.out.keep qB) (HV7.out.keep qB) (hvL_rev x a b).symm)
  go_wp2_with fail
  (with_reducible refine (TC.out _ ?_).mono ?_); (repeat (first | exact Below.refl _ _ | exact hBw | refine Below.drew ?_ | refine below_drewN ?_ _ | refine bset ?_ (by simp <;> omega) _ | refine bal ?_ _))
  rintro e w8 ⟨rfl, hb8⟩
  have hk : Below w7.heap.size w7 w8 := bthen belA hb8
  have p0 : w8.cell? ⟨w.heap.size, 0, none⟩ = some (.int .i64 a) := bkc hb8
  have zp0 := cell_lt p0
  have p1 : w8.cell? ⟨w.heap.size, 1, none⟩ = some (.int .i64 b) := bkc hb8
  have u0 : w8.cell? ⟨w4.heap.size, 0, none⟩ = some (.bool un) := bkc hb8
  have zu0 := cell_lt u0
  have u1 : w8.cell? ⟨w4.heap.size, 1, none⟩ = some (.slice ud ul uk) := bkc hb8
  have v0 : w8.cell? ⟨w7.heap.size, 0, none⟩ = some (.bool vn) := bkc hb8
  have zv0 := cell_lt v0
  have v1 : w8.cell? ⟨w7.heap.size, 1, none⟩ = some (.slice vd vl vk) := bkc hb8
  have hB : Below w.heap.size w w8 := bthen belA hb8
  have hz : w.heap.size ≤ w8.heap.size := hB.size
  clear TC hBw hb8
  have hBw := Below.refl w8.heap.size w8
  have HVX8 := Lib.hid (IsRow.keep lims_int HVX7.out hk)
  have HU8 := Lib.hid (HU7.out.keep hk)
  clear hk HVX7 HU7 HV7
  obtain ⟨A, hA⟩ : ∃ A, t * a = A := ⟨_, rfl⟩
  obtain ⟨B, hBB⟩ : ∃ B, t * b = B := ⟨_, rfl⟩
  have hA2 : -256 ≤ A ∧ A ≤ 256 := by rw [← hA]; exact pt_small HTN.out ⟨HPN.out.1, HPN.out.2.1⟩
  have hB2 : -256 ≤ B ∧ B ≤ 256 := by rw [← hBB]; exact pt_small HTN.out HPN.out.2.2
  have hwA : wrap64 (t * a) = A := by rw [hA]; unfold wrap64; omega
  have hwB : wrap64 (t * b) = B := by rw [hBB]; unfold wrap64; omega
  have HAB := Lib.hid (And.intro hA hBB)
  clear hA hBB
  by_cases c5 : PIn A B
  rotate_left
  · have IC := Lib.hid (fun V => ptIn_v A B false V (inB_no c5))
    go_wp2_with fail
    (with_reducible refine (IC.out _).mono ?_)
    rintro e w9 ⟨rfl, hb9⟩
    have hB9 := bthen hB (bthen (show Below w8.heap.size w8 _ by repeat (first | exact Below.refl _ _ | exact hBw | refine Below.drew ?_ | refine below_drewN ?_ _ | refine bset ?_ (by simp <;> omega) _ | refine bal ?_ _)) hb9)
    go_wp2
    go_ret
    exact ⟨rfl, by repeat (first | exact Below.refl _ _ | exact hB9 | refine Below.drew ?_ | refine below_drewN ?_ _ | refine bset ?_ (by simp <;> omega) _ | refine bal ?_ _)⟩
  have IC := Lib.hid (fun V => ptIn_v A B true V (inB_yes c5))
  have HPQ := Lib.hid c5
  clear c5
  go_wp2_with fail
  (with_reducible refine (IC.out _).mono ?_)
  rintro e w9 ⟨rfl, hb9⟩
  have hk : Below w8.heap.size w8 w9 := bthen belA hb9
  have p0 : w9.cell? ⟨w.heap.size, 0, none⟩ = some (.int .i64 a) := bkc hb9
  have zp0 := cell_lt p0
  have p1 : w9.cell? ⟨w.heap.size, 1, none⟩ = some (.int .i64 b) := bkc hb9
  have u0 : w9.cell? ⟨w4.heap.size, 0, none⟩ = some (.bool un) := bkc hb9
  have zu0 := cell_lt u0
  have u1 : w9.cell? ⟨w4.heap.size, 1, none⟩ = some (.slice ud ul uk) := bkc hb9
  have q0 : w9.cell? ⟨w8.heap.size, 0, none⟩ = some (.int .i64 A) := bkc hb9
  have zq0 := cell_lt q0
  have q1 : w9.cell? ⟨w8.heap.size, 1, none⟩ = some (.int .i64 B) := bkc hb9
  have hB : Below w.heap.size w w9 := bthen belA hb9
  have hz : w.heap.size ≤ w9.heap.size := hB.size
  have HVX9 := Lib.hid (IsRow.keep lims_int HVX8.out hk)
  have HU9 := Lib.hid (HU8.out.keep hk)
  clear IC hb9 hk HVX8 HU8 hBw hwA hwB
  have hBw := Below.refl w9.heap.size w9
  have TC := Lib.hid (fun V (qB : Below w9.heap.size w9 V) => value_c (.slice xa P xc) x 64 A B V (IsRow.keep lims_int HVX9.out qB) (by rw [HLN.out]; exact hp1) (by rw [HLN.out]; exact lx) HPQ.out HBI.out (by decide))
  go_wp2_with fail
  (with_reducible refine (TC.out _ ?_).mono ?_); (repeat (first | exact Below.refl _ _ | exact hBw | refine Below.drew ?_ | refine below_drewN ?_ _ | refine bset ?_ (by simp <;> omega) _ | refine bal ?_ _))
  rintro e w10 ⟨⟨s, rfl, hs⟩, hb10⟩
  have hk : Below w9.heap.size w9 w10 := bthen belA hb10
  have p0 : w10.cell? ⟨w.heap.size, 0, none⟩ = some (.int .i64 a) := bkc hb10
  have zp0 := cell_lt p0
  have p1 : w10.cell? ⟨w.heap.size, 1, none⟩ = some (.int .i64 b) := bkc hb10
  have u0 : w10.cell? ⟨w4.heap.size, 0, none⟩ = some (.bool un) := bkc hb10
  have zu0 := cell_lt u0
  have u1 : w10.cell? ⟨w4.heap.size, 1, none⟩ = some (.slice ud ul uk) := bkc hb10
  have q0 : w10.cell? ⟨w8.heap.size, 0, none⟩ = some (.int .i64 A) := bkc hb10
  have zq0 := cell_lt q0
  have q1 : w10.cell? ⟨w8.heap.size, 1, none⟩ = some (.int .i64 B) := bkc hb10
  have hB : Below w.heap.size w w10 := bthen belA hb10
  have hz : w.heap.size ≤ w10.heap.size := hB.size
  clear TC hBw hb10
  have hBw := Below.refl w10.heap.size w10
  have HU10 := Lib.hid (HU9.out.keep hk)
  have HS10 := Lib.hid hs
  obtain ⟨sn, sd, sl, sk, rfl⟩ := hs.litE
  clear hk hs HVX9 HU9
  have TC := Lib.hid (fun V (qB : Below w10.heap.size w10 V) => of_c t V (by have := HTN.out; omega) (by have := HTN.out; omega))
  go_wp2_with fail
  (with_reducible refine (TC.out _ ?_).mono ?_); (repeat (first | exact Below.refl _ _ | exact hBw | refine Below.drew ?_ | refine below_drewN ?_ _ | refine bset ?_ (by simp <;> omega) _ | refine bal ?_ _))
  rintro e w11 ⟨⟨o, rfl, ho⟩, hb11⟩
  have hk : Below w10.heap.size w10 w11 := bthen belA hb11
  have p0 : w11.cell? ⟨w.heap.size, 0, none⟩ = some (.int .i64 a) := bkc hb11
  have zp0 := cell_lt p0
  have p1 : w11.cell? ⟨w.heap.size, 1, none⟩ = some (.int .i64 b) := bkc hb11
  have u0 : w11.cell? ⟨w4.heap.size, 0, none⟩ = some (.bool un) := bkc hb11
  have zu0 := cell_lt u0
  have u1 : w11.cell? ⟨w4.heap.size, 1, none⟩ = some (.slice ud ul uk) := bkc hb11
  have s0 : w11.cell? ⟨w10.heap.size, 0, none⟩ = some (.bool sn) := bkc hb11
  have zs0 := cell_lt s0
  have s1 : w11.cell? ⟨w10.heap.size, 1, none⟩ = some (.slice sd sl sk) := bkc hb11
  have hB : Below w.heap.size w w11 := bthen belA hb11
  have hz : w.heap.size ≤ w11.heap.size := hB.size
  clear TC hBw hb11
  have hBw := Below.refl w11.heap.size w11
  have HU11 := Lib.hid (HU10.out.keep hk)
  have HS11 := Lib.hid (HS10.out.keep hk)
  have HO := Lib.hid ho
  clear hk ho HU10 HS10
  have TC := Lib.hid (fun V (qB : Below w11.heap.size w11 V) => powL_c o t P V (HO.out.keep qB) hp1 lx HTN.out)
  go_wp2_with fail
  (with_reducible refine (TC.out _ ?_).mono ?_); (repeat (first | exact Below.refl _ _ | exact hBw | refine Below.drew ?_ | refine below_drewN ?_ _ | refine bset ?_ (by simp <;> omega) _ | refine bal ?_ _))
  rintro e w12 ⟨⟨r, rfl, hr⟩, hb12⟩
  have hk : Below w11.heap.size w11 w12 := bthen belA hb12
  have p0 : w12.cell? ⟨w.heap.size, 0, none⟩ = some (.int .i64 a) := bkc hb12
  have zp0 := cell_lt p0
  have p1 : w12.cell? ⟨w.heap.size, 1, none⟩ = some (.int .i64 b) := bkc hb12
  have u0 : w12.cell? ⟨w4.heap.size, 0, none⟩ = some (.bool un) := bkc hb12
  have zu0 := cell_lt u0
  have u1 : w12.cell? ⟨w4.heap.size, 1, none⟩ = some (.slice ud ul uk) := bkc hb12
  have s0 : w12.cell? ⟨w10.heap.size, 0, none⟩ = some (.bool sn) := bkc hb12
  have zs0 := cell_lt s0
  have s1 : w12.cell? ⟨w10.heap.size, 1, none⟩ = some (.slice sd sl sk) := bkc hb12
  have hB : Below w.heap.size w w12 := bthen belA hb12
  have hz : w.heap.size ≤ w12.heap.size := hB.size
  clear TC hBw hb12
  have hBw := Below.refl w12.heap.size w12
  have HU12 := Lib.hid (HU11.out.keep hk)
  have HS12 := Lib.hid (HS11.out.keep hk)
  have HR12 := Lib.hid hr
  obtain ⟨rn, rd, rl, rk, rfl⟩ := hr.litE
  clear hk hr HU11 HS11 HO
  go_wp2
  refine wp_name fun w13 hW13 => ?_
  have hk : Below w12.heap.size w12 w13 := by rw [hW13]; repeat (first | exact Below.refl _ _ | exact hBw | refine Below.drew ?_ | refine below_drewN ?_ _ | refine bset ?_ (by simp <;> omega) _ | refine bal ?_ _)
  have r0 : w13.cell? ⟨w12.heap.size, 0, none⟩ = some (.bool rn) := by rw [hW13]; simp [go_sem]
  have r1 : w13.cell? ⟨w12.heap.size, 1, none⟩ = some (.slice rd rl rk) := by rw [hW13]; simp [go_sem]
  replace u0 := bkeep hk u0
  replace u1 := bkeep hk u1
  replace s0 := bkeep hk s0
  replace s1 := bkeep hk s1
  have HU13 := Lib.hid (HU12.out.keep hk)
  have HS13 := Lib.hid (HS12.out.keep hk)
  have HR13 := Lib.hid (HR12.out.keep hk)
  have hB13 := bthen hB hk
  have HS := Lib.hid (show ∀ V, Below w13.heap.size w13 V → V.cell? ⟨w4.heap.size, 0, none⟩ = some (.bool un) ∧ V.cell? ⟨w4.heap.size, 1, none⟩ = some (.slice ud ul uk) ∧ V.cell? ⟨w10.heap.size, 0, none⟩ = some (.bool sn) ∧ V.cell? ⟨w10.heap.size, 1, none⟩ = some (.slice sd sl sk) ∧ V.cell? ⟨w12.heap.size, 0, none⟩ = some (.bool rn) ∧ V.cell? ⟨w12.heap.size, 1, none⟩ = some (.slice rd rl rk) from fun V q => ⟨bkeep q u0, bkeep q u1, bkeep q s0, bkeep q s1, bkeep q r0, bkeep q r1⟩)
  have HBV := Lib.hid (show Bd 280 (hvL x a b) ∧ Bd 280 (t ^ (P - 1)) from ⟨(hvL_bd HPN.out (by rw [HLN.out]; exact lx) HBI.out).mono (by decide), by
    have h5 := bitN_few t.natAbs (by have := HTN.out; omega)
    have h6 : (P - 1) * bitN t.natAbs ≤ 15 * 5 := Nat.mul_le_mul (by omega) h5
    exact ((bd_bitN t).pow (P - 1)).mono (by omega)⟩)
  have MC := Lib.hid (fun V (q : Below w13.heap.size w13 V) => mul_c (.agg #[.bool un, .slice ud ul uk]) (.agg #[.bool rn, .slice rd rl rk]) (hvL x a b) (t ^ (P - 1)) 280 280 V (HU13.out.keep q) (HR13.out.keep q) HBV.out.1 HBV.out.2 (by decide) (by decide))
  have CC := Lib.hid (fun V z (q : Below w13.heap.size w13 V) (hz : IsInt V z (hvL x a b * t ^ (P - 1))) => cmpE_c (.agg #[.bool sn, .slice sd sl sk]) z (hvL x A B) (hvL x a b * t ^ (P - 1)) V (HS13.out.keep q) hz (by rw [← HAB.out.1, ← HAB.out.2, hvL_times, HLN.out]))
  have zu := cell_lt u0
  have zr := cell_lt r0
  have zs := cell_lt s0
  clear hW13 hk hBw HU12 HS12 HR12 hB
  have hBw := Below.refl w13.heap.size w13
  go_region_held3 (fun V => V.cell? ⟨w4.heap.size, 0, none⟩ = some (.bool un) ∧ V.cell? ⟨w4.heap.size, 1, none⟩ = some (.slice ud ul uk) ∧ V.cell? ⟨w10.heap.size, 0, none⟩ = some (.bool sn) ∧ V.cell? ⟨w10.heap.size, 1, none⟩ = some (.slice sd sl sk) ∧ V.cell? ⟨w12.heap.size, 0, none⟩ = some (.bool rn) ∧ V.cell? ⟨w12.heap.size, 1, none⟩ = some (.slice rd rl rk))
    (first | (refine HS.out _ ?_; (repeat (first | exact Below.refl _ _ | exact hBw | refine Below.drew ?_ | refine below_drewN ?_ _ | refine bset ?_ (by simp <;> omega) _ | refine bal ?_ _)); done) | fail)
    (first
      | (go_at_call 10; refine (MC.out _ ?_).mono ?_; (repeat (first | exact Below.refl _ _ | exact hBw | refine Below.drew ?_ | refine below_drewN ?_ _ | refine bset ?_ (by simp <;> omega) _ | refine bal ?_ _)); rintro e w14 ⟨⟨z, rfl, hz⟩, hb14⟩; (have hBd : Below w13.heap.size w13 w14 := bthen belA hb14; clear hBw; have hBw := hBd; clear hBd); have HZ := Lib.hid hz; have hy14 := Below.refl w14.heap.size w14; obtain ⟨zn, zd, zl, zk, rfl⟩ := hz.litE; clear hz)
      | (go_at_call 12; refine (CC.out _ _ ?_ (HZ.out.keep ?_)).mono ?_; (repeat (first | exact Below.refl _ _ | exact hBw | refine Below.drew ?_ | refine below_drewN ?_ _ | refine bset ?_ (by simp <;> omega) _ | refine bal ?_ _)); (repeat (first | exact Below.refl _ _ | exact hy14 | refine Below.drew ?_ | refine below_drewN ?_ _ | refine bset ?_ (by simp <;> omega) _ | refine bal ?_ _)); rintro e w15 ⟨rfl, hb15⟩; (have hBd : Below w13.heap.size w13 w15 := bthen belA hb15; clear hBw; have hBw := hBd; clear hBd))
      | fail)
  all_goals
    have hBf := bthen hB13 hBw
    go_wp2
    go_ret
    exact ⟨rfl, by repeat (first | exact Below.refl _ _ | exact hBf | refine Below.drew ?_ | refine below_drewN ?_ _ | refine bset ?_ (by simp <;> omega) _ | refine bal ?_ _)⟩
theorem evalTurned_u (va : Value) (x : List Int) (a b t : Int) (w : World) (hx : RowI w va x) (bx : x.length ≤ 1152921504606846976) (wa : (Lit.int .i64 a).wf = true) (wb : (Lit.int .i64 b).wf = true) (wt : (Lit.int .i64 t).wf = true) (hT : Tz64 w) :
    Calls Tryd.prog 5 #[va, .agg #[.int .i64 a, .int .i64 b], .int .i64 t] w fun e w' => e = .returned (.bool true) ∧ Below w.heap.size w w' :=
  evalTurned_h va x a b t w hx hT
end Go.Proofs.YtdllbdfchloijaaDoor

