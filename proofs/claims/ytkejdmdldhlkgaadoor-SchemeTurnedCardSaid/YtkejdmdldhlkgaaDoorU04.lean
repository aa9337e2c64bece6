/- Texts of this seat, laid together (what the earlier ones leave out): ScR. Each opens with its own remark, which says what it proves, and under which conditions. -/
import Derived.Test.YtkejdmdldhlkgaaDoorP01
import Derived.Test.YtkejdmdldhlkgaaDoorP02
import Derived.Test.YtkejdmdldhlkgaaDoorP03
import Derived.Test.YtkejdmdldhlkgaaDoorP04
import Derived.Test.YtkejdmdldhlkgaaDoorP05
import Derived.Test.YtkejdmdldhlkgaaDoorP06
import Derived.Test.YtkejdmdldhlkgaaDoorP07
import Derived.Test.YtkejdmdldhlkgaaDoorP08
import Derived.Test.YtkejdmdldhlkgaaDoorP09
import Derived.Test.YtkejdmdldhlkgaaDoorP10
import Derived.Test.YtkejdmdldhlkgaaDoorP11
import Derived.Test.YtkejdmdldhlkgaaDoorP12
import Derived.Test.YtkejdmdldhlkgaaDoorP13
import Derived.Test.YtkejdmdldhlkgaaDoorP14
import Derived.Test.YtkejdmdldhlkgaaDoorP15
import Derived.Test.YtkejdmdldhlkgaaDoorP16
import Derived.Test.YtkejdmdldhlkgaaDoorP17
import Derived.Test.YtkejdmdldhlkgaaDoorP18
import Derived.Test.YtkejdmdldhlkgaaDoorP19
import Derived.Test.YtkejdmdldhlkgaaDoorP20
import Derived.Test.YtkejdmdldhlkgaaDoorP21
import Derived.Test.YtkejdmdldhlkgaaDoorP22
import Derived.Test.YtkejdmdldhlkgaaDoorP23
import Derived.Test.YtkejdmdldhlkgaaDoorP24
import Derived.Test.YtkejdmdldhlkgaaDoorP25
import Derived.Test.YtkejdmdldhlkgaaDoorU01
import Derived.Test.YtkejdmdldhlkgaaDoorU02
import Derived.Test.YtkejdmdldhlkgaaDoorU03
import Derived.WalkKit
import Derived.ProofKit
import Derived.OpenShut
import Derived.Deep.QuietTactic
import Derived.BigQuiet
import Derived.Outline
import Derived.Lib.Hide
import Derived.WalkSmall
import Derived.WalkSpells
import Derived.WalkLawsBesides
import Derived.Deep.RegionWith
import Derived.Deep.RegionHeld3
import Derived.Laws.CopyOwn
import Derived.Shelf.Small.Bits
import Derived.Laws.AppendOwn
import Derived.Deep.AppendLies
import Derived.Deep.DrawnRows
import Derived.StillTail
import Derived.Deep.Quiet
import Derived.OneCell
import Derived.Laws.BitsAllLaws
import Derived.Shelf.Spec.TrailingZeros
import Derived.Shelf.Strings.Builder1
import Derived.Shelf.Strings.Trim
import Derived.Deep.Cut
import Derived.Deep.DeepCutAuto
import Derived.ArgAppend
import Derived.Deep.DeepFit
import Derived.Shelf.Abstract
import Derived.Laws.EntriesVeiled
import Derived.RegionTactic
import Derived.ChangeAlike
import Derived.Laws.OwnMore
import Derived.Deep.Onto
import Derived.Deep.RegionLaw
import Derived.Deep.LoopGhost
import Derived.RangeFuncNested
import Derived.RangeFuncBound
import Derived.RangeFuncCalls
import Derived.RangeFuncLeaves
import Derived.Shelf.RegionOpen
import Derived.OwnWalkIn
import Derived.TacticsInMore
import Derived.LoopNIn
import Derived.LoopIn
import Derived.Laws.CopyRow
import Derived.Laws.Rows
import Derived.Laws.Tables
import Derived.StillTailTactics
import Derived.Lib.AppendZeros
import Derived.Laws.IdiomStrings
import Derived.Laws.BytesArg
import Derived.Laws.RangeString
import Derived.Lib.OthersKept
import Derived.Maps.AppendAt
import Derived.Shelf.Strings.OnBuilder
import Derived.Lib.SmallJoins
import Derived.Deep.Slices
import Derived.Deep.Matrix
import Derived.Deep.Fields
import Derived.ChangeSame
import Derived.DataShut
import Derived.SizedLaws
set_option linter.unusedVariables false
set_option linter.unusedSimpArgs false
/- SchemeTurned: a point's coordinates times a number: the scheme stays good or bad; the row of Full is so many times what it was. -/
namespace Go.Proofs.YtkejdmdldhlkgaaDoor
open Pt
open Num
open Go.ChangeShapes Go.WideShapes Go.ChangeAt Go.RowKit
attribute [local go_sem ↓] Go.wp_at_zero Go.wp_at_succ
set_option maxRecDepth 100000 in
set_option maxHeartbeats 16000000 in
theorem schemeTurned_h (k1 k2 : Int) (pa : Option Addr) (n cap : Nat) (f : Nat → Int × Int) (i c : Int) (w : World) (h : PtsV w pa n cap f) (hn : n * 16 ≤ 140737488355328) :
    Calls Tryd.prog 4 #[.int .i64 k1, .int .i64 k2, .slice pa n cap, .int .i64 i, .int .i64 c] w fun e w' => e = .returned (.bool true) ∧ Below w.heap.size w w' := by
  have HP := Lib.hid h
  have HN := Lib.hid hn
  have hB := Below.refl w.heap.size w
  clear h hn
  go_enter Tryd.func4, Tryd.ntmps4
  go_wp2_with fail
  (with_reducible refine (works7_c _).mono ?_)
  rintro e w1 ⟨rfl, hb1⟩
  have hB1 : Below w.heap.size w w1 := bthen belA hb1
  clear hb1 hB
  have hB := hB1
  clear hB1
  by_cases c1 : i < 0
  ·
    go_wp2
    go_ret
    exact ⟨rfl, by repeat (first | exact Below.refl _ _ | exact hB | refine Below.drew ?_ | refine below_drewN ?_ _ | refine bset ?_ (by simp <;> omega) _ | refine bal ?_ _)⟩
  obtain ⟨i', hi'⟩ := Int.eq_ofNat_of_zero_le (show 0 ≤ i by omega)
  subst hi'
  by_cases c2 : i' < n
  rotate_left
  · have hI : (n : Int) ≤ (i' : Int) := by omega
    go_wp2
    go_ret
    exact ⟨rfl, by repeat (first | exact Below.refl _ _ | exact hB | refine Below.drew ?_ | refine below_drewN ?_ _ | refine bset ?_ (by simp <;> omega) _ | refine bal ?_ _)⟩
  have hI1 : ¬ (i' : Int) < 0 := by omega
  have hI2 : ¬ (n : Int) ≤ (i' : Int) := by omega
  have hI5 : ¬ n ≤ i' := by omega
  have hI3 : (i' : Int) < (n : Int) := by omega
  by_cases c3 : c = 0
  · subst c3
    go_wp2
    go_ret
    exact ⟨rfl, by repeat (first | exact Below.refl _ _ | exact hB | refine Below.drew ?_ | refine below_drewN ?_ _ | refine bset ?_ (by simp <;> omega) _ | refine bal ?_ _)⟩
  have hI4 : (c == 0) = false := by simpa using c3
  by_cases c4 : c < -16
  ·
    go_wp2
    go_ret
    exact ⟨rfl, by repeat (first | exact Below.refl _ _ | exact hB | refine Below.drew ?_ | refine below_drewN ?_ _ | refine bset ?_ (by simp <;> omega) _ | refine bal ?_ _)⟩
  by_cases c5 : 16 < c
  ·
    go_wp2
    go_ret
    exact ⟨rfl, by repeat (first | exact Below.refl _ _ | exact hB | refine Below.drew ?_ | refine below_drewN ?_ _ | refine bset ?_ (by simp <;> omega) _ | refine bal ?_ _)⟩
  have HC := Lib.hid (show c ≠ 0 ∧ -16 ≤ c ∧ c ≤ 16 ∧ i' < n from ⟨c3, by omega, by omega, c2⟩)
  obtain ⟨b, off, e, hcap, x0, x1⟩ := HP.out.at c2
  subst e
  replace x0 := bkeep hB x0
  replace x1 := bkeep hB x1
  have zx := cell_lt x0
  obtain ⟨q, hq⟩ : ∃ q, f i' = q := ⟨_, rfl⟩
  have HQ := Lib.hid hq
  rw [hq] at x0 x1
  obtain ⟨q1, q2⟩ := q
  obtain ⟨v, hv⟩ : ∃ v, inB q1 q2 = v := ⟨_, rfl⟩
  have HV := Lib.hid hv
  have IC := Lib.hid (fun V => ptIn_v q1 q2 v V hv)
  have hBw := Below.refl w1.heap.size w1
  clear c1 c2 c3 hq hv
  go_wp2_with fail
  (with_reducible refine (IC.out _).mono ?_)
  rintro e w2 ⟨rfl, hb2⟩
  have hB2 : Below w.heap.size w w2 := bthen hB (bthen belA hb2)
  clear hb2 hB IC hBw x0 x1 zx
  have hB := hB2
  clear hB2
  cases v with
  | false =>
    go_wp2
    go_ret
    exact ⟨rfl, by repeat (first | exact Below.refl _ _ | exact hB | refine Below.drew ?_ | refine below_drewN ?_ _ | refine bset ?_ (by simp <;> omega) _ | refine bal ?_ _)⟩
  | true =>
  have KC := Lib.hid (fun V (qB : Below w2.heap.size w2 V) => clonePts_c (some ⟨b, off, none⟩) cap n f V (HP.out.keep (bthen hB qB)) (fun e => by cases e) HN.out)
  have hBw := Below.refl w2.heap.size w2
  go_wp2_with fail
  (with_reducible refine (KC.out _ ?_).mono ?_); (repeat (first | exact Below.refl _ _ | exact hBw | refine Below.drew ?_ | refine below_drewN ?_ _ | refine bset ?_ (by simp <;> omega) _ | refine bal ?_ _))
  rintro e w3 ⟨⟨ma, mc, rfl, hmc, hmp, hmf, hmF⟩, hb3⟩
  have hk3 : Below w2.heap.size w2 w3 := bthen belA hb3
  have hsz : w2.heap.size ≤ _ := (show Below w2.heap.size w2 _ by repeat (first | exact Below.refl _ _ | exact hBw | refine Below.drew ?_ | refine below_drewN ?_ _ | refine bset ?_ (by simp <;> omega) _ | refine bal ?_ _)).size
  obtain ⟨mb, rfl, hmF2⟩ : ∃ b, ma = some ⟨b, 0, none⟩ ∧ Free w3 b := hmF.elim (fun h => absurd HC.out.2.2.2 (by omega)) id
  replace hmF := hmF2
  clear hmF2
  have hmb : w2.heap.size ≤ mb := Nat.le_trans hsz (hmf _ rfl).1
  have hpin : PtsIn w3 mb 0 n f := by
    rcases hmp with h | ⟨b', o', e, -, h⟩
    · have := HC.out.2.2.2; omega
    · cases e; exact h
  have HM3 := Lib.hid (And.intro hpin (And.intro hmc hmb))
  obtain ⟨m0, m1⟩ := hpin i' HC.out.2.2.2
  rw [HQ.out] at m0 m1
  rw [Nat.zero_add] at m0 m1
  have m0f := hmF.2 (i' * 2)
  have m1f := hmF.2 (i' * 2 + 1)
  have hB3 := bthen hB hk3
  obtain ⟨_, _, e, -, x0, x1⟩ := (HP.out.keep hB3).at HC.out.2.2.2
  cases e
  rw [HQ.out] at x0 x1
  have hpq := (inB_iff q1 q2).1 HV.out
  have hw1 : IntKind.i64.wrap (c * q1) = c * q1 := by rw [IntWalk.i64_left]; have h1 := mul_bd c q1 HC.out.2.1 HC.out.2.2.1 hpq.1 hpq.2.1; exact wp64 _ (by omega) (by omega)
  have hw2 : IntKind.i64.wrap (c * q2) = c * q2 := by rw [IntWalk.i64_left]; have h1 := mul_bd c q2 HC.out.2.1 HC.out.2.2.1 hpq.2.2.1 hpq.2.2.2; exact wp64 _ (by omega) (by omega)
  have zm := cell_lt m0
  have zx := cell_lt x0
  have hne : ¬ mb = b := by
    have h1 : b < w2.heap.size := by obtain ⟨_, _, e, -, y0, -⟩ := (HP.out.keep hB).at HC.out.2.2.2; cases e; exact cell_lt y0
    omega
  have hne2 : ¬ b = mb := fun e => hne e.symm
  clear hI1 hI2 hI4 hI5 c4 c5 KC hBw hb3 hmc hmp hmf hmF hpin hsz hmb
  have hwmb : w.heap.size ≤ mb := Nat.le_trans hB.size HM3.out.2.2
  go_wp2
  go_region
  all_goals
    obtain ⟨w4, hW4⟩ : ∃ W, (((w3.setCell ⟨mb, i' * 2, none⟩ (.int .i64 (c * q1))).setCell ⟨mb, i' * 2 + 1, none⟩ (.int .i64 (c * q2))).drew) = W := ⟨_, rfl⟩
    rw [hW4]
    have hp4 : PtsIn w4 mb 0 n (timesF f i' c) := by
      have h := pts_set HM3.out.1 HC.out.2.2.2 c
      rw [HQ.out] at h
      rw [← hW4]
      exact h
    have hB4 : Below w.heap.size w w4 := by
      rw [← hW4]
      exact (bset (bset hB3 (p := ⟨mb, i' * 2, none⟩) hwmb _) (p := ⟨mb, i' * 2 + 1, none⟩) hwmb _).drew
    obtain ⟨y0, y1⟩ := hp4 i' HC.out.2.2.2
    rw [show timesF f i' c i' = (c * q1, c * q2) by unfold timesF; rw [if_pos rfl, HQ.out]] at y0 y1
    rw [Nat.zero_add] at y0 y1
    have HPM := Lib.hid (show PtsV w4 (some ⟨mb, 0, none⟩) n mc (timesF f i' c) from .inr ⟨mb, 0, rfl, HM3.out.2.1, hp4⟩)
    obtain ⟨v2, hv2⟩ : ∃ v, inB (c * q1) (c * q2) = v := ⟨_, rfl⟩
    have HV2 := Lib.hid hv2
    obtain ⟨C1, hC1⟩ : ∃ z, c * q1 = z := ⟨_, rfl⟩
    obtain ⟨C2, hC2⟩ : ∃ z, c * q2 = z := ⟨_, rfl⟩
    rw [hC1] at y0 hv2
    rw [hC2] at y1 hv2
    have IC := Lib.hid (fun V => ptIn_v C1 C2 v2 V hv2)
    clear hW4 hp4 hw1 hw2 m0 m1 m0f m1f x0 x1 hB hB3 hC1 hC2 hv2 zm zx hpq hwmb hne hne2 HM3
    have hB := hB4
    have zy := cell_lt y0
    have hBw := Below.refl w4.heap.size w4
    clear hB4
    go_wp2_with fail
    (with_reducible refine (IC.out _).mono ?_)
    rintro e w5 ⟨rfl, hb5⟩
    have hk5 : Below w4.heap.size w4 w5 := bthen belA hb5
    have hB5 : Below w.heap.size w w5 := bthen hB hk5
    have HPM5 := Lib.hid (HPM.out.keep hk5)
    clear hb5 hB IC hBw y0 y1 zy hk5 HPM
    have hB := hB5
    clear hB5
    cases v2 with
    | false =>
      go_wp2
      go_ret
      exact ⟨rfl, by repeat (first | exact Below.refl _ _ | exact hB | refine Below.drew ?_ | refine below_drewN ?_ _ | refine bset ?_ (by simp <;> omega) _ | refine bal ?_ _)⟩
    | true =>
    have HAL := Lib.hid (allIn_times (n := n) (f := f) (i := i') (c := c) (by rw [HQ.out]; exact HV.out) (by rw [HQ.out]; exact HV2.out))
    have HSC := Lib.hid (sch_times (k1 := k1) (k2 := k2) (n := n) (f := f) (i := i') (c := c) (by rw [HQ.out]; exact HV.out) (by rw [HQ.out]; exact HV2.out) HC.out.1)
    have NC := Lib.hid (fun W (qB : Below w5.heap.size w5 W) => newS_c k1 k2 (some ⟨b, off, none⟩) n cap f W (HP.out.keep (bthen hB qB)) (by have := HN.out; omega))
    have NC2 := Lib.hid (fun W (qB : Below w5.heap.size w5 W) => newS_c k1 k2 (some ⟨mb, 0, none⟩) n mc (timesF f i' c) W (HPM5.out.keep qB) (by have := HN.out; omega))
    have hBw := Below.refl w5.heap.size w5
    go_wp2_with fail
    (with_reducible refine (NC.out _ ?_).mono ?_); (repeat (first | exact Below.refl _ _ | exact hBw | refine Below.drew ?_ | refine below_drewN ?_ _ | refine bset ?_ (by simp <;> omega) _ | refine bal ?_ _))
    intro e w6 hN6
    obtain ⟨hN6, hb6⟩ := hN6
    have hk6 : Below w5.heap.size w5 w6 := bthen belA hb6
    have hy6 := Below.refl w6.heap.size w6
    clear hb6 hBw NC
    rcases hN6 with ⟨no, hw6, hne, rfl⟩ | ⟨hS, b1, rfl, hs⟩
    · have HW6 := Lib.hid (And.intro hw6 hne)
      clear hw6 hne
      go_wp2_with fail
      (with_reducible refine (NC2.out _ ?_).mono ?_); (repeat (first | exact Below.refl _ _ | exact hk6 | refine Below.drew ?_ | refine below_drewN ?_ _ | refine bset ?_ (by simp <;> omega) _ | refine bal ?_ _))
      intro e w7 hN7
      obtain ⟨hN7, hb7⟩ := hN7
      have hB7 : Below w.heap.size w w7 := bthen hB (bthen (show Below w5.heap.size w5 _ by repeat (first | exact Below.refl _ _ | exact hk6 | refine Below.drew ?_ | refine below_drewN ?_ _ | refine bset ?_ (by simp <;> omega) _ | refine bal ?_ _)) hb7)
      clear hb7 NC2 hB
      have hB := hB7
      clear hB7
      rcases hN7 with ⟨no2, hw7, hne2, rfl⟩ | ⟨hS2, b2, rfl, hs2⟩
      · obtain rfl : no = no2 := (HW6.out.1.congr HAL.out HSC.out).unique hw7
        have hI : (no != no) = false := by simp
        have hI2 : (no != 0) = true := by simpa using hne2
        clear hw7 hne2
        go_wp2
        go_ret
        exact ⟨rfl, by repeat (first | exact Below.refl _ _ | exact hB | refine Below.drew ?_ | refine below_drewN ?_ _ | refine bset ?_ (by simp <;> omega) _ | refine bal ?_ _)⟩
      · exact absurd (HW6.out.1.unique (.inr (.inr ⟨HSC.out.2 hS2, rfl⟩))) HW6.out.2
    have HS := Lib.hid hS
    have HSA := Lib.hid hs
    clear hS hs
    go_wp2_with fail
    (with_reducible refine (NC2.out _ ?_).mono ?_); (repeat (first | exact Below.refl _ _ | exact hk6 | refine Below.drew ?_ | refine below_drewN ?_ _ | refine bset ?_ (by simp <;> omega) _ | refine bal ?_ _))
    intro e w7 hN7
    obtain ⟨hN7, hb7⟩ := hN7
    have hk : Below w6.heap.size w6 w7 := bthen belA hb7
    have hB7 : Below w.heap.size w w7 := bthen hB (bthen (show Below w5.heap.size w5 _ by repeat (first | exact Below.refl _ _ | exact hk6 | refine Below.drew ?_ | refine below_drewN ?_ _ | refine bset ?_ (by simp <;> omega) _ | refine bal ?_ _)) hb7)
    replace HSA := Lib.hid (HSA.out.keep hk)
    clear hb7 NC2 hB hk hk6 hy6
    have hB := hB7
    clear hB7
    rcases hN7 with ⟨no2, hw7, hne2, rfl⟩ | ⟨hS2, b2, rfl, hs2⟩
    · exact absurd (hw7.unique (.inr (.inr ⟨HSC.out.1 HS.out, rfl⟩))) hne2
    have HS2 := Lib.hid hS2
    have HSB := Lib.hid hs2
    have HNB := Lib.hid (And.intro HS.out.n1 (Nat.le_trans HS.out.n15 (show 15 ≤ 16 by decide)))
    clear hS2 hs2
    have hBw := Below.refl w7.heap.size w7
    have TC := Lib.hid (fun V (qB : Below w7.heap.size w7 V) => of_c c V (by have := HC.out; omega) (by have := HC.out; omega))
    go_wp2_with fail
    (with_reducible refine (TC.out _ ?_).mono ?_); (repeat (first | exact Below.refl _ _ | exact hBw | refine Below.drew ?_ | refine below_drewN ?_ _ | refine bset ?_ (by simp <;> omega) _ | refine bal ?_ _))
    rintro e w8 ⟨⟨ov, rfl, ho⟩, hb8⟩
    have hk : Below w7.heap.size w7 w8 := bthen belA hb8
    have hB : Below w.heap.size w w8 := bthen belA hb8
    have hz : w.heap.size ≤ w8.heap.size := hB.size
    clear TC hBw hb8
    have hBw := Below.refl w8.heap.size w8
    have HO := Lib.hid ho
    obtain ⟨on, oa, ol, oc, rfl⟩ := ho.lit
    clear ho
    replace HSA := Lib.hid (HSA.out.keep hk)
    replace HSB := Lib.hid (HSB.out.keep hk)
    clear hk
    obtain ⟨n1, hn1⟩ : ∃ k, n - 1 = k := ⟨_, rfl⟩
    have hN1 : wrap64 ((n : Int) - 1) = (n1 : Int) := by have := HNB.out; unfold wrap64; omega
    have HN1 := Lib.hid hn1
    clear hn1
    have TC := Lib.hid (fun V (qB : Below w8.heap.size w8 V) => sizeS_c b1 k1 k2 n f V (HSA.out.keep qB))
    go_wp2_with fail
    (with_reducible refine (TC.out _ ?_).mono ?_); (repeat (first | exact Below.refl _ _ | exact hBw | refine Below.drew ?_ | refine below_drewN ?_ _ | refine bset ?_ (by simp <;> omega) _ | refine bal ?_ _))
    rintro e w9 ⟨rfl, hb9⟩
    have hk : Below w8.heap.size w8 w9 := bthen belA hb9
    have hB : Below w.heap.size w w9 := bthen belA hb9
    have hz : w.heap.size ≤ w9.heap.size := hB.size
    clear TC hBw hb9
    have hBw := Below.refl w9.heap.size w9
    replace HSA := Lib.hid (HSA.out.keep hk)
    replace HSB := Lib.hid (HSB.out.keep hk)
    replace HO := Lib.hid (HO.out.keep hk)
    clear hk
    have TC := Lib.hid (fun V (qB : Below w9.heap.size w9 V) => pow_c (.agg #[.bool on, .slice oa ol oc]) c n1 V (HO.out.keep qB) (by have h1 := HNB.out; have h2 := HN1.out; exact Nat.le_trans (Nat.mul_le_mul (show n1 ≤ 16 by omega) (bit16 HC.out.2.1 HC.out.2.2.1)) (by decide)) (Nat.le_trans (bit16 HC.out.2.1 HC.out.2.2.1) (by decide)) (by have h1 := HNB.out; have h2 := HN1.out; omega))
    go_wp2_with fail
    (with_reducible refine (TC.out _ ?_).mono ?_); (repeat (first | exact Below.refl _ _ | exact hBw | refine Below.drew ?_ | refine below_drewN ?_ _ | refine bset ?_ (by simp <;> omega) _ | refine bal ?_ _))
    rintro e w10 ⟨⟨tv, rfl, ht⟩, hb10⟩
    have hk : Below w9.heap.size w9 w10 := bthen belA hb10
    have hB : Below w.heap.size w w10 := bthen belA hb10
    have hz : w.heap.size ≤ w10.heap.size := hB.size
    clear TC hBw hb10
    have hBw := Below.refl w10.heap.size w10
    have HT := Lib.hid ht
    obtain ⟨tn, ta, tl, tc, rfl⟩ := ht.lit
    clear ht HO hN1
    replace HSA := Lib.hid (HSA.out.keep hk)
    replace HSB := Lib.hid (HSB.out.keep hk)
    clear hk
    have TC := Lib.hid (fun V (qB : Below w10.heap.size w10 V) => sizeS_c b1 k1 k2 n f V (HSA.out.keep qB))
    go_wp2_with fail
    (with_reducible refine (TC.out _ ?_).mono ?_); (repeat (first | exact Below.refl _ _ | exact hBw | refine Below.drew ?_ | refine below_drewN ?_ _ | refine bset ?_ (by simp <;> omega) _ | refine bal ?_ _))
    rintro e w11 ⟨rfl, hb11⟩
    have hk : Below w10.heap.size w10 w11 := bthen belA hb11
    have t0 : w11.cell? ⟨w10.heap.size, 0, none⟩ = some (.bool tn) := bkc hb11
    have zt0 := cell_lt t0
    have t1 : w11.cell? ⟨w10.heap.size, 1, none⟩ = some (.slice ta tl tc) := bkc hb11
    have hB : Below w.heap.size w w11 := bthen belA hb11
    have hz : w.heap.size ≤ w11.heap.size := hB.size
    clear TC hBw hb11
    have hBw := Below.refl w11.heap.size w11
    replace HSA := Lib.hid (HSA.out.keep hk)
    replace HSB := Lib.hid (HSB.out.keep hk)
    replace HT := Lib.hid (HT.out.keep hk)
    clear hk
    have HFT := Lib.hid (show ∀ V, Below w11.heap.size w11 V → V.cell? ⟨w10.heap.size, 0, none⟩ = some (.bool tn) ∧ V.cell? ⟨w10.heap.size, 1, none⟩ = some (.slice ta tl tc) from fun V qB => ⟨bkeep qB t0, bkeep qB t1⟩)
    have hn16 : n ≤ 16 := HNB.out.2
    have HB11 := Lib.hid hB
    clear t0 t1 hB
    go_wp2
    go_loopw [117] (fun x wr => ∃ r : Nat, r ≤ n ∧ x = .int .i64 r ∧ Below w11.heap.size w11 wr) (fun x _ => n - (intOf x).toNat)
    case atStart => exact ⟨0, Nat.zero_le _, rfl, by repeat (first | exact Below.refl _ _ | exact hBw | refine Below.drew ?_ | refine below_drewN ?_ _ | refine bset ?_ (by simp <;> omega) _ | refine bal ?_ _)⟩
    case round =>
      obtain ⟨r, hr, rfl, hBr⟩ := hrel
      by_cases hlt : r < n
      · have hltI : (r : Int) < (n : Int) := by omega
        have HLT := Lib.hid hlt
        have hB := bthen HB11.out hBr
        clear hBw
        have hBw := Below.refl wr.heap.size wr
        have HBR := Lib.hid hBr
        clear hBr hlt
        have TC := Lib.hid (fun V (qB : Below wr.heap.size wr V) => fullS_c b1 k1 k2 n f V (HSA.out.keep (bthen HBR.out qB)) HS.out.all HNB.out.1 HNB.out.2)
        go_wp2_with fail
        (with_reducible refine (TC.out _ ?_).mono ?_); (repeat (first | exact Below.refl _ _ | exact hBw | refine Below.drew ?_ | refine below_drewN ?_ _ | refine bset ?_ (by simp <;> omega) _ | refine bal ?_ _))
        rintro e w12 ⟨⟨fa, fc, rfl, hf⟩, hb12⟩
        have hk : Below wr.heap.size wr w12 := bthen belA hb12
        have hB : Below w.heap.size w w12 := bthen belA hb12
        have hz : w.heap.size ≤ w12.heap.size := hB.size
        clear TC hBw hb12
        have hBw := Below.refl w12.heap.size w12
        have MF := Lib.hid hf
        have HB12 := Lib.hid (bthen HBR.out hk)
        clear hf hk
        have TC := Lib.hid (fun V (qB : Below w12.heap.size w12 V) => rowF_c (MF.out.keep qB) HLT.out HNB.out.2)
        go_wp2_with fail
        (with_reducible refine (TC.out _ ?_).mono ?_); (repeat (first | exact Below.refl _ _ | exact hBw | refine Below.drew ?_ | refine below_drewN ?_ _ | refine bset ?_ (by simp <;> omega) _ | refine bal ?_ _))
        rintro e w13 ⟨⟨xa, xc, rfl, hx⟩, hb13⟩
        have hk : Below w12.heap.size w12 w13 := bthen belA hb13
        have hB : Below w.heap.size w w13 := bthen belA hb13
        have hz : w.heap.size ≤ w13.heap.size := hB.size
        clear TC hBw hb13
        have hBw := Below.refl w13.heap.size w13
        have RX := Lib.hid hx
        have HB13 := Lib.hid (bthen HB12.out hk)
        clear hx hk MF HB12
        have TC := Lib.hid (fun V (qB : Below w13.heap.size w13 V) => fullS_c b2 k1 k2 n (timesF f i' c) V (HSB.out.keep (bthen HB13.out qB)) HS2.out.all HNB.out.1 HNB.out.2)
        go_wp2_with fail
        (with_reducible refine (TC.out _ ?_).mono ?_); (repeat (first | exact Below.refl _ _ | exact hBw | refine Below.drew ?_ | refine below_drewN ?_ _ | refine bset ?_ (by simp <;> omega) _ | refine bal ?_ _))
        rintro e w14 ⟨⟨ga, gc, rfl, hf⟩, hb14⟩
        have hk : Below w13.heap.size w13 w14 := bthen belA hb14
        have hB : Below w.heap.size w w14 := bthen belA hb14
        have hz : w.heap.size ≤ w14.heap.size := hB.size
        clear TC hBw hb14
        have hBw := Below.refl w14.heap.size w14
        have MG := Lib.hid hf
        replace RX := Lib.hid (prow_keep RX.out hk)
        have HB14 := Lib.hid (bthen HB13.out hk)
        clear hf hk HB13
        have TC := Lib.hid (fun V (qB : Below w14.heap.size w14 V) => rowF_c (MG.out.keep qB) HLT.out HNB.out.2)
        go_wp2_with fail
        (with_reducible refine (TC.out _ ?_).mono ?_); (repeat (first | exact Below.refl _ _ | exact hBw | refine Below.drew ?_ | refine below_drewN ?_ _ | refine bset ?_ (by simp <;> omega) _ | refine bal ?_ _))
        rintro e w15 ⟨⟨ya, yc, rfl, hy⟩, hb15⟩
        have hk : Below w14.heap.size w14 w15 := bthen belA hb15
        have hB : Below w.heap.size w w15 := bthen belA hb15
        have hz : w.heap.size ≤ w15.heap.size := hB.size
        clear TC hBw hb15
        have hBw := Below.refl w15.heap.size w15
        replace RX := Lib.hid (prow_keep RX.out hk)
        have hB15 := bthen HB14.out hk
        obtain ⟨xb, xo, _, e, hXc⟩ := prow_f RX.out (pwG_row HLT.out) HNB.out.1
        cases e
        obtain ⟨yb, yo, _, e, hYc⟩ := prow_f hy (pwG_row HLT.out) HNB.out.1
        cases e
        have HXC := Lib.hid hXc
        have HYC := Lib.hid hYc
        have HB15 := Lib.hid hB15
        have hnn : ((n : Int) != (n : Int)) = false := by simp
        clear hXc hYc hy RX MG HB14 hk hB15 hB
        go_wp2
        go_loopw [153] (fun x wq => ∃ j : Nat, j ≤ n ∧ x = .int .i64 j ∧ Below w15.heap.size w15 wq) (fun x _ => n - (intOf x).toNat)
        case atStart => exact ⟨0, Nat.zero_le _, rfl, by repeat (first | exact Below.refl _ _ | exact hBw | refine Below.drew ?_ | refine below_drewN ?_ _ | refine bset ?_ (by simp <;> omega) _ | refine bal ?_ _)⟩
        case round =>
          obtain ⟨j, hj, rfl, hBq⟩ := hrel
          rename World => wq
          by_cases hjt : j < n
          · have hltJ : (j : Int) < (n : Int) := by omega
            have HJT := Lib.hid hjt
            obtain ⟨xn, xd, xl, xk, x0, x1, hx⟩ := HXC.out j hjt
            obtain ⟨yn, yd, yl, yk, y0, y1, hy⟩ := HYC.out j hjt
            have hTA := turned_at (f := f) (i := i') c HLT.out hjt
            have hXB : Bd 200 (((pwG n n f).getD r []).getD j 0) := pwG_bd HS.out.all HNB.out.2 r j
            rw [hTA, HN1.out] at hy
            obtain ⟨X, hX⟩ : ∃ X, ((pwG n n f).getD r []).getD j 0 = X := ⟨_, rfl⟩
            rw [hX] at hx hy hXB
            obtain ⟨t0, t1⟩ := HFT.out wq (bthen HB15.out hBq)
            replace x0 := bkeep hBq x0
            replace x1 := bkeep hBq x1
            replace y0 := bkeep hBq y0
            replace y1 := bkeep hBq y1
            have hxq := hx.keep hBq
            have hyq := hy.keep hBq
            have htq := HT.out.keep (bthen HB15.out hBq)
            have zx := cell_lt x0
            have zt := cell_lt t0
            have hBy := Below.refl wq.heap.size wq
            have HXB := Lib.hid hXB
            clear hx hy hTA hX hjt hXB
            by_cases hri : r = i'
            · rw [if_pos hri] at hyq
              subst hri
              have hrI : ((r : Int) == (r : Int)) = true := by simp
              have MC := Lib.hid (fun V (qB : Below wq.heap.size wq V) => mul_c _ _ X (c ^ n1) 200 100 V (hxq.keep qB) (htq.keep qB) HXB.out (((bd_pt HC.out.2.1 HC.out.2.2.1).pow n1).mono (by have h1 := HNB.out; have h2 := HN1.out; omega)) (by decide) (by decide))
              clear hxq htq
              go_wp2_with fail
              (with_reducible refine (MC.out _ ?_).mono ?_); (repeat (first | exact Below.refl _ _ | exact hBy | refine Below.drew ?_ | refine below_drewN ?_ _ | refine bset ?_ (by simp <;> omega) _ | refine bal ?_ _))
              rintro e w17 ⟨⟨u, rfl, hu⟩, hb17⟩
              have hk17 : Below wq.heap.size wq w17 := bthen belA hb17
              have q0 : w17.cell? ⟨wq.heap.size, 0, none⟩ = some (.bool xn) := bkeep hb17 (by simp [go_sem])
              have q1 : w17.cell? ⟨wq.heap.size, 1, none⟩ = some (.slice xd xl xk) := bkeep hb17 (by simp [go_sem])
              have q0f : w17.frozen? ⟨wq.heap.size, 0, none⟩ = false := bkeepf hb17 (v := .bool xn) (by simp [go_sem]) (by simp [go_sem])
              have q1f : w17.frozen? ⟨wq.heap.size, 1, none⟩ = false := bkeepf hb17 (v := .slice xd xl xk) (by simp [go_sem]) (by simp [go_sem])
              have HU := Lib.hid hu
              obtain ⟨gn, gd, gl, gk, rfl⟩ := hu.lit
              have zq := cell_lt q0
              clear hb17 hu MC hBy x0 x1 t0 t1 zx zt
              go_upto_region 29 with (fail)
              refine wp_name fun w18 hW18 => ?_
              have hk18 : Below wq.heap.size wq w18 := by rw [hW18]; exact bset (bset hk17 (Nat.le_refl _) _) (Nat.le_refl _) _
              have g0 : w18.cell? ⟨wq.heap.size, 0, none⟩ = some (.bool gn) := by rw [hW18]; exact cell_far (cell_here q0 _) (by simp) _
              have g1 : w18.cell? ⟨wq.heap.size, 1, none⟩ = some (.slice gd gl gk) := by rw [hW18]; exact cell_here (cell_far q1 (by simp) _) _
              have HG := Lib.hid (show IsInt w18 (.agg #[.bool gn, .slice gd gl gk]) (X * c ^ n1) from by rw [hW18]; exact HU.out.put2 q0 q1 _ _)
              clear hW18 hk17 q0 q1 q0f q1f HU zq
              have hB18 := bthen hBq hk18
              replace y0 := bkeep hk18 y0
              replace y1 := bkeep hk18 y1
              have hy18 := hyq.keep hk18
              have CC := Lib.hid (fun V (qB : Below w18.heap.size w18 V) => cmp_same (hy18.keep qB) (HG.out.keep qB))
              have HST := Lib.hid (show ∀ V, Below w18.heap.size w18 V → V.cell? ⟨yb, yo + j * 2, none⟩ = some (.bool yn) ∧ V.cell? ⟨yb, yo + j * 2 + 1, none⟩ = some (.slice yd yl yk) ∧ V.cell? ⟨wq.heap.size, 0, none⟩ = some (.bool gn) ∧ V.cell? ⟨wq.heap.size, 1, none⟩ = some (.slice gd gl gk) from fun V qB => ⟨bkeep qB y0, bkeep qB y1, bkeep qB g0, bkeep qB g1⟩)
              have zy := cell_lt y0
              have zg := cell_lt g0
              have hBz := Below.refl w18.heap.size w18
              clear hk18 hy18 hyq
              go_region_held3 (fun V => V.cell? ⟨yb, yo + j * 2, none⟩ = some (.bool yn) ∧ V.cell? ⟨yb, yo + j * 2 + 1, none⟩ = some (.slice yd yl yk) ∧ V.cell? ⟨wq.heap.size, 0, none⟩ = some (.bool gn) ∧ V.cell? ⟨wq.heap.size, 1, none⟩ = some (.slice gd gl gk))
                (first | (refine HST.out _ ?_; (repeat (first | exact Below.refl _ _ | exact hBz | refine Below.drew ?_ | refine below_drewN ?_ _ | refine bset ?_ (by simp <;> omega) _ | refine bal ?_ _)); done) | fail)
                (first
                | (go_at_call 17; (with_reducible refine (CC.out _ ?_).mono ?_); (repeat (first | exact Below.refl _ _ | exact hBz | refine Below.drew ?_ | refine below_drewN ?_ _ | refine bset ?_ (by simp <;> omega) _ | refine bal ?_ _)); rintro e w19 ⟨rfl, hb19⟩; (have hBd : Below w18.heap.size w18 w19 := bthen belA hb19; clear hBz; have hBz := hBd; clear hBd))
                | fail)
              all_goals
                have hB19 := bthen hB18 hBz
                have hlJ := HJT.out
                clear CC HST hB18 hBz
                go_wp2
                exact ⟨⟨j + 1, hlJ, by go_num, by repeat (first | exact Below.refl _ _ | exact hB19 | refine Below.drew ?_ | refine below_drewN ?_ _ | refine bset ?_ (by simp <;> omega) _ | refine bal ?_ _)⟩, meas hlJ (by go_num) rfl⟩
            · rw [if_neg hri] at hyq
              have hrI : ((r : Int) == (i' : Int)) = false := by simp; omega
              clear hri htq
              go_upto_region 29 with (fail)
              refine wp_name fun w18 hW18 => ?_
              have hk18 : Below wq.heap.size wq w18 := by rw [hW18]; repeat (first | exact Below.refl _ _ | exact hBy | refine Below.drew ?_ | refine below_drewN ?_ _ | refine bset ?_ (by simp <;> omega) _ | refine bal ?_ _)
              have g0 : w18.cell? ⟨wq.heap.size, 0, none⟩ = some (.bool xn) := by rw [hW18]; simp [go_sem]
              have g1 : w18.cell? ⟨wq.heap.size, 1, none⟩ = some (.slice xd xl xk) := by rw [hW18]; simp [go_sem]
              have HG := Lib.hid (hxq.keep hk18)
              clear hW18 hxq x0 x1 t0 t1 zx zt hBy
              have hB18 := bthen hBq hk18
              replace y0 := bkeep hk18 y0
              replace y1 := bkeep hk18 y1
              have hy18 := hyq.keep hk18
              have CC := Lib.hid (fun V (qB : Below w18.heap.size w18 V) => cmp_same (hy18.keep qB) (HG.out.keep qB))
              have HST := Lib.hid (show ∀ V, Below w18.heap.size w18 V → V.cell? ⟨yb, yo + j * 2, none⟩ = some (.bool yn) ∧ V.cell? ⟨yb, yo + j * 2 + 1, none⟩ = some (.slice yd yl yk) ∧ V.cell? ⟨wq.heap.size, 0, none⟩ = some (.bool xn) ∧ V.cell? ⟨wq.heap.size, 1, none⟩ = some (.slice xd xl xk) from fun V qB => ⟨bkeep qB y0, bkeep qB y1, bkeep qB g0, bkeep qB g1⟩)
              have zy := cell_lt y0
              have zg := cell_lt g0
              have hBz := Below.refl w18.heap.size w18
              clear hk18 hy18 hyq
              go_region_held3 (fun V => V.cell? ⟨yb, yo + j * 2, none⟩ = some (.bool yn) ∧ V.cell? ⟨yb, yo + j * 2 + 1, none⟩ = some (.slice yd yl yk) ∧ V.cell? ⟨wq.heap.size, 0, none⟩ = some (.bool xn) ∧ V.cell? ⟨wq.heap.size, 1, none⟩ = some (.slice xd xl xk))
                (first | (refine HST.out _ ?_; (repeat (first | exact Below.refl _ _ | exact hBz | refine Below.drew ?_ | refine below_drewN ?_ _ | refine bset ?_ (by simp <;> omega) _ | refine bal ?_ _)); done) | fail)
                (first
                | (go_at_call 17; (with_reducible refine (CC.out _ ?_).mono ?_); (repeat (first | exact Below.refl _ _ | exact hBz | refine Below.drew ?_ | refine below_drewN ?_ _ | refine bset ?_ (by simp <;> omega) _ | refine bal ?_ _)); rintro e w19 ⟨rfl, hb19⟩; (have hBd : Below w18.heap.size w18 w19 := bthen belA hb19; clear hBz; have hBz := hBd; clear hBd))
                | fail)
              all_goals
                have hB19 := bthen hB18 hBz
                have hlJ := HJT.out
                clear CC HST hB18 hBz
                go_wp2
                exact ⟨⟨j + 1, hlJ, by go_num, by repeat (first | exact Below.refl _ _ | exact hB19 | refine Below.drew ?_ | refine below_drewN ?_ _ | refine bset ?_ (by simp <;> omega) _ | refine bal ?_ _)⟩, meas hlJ (by go_num) rfl⟩
          · obtain rfl : n = j := by omega
            have hltJ : ¬ (n : Int) < (n : Int) := by omega
            have hBn := bthen HB15.out hBq
            have hlR := HLT.out
            clear HXC HYC
            go_wp2
            exact ⟨⟨r + 1, hlR, by go_num, by repeat (first | exact Below.refl _ _ | exact hBn | refine Below.drew ?_ | refine below_drewN ?_ _ | refine bset ?_ (by simp <;> omega) _ | refine bal ?_ _)⟩, meas hlR (by go_num) rfl⟩
      · obtain rfl : n = r := by omega
        have hltI : ¬ (n : Int) < (n : Int) := by omega
        have hBf := bthen HB11.out hBr
        go_wp2
        go_ret
        exact ⟨rfl, by repeat (first | exact Below.refl _ _ | exact hBf | refine Below.drew ?_ | refine below_drewN ?_ _ | refine bset ?_ (by simp <;> omega) _ | refine bal ?_ _)⟩
theorem schemeTurned_u (k1 k2 : Int) (pa : Option Addr) (n cap : Nat) (f : Nat → Int × Int) (i c : Int) (w : World) (h1 : (Lit.int .i64 k1).wf = true) (h2 : (Lit.int .i64 k2).wf = true) (hn : n * 16 ≤ 140737488355328) (h : PtsV w pa n cap f) (hi : ∀ k, k < n → I64 (f k).1 ∧ I64 (f k).2) (h3 : (Lit.int .i64 i).wf = true) (h4 : (Lit.int .i64 c).wf = true) :
    Calls Tryd.prog 4 #[.int .i64 k1, .int .i64 k2, .slice pa n cap, .int .i64 i, .int .i64 c] w fun e w' => e = .returned (.bool true) ∧ Below w.heap.size w w' := schemeTurned_h k1 k2 pa n cap f i c w h hn
end Go.Proofs.YtkejdmdldhlkgaaDoor

