/- Texts of this seat, laid together (what the earlier ones leave out): ScO. Each opens with its own remark, which says what it proves, and under which conditions. -/
import Derived.Test.YtkejdmdldhlkgaaGreatDoorP01
import Derived.Test.YtkejdmdldhlkgaaGreatDoorP02
import Derived.Test.YtkejdmdldhlkgaaGreatDoorP03
import Derived.Test.YtkejdmdldhlkgaaGreatDoorP04
import Derived.Test.YtkejdmdldhlkgaaGreatDoorP05
import Derived.Test.YtkejdmdldhlkgaaGreatDoorP06
import Derived.Test.YtkejdmdldhlkgaaGreatDoorP07
import Derived.Test.YtkejdmdldhlkgaaGreatDoorP08
import Derived.Test.YtkejdmdldhlkgaaGreatDoorP09
import Derived.Test.YtkejdmdldhlkgaaGreatDoorP10
import Derived.Test.YtkejdmdldhlkgaaGreatDoorP11
import Derived.Test.YtkejdmdldhlkgaaGreatDoorP12
import Derived.Test.YtkejdmdldhlkgaaGreatDoorP13
import Derived.Test.YtkejdmdldhlkgaaGreatDoorP14
import Derived.Test.YtkejdmdldhlkgaaGreatDoorP15
import Derived.Test.YtkejdmdldhlkgaaGreatDoorP16
import Derived.Test.YtkejdmdldhlkgaaGreatDoorP17
import Derived.Test.YtkejdmdldhlkgaaGreatDoorP18
import Derived.Test.YtkejdmdldhlkgaaGreatDoorP19
import Derived.Test.YtkejdmdldhlkgaaGreatDoorP20
import Derived.Test.YtkejdmdldhlkgaaGreatDoorP21
import Derived.Test.YtkejdmdldhlkgaaGreatDoorP22
import Derived.Test.YtkejdmdldhlkgaaGreatDoorP23
import Derived.Test.YtkejdmdldhlkgaaGreatDoorP24
import Derived.Test.YtkejdmdldhlkgaaGreatDoorP25
import Derived.Test.YtkejdmdldhlkgaaGreatDoorP26
import Derived.Test.YtkejdmdldhlkgaaGreatDoorP27
import Derived.Test.YtkejdmdldhlkgaaGreatDoorP28
import Derived.Test.YtkejdmdldhlkgaaGreatDoorP29
import Derived.Test.YtkejdmdldhlkgaaGreatDoorP30
import Derived.Test.YtkejdmdldhlkgaaGreatDoorU01
import Derived.Test.YtkejdmdldhlkgaaGreatDoorU02
import Derived.WalkKit
import Derived.ProofKit
import Derived.OpenShut
import Derived.Deep.QuietTactic
import Derived.BigQuiet
import Derived.Outline
import Derived.Lib.Hide
import Derived.WalkSmall
import Derived.WalkSpells
import Derived.WalkLawsBesides
import Derived.Deep.RegionWith
import Derived.Deep.RegionHeld3
import Derived.Laws.CopyOwn
import Derived.Shelf.Small.Bits
import Derived.Laws.AppendOwn
import Derived.Deep.AppendLies
import Derived.Deep.DrawnRows
import Derived.StillTail
import Derived.Deep.Quiet
import Derived.OneCell
import Derived.Laws.BitsAllLaws
import Derived.Shelf.Spec.TrailingZeros
import Derived.Shelf.Strings.Builder1
import Derived.Shelf.Strings.Trim
import Derived.Deep.Cut
import Derived.Deep.DeepCutAuto
import Derived.ArgAppend
import Derived.Deep.DeepFit
import Derived.Shelf.Abstract
import Derived.Laws.EntriesVeiled
import Derived.RegionTactic
import Derived.ChangeAlike
import Derived.Laws.OwnMore
import Derived.Deep.Onto
import Derived.Deep.RegionLaw
import Derived.Deep.LoopGhost
import Derived.RangeFuncNested
import Derived.RangeFuncBound
import Derived.RangeFuncCalls
import Derived.RangeFuncLeaves
import Derived.Shelf.RegionOpen
import Derived.OwnWalkIn
import Derived.TacticsInMore
import Derived.LoopNIn
import Derived.LoopIn
import Derived.Laws.CopyRow
import Derived.Laws.Rows
import Derived.Laws.Tables
import Derived.StillTailTactics
import Derived.Lib.AppendZeros
import Derived.Laws.IdiomStrings
import Derived.Laws.BytesArg
import Derived.Laws.RangeString
import Derived.Lib.OthersKept
import Derived.Maps.AppendAt
import Derived.Shelf.Strings.OnBuilder
import Derived.Lib.SmallJoins
import Derived.Deep.Slices
import Derived.Deep.Matrix
import Derived.Deep.Fields
import Derived.ChangeSame
import Derived.DataShut
import Derived.SizedLaws
set_option linter.unusedVariables false
set_option linter.unusedSimpArgs false
/- SchemeProduct: of any coefficients: evaluated, multiplied one by one: what Full makes of the product's coefficients; and Inverse leads back to these. -/
namespace Go.Proofs.YtkejdmdldhlkgaaGreatDoor
open Pt
open Num
open Go.ChangeShapes Go.WideShapes Go.ChangeAt Go.RowKit
attribute [local go_sem ↓] Go.wp_at_zero Go.wp_at_succ
theorem sgn_iz {v : Value} {x s : Int} {w : World} (h : IsInt w v x) (e : x.sign = s) : Calls Tryz.prog 26 #[v] w fun e w' => e = .returned (.int .i64 s) ∧ Below w.heap.size w w' := by
  rw [← e]; exact sign_c v x w h
theorem prow_f {w : World} {v : Value} {l : List Int} {n : Nat} (h : PRow 0 w v l) (hl : l.length = n) (hn : 0 < n) : ∃ b off c, v = .slice (some ⟨b, off, none⟩) n c ∧ ∀ j, j < n → ∃ nb ad ln cp, w.cell? ⟨b, off + j * 2, none⟩ = some (.bool nb) ∧ w.cell? ⟨b, off + j * 2 + 1, none⟩ = some (.slice ad ln cp) ∧ IsInt w (.agg #[.bool nb, .slice ad ln cp]) (l.getD j 0) := by
  obtain ⟨a, c, rfl, -, vr⟩ := h.view
  obtain ⟨b, off, -, -, -, -, rfl, -⟩ := vr 0 (by omega)
  refine ⟨b, off, c, by rw [hl], fun j hj => ?_⟩
  obtain ⟨_, _, nb, ad, ln, cp, e, h1, h2, h3⟩ := vr j (by omega)
  cases e
  exact ⟨nb, ad, ln, cp, h1, h2, h3⟩
set_option maxRecDepth 100000 in
set_option maxHeartbeats 16000000 in
theorem schemeProduct_h (k1 k2 : Int) (pa : Option Addr) (n cap : Nat) (f : Nat → Int × Int) (aa : Option Addr) (ca : Nat) (A : List Int) (ba : Option Addr) (cb : Nat) (B : List Int) (w : World) (h : PtsV w pa n cap f) (hn : n ≤ 4611686018427387904)
    (hA : RowI w (.slice aa A.length ca) A) (hB0 : RowI w (.slice ba B.length cb) B) (hca : A.length ≤ ca) (hcb : B.length ≤ cb) :
    Calls Tryz.prog 4 #[.int .i64 k1, .int .i64 k2, .slice pa n cap, .slice aa A.length ca, .slice ba B.length cb] w fun e w' => e = .returned (.bool true) ∧ Below w.heap.size w w' := by
  have HP := Lib.hid h
  have HA := Lib.hid (And.intro hA (And.intro hca (i64_bd2 hA)))
  have HBB := Lib.hid (And.intro hB0 (And.intro hcb (i64_bd2 hB0)))
  have hB := Below.refl w.heap.size w
  clear h hA hB0 hca hcb
  go_enter Tryz.func4, Tryz.ntmps4
  go_wp2_with fail
  (with_reducible refine (works7_c _).mono ?_)
  rintro e w1 ⟨rfl, hb1⟩
  have hB1 : Below w.heap.size w w1 := bthen belA hb1
  have NC := Lib.hid (fun W (q : Below w1.heap.size w1 W) => newS_c k1 k2 pa n cap f W (HP.out.keep (bthen hB1 q)) hn)
  have hBw := Below.refl w1.heap.size w1
  clear hb1 hB hn
  go_wp2_with fail
  (with_reducible refine (NC.out _ ?_).mono ?_); (repeat (first | exact Below.refl _ _ | exact hBw | refine Below.drew ?_ | refine below_drewN ?_ _ | refine bset ?_ (by simp <;> omega) _ | refine bal ?_ _))
  intro e w2 hN
  obtain ⟨hN, hb2⟩ := hN
  have hB : Below w.heap.size w w2 := bthen hB1 (bthen belA hb2)
  clear hb2 hBw NC hB1 HP
  rcases hN with ⟨no, -, hne, rfl⟩ | ⟨hS, b, rfl, hs⟩
  · have hI : (no != 0) = true := by simpa using hne
    go_wp2
    go_ret
    exact ⟨rfl, by repeat (first | exact Below.refl _ _ | exact hB | refine Below.drew ?_ | refine below_drewN ?_ _ | refine bset ?_ (by simp <;> omega) _ | refine bal ?_ _)⟩
  have HS := Lib.hid hS
  have HSA := Lib.hid hs
  obtain ⟨p, hp⟩ := Int.eq_ofNat_of_zero_le (show 0 ≤ k1 by have := hS.cnt; unfold Cnt at this; omega)
  obtain ⟨q, hq⟩ := Int.eq_ofNat_of_zero_le (show 0 ≤ k2 by have := hS.cnt; unfold Cnt at this; omega)
  subst hp hq
  have HN := Lib.hid (show 1 ≤ p ∧ p ≤ 8 ∧ 1 ≤ q ∧ q ≤ 8 ∧ p + q - 1 = n ∧ 1 ≤ n ∧ n ≤ 15 from by have h1 := hS.cnt; have h2 := hS.len; unfold Cnt at h1; omega)
  clear hS hs
  have hBw := Below.refl w2.heap.size w2
  by_cases hap : A.length < p
  · have hI : (A.length : Int) < (p : Int) := by omega
    go_wp2
    go_ret
    exact ⟨rfl, by repeat (first | exact Below.refl _ _ | exact hB | refine Below.drew ?_ | refine below_drewN ?_ _ | refine bset ?_ (by simp <;> omega) _ | refine bal ?_ _)⟩
  have hI1 : ¬ (A.length : Int) < (p : Int) := by omega
  by_cases hbq : B.length < q
  · have hI : (B.length : Int) < (q : Int) := by omega
    go_wp2
    go_ret
    exact ⟨rfl, by repeat (first | exact Below.refl _ _ | exact hB | refine Below.drew ?_ | refine below_drewN ?_ _ | refine bset ?_ (by simp <;> omega) _ | refine bal ?_ _)⟩
  have hI2 : ¬ (B.length : Int) < (q : Int) := by omega
  obtain ⟨X, hX⟩ : ∃ X, A.take p = X := ⟨_, rfl⟩
  obtain ⟨Y, hY⟩ : ∃ Y, B.take q = Y := ⟨_, rfl⟩
  have HXL := Lib.hid (show X.length = p ∧ (∀ j, Bd 64 (X.getD j 0)) from by rw [← hX]; exact ⟨by rw [List.length_take]; omega, take_bd HA.out.2.2⟩)
  have HYL := Lib.hid (show Y.length = q ∧ (∀ j, Bd 64 (Y.getD j 0)) from by rw [← hY]; exact ⟨by rw [List.length_take]; omega, take_bd HBB.out.2.2⟩)
  have HXE := Lib.hid (And.intro hX (show p ≤ A.length by omega))
  have HYE := Lib.hid (And.intro hY (show q ≤ B.length by omega))
  have HB2 := Lib.hid hB
  clear hX hY hap hbq
  have TC := Lib.hid (fun V (qB : Below w2.heap.size w2 V) => list7_x aa ca A X p V (HA.out.1.keep (bthen HB2.out qB)) HA.out.2.1 HXE.out.2 (by have := HN.out; omega) HXE.out.1)
  go_wp2_with fail
  (with_reducible refine (TC.out _ ?_).mono ?_); (repeat (first | exact Below.refl _ _ | exact hBw | refine Below.drew ?_ | refine below_drewN ?_ _ | refine bset ?_ (by simp <;> omega) _ | refine bal ?_ _))
  rintro e w3 ⟨⟨xa, xc, rfl, hx⟩, hb3⟩
  have hk : Below w2.heap.size w2 w3 := bthen belA hb3
  have hB : Below w.heap.size w w3 := bthen belA hb3
  have hz : w.heap.size ≤ w3.heap.size := hB.size
  clear TC hBw hb3
  have hBw := Below.refl w3.heap.size w3
  have RX := Lib.hid hx
  clear hx hI1 HXE
  replace HSA := Lib.hid (HSA.out.keep hk)
  have HB3 := Lib.hid hB
  clear hk
  have TC := Lib.hid (fun V (qB : Below w3.heap.size w3 V) => list7_x ba cb B Y q V (HBB.out.1.keep (bthen HB3.out qB)) HBB.out.2.1 HYE.out.2 (by have := HN.out; omega) HYE.out.1)
  go_wp2_with fail
  (with_reducible refine (TC.out _ ?_).mono ?_); (repeat (first | exact Below.refl _ _ | exact hBw | refine Below.drew ?_ | refine below_drewN ?_ _ | refine bset ?_ (by simp <;> omega) _ | refine bal ?_ _))
  rintro e w4 ⟨⟨ya, yc, rfl, hx⟩, hb4⟩
  have hk : Below w3.heap.size w3 w4 := bthen belA hb4
  have hB : Below w.heap.size w w4 := bthen belA hb4
  have hz : w.heap.size ≤ w4.heap.size := hB.size
  clear TC hBw hb4
  have hBw := Below.refl w4.heap.size w4
  have RY := Lib.hid hx
  clear hx hI2 HYE HA HBB HB2 HB3
  replace HSA := Lib.hid (HSA.out.keep hk)
  replace RX := Lib.hid (prow_keep RX.out hk)
  clear hk
  have TC := Lib.hid (fun V (qB : Below w4.heap.size w4 V) => leftS_c b p q n p f V (HSA.out.keep qB) HS.out.all rfl HN.out.1 (by have := HN.out; omega) HN.out.2.2.2.2.2.1 (by have := HN.out; omega))
  go_wp2_with fail
  (with_reducible refine (TC.out _ ?_).mono ?_); (repeat (first | exact Below.refl _ _ | exact hBw | refine Below.drew ?_ | refine below_drewN ?_ _ | refine bset ?_ (by simp <;> omega) _ | refine bal ?_ _))
  rintro e w5 ⟨⟨la, lc, rfl, hl⟩, hb5⟩
  have hk : Below w4.heap.size w4 w5 := bthen belA hb5
  have hB : Below w.heap.size w w5 := bthen belA hb5
  have hz : w.heap.size ≤ w5.heap.size := hB.size
  clear TC hBw hb5
  have hBw := Below.refl w5.heap.size w5
  have ML := Lib.hid hl
  clear hl
  replace HSA := Lib.hid (HSA.out.keep hk)
  replace RX := Lib.hid (prow_keep RX.out hk)
  replace RY := Lib.hid (prow_keep RY.out hk)
  clear hk
  have TC := Lib.hid (fun V (qB : Below w5.heap.size w5 V) => Mt.apply (n := n) (ML.out.keep qB) (prow_keep RX.out qB) (by rw [pwG_cols f HN.out.2.2.2.2.2.1]; exact HXL.out.1) HXL.out.2 (by decide) (pwG_len n p f))
  go_wp2_with fail
  (with_reducible refine (TC.out _ ?_).mono ?_); (repeat (first | exact Below.refl _ _ | exact hBw | refine Below.drew ?_ | refine below_drewN ?_ _ | refine bset ?_ (by simp <;> omega) _ | refine bal ?_ _))
  rintro e w6 ⟨⟨ua, uc, rfl, hu, -, hub⟩, hb6⟩
  have hk : Below w5.heap.size w5 w6 := bthen belA hb6
  have hB : Below w.heap.size w w6 := bthen belA hb6
  have hz : w.heap.size ≤ w6.heap.size := hB.size
  clear TC hBw hb6
  have hBw := Below.refl w6.heap.size w6
  have RU := Lib.hid hu
  clear hu hub ML
  replace HSA := Lib.hid (HSA.out.keep hk)
  replace RX := Lib.hid (prow_keep RX.out hk)
  replace RY := Lib.hid (prow_keep RY.out hk)
  clear hk
  have TC := Lib.hid (fun V (qB : Below w6.heap.size w6 V) => rightS_c b p q n q f V (HSA.out.keep qB) HS.out.all rfl HN.out.2.2.1 (by have := HN.out; omega) HN.out.2.2.2.2.2.1 (by have := HN.out; omega))
  go_wp2_with fail
  (with_reducible refine (TC.out _ ?_).mono ?_); (repeat (first | exact Below.refl _ _ | exact hBw | refine Below.drew ?_ | refine below_drewN ?_ _ | refine bset ?_ (by simp <;> omega) _ | refine bal ?_ _))
  rintro e w7 ⟨⟨la, lc, rfl, hl⟩, hb7⟩
  have hk : Below w6.heap.size w6 w7 := bthen belA hb7
  have hB : Below w.heap.size w w7 := bthen belA hb7
  have hz : w.heap.size ≤ w7.heap.size := hB.size
  clear TC hBw hb7
  have hBw := Below.refl w7.heap.size w7
  have ML := Lib.hid hl
  clear hl
  replace HSA := Lib.hid (HSA.out.keep hk)
  replace RX := Lib.hid (prow_keep RX.out hk)
  replace RY := Lib.hid (prow_keep RY.out hk)
  replace RU := Lib.hid (prow_keep RU.out hk)
  clear hk
  have TC := Lib.hid (fun V (qB : Below w7.heap.size w7 V) => Mt.apply (n := n) (ML.out.keep qB) (prow_keep RY.out qB) (by rw [pwG_cols f HN.out.2.2.2.2.2.1]; exact HYL.out.1) HYL.out.2 (by decide) (pwG_len n q f))
  go_wp2_with fail
  (with_reducible refine (TC.out _ ?_).mono ?_); (repeat (first | exact Below.refl _ _ | exact hBw | refine Below.drew ?_ | refine below_drewN ?_ _ | refine bset ?_ (by simp <;> omega) _ | refine bal ?_ _))
  rintro e w8 ⟨⟨va, vc, rfl, hu, -, hvb⟩, hb8⟩
  have hk : Below w7.heap.size w7 w8 := bthen belA hb8
  have hB : Below w.heap.size w w8 := bthen belA hb8
  have hz : w.heap.size ≤ w8.heap.size := hB.size
  clear TC hBw hb8
  have hBw := Below.refl w8.heap.size w8
  have RV := Lib.hid hu
  clear hu hvb ML
  replace HSA := Lib.hid (HSA.out.keep hk)
  replace RX := Lib.hid (prow_keep RX.out hk)
  replace RY := Lib.hid (prow_keep RY.out hk)
  replace RU := Lib.hid (prow_keep RU.out hk)
  clear hk
  have TC := Lib.hid (fun V (qB : Below w8.heap.size w8 V) => product7_x _ _ X Y p q n V (prow_keep RX.out qB) (prow_keep RY.out qB) HXL.out.1 HYL.out.1 HN.out.1 HN.out.2.2.1 HN.out.2.1 HN.out.2.2.2.1 HN.out.2.2.2.2.1 HXL.out.2 HYL.out.2)
  go_wp2_with fail
  (with_reducible refine (TC.out _ ?_).mono ?_); (repeat (first | exact Below.refl _ _ | exact hBw | refine Below.drew ?_ | refine below_drewN ?_ _ | refine bset ?_ (by simp <;> omega) _ | refine bal ?_ _))
  rintro e w9 ⟨⟨ca', cc, rfl, hc⟩, hb9⟩
  have hk : Below w8.heap.size w8 w9 := bthen belA hb9
  have hB : Below w.heap.size w w9 := bthen belA hb9
  have hz : w.heap.size ≤ w9.heap.size := hB.size
  clear TC hBw hb9
  have hBw := Below.refl w9.heap.size w9
  have HCL := Lib.hid (show (pcL X Y).length = n ∧ (∀ j, Bd 168 ((pcL X Y).getD j 0)) from ⟨by rw [pcL_len, HXL.out.1, HYL.out.1]; exact HN.out.2.2.2.2.1, pcL_bd (by rw [HXL.out.1]; exact HN.out.2.1) (by rw [HYL.out.1]; exact HN.out.2.2.2.1) HXL.out.2 HYL.out.2⟩)
  have HLAW := Lib.hid (fun i (hi : i < n) => prod_law (f := f) HXL.out.1 HYL.out.1 HN.out.1 HN.out.2.2.1 HN.out.2.2.2.2.1 hi)
  obtain ⟨C, hC⟩ : ∃ C, pcL X Y = C := ⟨_, rfl⟩
  obtain ⟨U, hU⟩ : ∃ U, applyG (pwG n p f) X = U := ⟨_, rfl⟩
  obtain ⟨V', hV'⟩ : ∃ U, applyG (pwG n q f) Y = U := ⟨_, rfl⟩
  have HUB := Lib.hid (show ∀ j, Bd 300 (U.getD j 0) from by
    rw [← hU]
    exact fun j => (app_bd2 (by rw [pwG_cols f HN.out.2.2.2.2.2.1]; exact tab_rect _ _ _) (by rw [pwG_cols f HN.out.2.2.2.2.2.1]; exact HXL.out.1) (pwG_bd HS.out.all (by have := HN.out; omega)) HXL.out.2 j).mono (by rw [pwG_cols f HN.out.2.2.2.2.2.1]; have := HN.out; omega))
  have HVB := Lib.hid (show ∀ j, Bd 300 (V'.getD j 0) from by
    rw [← hV']
    exact fun j => (app_bd2 (by rw [pwG_cols f HN.out.2.2.2.2.2.1]; exact tab_rect _ _ _) (by rw [pwG_cols f HN.out.2.2.2.2.2.1]; exact HYL.out.1) (pwG_bd HS.out.all (by have := HN.out; omega)) HYL.out.2 j).mono (by rw [pwG_cols f HN.out.2.2.2.2.2.1]; have := HN.out; omega))
  have HUL := Lib.hid (show U.length = n ∧ V'.length = n from by rw [← hU, ← hV', app_len, app_len, pwG_len, pwG_len]; exact ⟨rfl, rfl⟩)
  rw [hC] at hc HCL HLAW
  rw [hU] at RU HLAW
  rw [hV'] at RV HLAW
  have RC := Lib.hid hc
  clear hc hC hU hV' RX RY HXL HYL
  replace HSA := Lib.hid (HSA.out.keep hk)
  replace RU := Lib.hid (prow_keep RU.out hk)
  replace RV := Lib.hid (prow_keep RV.out hk)
  clear hk
  have TC := Lib.hid (fun V (qB : Below w9.heap.size w9 V) => fullS_c b p q n f V (HSA.out.keep qB) HS.out.all HN.out.2.2.2.2.2.1 (by have := HN.out; omega))
  go_wp2_with fail
  (with_reducible refine (TC.out _ ?_).mono ?_); (repeat (first | exact Below.refl _ _ | exact hBw | refine Below.drew ?_ | refine below_drewN ?_ _ | refine bset ?_ (by simp <;> omega) _ | refine bal ?_ _))
  rintro e w10 ⟨⟨fa, fc, rfl, hl⟩, hb10⟩
  have hk : Below w9.heap.size w9 w10 := bthen belA hb10
  have hB : Below w.heap.size w w10 := bthen belA hb10
  have hz : w.heap.size ≤ w10.heap.size := hB.size
  clear TC hBw hb10
  have hBw := Below.refl w10.heap.size w10
  have MF := Lib.hid hl
  clear hl
  replace HSA := Lib.hid (HSA.out.keep hk)
  replace RU := Lib.hid (prow_keep RU.out hk)
  replace RV := Lib.hid (prow_keep RV.out hk)
  replace RC := Lib.hid (prow_keep RC.out hk)
  clear hk
  have TC := Lib.hid (fun V (qB : Below w10.heap.size w10 V) => Mt.apply (n := n) (MF.out.keep qB) (prow_keep RC.out qB) (by rw [pwG_cols f HN.out.2.2.2.2.2.1]; exact HCL.out.1) HCL.out.2 (by decide) (pwG_len n n f))
  go_wp2_with fail
  (with_reducible refine (TC.out _ ?_).mono ?_); (repeat (first | exact Below.refl _ _ | exact hBw | refine Below.drew ?_ | refine below_drewN ?_ _ | refine bset ?_ (by simp <;> omega) _ | refine bal ?_ _))
  rintro e w11 ⟨⟨wa, wc, rfl, hw, -, -⟩, hb11⟩
  have hk : Below w10.heap.size w10 w11 := bthen belA hb11
  have hB : Below w.heap.size w w11 := bthen belA hb11
  have hz : w.heap.size ≤ w11.heap.size := hB.size
  clear TC hBw hb11
  have hBw := Below.refl w11.heap.size w11
  have RW := Lib.hid hw
  clear hw MF
  replace HSA := Lib.hid (HSA.out.keep hk)
  replace RU := Lib.hid (prow_keep RU.out hk)
  replace RV := Lib.hid (prow_keep RV.out hk)
  replace RC := Lib.hid (prow_keep RC.out hk)
  clear hk
  have HEQ := Lib.hid (show ∀ i, i < n → U.getD i 0 * V'.getD i 0 = (applyG (pwG n n f) C).getD i 0 from HLAW.out)
  have hWL : (applyG (pwG n n f) C).length = n := by rw [app_len, pwG_len]
  have HIL := Lib.hid (show ∀ i, i < n → (applyG (invG (pwG n n f)) (applyG (pwG n n f) C)).getD i 0 = C.getD i 0 * invD (pwG n n f) from fun i hi => inv_law (g := pwG n n f) (pwG_sq f HN.out.2.2.2.2.2.1) (by rw [pwG_len]; exact HN.out.2.2.2.2.2.1) (by rw [pwG_cols f HN.out.2.2.2.2.2.1]; exact tab_rect _ _ _) HS.out.det (by rw [pwG_len]; exact HCL.out.1) (by rw [pwG_len]; exact hi))
  have HWB := Lib.hid (show ∀ j, Bd 400 ((applyG (pwG n n f) C).getD j 0) from fun j => (app_bd2 (by rw [pwG_cols f HN.out.2.2.2.2.2.1]; exact tab_rect _ _ _) (by rw [pwG_cols f HN.out.2.2.2.2.2.1]; exact HCL.out.1) (pwG_bd HS.out.all (by have := HN.out; omega)) HCL.out.2 j).mono (by rw [pwG_cols f HN.out.2.2.2.2.2.1]; have := HN.out; omega))
  obtain ⟨WL, hWE⟩ : ∃ l, applyG (pwG n n f) C = l := ⟨_, rfl⟩
  rw [hWE] at RW HEQ hWL HIL HWB
  have HWL := Lib.hid hWL
  obtain ⟨ub, uo, _, e, hUc⟩ := prow_f RU.out HUL.out.1 HN.out.2.2.2.2.2.1
  cases e
  obtain ⟨vb, vo, _, e, hVc⟩ := prow_f RV.out HUL.out.2 HN.out.2.2.2.2.2.1
  cases e
  obtain ⟨wb, wo, _, e, hWc⟩ := prow_f RW.out HWL.out HN.out.2.2.2.2.2.1
  cases e
  obtain ⟨cb', co, _, e, hCc⟩ := prow_f RC.out HCL.out.1 HN.out.2.2.2.2.2.1
  cases e
  have HUC := Lib.hid hUc
  have HVC := Lib.hid hVc
  have HWC := Lib.hid hWc
  have HCC := Lib.hid hCc
  obtain ⟨PF, hPF⟩ : ∃ F : Nat → Int, (fun t => U.getD t 0 * V'.getD t 0) = F := ⟨_, rfl⟩
  have HPF := Lib.hid (show ∀ t, PF t = U.getD t 0 * V'.getD t 0 from fun t => by rw [← hPF])
  have hnn : ((n : Int) != (n : Int)) = false := by simp
  have hn16 : n ≤ 16 := by have := HN.out; omega
  have HB11 := Lib.hid hB
  clear hUc hVc hWc hCc hPF hWE hWL HLAW RU RV RW hBw
  have hB11 := Below.refl w11.heap.size w11
  go_wp2
  go_loopw [22, 114] (fun v x wr => ∃ i : Nat, i ≤ n ∧ x = .int .i64 i ∧ Hid (OwnF IsInt 41 w11 wr v i PF)) (fun _ x _ => n - (intOf x).toNat)
  case atStart => exact ⟨0, Nat.zero_le _, rfl, Lib.hid (OwnF.nil _ _ _ belA)⟩
  case round =>
    obtain ⟨i, hi, rfl, hF⟩ := hrel
    obtain ⟨fa, fc, hfv⟩ : ∃ a c, _ = Value.slice a i c := by obtain ⟨a, c, h, _⟩ := hF.out.view; exact ⟨a, c, h⟩
    subst hfv
    have hBr := hF.out.bel
    by_cases hlt : i < n
    · have hltI : (i : Int) < (n : Int) := by omega
      have HLT := Lib.hid hlt
      obtain ⟨un, ud, ul, uk, u0, u1, hu⟩ := HUC.out i hlt
      obtain ⟨vn, vd, vl, vk, v0, v1, hv⟩ := HVC.out i hlt
      have MC := Lib.hid (fun V (qB : Below w11.heap.size w11 V) => mul_c _ _ (U.getD i 0) (V'.getD i 0) 300 300 V (hu.keep qB) (hv.keep qB) (HUB.out i) (HVB.out i) (by decide) (by decide))
      have HS1 := Lib.hid (show ∀ V, Below w11.heap.size w11 V → V.cell? ⟨ub, uo + i * 2, none⟩ = some (.bool un) ∧ V.cell? ⟨ub, uo + i * 2 + 1, none⟩ = some (.slice ud ul uk) ∧ V.cell? ⟨vb, vo + i * 2, none⟩ = some (.bool vn) ∧ V.cell? ⟨vb, vo + i * 2 + 1, none⟩ = some (.slice vd vl vk) from fun V qB => ⟨bkeep qB u0, bkeep qB u1, bkeep qB v0, bkeep qB v1⟩)
      have HSN := Lib.hid (show ∀ z, z = U.getD i 0 * V'.getD i 0 → ∀ k, k < i + 1 → (fun t => if t = i then z else PF t) k = PF k from fun z hz k _ => by
        dsimp only; split
        · subst_vars; exact (HPF.out _).symm
        · rfl)
      have hi9 : i + 1 ≤ 1099511627776 := by omega
      have zu := cell_lt u0
      have zv := cell_lt v0
      have hBw := hBr
      have hby := Below.refl wr.heap.size wr
      clear hu hv u0 u1 v0 v1 hlt
      obtain ⟨u0, u1, v0, v1⟩ := HS1.out wr hBr
      have zu2 := cell_lt u0
      have zv2 := cell_lt v0
      go_wp2
      go_region_held3 (fun V => V.cell? ⟨ub, uo + i * 2, none⟩ = some (.bool un) ∧ V.cell? ⟨ub, uo + i * 2 + 1, none⟩ = some (.slice ud ul uk) ∧ V.cell? ⟨vb, vo + i * 2, none⟩ = some (.bool vn) ∧ V.cell? ⟨vb, vo + i * 2 + 1, none⟩ = some (.slice vd vl vk))
        (first | (refine HS1.out _ ?_; (repeat (first | exact Below.refl _ _ | exact hBw | refine Below.drew ?_ | refine below_drewN ?_ _ | refine bset ?_ (by simp <;> omega) _ | refine bal ?_ _)); done) | fail)
        (first
        | (refine step_num0 elInt (by decide) lims_int (by rfl) (by rfl) HF5.out HZ5.out (by rfl) (by rfl) hi9 ?_; intro v' w6 hF6 _ _; have HF6 := Lib.hid (hF6.congr' (HSN.out _ rfl)); (clear hBw; have hBw := hF6.bel); clear hF6)
        | (refine step_num elInt (by decide) lims_int (by rfl) (by rfl) HF5.out HZ5.out (by rfl) (by rfl) hi9 ?_; intro v' w6 hF6 _ _; have HF6 := Lib.hid (hF6.congr' (HSN.out _ rfl)); (clear hBw; have hBw := hF6.bel); clear hF6)
        | (go_at_call 24; (with_reducible refine (MC.out _ ?_).mono ?_); (repeat (first | exact Below.refl _ _ | exact hBw | refine Below.drew ?_ | refine below_drewN ?_ _ | refine bset ?_ (by simp <;> omega) _ | refine bal ?_ _)); rintro e w5 ⟨⟨z5, rfl, hz⟩, hb5⟩; (have hk5 : Below wr.heap.size wr w5 := bthen belA hb5); have HF5 := Lib.hid (hF.out.below lims_int hk5); (clear hBw; have hBw := bthen hBr hk5); have HZ5 := Lib.hid hz; obtain ⟨n5, a5, l5, k5, rfl⟩ := hz.lit; clear hz)
        | fail)
      all_goals
        obtain ⟨ga, gc, rfl, -, -, hgv⟩ := HF6.out.view
        rcases hgv with h0 | ⟨g, rfl, hgl, hgI⟩
        · omega
        obtain ⟨gn, gd, gl, gk, g0, g1, hg⟩ := hgI.at0 (Nat.lt_succ_self i)
        obtain ⟨wn, wd, wl, wk, x0, x1, hw⟩ := HWC.out i HLT.out
        rw [HPF.out, HEQ.out i HLT.out] at hg
        have hw6 := hw.keep hBw
        have CC := Lib.hid (fun V (qB : Below w6.heap.size w6 V) => cmp_same (hg.keep qB) (hw6.keep qB))
        replace x0 := bkeep hBw x0
        replace x1 := bkeep hBw x1
        have HS2 := Lib.hid (show ∀ V, Below w6.heap.size w6 V → V.cell? ⟨g, i * 2, none⟩ = some (.bool gn) ∧ V.cell? ⟨g, i * 2 + 1, none⟩ = some (.slice gd gl gk) ∧ V.cell? ⟨wb, wo + i * 2, none⟩ = some (.bool wn) ∧ V.cell? ⟨wb, wo + i * 2 + 1, none⟩ = some (.slice wd wl wk) from fun V qB => ⟨bkeep qB g0, bkeep qB g1, bkeep qB x0, bkeep qB x1⟩)
        have zg := cell_lt g0
        have zx := cell_lt x0
        have hiI : (i : Int) < (i : Int) + 1 := by omega
        have hBy := Below.refl w6.heap.size w6
        clear hgl hgI hg hw hw6 hBw
        go_wp2
        go_region_held3 (fun V => V.cell? ⟨g, i * 2, none⟩ = some (.bool gn) ∧ V.cell? ⟨g, i * 2 + 1, none⟩ = some (.slice gd gl gk) ∧ V.cell? ⟨wb, wo + i * 2, none⟩ = some (.bool wn) ∧ V.cell? ⟨wb, wo + i * 2 + 1, none⟩ = some (.slice wd wl wk))
          (first | (refine HS2.out _ ?_; (repeat (first | exact Below.refl _ _ | exact hBy | refine Below.drew ?_ | refine below_drewN ?_ _ | refine bset ?_ (by simp <;> omega) _ | refine bal ?_ _)); done) | fail)
          (first
          | (go_at_call 25; (with_reducible refine (CC.out _ ?_).mono ?_); (repeat (first | exact Below.refl _ _ | exact hBy | refine Below.drew ?_ | refine below_drewN ?_ _ | refine bset ?_ (by simp <;> omega) _ | refine bal ?_ _)); rintro e w7 ⟨rfl, hb7⟩; (have hBd : Below w6.heap.size w6 w7 := bthen belA hb7; clear hBy; have hBy := hBd; clear hBd))
          | fail)
        all_goals
          have HF7 := Lib.hid (HF6.out.below lims_int hBy)
          have hlI := HLT.out
          clear HF6 HS2 CC hBy
          go_wp2
          exact ⟨⟨i + 1, hlI, by go_num, HF7⟩, meas hlI (by go_num) rfl⟩
    · obtain rfl : n = i := by omega
      have hltI : ¬ (n : Int) < (n : Int) := by omega
      have RP := Lib.hid (show PRow 0 wr (.slice fa n fc) WL from by
        have h1 : OwnF IsInt 41 w11 wr (.slice fa n fc) n (fun k => WL.getD k 0) := hF.out.congr' (fun k hk => by rw [HPF.out, HEQ.out k hk])
        have h2 : RowO IsInt 41 w11.heap.size wr (.slice fa n fc) WL := OwnF.rowO (by rw [HWL.out]; exact h1)
        exact h2.row.rebase (Nat.zero_le _))
      have hB := bthen HB11.out hBr
      have hk := hBr
      replace HSA := Lib.hid (HSA.out.keep hk)
      replace HCC := Lib.hid (fun i hi => (show ∃ nb ad ln cp, wr.cell? ⟨cb', co + i * 2, none⟩ = some (.bool nb) ∧ wr.cell? ⟨cb', co + i * 2 + 1, none⟩ = some (.slice ad ln cp) ∧ IsInt wr (.agg #[.bool nb, .slice ad ln cp]) (C.getD i 0) from by
        obtain ⟨nb, ad, ln, cp, h1, h2, h3⟩ := HCC.out i hi
        exact ⟨nb, ad, ln, cp, bkeep hBr h1, bkeep hBr h2, h3.keep hBr⟩))
      clear hk hF hBr HUC HVC HWC HUB HVB HPF HEQ HB11
      have hBw := Below.refl wr.heap.size wr
      have TC := Lib.hid (fun V (qB : Below wr.heap.size wr V) => invS_c b p q n f V (HSA.out.keep qB) HS.out)
      go_wp2_with fail
      (with_reducible refine (TC.out _ ?_).mono ?_); (repeat (first | exact Below.refl _ _ | exact hBw | refine Below.drew ?_ | refine below_drewN ?_ _ | refine bset ?_ (by simp <;> omega) _ | refine bal ?_ _))
      rintro e w12 ⟨⟨ma, mc, dn, da, dl, dc, rfl, hm, hd⟩, hb12⟩
      have hk : Below wr.heap.size wr w12 := bthen belA hb12
      have hB : Below w.heap.size w w12 := bthen belA hb12
      have hz : w.heap.size ≤ w12.heap.size := hB.size
      clear TC hBw hb12
      have hBw := Below.refl w12.heap.size w12
      have MI := Lib.hid hm
      have HD := Lib.hid hd
      clear hm hd
      replace RP := Lib.hid (prow_keep RP.out hk)
      have hk12 := hk
      clear hk
      have TC := Lib.hid (fun V (qB : Below w12.heap.size w12 V) => Mt.apply (n := n) (MI.out.keep qB) (prow_keep RP.out qB) (by rw [inv_cols (by rw [pwG_len]; exact HN.out.2.2.2.2.2.1), pwG_len]; exact HWL.out) HWB (by decide) (by rw [inv_len]; exact pwG_len n n f))
      go_wp2_with fail
      (with_reducible refine (TC.out _ ?_).mono ?_); (repeat (first | exact Below.refl _ _ | exact hBw | refine Below.drew ?_ | refine below_drewN ?_ _ | refine bset ?_ (by simp <;> omega) _ | refine bal ?_ _))
      rintro e w13 ⟨⟨ba', bc, rfl, hb', -, -⟩, hb13⟩
      have hk : Below w12.heap.size w12 w13 := bthen belA hb13
      have m0 : w13.cell? ⟨w12.heap.size, 0, none⟩ = some (.slice ma n mc) := bkc hb13
      have zm0 := cell_lt m0
      have d0 : w13.cell? ⟨w12.heap.size + 1, 0, none⟩ = some (.bool dn) := bkc hb13
      have zd0 := cell_lt d0
      have d1 : w13.cell? ⟨w12.heap.size + 1, 1, none⟩ = some (.slice da dl dc) := bkc hb13
      have hB : Below w.heap.size w w13 := bthen belA hb13
      have hz : w.heap.size ≤ w13.heap.size := hB.size
      clear TC hBw hb13
      have hBw := Below.refl w13.heap.size w13
      have RB := Lib.hid hb'
      clear hb' m0 MI RP
      replace HD := Lib.hid (HD.out.keep hk)
      have hk13 := bthen hk12 hk
      clear hk hk12
      have TC := Lib.hid (fun V (qB : Below w13.heap.size w13 V) => sgn_iz (HD.out.keep qB) (Int.sign_eq_one_of_pos (invD_pos HS.out.det)))
      go_wp2_with fail
      (with_reducible refine (TC.out _ ?_).mono ?_); (repeat (first | exact Below.refl _ _ | exact hBw | refine Below.drew ?_ | refine below_drewN ?_ _ | refine bset ?_ (by simp <;> omega) _ | refine bal ?_ _))
      rintro e w14 ⟨rfl, hb14⟩
      have hk : Below w13.heap.size w13 w14 := bthen belA hb14
      have d0 : w14.cell? ⟨w12.heap.size + 1, 0, none⟩ = some (.bool dn) := bkc hb14
      have zd0 := cell_lt d0
      have d1 : w14.cell? ⟨w12.heap.size + 1, 1, none⟩ = some (.slice da dl dc) := bkc hb14
      have hB : Below w.heap.size w w14 := bthen belA hb14
      have hz : w.heap.size ≤ w14.heap.size := hB.size
      clear TC hBw hb14
      have hBw := Below.refl w14.heap.size w14
      replace HD := Lib.hid (HD.out.keep hk)
      replace RB := Lib.hid (prow_keep RB.out hk)
      have hk14 := bthen hk13 hk
      obtain ⟨bb, bo, _, e, hBc⟩ := prow_f RB.out (by rw [app_len, inv_len, pwG_len]) HN.out.2.2.2.2.2.1
      cases e
      have HBC := Lib.hid hBc
      have HDB := Lib.hid ((invD_bd (K := 200) (g := pwG n n f) (by decide) (pwG_bd HS.out.all hn16) HS.out.det).mono (kb_mono 200 (by rw [pwG_len]; exact hn16)))
      have HDC := Lib.hid (And.intro d0 d1)
      have HB14 := Lib.hid hB
      have HK14 := Lib.hid hk14
      clear hk hk13 hk14 hBc RB hB d0 d1
      have hb14 := Below.refl w14.heap.size w14
      clear hBw
      go_wp2
      go_loopw [167] (fun x wq => ∃ i : Nat, i ≤ n ∧ x = .int .i64 i ∧ Below w14.heap.size w14 wq) (fun x _ => n - (intOf x).toNat)
      case atStart => exact ⟨0, Nat.zero_le _, rfl, by repeat (first | exact Below.refl _ _ | exact hb14 | refine Below.drew ?_ | refine below_drewN ?_ _ | refine bset ?_ (by simp <;> omega) _ | refine bal ?_ _)⟩
      case round =>
        obtain ⟨i, hi, rfl, hBq⟩ := hrel
        rename World => wq
        by_cases hlt : i < n
        · have hltI : (i : Int) < (n : Int) := by omega
          have HLT := Lib.hid hlt
          obtain ⟨zn, zd, zl, zk, z0, z1, hz⟩ := HBC.out i hlt
          obtain ⟨cn, cd, cl, ck, c0, c1, hc⟩ := HCC.out i hlt
          have hIL := HIL.out i hlt
          replace c0 := bkeep HK14.out c0
          replace c1 := bkeep HK14.out c1
          have hc2 := hc.keep HK14.out
          obtain ⟨X', hX'⟩ : ∃ X', (applyG (invG (pwG n n f)) WL).getD i 0 = X' := ⟨_, rfl⟩
          rw [hX'] at hz hIL
          rw [hIL] at hz
          have MC := Lib.hid (fun V (qB : Below w14.heap.size w14 V) => mul_c _ _ (C.getD i 0) (invD (pwG n n f)) 168 (kb 200 16) V (hc2.keep qB) (HD.out.keep qB) (HCL.out.2 i) HDB.out (by decide) (by decide))
          have CC := Lib.hid (fun u V (qB : Below w14.heap.size w14 V) (hu : IsInt V u (C.getD i 0 * invD (pwG n n f))) => cmp_same (hz.keep qB) hu)
          have HST := Lib.hid (show ∀ V, Below w14.heap.size w14 V → V.cell? ⟨bb, bo + i * 2, none⟩ = some (.bool zn) ∧ V.cell? ⟨bb, bo + i * 2 + 1, none⟩ = some (.slice zd zl zk) ∧ V.cell? ⟨cb', co + i * 2, none⟩ = some (.bool cn) ∧ V.cell? ⟨cb', co + i * 2 + 1, none⟩ = some (.slice cd cl ck) ∧ V.cell? ⟨w12.heap.size + 1, 0, none⟩ = some (.bool dn) ∧ V.cell? ⟨w12.heap.size + 1, 1, none⟩ = some (.slice da dl dc) from fun V qB => ⟨bkeep qB z0, bkeep qB z1, bkeep qB c0, bkeep qB c1, bkeep qB HDC.out.1, bkeep qB HDC.out.2⟩)
          have hBy := hBq
          clear hlt z0 z1 c0 c1 hz hc hc2 hIL hX'
          obtain ⟨z0, z1, c0, c1, d0, d1⟩ := HST.out wq hBq
          have zz := cell_lt z0
          have zc := cell_lt c0
          have zd' := cell_lt d0
          go_wp2
          go_region_held3 (fun V => V.cell? ⟨bb, bo + i * 2, none⟩ = some (.bool zn) ∧ V.cell? ⟨bb, bo + i * 2 + 1, none⟩ = some (.slice zd zl zk) ∧ V.cell? ⟨cb', co + i * 2, none⟩ = some (.bool cn) ∧ V.cell? ⟨cb', co + i * 2 + 1, none⟩ = some (.slice cd cl ck) ∧ V.cell? ⟨w12.heap.size + 1, 0, none⟩ = some (.bool dn) ∧ V.cell? ⟨w12.heap.size + 1, 1, none⟩ = some (.slice da dl dc))
            (first | (refine HST.out _ ?_; (repeat (first | exact Below.refl _ _ | exact hBy | refine Below.drew ?_ | refine below_drewN ?_ _ | refine bset ?_ (by simp <;> omega) _ | refine bal ?_ _)); done) | fail)
            (first
            | (go_at_call 24; (with_reducible refine (MC.out _ ?_).mono ?_); (repeat (first | exact Below.refl _ _ | exact hBy | refine Below.drew ?_ | refine below_drewN ?_ _ | refine bset ?_ (by simp <;> omega) _ | refine bal ?_ _)); rintro e w15 ⟨⟨u15, rfl, hu⟩, hb15⟩; (have hBd : Below w14.heap.size w14 w15 := bthen belA hb15; clear hBy; have hBy := hBd; clear hBd); have HU := Lib.hid hu; have hy15 := Below.refl w15.heap.size w15; obtain ⟨n15, a15, l15, k15, rfl⟩ := hu.lit; clear hu)
            | (go_at_call 25; (with_reducible refine (CC.out _ _ ?_ (HU.out.keep ?_)).mono ?_); (repeat (first | exact Below.refl _ _ | exact hBy | refine Below.drew ?_ | refine below_drewN ?_ _ | refine bset ?_ (by simp <;> omega) _ | refine bal ?_ _)); (repeat (first | exact Below.refl _ _ | exact hy15 | refine Below.drew ?_ | refine below_drewN ?_ _ | refine bset ?_ (by simp <;> omega) _ | refine bal ?_ _)); rintro e w16 ⟨rfl, hb16⟩; (have hBd : Below w14.heap.size w14 w16 := bthen belA hb16; clear hBy; have hBy := hBd; clear hBd))
            | fail)
          all_goals
            have hlI := HLT.out
            clear HST MC CC
            go_wp2
            exact ⟨⟨i + 1, hlI, by go_num, by repeat (first | exact Below.refl _ _ | exact hBy | refine Below.drew ?_ | refine below_drewN ?_ _ | refine bset ?_ (by simp <;> omega) _ | refine bal ?_ _)⟩, meas hlI (by go_num) rfl⟩
        · obtain rfl : n = i := by omega
          have hltI : ¬ (n : Int) < (n : Int) := by omega
          have hBf := bthen HB14.out hBq
          go_wp2
          go_ret
          exact ⟨rfl, by repeat (first | exact Below.refl _ _ | exact hBf | refine Below.drew ?_ | refine below_drewN ?_ _ | refine bset ?_ (by simp <;> omega) _ | refine bal ?_ _)⟩
theorem schemeProduct_u (k1 k2 : Int) (pa : Option Addr) (n cap : Nat) (f : Nat → Int × Int) (aa : Option Addr) (ca : Nat) (A : List Int) (ba : Option Addr) (cb : Nat) (B : List Int) (w : World) (h1 : (Lit.int .i64 k1).wf = true) (h2 : (Lit.int .i64 k2).wf = true) (hn : n * 16 ≤ 140737488355328) (h : PtsV w pa n cap f) (hi : ∀ k, k < n → I64 (f k).1 ∧ I64 (f k).2)
    (hA : RowI w (.slice aa A.length ca) A) (hca : A.length ≤ ca) (hB0 : RowI w (.slice ba B.length cb) B) (hcb : B.length ≤ cb) :
    Calls Tryz.prog 4 #[.int .i64 k1, .int .i64 k2, .slice pa n cap, .slice aa A.length ca, .slice ba B.length cb] w fun e w' => e = .returned (.bool true) ∧ Below w.heap.size w w' :=
  schemeProduct_h k1 k2 pa n cap f aa ca A ba cb B w h (by omega) hA hB0 hca hcb
end Go.Proofs.YtkejdmdldhlkgaaGreatDoor

