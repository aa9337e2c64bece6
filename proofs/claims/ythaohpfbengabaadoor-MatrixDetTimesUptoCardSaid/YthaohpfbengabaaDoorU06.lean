/- Texts of this seat, laid together (what the earlier ones leave out): MwZ. Each opens with its own remark, which says what it proves, and under which conditions. -/
import Derived.Test.YthaohpfbengabaaDoorR01
import Derived.Test.YthaohpfbengabaaDoorR02
import Derived.Test.YthaohpfbengabaaDoorR03
import Derived.Test.YthaohpfbengabaaDoorR04
import Derived.Test.YthaohpfbengabaaDoorR05
import Derived.Test.YthaohpfbengabaaDoorR06
import Derived.Test.YthaohpfbengabaaDoorR07
import Derived.Test.YthaohpfbengabaaDoorR08
import Derived.Test.YthaohpfbengabaaDoorR09
import Derived.Test.YthaohpfbengabaaDoorR10
import Derived.Test.YthaohpfbengabaaDoorR11
import Derived.Test.YthaohpfbengabaaDoorR12
import Derived.Test.YthaohpfbengabaaDoorR13
import Derived.Test.YthaohpfbengabaaDoorR14
import Derived.Test.YthaohpfbengabaaDoorR16
import Derived.Test.YthaohpfbengabaaDoorU01
import Derived.Test.YthaohpfbengabaaDoorU02
import Derived.Test.YthaohpfbengabaaDoorU03
import Derived.Test.YthaohpfbengabaaDoorU04
import Derived.Test.YthaohpfbengabaaDoorU05
import Derived.WalkKit
import Derived.ProofKit
import Derived.OpenShut
import Derived.Deep.QuietTactic
import Derived.BigQuiet
import Derived.Outline
import Derived.Lib.Hide
import Derived.WalkSmall
import Derived.WalkSpells
import Derived.WalkLawsBesides
import Derived.Deep.RegionWith
import Derived.Deep.RegionHeld3
import Derived.Laws.CopyOwn
import Derived.Shelf.Small.Bits
import Derived.Laws.AppendOwn
import Derived.Deep.AppendLies
import Derived.OneCell
import Derived.Laws.BitsAllLaws
import Derived.Shelf.Spec.TrailingZeros
import Derived.Shelf.Strings.Builder1
import Derived.Shelf.Strings.Trim
import Derived.Deep.Cut
import Derived.Deep.DeepCutAuto
import Derived.ArgAppend
import Derived.Deep.DeepFit
import Derived.Shelf.Abstract
import Derived.Laws.EntriesVeiled
import Derived.RegionTactic
import Derived.ChangeAlike
import Derived.Laws.OwnMore
import Derived.Deep.Onto
import Derived.Deep.DrawnRows
import Derived.Deep.RegionLaw
import Derived.Deep.LoopGhost
import Derived.RangeFuncNested
import Derived.RangeFuncBound
import Derived.RangeFuncCalls
import Derived.RangeFuncLeaves
import Derived.Shelf.RegionOpen
import Derived.OwnWalkIn
import Derived.TacticsInMore
import Derived.LoopNIn
import Derived.LoopIn
import Derived.Laws.CopyRow
import Derived.Laws.Rows
import Derived.Laws.Tables
import Derived.StillTail
import Derived.Deep.Quiet
import Derived.StillTailTactics
import Derived.Lib.AppendZeros
import Derived.Laws.IdiomStrings
import Derived.Laws.BytesArg
import Derived.Laws.RangeString
import Derived.Lib.OthersKept
import Derived.Maps.AppendAt
import Derived.Shelf.Strings.OnBuilder
import Derived.Lib.SmallJoins
import Derived.Deep.Slices
import Derived.Deep.Matrix
import Derived.Deep.Fields
import Derived.ChangeSame
import Derived.DataShut
import Derived.SizedLaws
set_option linter.unusedVariables false
set_option linter.unusedSimpArgs false
/- MatrixDetTimes: determinants of products, of what is turned, of rows changed about; ranks. -/
namespace Go.Proofs.YthaohpfbengabaaDoor
open Num
open Go.ChangeShapes Go.WideShapes Go.ChangeAt Go.RowKit
attribute [local go_sem ↓] Go.wp_at_zero Go.wp_at_succ
set_option maxRecDepth 100000 in
set_option maxHeartbeats 16000000 in
theorem matrixDetTimes_h (va vb : Value) (a b : Grid) (i k : Int) (w : World) (ha : GridI w va a) (hb : GridI w vb b) (la : a.length ≤ 1048576) (lb : b.length ≤ 1048576) (hla : ∀ k, k < a.length → (a.getD k []).length ≤ 1048576) (hlb : ∀ k, k < b.length → (b.getD k []).length ≤ 1048576) :
    Calls Tryd.prog 3 #[va, vb, .int .i64 i, .int .i64 k] w fun e w' => e = .returned (.bool true) ∧ Below w.heap.size w w' := by
  have BA := Lib.hid (fun W (q : Below w.heap.size w W) => made5_c va a W (ha.keep q) hla (by omega))
  have BB := Lib.hid (fun W (q : Below w.heap.size w W) => made5_c vb b W (hb.keep q) hlb (by omega))
  have RA := Lib.hid (fun W (q : Below w.heap.size w W) => rows5_c va a W (ha.keep q) la hla)
  have HBD := Lib.hid (And.intro (i64_bdM2 ha) (i64_bdM2 hb))
  obtain ⟨aa, ca, rfl, -⟩ := ha
  obtain ⟨ab, cb, rfl, -⟩ := hb
  clear la lb hla hlb
  have hB := Below.refl w.heap.size w
  go_enter Tryd.func3, Tryd.ntmps3
  go_wp2_with fail
  (with_reducible refine (works_c _).mono ?_)
  rintro e w1 ⟨rfl, hb1⟩
  have hB1 : Below w.heap.size w w1 := bthen belA hb1
  clear hb1 hB
  go_wp2_with fail
  (with_reducible refine (BA.out _ ?_).mono ?_); (repeat (first | exact Below.refl _ _ | exact hB1 | refine Below.drew ?_ | refine below_drewN ?_ _ | refine bset ?_ (by simp <;> omega) _ | refine bal ?_ _))
  intro e w2 hP
  obtain ⟨⟨xa, xn, xc, ok1, gx, rfl, hx, hxn, hxo⟩, hb2⟩ := made_any hP HBD.out.1
  have hB2 : Below w.heap.size w w2 := bthen belA hb2
  have HX := Lib.hid hx
  have HXO := Lib.hid hxo
  have HXN := Lib.hid hxn
  clear BA hb2 hP hx hxn hxo hB1
  have hBw2 := Below.refl w2.heap.size w2
  go_wp2_with fail
  (with_reducible refine (BB.out _ ?_).mono ?_); (repeat (first | exact Below.refl _ _ | exact hB2 | refine Below.drew ?_ | refine below_drewN ?_ _ | refine bset ?_ (by simp <;> omega) _ | refine bal ?_ _))
  intro e w3 hP
  obtain ⟨⟨ya, yn, yc, ok2, gy, rfl, hy, hyn, hyo⟩, hb3⟩ := made_any hP HBD.out.2
  have hB : Below w.heap.size w w3 := bthen belA hb3
  have hb23 : Below w2.heap.size w2 w3 := bthen belA hb3
  have hx0 : w3.cell? ⟨w2.heap.size, 0, none⟩ = some (.slice xa xn xc) := bkeep hb3 (by simp [go_sem])
  have HYO := Lib.hid hyo
  have HYN2 := Lib.hid hyn
  have HX3 := Lib.hid (HX.out.keep hb23)
  have HXO3 := Lib.hid (fun h => And.intro (HXO.out h).1 ((HXO.out h).2.keep hb23))
  clear BB hb3 hP hy hyn hyo hB2 hBw2 hb23 HX HXO
  have hBw3 := Below.refl w3.heap.size w3
  go_wp2
  refine wp_name fun w4 hW4 => ?_
  have x0 : w4.cell? ⟨w2.heap.size, 0, none⟩ = some (.slice xa xn xc) := by rw [hW4]; exact (by first | assumption | exact cell_new (by with_reducible first | rfl | (simp; done) | (simp; omega)) rfl | (repeat (first | assumption | exact cell_new (by with_reducible first | rfl | (simp; done) | (simp; omega)) rfl | refine cell_alloc ?_ _ | refine cell_drew ?_ | refine cell_drewN ?_ _ | refine cell_far ?_ (by simp) _ | (refine cell_far ?_ (by simp <;> omega) _))) | simp [go_sem, *])
  have zx0 := cell_lt x0
  have y0 : w4.cell? ⟨w3.heap.size, 0, none⟩ = some (.slice ya yn yc) := by rw [hW4]; exact (by first | assumption | exact cell_new (by with_reducible first | rfl | (simp; done) | (simp; omega)) rfl | (repeat (first | assumption | exact cell_new (by with_reducible first | rfl | (simp; done) | (simp; omega)) rfl | refine cell_alloc ?_ _ | refine cell_drew ?_ | refine cell_drewN ?_ _ | refine cell_far ?_ (by simp) _ | (refine cell_far ?_ (by simp <;> omega) _))) | simp [go_sem, *])
  have zy0 := cell_lt y0
  have hB : Below w.heap.size w w4 := by rw [hW4]; repeat (first | exact Below.refl _ _ | exact hB | refine Below.drew ?_ | refine below_drewN ?_ _ | refine bset ?_ (by simp <;> omega) _ | refine bal ?_ _)
  have hb34 : Below w3.heap.size w3 w4 := by rw [hW4]; repeat (first | exact Below.refl _ _ | exact hBw3 | refine Below.drew ?_ | refine below_drewN ?_ _ | refine bset ?_ (by simp <;> omega) _ | refine bal ?_ _)
  have hz : w.heap.size ≤ w4.heap.size := hB.size
  clear hW4
  clear hx0 hBw3
  obtain ⟨cx, hcx⟩ : ∃ q, cols gx = q := ⟨_, rfl⟩
  have HCX := Lib.hid hcx
  have XC := Lib.hid (fun V (q : Below w4.heap.size w4 V) => colsI (HX3.out.keep (bthen hb34 q)) HCX.out)
  have XR := Lib.hid (fun V => rowsM_c xa xn xc V)
  clear hcx
  cases ok1
  ·
    refine wp_region_grow (w := w4) (by kernel_rfl) (by kernel_rfl) ?_
    have x0g : ∀ gs, (grow w4 gs).cell? ⟨w2.heap.size, 0, none⟩ = some (.slice xa xn xc) := fun gs => bkeep gs.below x0
    have y0g : ∀ gs, (grow w4 gs).cell? ⟨w3.heap.size, 0, none⟩ = some (.slice ya yn yc) := fun gs => bkeep gs.below y0
    repeat (go_big_quiet_step ((first | (go_at_call 9; with_reducible exact grow_of (XR.out _)) | (go_at_call 10; with_reducible exact grow_of (XC.out _ (Grows.below _))) | fail)))
    refine wpQuiet_nil ?_
    intro w5 hb5
    clear x0g
    clear y0g
    have x0 := bkeep hb5 x0
    have y0 := bkeep hb5 y0
    have hB := bthen hB hb5
    have hz := hB.size
    go_wp2
    go_ret
    exact ⟨rfl, by repeat (first | exact Below.refl _ _ | exact hB | refine Below.drew ?_ | refine below_drewN ?_ _ | refine bset ?_ (by simp <;> omega) _ | refine bal ?_ _)⟩
  by_cases h1 : xn = cx
  rotate_left
  · have hI1 : ((xn : Int) != (cx : Int)) = true := by simp; omega
    clear h1
    refine wp_region_grow (w := w4) (by kernel_rfl) (by kernel_rfl) ?_
    have x0g : ∀ gs, (grow w4 gs).cell? ⟨w2.heap.size, 0, none⟩ = some (.slice xa xn xc) := fun gs => bkeep gs.below x0
    have y0g : ∀ gs, (grow w4 gs).cell? ⟨w3.heap.size, 0, none⟩ = some (.slice ya yn yc) := fun gs => bkeep gs.below y0
    repeat (go_big_quiet_step ((first | (go_at_call 9; with_reducible exact grow_of (XR.out _)) | (go_at_call 10; with_reducible exact grow_of (XC.out _ (Grows.below _))) | fail)))
    refine wpQuiet_nil ?_
    intro w5 hb5
    clear x0g
    clear y0g
    have x0 := bkeep hb5 x0
    have y0 := bkeep hb5 y0
    have hB := bthen hB hb5
    have hz := hB.size
    go_wp2
    go_ret
    exact ⟨rfl, by repeat (first | exact Below.refl _ _ | exact hB | refine Below.drew ?_ | refine below_drewN ?_ _ | refine bset ?_ (by simp <;> omega) _ | refine bal ?_ _)⟩
  have hI1 : ((xn : Int) != (cx : Int)) = false := by simp; omega
  have HE1 := Lib.hid h1
  clear h1
  refine wp_region_grow (w := w4) (by kernel_rfl) (by kernel_rfl) ?_
  have x0g : ∀ gs, (grow w4 gs).cell? ⟨w2.heap.size, 0, none⟩ = some (.slice xa xn xc) := fun gs => bkeep gs.below x0
  have y0g : ∀ gs, (grow w4 gs).cell? ⟨w3.heap.size, 0, none⟩ = some (.slice ya yn yc) := fun gs => bkeep gs.below y0
  repeat (go_big_quiet_step ((first | (go_at_call 9; with_reducible exact grow_of (XR.out _)) | (go_at_call 10; with_reducible exact grow_of (XC.out _ (Grows.below _))) | fail)))
  refine wpQuiet_nil ?_
  intro w5 hb5
  clear x0g
  clear y0g
  have x0 := bkeep hb5 x0
  have y0 := bkeep hb5 y0
  have hB := bthen hB hb5
  have hz := hB.size
  have hk : Below w3.heap.size w3 w5 := bthen hb34 hb5
  obtain ⟨hg1, hm1⟩ := HXO3.out rfl
  have MX := Lib.hid (show Mt 64 gx (.agg #[.slice xa xn xc]) w5 from by rw [hg1]; exact hm1.keep hk)
  have HYO5 := Lib.hid (fun h => And.intro (HYO.out h).1 ((HYO.out h).2.keep hk))
  have ESQ := Lib.hid (show gx.length = cols gx from by rw [HCX.out, ← HE1.out, HXN.out])
  have HGA := Lib.hid hg1
  have hal : a.length = xn := by rw [HXN.out, hg1]
  rw [hal] at RA ⊢
  clear hal
  clear hg1 hm1 hb5 hb34 XC XR hI1 HX3 HXO3 HYO hk
  have hBw := Below.refl w5.heap.size w5
  have TC := Lib.hid (fun V (q : Below w5.heap.size w5 V) => Mt.det (MX.out.keep q) ESQ.out (by decide) (by decide))
  go_wp2_with fail
  (with_reducible refine (TC.out _ ?_).mono ?_); (repeat (first | exact Below.refl _ _ | exact hBw | refine Below.drew ?_ | refine below_drewN ?_ _ | refine bset ?_ (by simp <;> omega) _ | refine bal ?_ _))
  rintro e w6 ⟨⟨nd, da, dl, dc, rfl, hd⟩, hb6⟩
  have hk : Below w5.heap.size w5 w6 := bthen belA hb6
  have x0 : w6.cell? ⟨w2.heap.size, 0, none⟩ = some (.slice xa xn xc) := bkc hb6
  have zx0 := cell_lt x0
  have y0 : w6.cell? ⟨w3.heap.size, 0, none⟩ = some (.slice ya yn yc) := bkc hb6
  have zy0 := cell_lt y0
  have hB : Below w.heap.size w w6 := bthen belA hb6
  have hz : w.heap.size ≤ w6.heap.size := hB.size
  clear TC hBw hb6
  have hBw := Below.refl w6.heap.size w6
  have HD := Lib.hid hd
  clear hd
  obtain ⟨D, hD⟩ : ∃ D, Det.detE gx.length (gat gx) = D := ⟨_, rfl⟩
  rw [hD] at HD
  have HDD := Lib.hid hD
  clear hD
  replace MX := Lib.hid (MX.out.keep hk)
  replace HYO5 := Lib.hid (fun h => And.intro (HYO5.out h).1 ((HYO5.out h).2.keep hk))
  clear hk
  have TC := Lib.hid (fun V (q : Below w6.heap.size w6 V) => Mt.turn (MX.out.keep q) HCX.out)
  go_wp2_with fail
  (with_reducible refine (TC.out _ ?_).mono ?_); (repeat (first | exact Below.refl _ _ | exact hBw | refine Below.drew ?_ | refine below_drewN ?_ _ | refine bset ?_ (by simp <;> omega) _ | refine bal ?_ _))
  rintro e w7 ⟨⟨ta, tc, rfl, hm⟩, hb7⟩
  have hk : Below w6.heap.size w6 w7 := bthen belA hb7
  have x0 : w7.cell? ⟨w2.heap.size, 0, none⟩ = some (.slice xa xn xc) := bkc hb7
  have zx0 := cell_lt x0
  have y0 : w7.cell? ⟨w3.heap.size, 0, none⟩ = some (.slice ya yn yc) := bkc hb7
  have zy0 := cell_lt y0
  have d0 : w7.cell? ⟨w6.heap.size, 0, none⟩ = some (.bool nd) := bkc hb7
  have zd0 := cell_lt d0
  have d1 : w7.cell? ⟨w6.heap.size, 1, none⟩ = some (.slice da dl dc) := bkc hb7
  have hB : Below w.heap.size w w7 := bthen belA hb7
  have hz : w.heap.size ≤ w7.heap.size := hB.size
  clear TC hBw hb7
  have hBw := Below.refl w7.heap.size w7
  have MT := Lib.hid hm
  clear hm
  replace MX := Lib.hid (MX.out.keep hk)
  replace HD := Lib.hid (HD.out.keep hk)
  replace HYO5 := Lib.hid (fun h => And.intro (HYO5.out h).1 ((HYO5.out h).2.keep hk))
  clear hk
  have TC := Lib.hid (fun V (q : Below w7.heap.size w7 V) => Mt.det (MT.out.keep q) (by rw [turn_len, turn_cols MX.out.sz.2.1]; exact ESQ.out.symm) (by decide) (by decide))
  go_wp2_with fail
  (with_reducible refine (TC.out _ ?_).mono ?_); (repeat (first | exact Below.refl _ _ | exact hBw | refine Below.drew ?_ | refine below_drewN ?_ _ | refine bset ?_ (by simp <;> omega) _ | refine bal ?_ _))
  rintro e w8 ⟨⟨nt, ea, el, ec, rfl, ht⟩, hb8⟩
  have hk : Below w7.heap.size w7 w8 := bthen belA hb8
  have x0 : w8.cell? ⟨w2.heap.size, 0, none⟩ = some (.slice xa xn xc) := bkc hb8
  have zx0 := cell_lt x0
  have y0 : w8.cell? ⟨w3.heap.size, 0, none⟩ = some (.slice ya yn yc) := bkc hb8
  have zy0 := cell_lt y0
  have d0 : w8.cell? ⟨w6.heap.size, 0, none⟩ = some (.bool nd) := bkc hb8
  have zd0 := cell_lt d0
  have d1 : w8.cell? ⟨w6.heap.size, 1, none⟩ = some (.slice da dl dc) := bkc hb8
  have hB : Below w.heap.size w w8 := bthen belA hb8
  have hz : w.heap.size ≤ w8.heap.size := hB.size
  clear TC hBw hb8
  have hBw := Below.refl w8.heap.size w8
  rw [det_turn MX.out.rc ESQ.out, HDD.out] at ht
  have HT := Lib.hid ht
  clear ht MT
  replace MX := Lib.hid (MX.out.keep hk)
  replace HD := Lib.hid (HD.out.keep hk)
  replace HYO5 := Lib.hid (fun h => And.intro (HYO5.out h).1 ((HYO5.out h).2.keep hk))
  clear hk
  go_wp2
  refine wp_name fun w9 hW9 => ?_
  have x0 : w9.cell? ⟨w2.heap.size, 0, none⟩ = some (.slice xa xn xc) := by rw [hW9]; exact (by first | assumption | exact cell_new (by with_reducible first | rfl | (simp; done) | (simp; omega)) rfl | (repeat (first | assumption | exact cell_new (by with_reducible first | rfl | (simp; done) | (simp; omega)) rfl | refine cell_alloc ?_ _ | refine cell_drew ?_ | refine cell_drewN ?_ _ | refine cell_far ?_ (by simp) _ | (refine cell_far ?_ (by simp <;> omega) _))) | simp [go_sem, *])
  have zx0 := cell_lt x0
  have y0 : w9.cell? ⟨w3.heap.size, 0, none⟩ = some (.slice ya yn yc) := by rw [hW9]; exact (by first | assumption | exact cell_new (by with_reducible first | rfl | (simp; done) | (simp; omega)) rfl | (repeat (first | assumption | exact cell_new (by with_reducible first | rfl | (simp; done) | (simp; omega)) rfl | refine cell_alloc ?_ _ | refine cell_drew ?_ | refine cell_drewN ?_ _ | refine cell_far ?_ (by simp) _ | (refine cell_far ?_ (by simp <;> omega) _))) | simp [go_sem, *])
  have zy0 := cell_lt y0
  have d0 : w9.cell? ⟨w6.heap.size, 0, none⟩ = some (.bool nd) := by rw [hW9]; exact (by first | assumption | exact cell_new (by with_reducible first | rfl | (simp; done) | (simp; omega)) rfl | (repeat (first | assumption | exact cell_new (by with_reducible first | rfl | (simp; done) | (simp; omega)) rfl | refine cell_alloc ?_ _ | refine cell_drew ?_ | refine cell_drewN ?_ _ | refine cell_far ?_ (by simp) _ | (refine cell_far ?_ (by simp <;> omega) _))) | simp [go_sem, *])
  have zd0 := cell_lt d0
  have d1 : w9.cell? ⟨w6.heap.size, 1, none⟩ = some (.slice da dl dc) := by rw [hW9]; exact (by first | assumption | exact cell_new (by with_reducible first | rfl | (simp; done) | (simp; omega)) rfl | (repeat (first | assumption | exact cell_new (by with_reducible first | rfl | (simp; done) | (simp; omega)) rfl | refine cell_alloc ?_ _ | refine cell_drew ?_ | refine cell_drewN ?_ _ | refine cell_far ?_ (by simp) _ | (refine cell_far ?_ (by simp <;> omega) _))) | simp [go_sem, *])
  have t0 : w9.cell? ⟨w8.heap.size, 0, none⟩ = some (.bool nt) := by rw [hW9]; exact (by first | assumption | exact cell_new (by with_reducible first | rfl | (simp; done) | (simp; omega)) rfl | (repeat (first | assumption | exact cell_new (by with_reducible first | rfl | (simp; done) | (simp; omega)) rfl | refine cell_alloc ?_ _ | refine cell_drew ?_ | refine cell_drewN ?_ _ | refine cell_far ?_ (by simp) _ | (refine cell_far ?_ (by simp <;> omega) _))) | simp [go_sem, *])
  have zt0 := cell_lt t0
  have t1 : w9.cell? ⟨w8.heap.size, 1, none⟩ = some (.slice ea el ec) := by rw [hW9]; exact (by first | assumption | exact cell_new (by with_reducible first | rfl | (simp; done) | (simp; omega)) rfl | (repeat (first | assumption | exact cell_new (by with_reducible first | rfl | (simp; done) | (simp; omega)) rfl | refine cell_alloc ?_ _ | refine cell_drew ?_ | refine cell_drewN ?_ _ | refine cell_far ?_ (by simp) _ | (refine cell_far ?_ (by simp <;> omega) _))) | simp [go_sem, *])
  have hB : Below w.heap.size w w9 := by rw [hW9]; repeat (first | exact Below.refl _ _ | exact hB | refine Below.drew ?_ | refine below_drewN ?_ _ | refine bset ?_ (by simp <;> omega) _ | refine bal ?_ _)
  have hk : Below w8.heap.size w8 w9 := by rw [hW9]; repeat (first | exact Below.refl _ _ | exact hBw | refine Below.drew ?_ | refine below_drewN ?_ _ | refine bset ?_ (by simp <;> omega) _ | refine bal ?_ _)
  have hz : w.heap.size ≤ w9.heap.size := hB.size
  clear hW9
  replace MX := Lib.hid (MX.out.keep hk)
  replace HD := Lib.hid (HD.out.keep hk)
  replace HT := Lib.hid (HT.out.keep hk)
  replace HYO5 := Lib.hid (fun h => And.intro (HYO5.out h).1 ((HYO5.out h).2.keep hk))
  clear hk hBw
  obtain ⟨R, hR⟩ : ∃ R, (pivL gx).length = R := ⟨_, rfl⟩
  have HR := Lib.hid hR
  obtain ⟨sg, hsg⟩ : ∃ s, D.sign = s := ⟨_, rfl⟩
  have HSG := Lib.hid hsg
  clear hR hsg
  have hrr : ((R : Int) != (R : Int)) = false := by simp
  have HZ := Lib.hid (show sg = 0 ↔ R < xn from by
    have h1 : D = 0 ↔ R < xn := by rw [← HDD.out, ← HR.out, HXN.out]; exact det_zero_piv ESQ.out
    rw [← h1, ← HSG.out]
    exact Int.sign_eq_zero_iff_zero)
  have CD := Lib.hid (fun V (q : Below w9.heap.size w9 V) => cmp_same (HD.out.keep q) (HT.out.keep q))
  have SC := Lib.hid (fun V (q : Below w9.heap.size w9 V) => (show Calls Tryd.prog 14 #[.agg #[.bool nd, .slice da dl dc]] V fun e w' => e = .returned (.int .i64 sg) ∧ Below V.heap.size V w' from by rw [← HSG.out]; exact sign_c _ _ V (HD.out.keep q)))
  have RC := Lib.hid (fun V (q : Below w9.heap.size w9 V) => (show Calls Tryd.prog 15 #[.agg #[.slice xa xn xc]] V fun e w' => e = .returned (.int .i64 (R : Nat)) ∧ Below V.heap.size V w' from by rw [← HR.out]; exact Mt.rank (MX.out.keep q) (by decide) (by decide)))
  have RW := Lib.hid (fun V => rowsM_c xa xn xc V)
  have TU := Lib.hid (fun V (q : Below w9.heap.size w9 V) => Mt.turn (MX.out.keep q) HCX.out)
  have HS := Lib.hid (show ∀ V, Below w9.heap.size w9 V → V.cell? ⟨w2.heap.size, 0, none⟩ = some (.slice xa xn xc) ∧ V.cell? ⟨w6.heap.size, 0, none⟩ = some (.bool nd) ∧ V.cell? ⟨w6.heap.size, 1, none⟩ = some (.slice da dl dc) ∧ V.cell? ⟨w8.heap.size, 0, none⟩ = some (.bool nt) ∧ V.cell? ⟨w8.heap.size, 1, none⟩ = some (.slice ea el ec) from fun V q => ⟨bkeep q x0, bkeep q d0, bkeep q d1, bkeep q t0, bkeep q t1⟩)
  go_cut [91] (fun s91 wx => s91 = .bool false ∧ Below w9.heap.size w9 wx)
  case first =>
    by_cases hlt : R < xn
    · have hs0 : sg = 0 := HZ.out.2 hlt
      have hltI : (R : Int) < (xn : Int) := by omega
      subst hs0
      have hBw := Below.refl w9.heap.size w9
      go_region_held3 (fun V => V.cell? ⟨w2.heap.size, 0, none⟩ = some (.slice xa xn xc) ∧ V.cell? ⟨w6.heap.size, 0, none⟩ = some (.bool nd) ∧ V.cell? ⟨w6.heap.size, 1, none⟩ = some (.slice da dl dc) ∧ V.cell? ⟨w8.heap.size, 0, none⟩ = some (.bool nt) ∧ V.cell? ⟨w8.heap.size, 1, none⟩ = some (.slice ea el ec))
        (first | (refine HS.out _ ?_; (repeat (first | exact Below.refl _ _ | exact hBw | refine Below.drew ?_ | refine below_drewN ?_ _ | refine bset ?_ (by simp <;> omega) _ | refine bal ?_ _)); done) | fail)
        (first
        | (go_at_call 13; (with_reducible refine (CD.out _ ?_).mono ?_); (repeat (first | exact Below.refl _ _ | exact hBw | refine Below.drew ?_ | refine below_drewN ?_ _ | refine bset ?_ (by simp <;> omega) _ | refine bal ?_ _)); rintro e w10 ⟨rfl, hb10⟩; (have hBd : Below w9.heap.size w9 w10 := bthen belA hb10; clear hBw; have hBw := hBd; clear hBd))
        | (go_at_call 14; (with_reducible refine (SC.out _ ?_).mono ?_); (repeat (first | exact Below.refl _ _ | exact hBw | refine Below.drew ?_ | refine below_drewN ?_ _ | refine bset ?_ (by simp <;> omega) _ | refine bal ?_ _)); rintro e w11 ⟨rfl, hb11⟩; (have hBd : Below w9.heap.size w9 w11 := bthen belA hb11; clear hBw; have hBw := hBd; clear hBd))
        | (go_at_call 15; (with_reducible refine (RC.out _ ?_).mono ?_); (repeat (first | exact Below.refl _ _ | exact hBw | refine Below.drew ?_ | refine below_drewN ?_ _ | refine bset ?_ (by simp <;> omega) _ | refine bal ?_ _)); rintro e w12 ⟨rfl, hb12⟩; (have hBd : Below w9.heap.size w9 w12 := bthen belA hb12; clear hBw; have hBw := hBd; clear hBd))
        | (go_at_call 9; (with_reducible refine (RW.out _).mono ?_); rintro e w13 ⟨rfl, hb13⟩; (have hBd : Below w9.heap.size w9 w13 := bthen belA hb13; clear hBw; have hBw := hBd; clear hBd))
        | (go_at_call 12; (with_reducible refine (TU.out _ ?_).mono ?_); (repeat (first | exact Below.refl _ _ | exact hBw | refine Below.drew ?_ | refine below_drewN ?_ _ | refine bset ?_ (by simp <;> omega) _ | refine bal ?_ _)); rintro e w14 ⟨⟨ua, uc, rfl, hm⟩, hb14⟩; (have hBd : Below w9.heap.size w9 w14 := bthen belA hb14; clear hBw; have hBw := hBd; clear hBd); have MU := Lib.hid hm; have hy14 := Below.refl w14.heap.size w14; have RC2 := Lib.hid (fun V (q : Below w14.heap.size w14 V) => (show Calls Tryd.prog 15 #[.agg #[.slice ua cx uc]] V fun e w' => e = .returned (.int .i64 (R : Nat)) ∧ Below V.heap.size V w' from by rw [← HR.out, ← piv_turn MX.out.rc MX.out.sz.2.1]; exact Mt.rank (MU.out.keep q) (by decide) (by decide))); clear hm)
        | (go_at_call 15; (with_reducible refine (RC2.out _ ?_).mono ?_); (repeat (first | exact Below.refl _ _ | exact hy14 | refine Below.drew ?_ | refine below_drewN ?_ _ | refine bset ?_ (by simp <;> omega) _ | refine bal ?_ _)); rintro e w15 ⟨rfl, hb15⟩; (have hBd : Below w9.heap.size w9 w15 := bthen belA hb15; clear hBw; have hBw := hBd; clear hBd))
        | fail)
      all_goals
        go_wp2
        go_meet
        exact ⟨rfl, by repeat (first | exact Below.refl _ _ | exact hBw | refine Below.drew ?_ | refine below_drewN ?_ _ | refine bset ?_ (by simp <;> omega) _ | refine bal ?_ _)⟩
    · have hs0 : (sg == 0) = false := by
        have := fun e => hlt (HZ.out.1 e)
        simpa using this
      have hltI : ¬ (R : Int) < (xn : Int) := by omega
      have hBw := Below.refl w9.heap.size w9
      go_region_held3 (fun V => V.cell? ⟨w2.heap.size, 0, none⟩ = some (.slice xa xn xc) ∧ V.cell? ⟨w6.heap.size, 0, none⟩ = some (.bool nd) ∧ V.cell? ⟨w6.heap.size, 1, none⟩ = some (.slice da dl dc) ∧ V.cell? ⟨w8.heap.size, 0, none⟩ = some (.bool nt) ∧ V.cell? ⟨w8.heap.size, 1, none⟩ = some (.slice ea el ec))
        (first | (refine HS.out _ ?_; (repeat (first | exact Below.refl _ _ | exact hBw | refine Below.drew ?_ | refine below_drewN ?_ _ | refine bset ?_ (by simp <;> omega) _ | refine bal ?_ _)); done) | fail)
        (first
        | (go_at_call 13; (with_reducible refine (CD.out _ ?_).mono ?_); (repeat (first | exact Below.refl _ _ | exact hBw | refine Below.drew ?_ | refine below_drewN ?_ _ | refine bset ?_ (by simp <;> omega) _ | refine bal ?_ _)); rintro e w10 ⟨rfl, hb10⟩; (have hBd : Below w9.heap.size w9 w10 := bthen belA hb10; clear hBw; have hBw := hBd; clear hBd))
        | (go_at_call 14; (with_reducible refine (SC.out _ ?_).mono ?_); (repeat (first | exact Below.refl _ _ | exact hBw | refine Below.drew ?_ | refine below_drewN ?_ _ | refine bset ?_ (by simp <;> omega) _ | refine bal ?_ _)); rintro e w11 ⟨rfl, hb11⟩; (have hBd : Below w9.heap.size w9 w11 := bthen belA hb11; clear hBw; have hBw := hBd; clear hBd))
        | (go_at_call 15; (with_reducible refine (RC.out _ ?_).mono ?_); (repeat (first | exact Below.refl _ _ | exact hBw | refine Below.drew ?_ | refine below_drewN ?_ _ | refine bset ?_ (by simp <;> omega) _ | refine bal ?_ _)); rintro e w12 ⟨rfl, hb12⟩; (have hBd : Below w9.heap.size w9 w12 := bthen belA hb12; clear hBw; have hBw := hBd; clear hBd))
        | (go_at_call 9; (with_reducible refine (RW.out _).mono ?_); rintro e w13 ⟨rfl, hb13⟩; (have hBd : Below w9.heap.size w9 w13 := bthen belA hb13; clear hBw; have hBw := hBd; clear hBd))
        | (go_at_call 12; (with_reducible refine (TU.out _ ?_).mono ?_); (repeat (first | exact Below.refl _ _ | exact hBw | refine Below.drew ?_ | refine below_drewN ?_ _ | refine bset ?_ (by simp <;> omega) _ | refine bal ?_ _)); rintro e w14 ⟨⟨ua, uc, rfl, hm⟩, hb14⟩; (have hBd : Below w9.heap.size w9 w14 := bthen belA hb14; clear hBw; have hBw := hBd; clear hBd); have MU := Lib.hid hm; have hy14 := Below.refl w14.heap.size w14; have RC2 := Lib.hid (fun V (q : Below w14.heap.size w14 V) => (show Calls Tryd.prog 15 #[.agg #[.slice ua cx uc]] V fun e w' => e = .returned (.int .i64 (R : Nat)) ∧ Below V.heap.size V w' from by rw [← HR.out, ← piv_turn MX.out.rc MX.out.sz.2.1]; exact Mt.rank (MU.out.keep q) (by decide) (by decide))); clear hm)
        | (go_at_call 15; (with_reducible refine (RC2.out _ ?_).mono ?_); (repeat (first | exact Below.refl _ _ | exact hy14 | refine Below.drew ?_ | refine below_drewN ?_ _ | refine bset ?_ (by simp <;> omega) _ | refine bal ?_ _)); rintro e w15 ⟨rfl, hb15⟩; (have hBd : Below w9.heap.size w9 w15 := bthen belA hb15; clear hBw; have hBw := hBd; clear hBd))
        | fail)
      all_goals
        go_wp2
        go_meet
        exact ⟨rfl, by repeat (first | exact Below.refl _ _ | exact hBw | refine Below.drew ?_ | refine below_drewN ?_ _ | refine bset ?_ (by simp <;> omega) _ | refine bal ?_ _)⟩
  case rest =>
    obtain ⟨rfl, hBw⟩ := hcut
    rename World => w15
    have x0 := bkeep hBw x0
    have y0 := bkeep hBw y0
    have d0 := bkeep hBw d0
    have d1 := bkeep hBw d1
    have hB := bthen hB hBw
    have hz := hB.size
    have hk := hBw
    replace MX := Lib.hid (MX.out.keep hk)
    replace HD := Lib.hid (HD.out.keep hk)
    replace HYO5 := Lib.hid (fun h => And.intro (HYO5.out h).1 ((HYO5.out h).2.keep hk))
    clear hBw hk HS CD SC RC RW TU HT t0 t1 hrr HSG HZ zt0
    have hBw := Below.refl w15.heap.size w15
    have TC := Lib.hid (fun V (q : Below w15.heap.size w15 V) => rowsM_c xa xn xc V)
    go_wp2_with fail
    (with_reducible refine (TC.out _ ?_).mono ?_); (repeat (first | exact Below.refl _ _ | exact hBw | refine Below.drew ?_ | refine below_drewN ?_ _ | refine bset ?_ (by simp <;> omega) _ | refine bal ?_ _))
    rintro e w16 ⟨rfl, hb16⟩
    have hk : Below w15.heap.size w15 w16 := bthen belA hb16
    have x0 : w16.cell? ⟨w2.heap.size, 0, none⟩ = some (.slice xa xn xc) := bkc hb16
    have zx0 := cell_lt x0
    have y0 : w16.cell? ⟨w3.heap.size, 0, none⟩ = some (.slice ya yn yc) := bkc hb16
    have zy0 := cell_lt y0
    have d0 : w16.cell? ⟨w6.heap.size, 0, none⟩ = some (.bool nd) := bkc hb16
    have zd0 := cell_lt d0
    have d1 : w16.cell? ⟨w6.heap.size, 1, none⟩ = some (.slice da dl dc) := bkc hb16
    have hB : Below w.heap.size w w16 := bthen belA hb16
    have hz : w.heap.size ≤ w16.heap.size := hB.size
    clear TC hBw hb16
    have hBw := Below.refl w16.heap.size w16
    replace MX := Lib.hid (MX.out.keep hk)
    replace HD := Lib.hid (HD.out.keep hk)
    replace HYO5 := Lib.hid (fun h => And.intro (HYO5.out h).1 ((HYO5.out h).2.keep hk))
    clear hk
    obtain ⟨cb, hcb⟩ : ∃ c, decide (0 ≤ i ∧ 0 ≤ k ∧ i < (xn : Int) ∧ k < (xn : Int) ∧ i ≠ k) = c := ⟨_, rfl⟩
    have HCB := Lib.hid hcb
    clear hcb
    go_upto_region 12 with (fail)
    go_cut [114] (fun s114 wx => s114 = .bool cb ∧ Below w16.heap.size w16 wx)
    case first =>
      by_cases c1 : 0 ≤ i
      rotate_left
      · obtain rfl : cb = false := by rw [← HCB.out]; exact decide_eq_false (fun h => c1 h.1)
        go_wp2
        go_meet
        exact ⟨rfl, by repeat (first | exact Below.refl _ _ | exact hBw | refine Below.drew ?_ | refine below_drewN ?_ _ | refine bset ?_ (by simp <;> omega) _ | refine bal ?_ _)⟩
      by_cases c2 : 0 ≤ k
      rotate_left
      · obtain rfl : cb = false := by rw [← HCB.out]; exact decide_eq_false (fun h => c2 h.2.1)
        go_wp2
        go_meet
        exact ⟨rfl, by repeat (first | exact Below.refl _ _ | exact hBw | refine Below.drew ?_ | refine below_drewN ?_ _ | refine bset ?_ (by simp <;> omega) _ | refine bal ?_ _)⟩
      by_cases c3 : i < (xn : Int)
      rotate_left
      · obtain rfl : cb = false := by rw [← HCB.out]; exact decide_eq_false (fun h => c3 h.2.2.1)
        go_wp2
        go_meet
        exact ⟨rfl, by repeat (first | exact Below.refl _ _ | exact hBw | refine Below.drew ?_ | refine below_drewN ?_ _ | refine bset ?_ (by simp <;> omega) _ | refine bal ?_ _)⟩
      by_cases c4 : k < (xn : Int)
      rotate_left
      · obtain rfl : cb = false := by rw [← HCB.out]; exact decide_eq_false (fun h => c4 h.2.2.2.1)
        go_wp2
        go_meet
        exact ⟨rfl, by repeat (first | exact Below.refl _ _ | exact hBw | refine Below.drew ?_ | refine below_drewN ?_ _ | refine bset ?_ (by simp <;> omega) _ | refine bal ?_ _)⟩
      by_cases c5 : i = k
      · obtain rfl : cb = false := by rw [← HCB.out]; exact decide_eq_false (fun h => h.2.2.2.2 c5)
        have hI : (i != k) = false := by simp [c5]
        clear c5
        go_wp2
        go_meet
        exact ⟨rfl, by repeat (first | exact Below.refl _ _ | exact hBw | refine Below.drew ?_ | refine below_drewN ?_ _ | refine bset ?_ (by simp <;> omega) _ | refine bal ?_ _)⟩
      · obtain rfl : cb = true := by rw [← HCB.out]; exact decide_eq_true ⟨c1, c2, c3, c4, c5⟩
        have hI : (i != k) = true := by simp [c5]
        clear c5
        go_wp2
        go_meet
        exact ⟨rfl, by repeat (first | exact Below.refl _ _ | exact hBw | refine Below.drew ?_ | refine below_drewN ?_ _ | refine bset ?_ (by simp <;> omega) _ | refine bal ?_ _)⟩
    case rest =>
      obtain ⟨rfl, hk⟩ := hcut
      rename World => w17
      have x0 := bkeep hk x0
      have y0 := bkeep hk y0
      have d0 := bkeep hk d0
      have d1 := bkeep hk d1
      have hB := bthen hB hk
      have hz := hB.size
      replace MX := Lib.hid (MX.out.keep hk)
      replace HD := Lib.hid (HD.out.keep hk)
      replace HYO5 := Lib.hid (fun h => And.intro (HYO5.out h).1 ((HYO5.out h).2.keep hk))
      clear hk hBw
      have hBw := Below.refl w17.heap.size w17
      go_upto_if 114 with (fail)
      go_cut [18, 19, 20, 21, 22] (fun s18 s19 s20 s21 s22 wx => Below w17.heap.size w17 wx)
      case first =>
        cases cb
        · go_wp2
          go_meet
          exact belA
        obtain ⟨c1, c2, c3, c4, c5⟩ := of_decide_eq_true HCB.out
        obtain ⟨i', rfl⟩ := Int.eq_ofNat_of_zero_le c1
        obtain ⟨k', rfl⟩ := Int.eq_ofNat_of_zero_le c2
        have d3 : i' < xn := by omega
        have d4 : k' < xn := by omega
        have d5 : i' ≠ k' := fun e => c5 (by rw [e])
        have HIK := Lib.hid (And.intro d3 (And.intro d4 d5))
        have RA2 := Lib.hid (fun V (q : Below w17.heap.size w17 V) => RA.out V (bthen hB q))
        have hal : a.length = xn := by rw [HXN.out, HGA.out]
        have HAL := Lib.hid hal
        clear d3 d4 d5 c1 c2 c5 hal HCB
        go_wp2_with fail
        (with_reducible refine (RA2.out _ ?_).mono ?_); (repeat (first | exact Below.refl _ _ | exact hBw | refine Below.drew ?_ | refine below_drewN ?_ _ | refine bset ?_ (by simp <;> omega) _ | refine bal ?_ _))
        rintro e w20 ⟨⟨u20, rfl, hu20⟩, hb20⟩
        have hk : Below w17.heap.size w17 w20 := bthen belA hb20
        obtain ⟨rb, rcap, rfl, hrb, hrl, hrf⟩ := hu20.place (by rw [HAL.out]; exact Nat.lt_of_le_of_lt (Nat.zero_le _) HIK.out.1)
        have hrb2 : w17.heap.size ≤ rb := Nat.le_trans (show Below w17.heap.size w17 _ by repeat (first | exact Below.refl _ _ | exact hBw | refine Below.drew ?_ | refine below_drewN ?_ _ | refine bset ?_ (by simp <;> omega) _ | refine bal ?_ _)).size hrb
        have HU := Lib.hid (show IsL 40 (PRow 0) 0 w20 (.slice (some ⟨rb, 0, none⟩) a.length rcap) a from (hu20.isL.mono fun u x h => h.row.rebase (Nat.zero_le _)).rebase (Nat.zero_le _))
        obtain ⟨_, _, he, -, vr⟩ := HU.out.view
        obtain ⟨rfl, -, rfl⟩ := Value.slice.inj he
        obtain ⟨b1, o1, ui, e1, hui, hpi⟩ := vr i' (by rw [HAL.out]; exact HIK.out.1)
        cases e1
        obtain ⟨b2, o2, uk, e2, huk, hpk⟩ := vr k' (by rw [HAL.out]; exact HIK.out.2.1)
        cases e2
        obtain ⟨ai, ci, rfl, -⟩ := hpi
        obtain ⟨ak, ck, rfl, -⟩ := hpk
        have HIS := Lib.hid (isL_swap HU.out (i := i') (k := k') (by rw [HAL.out]; exact HIK.out.1) (by rw [HAL.out]; exact HIK.out.2.1) HIK.out.2.2 hui huk)
        obtain ⟨li, hli⟩ : ∃ l, (a[i']'(by rw [HAL.out]; exact HIK.out.1)).length = l := ⟨_, rfl⟩
        obtain ⟨lk, hlk⟩ : ∃ l, (a[k']'(by rw [HAL.out]; exact HIK.out.2.1)).length = l := ⟨_, rfl⟩
        rw [hli] at hui HIS
        rw [hlk] at huk HIS
        rw [HAL.out] at HIS ⊢
        simp only [Nat.zero_add] at hui huk HIS
        have fri := hrf i'
        have frk := hrf k'
        have zrb := cell_lt hui
        have xI : (i' : Int) < (xn : Int) := c3
        have xK : (k' : Int) < (xn : Int) := c4
        have hki : ¬ k' = i' := fun e => HIK.out.2.2 e.symm
        have hik : ¬ i' = k' := HIK.out.2.2
        clear vr he hu20 hb20 hrf hrb hrl hli hlk c3 c4 RA2
        go_wp2
        go_region
        all_goals
          have hbs : Below w17.heap.size w17 ((w20.setCell ⟨rb, i', none⟩ (.slice ak lk ck)).setCell ⟨rb, k', none⟩ (.slice ai li ci)) := bset (bset hk hrb2 _) hrb2 _
          obtain ⟨w21, hW21⟩ : ∃ W, ((w20.setCell ⟨rb, i', none⟩ (.slice ak lk ck)).setCell ⟨rb, k', none⟩ (.slice ai li ci)).drew = W := ⟨_, rfl⟩
          rw [hW21]
          have hk21 : Below w17.heap.size w17 w21 := by rw [← hW21]; repeat (first | exact Below.refl _ _ | exact hbs | refine Below.drew ?_ | refine below_drewN ?_ _ | refine bset ?_ (by simp <;> omega) _ | refine bal ?_ _)
          have HI21 := Lib.hid (show IsL 40 (PRow 0) 0 w21 (.slice (some ⟨rb, 0, none⟩) xn rcap) (swapG a i' k') from by rw [← hW21]; exact IsL.keep (prs_prow 0) HIS.out (Below.refl _ _).drew)
          have HSF := Lib.hid (And.intro (swap_fits (i := i') (k := k') (show fitsE a = 0 from by rw [← HGA.out]; exact fits_of MX.out.sz MX.out.rc) (by rw [HAL.out]; exact HIK.out.1) (by rw [HAL.out]; exact HIK.out.2.1)) (swap_bd HBD.out.1 (i := i') (k := k') (by rw [HAL.out]; exact HIK.out.1) (by rw [HAL.out]; exact HIK.out.2.1) HIK.out.2.2))
          have HSQ := Lib.hid (show (swapG a i' k').length = cols (swapG a i' k') from by
            have hra : Rct a (cols a) := by rw [← HGA.out]; exact MX.out.rc
            rw [swap_len, swap_cols hra (by rw [HAL.out]; exact HIK.out.1) (by rw [HAL.out]; exact HIK.out.2.1), ← HGA.out]
            exact ESQ.out)
          have HSD := Lib.hid (show Det.detE (swapG a i' k').length (gat (swapG a i' k')) = - D from by
            rw [det_swap (by rw [HAL.out]; exact HIK.out.1) (by rw [HAL.out]; exact HIK.out.2.1) HIK.out.2.2, ← HGA.out, HDD.out])
          clear hW21 HIS HU hui huk fri frk zrb hk hbs xI xK hki hik hBw
          have x0 := bkeep hk21 x0
          have y0 := bkeep hk21 y0
          have d0 := bkeep hk21 d0
          have d1 := bkeep hk21 d1
          have hB := bthen hB hk21
          have hz := hB.size
          have hk := hk21
          replace HD := Lib.hid (HD.out.keep hk)
          have hK := hk21
          clear hk hk21 HYO5
          have hBw := Below.refl w21.heap.size w21
          have TC := Lib.hid (fun V (q : Below w21.heap.size w21 V) => Mt.ofNew (n := xn) (HI21.out.keep (prs_prow 0) q) HSF.out.1 HSF.out.2 (by rw [swap_len]; exact HAL.out))
          go_wp2_with fail
          (with_reducible refine (TC.out _ ?_).mono ?_); (repeat (first | exact Below.refl _ _ | exact hBw | refine Below.drew ?_ | refine below_drewN ?_ _ | refine bset ?_ (by simp <;> omega) _ | refine bal ?_ _))
          rintro e w22 ⟨⟨ma, mc, rfl, hm⟩, hb22⟩
          have hk : Below w21.heap.size w21 w22 := bthen belA hb22
          have x0 : w22.cell? ⟨w2.heap.size, 0, none⟩ = some (.slice xa xn xc) := bkc hb22
          have zx0 := cell_lt x0
          have y0 : w22.cell? ⟨w3.heap.size, 0, none⟩ = some (.slice ya yn yc) := bkc hb22
          have zy0 := cell_lt y0
          have d0 : w22.cell? ⟨w6.heap.size, 0, none⟩ = some (.bool nd) := bkc hb22
          have zd0 := cell_lt d0
          have d1 : w22.cell? ⟨w6.heap.size, 1, none⟩ = some (.slice da dl dc) := bkc hb22
          have hB : Below w.heap.size w w22 := bthen belA hb22
          have hz : w.heap.size ≤ w22.heap.size := hB.size
          clear TC hBw hb22
          have hBw := Below.refl w22.heap.size w22
          have MM := Lib.hid hm
          clear hm HI21
          replace HD := Lib.hid (HD.out.keep hk)
          replace hK := bthen hK hk
          clear hk
          have TC := Lib.hid (fun V (q : Below w22.heap.size w22 V) => Mt.det (MM.out.keep q) HSQ.out (by decide) (by decide))
          go_wp2_with fail
          (with_reducible refine (TC.out _ ?_).mono ?_); (repeat (first | exact Below.refl _ _ | exact hBw | refine Below.drew ?_ | refine below_drewN ?_ _ | refine bset ?_ (by simp <;> omega) _ | refine bal ?_ _))
          rintro e w23 ⟨⟨ns, sa, sl, sc, rfl, hs⟩, hb23⟩
          have hk : Below w22.heap.size w22 w23 := bthen belA hb23
          have x0 : w23.cell? ⟨w2.heap.size, 0, none⟩ = some (.slice xa xn xc) := bkc hb23
          have zx0 := cell_lt x0
          have y0 : w23.cell? ⟨w3.heap.size, 0, none⟩ = some (.slice ya yn yc) := bkc hb23
          have zy0 := cell_lt y0
          have d0 : w23.cell? ⟨w6.heap.size, 0, none⟩ = some (.bool nd) := bkc hb23
          have zd0 := cell_lt d0
          have d1 : w23.cell? ⟨w6.heap.size, 1, none⟩ = some (.slice da dl dc) := bkc hb23
          have m0 : w23.cell? ⟨w22.heap.size, 0, none⟩ = some (.slice ma xn mc) := bkc hb23
          have zm0 := cell_lt m0
          have hB : Below w.heap.size w w23 := bthen belA hb23
          have hz : w.heap.size ≤ w23.heap.size := hB.size
          clear TC hBw hb23
          have hBw := Below.refl w23.heap.size w23
          rw [HSD.out] at hs
          have HSS := Lib.hid hs
          clear hs MM m0
          replace HD := Lib.hid (HD.out.keep hk)
          replace hK := bthen hK hk
          clear hk
          go_wp2
          refine wp_name fun w24 hW24 => ?_
          have d0 : w24.cell? ⟨w6.heap.size, 0, none⟩ = some (.bool nd) := by rw [hW24]; exact (by first | assumption | exact cell_new (by with_reducible first | rfl | (simp; done) | (simp; omega)) rfl | (repeat (first | assumption | exact cell_new (by with_reducible first | rfl | (simp; done) | (simp; omega)) rfl | refine cell_alloc ?_ _ | refine cell_drew ?_ | refine cell_drewN ?_ _ | refine cell_far ?_ (by simp) _ | (refine cell_far ?_ (by simp <;> omega) _))) | simp [go_sem, *])
          have zd0 := cell_lt d0
          have d1 : w24.cell? ⟨w6.heap.size, 1, none⟩ = some (.slice da dl dc) := by rw [hW24]; exact (by first | assumption | exact cell_new (by with_reducible first | rfl | (simp; done) | (simp; omega)) rfl | (repeat (first | assumption | exact cell_new (by with_reducible first | rfl | (simp; done) | (simp; omega)) rfl | refine cell_alloc ?_ _ | refine cell_drew ?_ | refine cell_drewN ?_ _ | refine cell_far ?_ (by simp) _ | (refine cell_far ?_ (by simp <;> omega) _))) | simp [go_sem, *])
          have s0 : w24.cell? ⟨w23.heap.size, 0, none⟩ = some (.bool ns) := by rw [hW24]; exact (by first | assumption | exact cell_new (by with_reducible first | rfl | (simp; done) | (simp; omega)) rfl | (repeat (first | assumption | exact cell_new (by with_reducible first | rfl | (simp; done) | (simp; omega)) rfl | refine cell_alloc ?_ _ | refine cell_drew ?_ | refine cell_drewN ?_ _ | refine cell_far ?_ (by simp) _ | (refine cell_far ?_ (by simp <;> omega) _))) | simp [go_sem, *])
          have zs0 := cell_lt s0
          have s1 : w24.cell? ⟨w23.heap.size, 1, none⟩ = some (.slice sa sl sc) := by rw [hW24]; exact (by first | assumption | exact cell_new (by with_reducible first | rfl | (simp; done) | (simp; omega)) rfl | (repeat (first | assumption | exact cell_new (by with_reducible first | rfl | (simp; done) | (simp; omega)) rfl | refine cell_alloc ?_ _ | refine cell_drew ?_ | refine cell_drewN ?_ _ | refine cell_far ?_ (by simp) _ | (refine cell_far ?_ (by simp <;> omega) _))) | simp [go_sem, *])
          have hB : Below w.heap.size w w24 := by rw [hW24]; repeat (first | exact Below.refl _ _ | exact hB | refine Below.drew ?_ | refine below_drewN ?_ _ | refine bset ?_ (by simp <;> omega) _ | refine bal ?_ _)
          have hk : Below w23.heap.size w23 w24 := by rw [hW24]; repeat (first | exact Below.refl _ _ | exact hBw | refine Below.drew ?_ | refine below_drewN ?_ _ | refine bset ?_ (by simp <;> omega) _ | refine bal ?_ _)
          have hz : w.heap.size ≤ w24.heap.size := hB.size
          clear hW24
          replace HD := Lib.hid (HD.out.keep hk)
          replace HSS := Lib.hid (HSS.out.keep hk)
          replace hK := bthen hK hk
          clear hk hBw
          have NC := Lib.hid (fun V (q : Below w24.heap.size w24 V) => neg_c _ D V (HD.out.keep q))
          have HS := Lib.hid (show ∀ V, Below w24.heap.size w24 V → V.cell? ⟨w6.heap.size, 0, none⟩ = some (.bool nd) ∧ V.cell? ⟨w6.heap.size, 1, none⟩ = some (.slice da dl dc) ∧ V.cell? ⟨w23.heap.size, 0, none⟩ = some (.bool ns) ∧ V.cell? ⟨w23.heap.size, 1, none⟩ = some (.slice sa sl sc) from fun V q => ⟨bkeep q d0, bkeep q d1, bkeep q s0, bkeep q s1⟩)
          have hBw := Below.refl w24.heap.size w24
          go_region_held3 (fun V => V.cell? ⟨w6.heap.size, 0, none⟩ = some (.bool nd) ∧ V.cell? ⟨w6.heap.size, 1, none⟩ = some (.slice da dl dc) ∧ V.cell? ⟨w23.heap.size, 0, none⟩ = some (.bool ns) ∧ V.cell? ⟨w23.heap.size, 1, none⟩ = some (.slice sa sl sc))
            (first | (refine HS.out _ ?_; (repeat (first | exact Below.refl _ _ | exact hBw | refine Below.drew ?_ | refine below_drewN ?_ _ | refine bset ?_ (by simp <;> omega) _ | refine bal ?_ _)); done) | fail)
            (first
            | (go_at_call 18; (with_reducible refine (NC.out _ ?_).mono ?_); (repeat (first | exact Below.refl _ _ | exact hBw | refine Below.drew ?_ | refine below_drewN ?_ _ | refine bset ?_ (by simp <;> omega) _ | refine bal ?_ _)); rintro e w25 ⟨⟨nv, rfl, hnv⟩, hb25⟩; (have hBd : Below w24.heap.size w24 w25 := bthen belA hb25; clear hBw; have hBw := hBd; clear hBd); have HNV := Lib.hid hnv; have HS25 := Lib.hid (HSS.out.keep hBw); have hy25 := Below.refl w25.heap.size w25; obtain ⟨n25, a25, c25, l25, rfl, -⟩ := hnv; unfold iv at *)
            | (go_at_call 13; (with_reducible refine (cmp_same (HS25.out.keep ?_) (HNV.out.keep ?_)).mono ?_); (repeat (first | exact Below.refl _ _ | exact hy25 | refine Below.drew ?_ | refine below_drewN ?_ _ | refine bset ?_ (by simp <;> omega) _ | refine bal ?_ _)); (repeat (first | exact Below.refl _ _ | exact hy25 | refine Below.drew ?_ | refine below_drewN ?_ _ | refine bset ?_ (by simp <;> omega) _ | refine bal ?_ _)); rintro e w26 ⟨rfl, hb26⟩; (have hBd : Below w24.heap.size w24 w26 := bthen belA hb26; clear hBw; have hBw := hBd; clear hBd))
            | fail)
          all_goals
            have hKf := bthen hK hBw
            go_wp2
            go_meet
            exact belA
      case rest =>
        have hk := hcut
        rename World => w18
        have x0 := bkeep hk x0
        have y0 := bkeep hk y0
        have d0 := bkeep hk d0
        have d1 := bkeep hk d1
        have hB := bthen hB hk
        have hz := hB.size
        replace MX := Lib.hid (MX.out.keep hk)
        replace HD := Lib.hid (HD.out.keep hk)
        replace HYO5 := Lib.hid (fun h => And.intro (HYO5.out h).1 ((HYO5.out h).2.keep hk))
        clear hk hBw hcut HCB RA
        have hBw := Below.refl w18.heap.size w18
        cases ok2
        · go_wp2
          go_ret
          exact ⟨rfl, by repeat (first | exact Below.refl _ _ | exact hB | refine Below.drew ?_ | refine below_drewN ?_ _ | refine bset ?_ (by simp <;> omega) _ | refine bal ?_ _)⟩
        obtain ⟨hg2, hm2⟩ := HYO5.out rfl
        have MY := Lib.hid (show Mt 64 gy (.agg #[.slice ya yn yc]) w18 from by rw [hg2]; exact hm2)
        clear hg2 hm2 HYO5
        have TC := Lib.hid (fun V (q : Below w18.heap.size w18 V) => rowsM_c ya yn yc V)
        go_wp2_with fail
        (with_reducible refine (TC.out _ ?_).mono ?_); (repeat (first | exact Below.refl _ _ | exact hBw | refine Below.drew ?_ | refine below_drewN ?_ _ | refine bset ?_ (by simp <;> omega) _ | refine bal ?_ _))
        rintro e w30 ⟨rfl, hb30⟩
        have hk : Below w18.heap.size w18 w30 := bthen belA hb30
        have x0 : w30.cell? ⟨w2.heap.size, 0, none⟩ = some (.slice xa xn xc) := bkc hb30
        have zx0 := cell_lt x0
        have y0 : w30.cell? ⟨w3.heap.size, 0, none⟩ = some (.slice ya yn yc) := bkc hb30
        have zy0 := cell_lt y0
        have d0 : w30.cell? ⟨w6.heap.size, 0, none⟩ = some (.bool nd) := bkc hb30
        have zd0 := cell_lt d0
        have d1 : w30.cell? ⟨w6.heap.size, 1, none⟩ = some (.slice da dl dc) := bkc hb30
        have hB : Below w.heap.size w w30 := bthen belA hb30
        have hz : w.heap.size ≤ w30.heap.size := hB.size
        clear TC hBw hb30
        have hBw := Below.refl w30.heap.size w30
        replace MX := Lib.hid (MX.out.keep hk)
        replace MY := Lib.hid (MY.out.keep hk)
        replace HD := Lib.hid (HD.out.keep hk)
        clear hk
        by_cases g1 : yn = xn
        rotate_left
        · have gI : ((yn : Int) != (xn : Int)) = true := by simp; omega
          clear g1
          go_wp2
          go_ret
          exact ⟨rfl, by repeat (first | exact Below.refl _ _ | exact hB | refine Below.drew ?_ | refine below_drewN ?_ _ | refine bset ?_ (by simp <;> omega) _ | refine bal ?_ _)⟩
        have gI : ((yn : Int) != (xn : Int)) = false := by simp; omega
        have HG1 := Lib.hid g1
        obtain ⟨cy, hcy⟩ : ∃ q, cols gy = q := ⟨_, rfl⟩
        have HCY := Lib.hid hcy
        clear g1 hcy
        have TC := Lib.hid (fun V (q : Below w30.heap.size w30 V) => Mt.colsC (MY.out.keep q) HCY.out)
        go_wp2_with fail
        (with_reducible refine (TC.out _ ?_).mono ?_); (repeat (first | exact Below.refl _ _ | exact hBw | refine Below.drew ?_ | refine below_drewN ?_ _ | refine bset ?_ (by simp <;> omega) _ | refine bal ?_ _))
        rintro e w31 ⟨rfl, hb31⟩
        have hk : Below w30.heap.size w30 w31 := bthen belA hb31
        have x0 : w31.cell? ⟨w2.heap.size, 0, none⟩ = some (.slice xa xn xc) := bkc hb31
        have zx0 := cell_lt x0
        have y0 : w31.cell? ⟨w3.heap.size, 0, none⟩ = some (.slice ya yn yc) := bkc hb31
        have zy0 := cell_lt y0
        have d0 : w31.cell? ⟨w6.heap.size, 0, none⟩ = some (.bool nd) := bkc hb31
        have zd0 := cell_lt d0
        have d1 : w31.cell? ⟨w6.heap.size, 1, none⟩ = some (.slice da dl dc) := bkc hb31
        have hB : Below w.heap.size w w31 := bthen belA hb31
        have hz : w.heap.size ≤ w31.heap.size := hB.size
        clear TC hBw hb31
        have hBw := Below.refl w31.heap.size w31
        replace MX := Lib.hid (MX.out.keep hk)
        replace MY := Lib.hid (MY.out.keep hk)
        replace HD := Lib.hid (HD.out.keep hk)
        clear hk gI
        by_cases g2 : cy = xn
        rotate_left
        · have gI : ((cy : Int) != (xn : Int)) = true := by simp; omega
          clear g2
          go_wp2
          go_ret
          exact ⟨rfl, by repeat (first | exact Below.refl _ _ | exact hB | refine Below.drew ?_ | refine below_drewN ?_ _ | refine bset ?_ (by simp <;> omega) _ | refine bal ?_ _)⟩
        have gI : ((cy : Int) != (xn : Int)) = false := by simp; omega
        have EYL := Lib.hid (show gy.length = gx.length from by rw [← HYN2.out, HG1.out, HXN.out])
        have EYC := Lib.hid (show cols gy = gx.length from by rw [HCY.out, g2, HXN.out])
        clear g2
        have TC := Lib.hid (fun V (q : Below w31.heap.size w31 V) => Mt.det (MY.out.keep q) (by rw [EYL.out, EYC.out]) (by decide) (by decide))
        go_wp2_with fail
        (with_reducible refine (TC.out _ ?_).mono ?_); (repeat (first | exact Below.refl _ _ | exact hBw | refine Below.drew ?_ | refine below_drewN ?_ _ | refine bset ?_ (by simp <;> omega) _ | refine bal ?_ _))
        rintro e w32 ⟨⟨no, oa, ol, oc, rfl, ho⟩, hb32⟩
        have hk : Below w31.heap.size w31 w32 := bthen belA hb32
        have x0 : w32.cell? ⟨w2.heap.size, 0, none⟩ = some (.slice xa xn xc) := bkc hb32
        have zx0 := cell_lt x0
        have y0 : w32.cell? ⟨w3.heap.size, 0, none⟩ = some (.slice ya yn yc) := bkc hb32
        have zy0 := cell_lt y0
        have d0 : w32.cell? ⟨w6.heap.size, 0, none⟩ = some (.bool nd) := bkc hb32
        have zd0 := cell_lt d0
        have d1 : w32.cell? ⟨w6.heap.size, 1, none⟩ = some (.slice da dl dc) := bkc hb32
        have hB : Below w.heap.size w w32 := bthen belA hb32
        have hz : w.heap.size ≤ w32.heap.size := hB.size
        clear TC hBw hb32
        have hBw := Below.refl w32.heap.size w32
        obtain ⟨O, hO⟩ : ∃ O, Det.detE gy.length (gat gy) = O := ⟨_, rfl⟩
        rw [hO] at ho
        have HO := Lib.hid ho
        have HOO := Lib.hid hO
        clear hO ho gI
        replace MX := Lib.hid (MX.out.keep hk)
        replace MY := Lib.hid (MY.out.keep hk)
        replace HD := Lib.hid (HD.out.keep hk)
        clear hk
        have TC := Lib.hid (fun V (q : Below w32.heap.size w32 V) => Mt.times (n := xn) (MX.out.keep q) (MY.out.keep q) (by rw [EYL.out]; exact ESQ.out.symm) (by decide) HXN.out.symm)
        go_wp2_with fail
        (with_reducible refine (TC.out _ ?_).mono ?_); (repeat (first | exact Below.refl _ _ | exact hBw | refine Below.drew ?_ | refine below_drewN ?_ _ | refine bset ?_ (by simp <;> omega) _ | refine bal ?_ _))
        rintro e w33 ⟨⟨pa, pc, rfl, hm⟩, hb33⟩
        have hk : Below w32.heap.size w32 w33 := bthen belA hb33
        have x0 : w33.cell? ⟨w2.heap.size, 0, none⟩ = some (.slice xa xn xc) := bkc hb33
        have zx0 := cell_lt x0
        have y0 : w33.cell? ⟨w3.heap.size, 0, none⟩ = some (.slice ya yn yc) := bkc hb33
        have zy0 := cell_lt y0
        have d0 : w33.cell? ⟨w6.heap.size, 0, none⟩ = some (.bool nd) := bkc hb33
        have zd0 := cell_lt d0
        have d1 : w33.cell? ⟨w6.heap.size, 1, none⟩ = some (.slice da dl dc) := bkc hb33
        have o0 : w33.cell? ⟨w32.heap.size, 0, none⟩ = some (.bool no) := bkc hb33
        have zo0 := cell_lt o0
        have o1 : w33.cell? ⟨w32.heap.size, 1, none⟩ = some (.slice oa ol oc) := bkc hb33
        have hB : Below w.heap.size w w33 := bthen belA hb33
        have hz : w.heap.size ≤ w33.heap.size := hB.size
        clear TC hBw hb33
        have hBw := Below.refl w33.heap.size w33
        have MP := Lib.hid hm
        clear hm
        replace MX := Lib.hid (MX.out.keep hk)
        replace HD := Lib.hid (HD.out.keep hk)
        replace HO := Lib.hid (HO.out.keep hk)
        clear hk
        have TC := Lib.hid (fun V (q : Below w33.heap.size w33 V) => Mt.det (MP.out.keep q) (by rw [times_len, times_cols MX.out.sz.1, EYC.out]) (by decide) (by decide))
        go_wp2_with fail
        (with_reducible refine (TC.out _ ?_).mono ?_); (repeat (first | exact Below.refl _ _ | exact hBw | refine Below.drew ?_ | refine below_drewN ?_ _ | refine bset ?_ (by simp <;> omega) _ | refine bal ?_ _))
        rintro e w34 ⟨⟨nq, qa, ql, qc, rfl, hq⟩, hb34⟩
        have hk : Below w33.heap.size w33 w34 := bthen belA hb34
        have d0 : w34.cell? ⟨w6.heap.size, 0, none⟩ = some (.bool nd) := bkc hb34
        have zd0 := cell_lt d0
        have d1 : w34.cell? ⟨w6.heap.size, 1, none⟩ = some (.slice da dl dc) := bkc hb34
        have o0 : w34.cell? ⟨w32.heap.size, 0, none⟩ = some (.bool no) := bkc hb34
        have zo0 := cell_lt o0
        have o1 : w34.cell? ⟨w32.heap.size, 1, none⟩ = some (.slice oa ol oc) := bkc hb34
        have p0 : w34.cell? ⟨w33.heap.size, 0, none⟩ = some (.slice pa xn pc) := bkc hb34
        have zp0 := cell_lt p0
        have hB : Below w.heap.size w w34 := bthen belA hb34
        have hz : w.heap.size ≤ w34.heap.size := hB.size
        clear TC hBw hb34
        have hBw := Below.refl w34.heap.size w34
        rw [times_len, det_times (n := gx.length) rfl ESQ.out.symm EYC.out, HDD.out, ← EYL.out, HOO.out] at hq
        have HQ := Lib.hid hq
        have HBDD := Lib.hid (show Bd (kb 64 16) D ∧ Bd (kb 64 16) O from by
          refine ⟨?_, ?_⟩
          · have h := (detE_bd (by decide) MX.out.bd rfl : Bd (kb 64 gx.length) (Det.detE gx.length (gat gx)))
            rw [HDD.out] at h
            exact h.mono (kb_mono 64 MX.out.sz.2.2.1)
          · have h := (detE_bd (by decide) MY.out.bd rfl : Bd (kb 64 gy.length) (Det.detE gy.length (gat gy)))
            rw [HOO.out] at h
            exact h.mono (kb_mono 64 MY.out.sz.2.2.1))
        clear hq MP p0
        replace HD := Lib.hid (HD.out.keep hk)
        replace HO := Lib.hid (HO.out.keep hk)
        clear hk
        go_wp2
        refine wp_name fun w35 hW35 => ?_
        have d0 : w35.cell? ⟨w6.heap.size, 0, none⟩ = some (.bool nd) := by rw [hW35]; exact (by first | assumption | exact cell_new (by with_reducible first | rfl | (simp; done) | (simp; omega)) rfl | (repeat (first | assumption | exact cell_new (by with_reducible first | rfl | (simp; done) | (simp; omega)) rfl | refine cell_alloc ?_ _ | refine cell_drew ?_ | refine cell_drewN ?_ _ | refine cell_far ?_ (by simp) _ | (refine cell_far ?_ (by simp <;> omega) _))) | simp [go_sem, *])
        have zd0 := cell_lt d0
        have d1 : w35.cell? ⟨w6.heap.size, 1, none⟩ = some (.slice da dl dc) := by rw [hW35]; exact (by first | assumption | exact cell_new (by with_reducible first | rfl | (simp; done) | (simp; omega)) rfl | (repeat (first | assumption | exact cell_new (by with_reducible first | rfl | (simp; done) | (simp; omega)) rfl | refine cell_alloc ?_ _ | refine cell_drew ?_ | refine cell_drewN ?_ _ | refine cell_far ?_ (by simp) _ | (refine cell_far ?_ (by simp <;> omega) _))) | simp [go_sem, *])
        have o0 : w35.cell? ⟨w32.heap.size, 0, none⟩ = some (.bool no) := by rw [hW35]; exact (by first | assumption | exact cell_new (by with_reducible first | rfl | (simp; done) | (simp; omega)) rfl | (repeat (first | assumption | exact cell_new (by with_reducible first | rfl | (simp; done) | (simp; omega)) rfl | refine cell_alloc ?_ _ | refine cell_drew ?_ | refine cell_drewN ?_ _ | refine cell_far ?_ (by simp) _ | (refine cell_far ?_ (by simp <;> omega) _))) | simp [go_sem, *])
        have zo0 := cell_lt o0
        have o1 : w35.cell? ⟨w32.heap.size, 1, none⟩ = some (.slice oa ol oc) := by rw [hW35]; exact (by first | assumption | exact cell_new (by with_reducible first | rfl | (simp; done) | (simp; omega)) rfl | (repeat (first | assumption | exact cell_new (by with_reducible first | rfl | (simp; done) | (simp; omega)) rfl | refine cell_alloc ?_ _ | refine cell_drew ?_ | refine cell_drewN ?_ _ | refine cell_far ?_ (by simp) _ | (refine cell_far ?_ (by simp <;> omega) _))) | simp [go_sem, *])
        have q0 : w35.cell? ⟨w34.heap.size, 0, none⟩ = some (.bool nq) := by rw [hW35]; exact (by first | assumption | exact cell_new (by with_reducible first | rfl | (simp; done) | (simp; omega)) rfl | (repeat (first | assumption | exact cell_new (by with_reducible first | rfl | (simp; done) | (simp; omega)) rfl | refine cell_alloc ?_ _ | refine cell_drew ?_ | refine cell_drewN ?_ _ | refine cell_far ?_ (by simp) _ | (refine cell_far ?_ (by simp <;> omega) _))) | simp [go_sem, *])
        have zq0 := cell_lt q0
        have q1 : w35.cell? ⟨w34.heap.size, 1, none⟩ = some (.slice qa ql qc) := by rw [hW35]; exact (by first | assumption | exact cell_new (by with_reducible first | rfl | (simp; done) | (simp; omega)) rfl | (repeat (first | assumption | exact cell_new (by with_reducible first | rfl | (simp; done) | (simp; omega)) rfl | refine cell_alloc ?_ _ | refine cell_drew ?_ | refine cell_drewN ?_ _ | refine cell_far ?_ (by simp) _ | (refine cell_far ?_ (by simp <;> omega) _))) | simp [go_sem, *])
        have hB : Below w.heap.size w w35 := by rw [hW35]; repeat (first | exact Below.refl _ _ | exact hB | refine Below.drew ?_ | refine below_drewN ?_ _ | refine bset ?_ (by simp <;> omega) _ | refine bal ?_ _)
        have hk : Below w34.heap.size w34 w35 := by rw [hW35]; repeat (first | exact Below.refl _ _ | exact hBw | refine Below.drew ?_ | refine below_drewN ?_ _ | refine bset ?_ (by simp <;> omega) _ | refine bal ?_ _)
        have hz : w.heap.size ≤ w35.heap.size := hB.size
        clear hW35
        replace HD := Lib.hid (HD.out.keep hk)
        replace HO := Lib.hid (HO.out.keep hk)
        replace HQ := Lib.hid (HQ.out.keep hk)
        clear hk hBw
        have MC := Lib.hid (fun V (q : Below w35.heap.size w35 V) => mul_c _ _ D O _ _ V (HD.out.keep q) (HO.out.keep q) HBDD.out.1 HBDD.out.2 (by decide) (by decide))
        have HS := Lib.hid (show ∀ V, Below w35.heap.size w35 V → V.cell? ⟨w6.heap.size, 0, none⟩ = some (.bool nd) ∧ V.cell? ⟨w6.heap.size, 1, none⟩ = some (.slice da dl dc) ∧ V.cell? ⟨w32.heap.size, 0, none⟩ = some (.bool no) ∧ V.cell? ⟨w32.heap.size, 1, none⟩ = some (.slice oa ol oc) ∧ V.cell? ⟨w34.heap.size, 0, none⟩ = some (.bool nq) ∧ V.cell? ⟨w34.heap.size, 1, none⟩ = some (.slice qa ql qc) from fun V q => ⟨bkeep q d0, bkeep q d1, bkeep q o0, bkeep q o1, bkeep q q0, bkeep q q1⟩)
        have hBw := Below.refl w35.heap.size w35
        go_region_held3 (fun V => V.cell? ⟨w6.heap.size, 0, none⟩ = some (.bool nd) ∧ V.cell? ⟨w6.heap.size, 1, none⟩ = some (.slice da dl dc) ∧ V.cell? ⟨w32.heap.size, 0, none⟩ = some (.bool no) ∧ V.cell? ⟨w32.heap.size, 1, none⟩ = some (.slice oa ol oc) ∧ V.cell? ⟨w34.heap.size, 0, none⟩ = some (.bool nq) ∧ V.cell? ⟨w34.heap.size, 1, none⟩ = some (.slice qa ql qc))
          (first | (refine HS.out _ ?_; (repeat (first | exact Below.refl _ _ | exact hBw | refine Below.drew ?_ | refine below_drewN ?_ _ | refine bset ?_ (by simp <;> omega) _ | refine bal ?_ _)); done) | fail)
          (first
          | (go_at_call 20; (with_reducible refine (MC.out _ ?_).mono ?_); (repeat (first | exact Below.refl _ _ | exact hBw | refine Below.drew ?_ | refine below_drewN ?_ _ | refine bset ?_ (by simp <;> omega) _ | refine bal ?_ _)); rintro e w36 ⟨⟨nv, rfl, hnv⟩, hb36⟩; (have hBd : Below w35.heap.size w35 w36 := bthen belA hb36; clear hBw; have hBw := hBd; clear hBd); have HNV := Lib.hid hnv; have HQ36 := Lib.hid (HQ.out.keep hBw); have hy36 := Below.refl w36.heap.size w36; obtain ⟨n36, a36, c36, l36, rfl, -⟩ := hnv; unfold iv at *)
          | (go_at_call 13; (with_reducible refine (cmp_same (HQ36.out.keep ?_) (HNV.out.keep ?_)).mono ?_); (repeat (first | exact Below.refl _ _ | exact hy36 | refine Below.drew ?_ | refine below_drewN ?_ _ | refine bset ?_ (by simp <;> omega) _ | refine bal ?_ _)); (repeat (first | exact Below.refl _ _ | exact hy36 | refine Below.drew ?_ | refine below_drewN ?_ _ | refine bset ?_ (by simp <;> omega) _ | refine bal ?_ _)); rintro e w37 ⟨rfl, hb37⟩; (have hBd : Below w35.heap.size w35 w37 := bthen belA hb37; clear hBw; have hBw := hBd; clear hBd))
          | fail)
        all_goals
          have hBf := bthen hB hBw
          go_wp2
          go_ret
          exact ⟨rfl, by repeat (first | exact Below.refl _ _ | exact hBf | refine Below.drew ?_ | refine below_drewN ?_ _ | refine bset ?_ (by simp <;> omega) _ | refine bal ?_ _)⟩
theorem matrixDetTimes_u (va : Value) (a : Grid) (vb : Value) (b : Grid) (i k : Int) (w : World) (ha : GridI w va a ∧ sumG a ≤ 1048576 ∧ a.length ≤ 1048576) (hb : GridI w vb b ∧ sumG b ≤ 1048576 ∧ b.length ≤ 1048576) (hi : (Lit.int .i64 i).wf = true) (hk : (Lit.int .i64 k).wf = true) :
    Calls Tryd.prog 3 #[va, vb, .int .i64 i, .int .i64 k] w fun e w' => e = .returned (.bool true) ∧ Below w.heap.size w w' :=
  matrixDetTimes_h va vb a b i k w ha.1 hb.1 ha.2.2 hb.2.2 (fun k hk => Nat.le_trans (sumG_le hk) ha.2.1) (fun k hk => Nat.le_trans (sumG_le hk) hb.2.1)
end Go.Proofs.YthaohpfbengabaaDoor

