/- Texts of this seat, laid together (what the earlier ones leave out): EvS. Each opens with its own remark, which says what it proves, and under which conditions. -/
import Derived.Test.YtdllbdfchloijaaDoorR01
import Derived.Test.YtdllbdfchloijaaDoorR02
import Derived.Test.YtdllbdfchloijaaDoorR03
import Derived.Test.YtdllbdfchloijaaDoorR04
import Derived.Test.YtdllbdfchloijaaDoorR05
import Derived.Test.YtdllbdfchloijaaDoorR06
import Derived.Test.YtdllbdfchloijaaDoorR07
import Derived.Test.YtdllbdfchloijaaDoorR08
import Derived.Test.YtdllbdfchloijaaDoorR09
import Derived.Test.YtdllbdfchloijaaDoorR10
import Derived.Test.YtdllbdfchloijaaDoorR11
import Derived.Test.YtdllbdfchloijaaDoorR12
import Derived.Test.YtdllbdfchloijaaDoorR13
import Derived.Test.YtdllbdfchloijaaDoorR14
import Derived.Test.YtdllbdfchloijaaDoorR15
import Derived.Test.YtdllbdfchloijaaDoorR16
import Derived.Test.YtdllbdfchloijaaDoorR17
import Derived.Test.YtdllbdfchloijaaDoorR18
import Derived.Test.YtdllbdfchloijaaDoorR19
import Derived.Test.YtdllbdfchloijaaDoorR20
import Derived.Test.YtdllbdfchloijaaDoorR21
import Derived.Test.YtdllbdfchloijaaDoorR22
import Derived.Test.YtdllbdfchloijaaDoorR23
import Derived.Test.YtdllbdfchloijaaDoorS01
import Derived.Test.YtdllbdfchloijaaDoorS02
import Derived.WalkKit
import Derived.ProofKit
import Derived.OpenShut
import Derived.Deep.QuietTactic
import Derived.BigQuiet
import Derived.Outline
import Derived.Lib.Hide
import Derived.WalkSmall
import Derived.WalkSpells
import Derived.WalkLawsBesides
import Derived.Deep.RegionWith
import Derived.Deep.RegionHeld3
import Derived.Laws.CopyOwn
import Derived.Shelf.Small.Bits
import Derived.Laws.BitsAllLaws
import Derived.Shelf.Spec.TrailingZeros
import Derived.Shelf.Strings.Builder1
import Derived.Shelf.Strings.Trim
import Derived.Deep.Cut
import Derived.Deep.DeepCutAuto
import Derived.ArgAppend
import Derived.Deep.DeepFit
import Derived.Laws.AppendOwn
import Derived.Deep.AppendLies
import Derived.OneCell
import Derived.Shelf.Abstract
import Derived.Laws.EntriesVeiled
import Derived.Deep.DrawnRows
import Derived.Deep.RegionLaw
import Derived.Deep.LoopGhost
import Derived.RegionTactic
import Derived.ChangeAlike
import Derived.Laws.OwnMore
import Derived.Deep.Onto
import Derived.Laws.CopyRow
import Derived.Laws.Rows
import Derived.Laws.Tables
import Derived.Laws.IdiomStrings
import Derived.Laws.BytesArg
import Derived.RangeFuncNested
import Derived.RangeFuncBound
import Derived.RangeFuncCalls
import Derived.RangeFuncLeaves
import Derived.Shelf.RegionOpen
import Derived.OwnWalkIn
import Derived.TacticsInMore
import Derived.LoopNIn
import Derived.LoopIn
import Derived.Laws.RangeString
import Derived.Lib.OthersKept
import Derived.Maps.AppendAt
import Derived.StillTail
import Derived.Deep.Quiet
import Derived.StillTailTactics
import Derived.LaidLaws
import Derived.Lib.LaidTab
import Derived.Lib.SmallJoins
import Derived.Deep.Slices
import Derived.Deep.Matrix
import Derived.Deep.Fields
import Derived.ChangeSame
import Derived.DataShut
import Derived.SizedLaws
set_option linter.unusedVariables false
set_option linter.unusedSimpArgs false
/- slices.Reverse at []integer.Int. -/
namespace Go.Proofs.YtdllbdfchloijaaDoor
open Num
open Go.ChangeShapes Go.WideShapes Go.ChangeAt Go.RowKit
attribute [local go_sem ↓] Go.wp_at_zero Go.wp_at_succ
def rvF (f : Nat → Int) (n i : Nat) (m : Nat) : Int := if m < i ∨ n - i ≤ m then f (n - 1 - m) else f m
theorem rvF_0 (f : Nat → Int) (n : Nat) : ∀ m, m < n → f m = rvF f n 0 m := fun m hm => by unfold rvF; rw [if_neg (by omega)]
theorem rvF_end (f : Nat → Int) {n i : Nat} (h : n ≤ 2 * i + 1) (hi : 2 * i ≤ n) : ∀ m, m < n → rvF f n i m = f (n - 1 - m) := fun m hm => by
  unfold rvF
  by_cases e : m < i ∨ n - i ≤ m
  · rw [if_pos e]
  · rw [if_neg e]; congr 1; omega
theorem rvF_step (f : Nat → Int) {n i j : Nat} (h : i + j + 1 = n) (hij : i < j) : ∀ m, m < n → (if m = j then f i else if m = i then f j else rvF f n i m) = rvF f n (i + 1) m := fun m hm => by
  unfold rvF
  by_cases e1 : m = j
  · subst e1; rw [if_pos rfl, if_pos (by omega)]; congr 1; omega
  · rw [if_neg e1]
    by_cases e2 : m = i
    · subst e2; rw [if_pos rfl, if_pos (by omega)]; congr 1; omega
    · rw [if_neg e2]
      by_cases e3 : m < i ∨ n - i ≤ m
      · rw [if_pos e3, if_pos (by omega)]
      · rw [if_neg e3, if_neg (by omega)]
set_option maxRecDepth 100000 in
set_option maxHeartbeats 8000000 in
theorem revInts_c (g n c : Nat) (f : Nat → Int) (w : World) (hG : IntsF IsInt w g 0 n f) (hF : FreeI w g) (h1 : 1 ≤ n) (hn : n ≤ 1000) :
    Calls Tryd.prog 20 #[.slice (some ⟨g, 0, none⟩) n c] w fun e w' => e = .returned (.tuple #[]) ∧ IntsF IsInt w' g 0 n (fun m => f (n - 1 - m)) ∧ FreeI w' g ∧ Out (fun q => q = g) w w' ∧ Lim w w' := by
  have HG := Lib.hid (hG.congr (rvF_0 f n))
  have HF := Lib.hid hF
  clear hG hF
  go_enter Tryd.func20, Tryd.ntmps20
  go_wp2
  go_loopw [2, 3] (fun x y wr => ∃ i j : Nat, x = .int .i64 i ∧ y = .int .i64 j ∧ Hid (i + j + 1 = n ∧ 2 * i ≤ n) ∧ Hid (IntsF IsInt wr g 0 n (rvF f n i)) ∧ Hid (FreeI wr g) ∧ Hid (Out (fun q => q = g) w wr ∧ Lim w wr)) (fun x _ _ => n - (intOf x).toNat)
  case atStart => exact ⟨0, n - 1, rfl, by rw [show (n : Int) - 1 = ((n - 1 : Nat) : Int) by omega], Lib.hid (by omega), HG, HF, Lib.hid ⟨Out.refl _ _, Lim.refl _⟩⟩
  case round =>
    obtain ⟨i, j, rfl, rfl, hij, hG, hF, hO⟩ := hrel
    by_cases hlt : i < j
    · have hltI : (i : Int) < (j : Int) := by omega
      have hin : i < n := by have := hij.out; omega
      have hjn : j < n := by have := hij.out; omega
      have hinI : (i : Int) < (n : Int) := by omega
      have hjnI : (j : Int) < (n : Int) := by omega
      have hj1 : (j : Int) - 1 = ((j - 1 : Nat) : Int) := by omega
      obtain ⟨xn, xd, xl, xk, x0, x1, hx⟩ := hG.out.at0 hin
      obtain ⟨yn, yd, yl, yk, y0, y1, hy⟩ := hG.out.at0 hjn
      have x0f := hF.out.fz (i * 2)
      have x1f := hF.out.fz (i * 2 + 1)
      have y0f := hF.out.fz (j * 2)
      have y1f := hF.out.fz (j * 2 + 1)
      have hne1 : ¬ i * 2 = j * 2 := by omega
      have hne2 : ¬ i * 2 = j * 2 + 1 := by omega
      have hne3 : ¬ i * 2 + 1 = j * 2 := by omega
      have hne4 : ¬ i * 2 + 1 = j * 2 + 1 := by omega
      have hne5 : ¬ j * 2 = i * 2 := by omega
      have hne6 : ¬ j * 2 = i * 2 + 1 := by omega
      have hne7 : ¬ j * 2 + 1 = i * 2 := by omega
      have hne8 : ¬ j * 2 + 1 = i * 2 + 1 := by omega
      have zx := cell_lt x0
      have hex : rvF f n i i = f i := by unfold rvF; rw [if_neg (by have := hij.out; omega)]
      have hey : rvF f n i j = f j := by unfold rvF; rw [if_neg (by have := hij.out; omega)]
      rw [hex] at hx
      rw [hey] at hy
      have L1 := Lim.set2 x0 x1 (.bool yn) (.slice yd yl yk)
      have y0' := cell_far (cell_far y0 (p := ⟨g, i * 2, none⟩) (by first | (simp; done) | (simp; omega)) (.bool yn)) (p := ⟨g, i * 2 + 1, none⟩) (by first | (simp; done) | (simp; omega)) (.slice yd yl yk)
      have y1' := cell_far (cell_far y1 (p := ⟨g, i * 2, none⟩) (by first | (simp; done) | (simp; omega)) (.bool yn)) (p := ⟨g, i * 2 + 1, none⟩) (by first | (simp; done) | (simp; omega)) (.slice yd yl yk)
      have L2 := Lim.set2 y0' y1' (.bool xn) (.slice xd xl xk)
      have HG2 := Lib.hid (((hG.out.store0 lims_int hin hy).store0 lims_int hjn (lims_int _ _ _ _ hx L1)).congr (rvF_step f hij.out.1 hlt))
      have HF2 := Lib.hid ((((hF.out.set ⟨g, i * 2, none⟩ (.bool yn)).set ⟨g, i * 2 + 1, none⟩ (.slice yd yl yk)).set ⟨g, j * 2, none⟩ (.bool xn)).set ⟨g, j * 2 + 1, none⟩ (.slice xd xl xk))
      have HO2 := Lib.hid (And.intro ((hO.out.1.set2 (g := g) (o := i * 2) (fun _ => rfl) (.bool yn) (.slice yd yl yk)).set2 (g := g) (o := j * 2) (fun _ => rfl) (.bool xn) (.slice xd xl xk)) ((hO.out.2.trans L1).trans L2))
      have HIJ := Lib.hid (show i + 1 + (j - 1) + 1 = n ∧ 2 * (i + 1) ≤ n from by have := hij.out; omega)
      have HLT := Lib.hid hin
      clear hG hF hO hex hey hx hy L1 L2 y0' y1' hij
      go_wp2
      go_region_law (go_simp; go_wp2_with fail)
      all_goals
        go_wp2
        refine ⟨⟨i + 1, j - 1, by go_num, ?_, HIJ, Lib.hid (HG2.out.keep lims_int (Below.refl _ _).drew), Lib.hid (HF2.out.keep (Below.refl _ _).drew), Lib.hid ⟨HO2.out.1.drew, HO2.out.2.trans (.of_below (Below.refl _ _).drew)⟩⟩, measS HLT.out (by go_num) rfl⟩
        exact congrArg (Value.int .i64) (by omega)
    · have hltI : ¬ (i : Int) < (j : Int) := by omega
      have HE := Lib.hid (hG.out.congr (rvF_end f (i := i) (by have := hij.out; omega) hij.out.2))
      go_wp2
      refine bodyPost_end (v := .tuple #[]) (by simp [results, Tryd.results20, go_sem]) rfl ?_
      exact ⟨rfl, HE.out, hF.out, hO.out.1, hO.out.2⟩
end Go.Proofs.YtdllbdfchloijaaDoor

