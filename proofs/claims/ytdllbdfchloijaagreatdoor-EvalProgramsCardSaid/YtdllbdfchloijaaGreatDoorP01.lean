/- Texts of this seat, laid together (what the earlier ones leave out): ScA, EvF, EvU. Each opens with its own remark, which says what it proves, and under which conditions. -/
import Derived.Test.YtdllbdfchloijaaGreatDoorE01
import Derived.Test.YtdllbdfchloijaaGreatDoorE02
import Derived.Test.YtdllbdfchloijaaGreatDoorE03
import Derived.Test.YtdllbdfchloijaaGreatDoorE04
import Derived.Test.YtdllbdfchloijaaGreatDoorE05
import Derived.Test.YtdllbdfchloijaaGreatDoorE06
import Derived.Test.YtdllbdfchloijaaGreatDoorE07
import Derived.Test.YtdllbdfchloijaaGreatDoorE08
import Derived.Test.YtdllbdfchloijaaGreatDoorE09
import Derived.Test.YtdllbdfchloijaaGreatDoorE10
import Derived.Test.YtdllbdfchloijaaGreatDoorE11
import Derived.Test.YtdllbdfchloijaaGreatDoorE12
import Derived.Test.YtdllbdfchloijaaGreatDoorE13
import Derived.Test.YtdllbdfchloijaaGreatDoorE14
import Derived.Test.YtdllbdfchloijaaGreatDoorE15
import Derived.Test.YtdllbdfchloijaaGreatDoorE16
import Derived.Test.YtdllbdfchloijaaGreatDoorE17
import Derived.Test.YtdllbdfchloijaaGreatDoorE18
import Derived.Test.YtdllbdfchloijaaGreatDoorE19
import Derived.Test.YtdllbdfchloijaaGreatDoorE20
import Derived.Test.YtdllbdfchloijaaGreatDoorE21
import Derived.Test.YtdllbdfchloijaaGreatDoorE22
import Derived.Test.YtdllbdfchloijaaGreatDoorE23
import Derived.Test.YtdllbdfchloijaaGreatDoorE24
import Derived.Test.YtdllbdfchloijaaGreatDoorE25
import Derived.Test.YtdllbdfchloijaaGreatDoorE26
import Derived.Test.YtdllbdfchloijaaGreatDoorE27
import Derived.Test.YtdllbdfchloijaaGreatDoorE28
import Derived.Test.YtdllbdfchloijaaGreatDoorE29
import Derived.Test.YtdllbdfchloijaaGreatDoorE30
import Derived.Test.YtdllbdfchloijaaGreatDoorE31
import Derived.Test.YtdllbdfchloijaaGreatDoorE32
import Derived.Test.YtdllbdfchloijaaGreatDoorE33
import Derived.WalkKit
import Derived.ProofKit
import Derived.OpenShut
import Derived.Deep.QuietTactic
import Derived.BigQuiet
import Derived.Outline
import Derived.Lib.Hide
import Derived.WalkSmall
import Derived.WalkSpells
import Derived.WalkLawsBesides
import Derived.Deep.RegionWith
import Derived.Deep.RegionHeld3
import Derived.Laws.CopyOwn
import Derived.Shelf.Small.Bits
import Derived.Laws.BitsAllLaws
import Derived.Shelf.Spec.TrailingZeros
import Derived.Shelf.Strings.Builder1
import Derived.Shelf.Strings.Trim
import Derived.Deep.Cut
import Derived.Deep.DeepCutAuto
import Derived.ArgAppend
import Derived.Deep.DeepFit
import Derived.Laws.AppendOwn
import Derived.Deep.AppendLies
import Derived.OneCell
import Derived.Shelf.Abstract
import Derived.Laws.EntriesVeiled
import Derived.Deep.DrawnRows
import Derived.Deep.RegionLaw
import Derived.Deep.LoopGhost
import Derived.RegionTactic
import Derived.ChangeAlike
import Derived.Laws.OwnMore
import Derived.Deep.Onto
import Derived.Laws.CopyRow
import Derived.Laws.Rows
import Derived.Laws.Tables
import Derived.Laws.IdiomStrings
import Derived.Laws.BytesArg
import Derived.RangeFuncNested
import Derived.RangeFuncBound
import Derived.RangeFuncCalls
import Derived.RangeFuncLeaves
import Derived.Shelf.RegionOpen
import Derived.OwnWalkIn
import Derived.TacticsInMore
import Derived.LoopNIn
import Derived.LoopIn
import Derived.Laws.RangeString
import Derived.Lib.OthersKept
import Derived.Maps.AppendAt
import Derived.StillTail
import Derived.Deep.Quiet
import Derived.StillTailTactics
import Derived.LaidLaws
import Derived.Lib.LaidTab
import Derived.Lib.SmallJoins
import Derived.Deep.Slices
import Derived.Deep.Matrix
import Derived.Deep.Fields
import Derived.ChangeSame
import Derived.DataShut
import Derived.SizedLaws
set_option linter.unusedVariables false
set_option linter.unusedSimpArgs false
namespace Go.Proofs.YtdllbdfchloijaaGreatDoor
open Go.ChangeShapes Go.WideShapes Go.ChangeAt Go.RowKit
theorem belA {B : Nat} {a b : World} (h : Below B a b := by repeat (first | exact Below.refl _ _ | assumption | refine Below.drew ?_ | refine below_drewN ?_ _ | refine bset ?_ (by simp <;> omega) _ | refine bal ?_ _)) : Below B a b := h
end Go.Proofs.YtdllbdfchloijaaGreatDoor
/- lists of points: their cells, slices.Clone. -/
namespace Go.Proofs.YtdllbdfchloijaaGreatDoor
open Pt
open Go.ChangeShapes Go.WideShapes Go.ChangeAt Go.RowKit
theorem pcells_len (L : List (Int × Int)) : (pcells L).length = L.length * 2 := by
  induction L with
  | nil => rfl
  | cons i L ih => simp only [pcells, List.flatMap_cons, List.length_append, List.length_cons] at ih ⊢; rw [ih]; simp; omega
set_option maxRecDepth 100000 in
set_option maxHeartbeats 1000000 in
theorem clonePts_c (a : Option Addr) (ca n : Nat) (f : Nat → Int × Int) (w : World) (ha : PtsV w a n ca f) (hn : a = none → n = 0) (h1 : n * 16 ≤ 140737488355328) :
    Calls Tryz.prog 9 #[.slice a n ca] w fun e w' => (∃ a' c', e = .returned (.slice a' n c') ∧ n ≤ c' ∧ PtsV w' a' n c' f ∧ FromA w.heap.size 33 w' a' ∧ (n = 0 ∨ ∃ b, a' = some ⟨b, 0, none⟩ ∧ Free w' b)) ∧ Below w.heap.size w w' := by
  have hB0 := Below.refl w.heap.size w
  have hq := fun w => Lib.run_eql_slice_nil w 22 33 a n ca 0 0 Tryz.underlying22
  cases a with
  | none =>
    have HN := Lib.hid (hn rfl)
    clear hn
    have hq2 : ∀ w, (binOp .eql 22 (.slice none n ca) (.slice none 0 0)).run Tryz.prog w = .ok (.bool true) w := hq
    clear hq
    go_enter Tryz.func9, Tryz.ntmps9
    go_wp2
    go_ret
    obtain rfl : n = 0 := HN.out
    exact ⟨⟨none, 0, rfl, Nat.le_refl _, .inl rfl, FromA.nil _ _ _, .inl rfl⟩, Below.refl _ _⟩
  | some ad =>
    obtain ⟨i0, z0, hi, hz0, hz1, hz2, hz3⟩ := elPt.info
    have hnews : ∀ (W : World), Below w.heap.size w W → ∀ j u, (pcells (upL f n))[j]? = some u → W.cell? (ad.add j) = some u := by
      intro W hW j v hj
      have hjl : j < n * 2 := by have := (List.getElem?_eq_some_iff.1 hj).1; rwa [pcells_len, upL_len] at this
      obtain ⟨g0, g1⟩ := pcells_get (upL f n) (j / 2) (by rw [upL_len]; omega)
      rw [upL_get f (by omega)] at g0 g1
      rcases ha with h | ⟨b, off, h, _, hcell⟩
      · subst h; simp at hjl
      · cases h
        obtain ⟨h3, h4⟩ := hcell (j / 2) (by omega)
        have e2 : (⟨b, off, none⟩ : Addr).add j = ⟨b, off + j, none⟩ := by unfold Addr.add; split <;> simp_all
        rw [e2]
        rcases (show j = j / 2 * 2 ∨ j = j / 2 * 2 + 1 by omega) with e | e
        · rw [e] at hj ⊢; rw [hj] at g0; cases g0
          exact bkeep hW h3
        · rw [e] at hj ⊢; rw [hj] at g1; cases g1
          exact bkeep hW h4
    clear ha
    have ho : (w.alloc (.cells #[] 33)).ownsRow w.heap.size 33 2 (.slice (some ⟨w.heap.size, 0, none⟩) 0 0) 0 [] := ⟨rfl, .inr ⟨w.heap.size, 0, #[], rfl, Nat.le_refl _, (MapKept.heap_alloc w _).1, Nat.le_refl _, by unfold maxLen; omega, rfl, rfl⟩⟩
    go_enter Tryz.func9, Tryz.ntmps9
    go_wp2_with (at_builtin; refine wpList_append_own _ rfl _ _ 22 rfl w.heap.size 33 i0 z0 2 16 Tryz.underlying22 hi hz0 hz1 hz2 hz3 (by decide) _ 0 [] rfl ho ad n ca (pcells (upL f n)) rfl (by rw [pcells_len, upL_len]) (hnews _ (bal hB0 _)) (pcells_one _) (by unfold maxLen; omega) (by omega) (by simp) ?_)
    intro v' w1 hown hgrow _
    have hbel := below_append (wr := w) (bal hB0 _) ho hgrow
    obtain ⟨a', c', rfl, hcc, hu, hfr, hfree⟩ := own_pts (n := n) hown (by omega)
    have HU := Lib.hid (And.intro hcc (And.intro hu (And.intro hfr hfree)))
    clear hown hnews hq hgrow hu ho hfr hfree
    go_wp2
    go_ret
    exact ⟨⟨a', c', rfl, HU.out⟩, hbel⟩
end Go.Proofs.YtdllbdfchloijaaGreatDoor

/- eval: Program, walked. -/
namespace Go.Proofs.YtdllbdfchloijaaGreatDoor
open Pt
open Num
open Go.ChangeShapes Go.WideShapes Go.ChangeAt Go.RowKit
attribute [local go_sem ↓] Go.wp_at_zero Go.wp_at_succ
set_option maxRecDepth 100000 in
set_option maxHeartbeats 8000000 in
theorem program_no (k : Int) (a : Option Addr) (n cap : Nat) (f : Nat → Int × Int) (w : World) (h : PtsV w a n cap f) (hn : n ≤ 4611686018427387904) (hno : ¬ (1 ≤ k ∧ k ≤ 8 ∧ PtsOk n f)) :
    Calls Tryz.prog 8 #[.int .i64 k, .slice a n cap] w fun e w' => e = .returned (.tuple #[.agg #[.int .i64 0, .int .i64 0, .slice none 0 0, .slice none 0 0], .int .i64 2]) ∧ Below w.heap.size w w' := by
  have hB := Below.refl w.heap.size w
  have HP := Lib.hid h
  have HN := Lib.hid hno
  clear h hno
  by_cases h1 : k < 1
  · have d1 : decide (k < 1) = true := decide_eq_true h1
    go_enter Tryz.func8, Tryz.ntmps8
    go_wp2
    go_step3
    go_wp2
    rw [Exit.noGoto_ret]
    refine bodyPost_ret (v := .tuple #[.agg #[.int .i64 0, .int .i64 0, .slice none 0 0, .slice none 0 0], .int .i64 2]) (by simp [results, Tryz.results8, go_sem, *]) rfl ⟨rfl, by repeat (first | exact Below.refl _ _ | exact hB | refine Below.drew ?_ | refine below_drewN ?_ _ | refine bset ?_ (by simp <;> omega) _ | refine bal ?_ _)⟩
  have d1 : decide (k < 1) = false := decide_eq_false h1
  by_cases h2 : 8 < k
  · have d2 : decide (8 < k) = true := decide_eq_true h2
    go_enter Tryz.func8, Tryz.ntmps8
    go_wp2
    go_step3
    go_wp2
    rw [Exit.noGoto_ret]
    refine bodyPost_ret (v := .tuple #[.agg #[.int .i64 0, .int .i64 0, .slice none 0 0, .slice none 0 0], .int .i64 2]) (by simp [results, Tryz.results8, go_sem, *]) rfl ⟨rfl, by repeat (first | exact Below.refl _ _ | exact hB | refine Below.drew ?_ | refine below_drewN ?_ _ | refine bset ?_ (by simp <;> omega) _ | refine bal ?_ _)⟩
  have d2 : decide (8 < k) = false := decide_eq_false h2
  have HF := Lib.hid (show ptsB n f = false from ptsB_no fun q => HN.out ⟨by omega, by omega, q⟩)
  have PC := Lib.hid (fun V (q : Below w.heap.size w V) => evPoints_c a n cap f V (HP.out.keep q) hn)
  rw [HF.out] at PC
  go_enter Tryz.func8, Tryz.ntmps8
  go_wp2
  go_step3
  go_wp2_with fail
  (with_reducible refine (PC.out _ ?_).mono ?_); (repeat (first | exact Below.refl _ _ | exact hB | refine Below.drew ?_ | refine below_drewN ?_ _ | refine bset ?_ (by simp <;> omega) _ | refine bal ?_ _))
  rintro e w1 ⟨rfl, hb1⟩
  have r0f : w1.frozen? ⟨w.heap.size, 0, none⟩ = false := bkeepf hb1 (v := .int .i64 0) (by simp [go_sem]) (by simp [go_sem])
  have r1f : w1.frozen? ⟨w.heap.size, 1, none⟩ = false := bkeepf hb1 (v := .int .i64 0) (by simp [go_sem]) (by simp [go_sem])
  have r2f : w1.frozen? ⟨w.heap.size, 2, none⟩ = false := bkeepf hb1 (v := .slice none 0 0) (by simp [go_sem]) (by simp [go_sem])
  have r3f : w1.frozen? ⟨w.heap.size, 3, none⟩ = false := bkeepf hb1 (v := .slice none 0 0) (by simp [go_sem]) (by simp [go_sem])
  have r0 : w1.cell? ⟨w.heap.size, 0, none⟩ = some (.int .i64 0) := bkc hb1
  have zr0 := cell_lt r0
  have r1 : w1.cell? ⟨w.heap.size, 1, none⟩ = some (.int .i64 0) := bkc hb1
  have r2 : w1.cell? ⟨w.heap.size, 2, none⟩ = some (.slice none 0 0) := bkc hb1
  have r3 : w1.cell? ⟨w.heap.size, 3, none⟩ = some (.slice none 0 0) := bkc hb1
  have hB : Below w.heap.size w w1 := bthen belA hb1
  have hz : w.heap.size ≤ w1.heap.size := hB.size
  clear PC hb1
  go_wp2
  rw [Exit.noGoto_ret]
  refine bodyPost_ret (v := .tuple #[.agg #[.int .i64 0, .int .i64 0, .slice none 0 0, .slice none 0 0], .int .i64 2]) (by simp [results, Tryz.results8, go_sem, *]) rfl ⟨rfl, by repeat (first | exact Below.refl _ _ | exact hB | refine Below.drew ?_ | refine below_drewN ?_ _ | refine bset ?_ (by simp <;> omega) _ | refine bal ?_ _)⟩
end Go.Proofs.YtdllbdfchloijaaGreatDoor

/- the reference's Same of programs: two that read alike. -/
namespace Go.Proofs.YtdllbdfchloijaaGreatDoor
open Pt
open Num
open Go.ChangeShapes Go.WideShapes Go.ChangeAt Go.RowKit
attribute [local go_sem ↓] Go.wp_at_zero Go.wp_at_succ
theorem neq_insE (a b c d e : Int) (w : World) : (binOp .neq 39 (.agg #[.int .i64 a, .int .i64 b, .int .i64 c, .int .i64 d, .int .i64 e]) (.agg #[.int .i64 a, .int .i64 b, .int .i64 c, .int .i64 d, .int .i64 e])).run Tryz.prog w = .ok (.bool false) w := by
  simp [go_sem]
set_option maxRecDepth 100000 in
set_option maxHeartbeats 8000000 in
theorem samePr_c (ins R : Int) (ca oa qa ra : Option Addr) (cc oc qc rc : Nat) (code : List Ins) (outs : List Int) (w : World) (hc : InsV w ca cc code) (ho : IntsV w oa oc outs) (hq : InsV w qa qc code) (hr : IntsV w ra rc outs) (h1 : code.length ≤ 100000) (h2 : outs.length ≤ 100000) :
    Calls Tryz.prog 11 #[.agg #[.int .i64 ins, .int .i64 R, .slice ca code.length cc, .slice oa outs.length oc], .agg #[.int .i64 ins, .int .i64 R, .slice qa code.length qc, .slice ra outs.length rc]] w fun e w' => e = .returned (.bool true) ∧ Below w.heap.size w w' := by
  have hB := Below.refl w.heap.size w
  have HC := Lib.hid (And.intro hc hq)
  have HO := Lib.hid (And.intro ho hr)
  clear hc hq ho hr
  go_enter Tryz.func11, Tryz.ntmps11
  go_wp2
  refine wp_name fun w2 hW2 => ?_
  have hB2 : Below w.heap.size w w2 := by rw [hW2]; repeat (first | exact Below.refl _ _ | exact hB | refine Below.drew ?_ | refine below_drewN ?_ _ | refine bset ?_ (by simp <;> omega) _ | refine bal ?_ _)
  have HPP := Lib.hid (show w2.cell? ⟨w.heap.size, 2, none⟩ = some (.slice ca code.length cc) ∧ w2.cell? ⟨w.heap.size, 3, none⟩ = some (.slice oa outs.length oc) ∧ w2.cell? ⟨w.heap.size + 1, 2, none⟩ = some (.slice qa code.length qc) ∧ w2.cell? ⟨w.heap.size + 1, 3, none⟩ = some (.slice ra outs.length rc) from by rw [hW2]; simp [go_sem])
  have hBw := Below.refl w2.heap.size w2
  have HB2 := Lib.hid hB2
  clear hW2 hB hB2
  go_loopw [5] (fun x wr => ∃ j : Nat, j ≤ code.length ∧ x = .int .i64 j ∧ Below w2.heap.size w2 wr) (fun x _ => code.length - (intOf x).toNat)
  case atStart => exact ⟨0, Nat.zero_le _, rfl, by repeat (first | exact Below.refl _ _ | exact hBw | refine Below.drew ?_ | refine below_drewN ?_ _ | refine bset ?_ (by simp <;> omega) _ | refine bal ?_ _)⟩
  case round =>
    obtain ⟨j, hj, rfl, hBr⟩ := hrel
    have hB3 := bthen HB2.out hBr
    clear hBw
    have p2 := bkeep hBr HPP.out.1
    have p3 := bkeep hBr HPP.out.2.1
    have q2 := bkeep hBr HPP.out.2.2.1
    have q3 := bkeep hBr HPP.out.2.2.2
    have zp := cell_lt p2
    have zq := cell_lt q2
    by_cases hlt : j < code.length
    · have hltI : (j : Int) < (code.length : Int) := by omega
      rcases HC.out.1.keep hB3 with h0 | ⟨b, off, rfl, hcap, hcell⟩
      · rw [h0] at hlt; simp at hlt
      rcases HC.out.2.keep hB3 with h0 | ⟨b2, off2, rfl, hcap2, hcell2⟩
      · rw [h0] at hlt; simp at hlt
      obtain ⟨c0, c1, c2, c3, c4⟩ := hcell j hlt
      obtain ⟨d0, d1, d2, d3, d4⟩ := hcell2 j hlt
      have HLT := Lib.hid hlt
      obtain ⟨i, hi⟩ : ∃ i, code.getD j default = i := ⟨_, rfl⟩
      rw [hi] at c0 c1 c2 c3 c4 d0 d1 d2 d3 d4
      obtain ⟨op, it, ia, ib, ic⟩ := i
      dsimp only at c0 c1 c2 c3 c4 d0 d1 d2 d3 d4
      have zb := cell_lt c0
      have zd := cell_lt d0
      have hl := HLT.out
      have hne := neq_insE op it ia ib ic
      clear hi hcell hcap hlt hcell2 hcap2
      go_wp2
      go_region_law (go_simp; go_wp2_with fail)
      all_goals
        go_wp2
        exact ⟨⟨j + 1, hl, by go_num, by repeat (first | exact Below.refl _ _ | exact hBr | refine Below.drew ?_ | refine below_drewN ?_ _ | refine bset ?_ (by simp <;> omega) _ | refine bal ?_ _)⟩, measS hl (by go_num) rfl⟩
    · obtain rfl : code.length = j := by omega
      have hltI : ¬ (code.length : Int) < (code.length : Int) := by omega
      go_wp2
      refine wp_name fun w4 hW4 => ?_
      have hB4 : Below w2.heap.size w2 w4 := by rw [hW4]; repeat (first | exact Below.refl _ _ | exact hBr | refine Below.drew ?_ | refine below_drewN ?_ _ | refine bset ?_ (by simp <;> omega) _ | refine bal ?_ _)
      clear hW4 hBr hB3 p2 p3 q2 q3
      go_loopw [6] (fun x wr => ∃ j : Nat, j ≤ outs.length ∧ x = .int .i64 j ∧ Below w2.heap.size w2 wr) (fun x _ => outs.length - (intOf x).toNat)
      case atStart => exact ⟨0, Nat.zero_le _, rfl, by repeat (first | exact Below.refl _ _ | exact hB4 | refine Below.drew ?_ | refine below_drewN ?_ _ | refine bset ?_ (by simp <;> omega) _ | refine bal ?_ _)⟩
      case round =>
        obtain ⟨j, hj, rfl, hBr⟩ := hrel
        have hB3 := bthen HB2.out hBr
        clear hB4
        have p2 := bkeep hBr HPP.out.1
        have p3 := bkeep hBr HPP.out.2.1
        have q2 := bkeep hBr HPP.out.2.2.1
        have q3 := bkeep hBr HPP.out.2.2.2
        have zp := cell_lt p2
        have zq := cell_lt q2
        by_cases hlt : j < outs.length
        · have hltI : (j : Int) < (outs.length : Int) := by omega
          rcases HO.out.1.keep hB3 with h0 | ⟨b, off, rfl, hcap, hcell⟩
          · rw [h0] at hlt; simp at hlt
          rcases HO.out.2.keep hB3 with h0 | ⟨b2, off2, rfl, hcap2, hcell2⟩
          · rw [h0] at hlt; simp at hlt
          have c0 := hcell j hlt
          have d0 := hcell2 j hlt
          have HLT := Lib.hid hlt
          obtain ⟨i, hi⟩ : ∃ i, outs.getD j 0 = i := ⟨_, rfl⟩
          rw [hi] at c0 d0
          have zb := cell_lt c0
          have zd := cell_lt d0
          have hl := HLT.out
          clear hi hcell hcap hlt hcell2 hcap2
          go_wp2
          go_region_law (go_simp; go_wp2_with fail)
          all_goals
            go_wp2
            exact ⟨⟨j + 1, hl, by go_num, by repeat (first | exact Below.refl _ _ | exact hBr | refine Below.drew ?_ | refine below_drewN ?_ _ | refine bset ?_ (by simp <;> omega) _ | refine bal ?_ _)⟩, measS hl (by go_num) rfl⟩
        · obtain rfl : outs.length = j := by omega
          have hltI : ¬ (outs.length : Int) < (outs.length : Int) := by omega
          go_wp2
          go_ret
          exact ⟨rfl, by repeat (first | exact Below.refl _ _ | exact hB3 | refine Below.drew ?_ | refine below_drewN ?_ _ | refine bset ?_ (by simp <;> omega) _ | refine bal ?_ _)⟩
end Go.Proofs.YtdllbdfchloijaaGreatDoor

