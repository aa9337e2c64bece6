/- Texts of this seat, laid together (what the earlier ones leave out): IntG. Each opens with its own remark, which says what it proves, and under which conditions. -/
import Derived.Test.YtdllbdfchloijaaDoorR01
import Derived.Test.YtdllbdfchloijaaDoorR02
import Derived.Test.YtdllbdfchloijaaDoorR03
import Derived.Test.YtdllbdfchloijaaDoorR04
import Derived.Test.YtdllbdfchloijaaDoorR05
import Derived.Test.YtdllbdfchloijaaDoorR06
import Derived.Test.YtdllbdfchloijaaDoorR07
import Derived.Test.YtdllbdfchloijaaDoorR08
import Derived.Test.YtdllbdfchloijaaDoorR09
import Derived.Test.YtdllbdfchloijaaDoorR10
import Derived.Test.YtdllbdfchloijaaDoorR11
import Derived.Test.YtdllbdfchloijaaDoorR12
import Derived.Test.YtdllbdfchloijaaDoorR13
import Derived.Test.YtdllbdfchloijaaDoorR14
import Derived.Test.YtdllbdfchloijaaDoorR15
import Derived.Test.YtdllbdfchloijaaDoorR16
import Derived.Test.YtdllbdfchloijaaDoorR17
import Derived.Test.YtdllbdfchloijaaDoorR18
import Derived.Test.YtdllbdfchloijaaDoorR19
import Derived.Test.YtdllbdfchloijaaDoorR20
import Derived.Test.YtdllbdfchloijaaDoorR21
import Derived.Test.YtdllbdfchloijaaDoorR22
import Derived.Test.YtdllbdfchloijaaDoorR23
import Derived.Test.YtdllbdfchloijaaDoorS01
import Derived.WalkKit
import Derived.ProofKit
import Derived.OpenShut
import Derived.Deep.QuietTactic
import Derived.BigQuiet
import Derived.Outline
import Derived.Lib.Hide
import Derived.WalkSmall
import Derived.WalkSpells
import Derived.WalkLawsBesides
import Derived.Deep.RegionWith
import Derived.Deep.RegionHeld3
import Derived.Laws.CopyOwn
import Derived.Shelf.Small.Bits
import Derived.Laws.BitsAllLaws
import Derived.Shelf.Spec.TrailingZeros
import Derived.Shelf.Strings.Builder1
import Derived.Shelf.Strings.Trim
import Derived.Deep.Cut
import Derived.Deep.DeepCutAuto
import Derived.ArgAppend
import Derived.Deep.DeepFit
import Derived.Laws.AppendOwn
import Derived.Deep.AppendLies
import Derived.OneCell
import Derived.Shelf.Abstract
import Derived.Laws.EntriesVeiled
import Derived.Deep.DrawnRows
import Derived.Deep.RegionLaw
import Derived.Deep.LoopGhost
import Derived.RegionTactic
import Derived.ChangeAlike
import Derived.Laws.OwnMore
import Derived.Deep.Onto
import Derived.Laws.CopyRow
import Derived.Laws.Rows
import Derived.Laws.Tables
import Derived.Laws.IdiomStrings
import Derived.Laws.BytesArg
import Derived.RangeFuncNested
import Derived.RangeFuncBound
import Derived.RangeFuncCalls
import Derived.RangeFuncLeaves
import Derived.Shelf.RegionOpen
import Derived.OwnWalkIn
import Derived.TacticsInMore
import Derived.LoopNIn
import Derived.LoopIn
import Derived.Laws.RangeString
import Derived.Lib.OthersKept
import Derived.Maps.AppendAt
import Derived.StillTail
import Derived.Deep.Quiet
import Derived.StillTailTactics
import Derived.LaidLaws
import Derived.Lib.LaidTab
import Derived.Lib.SmallJoins
import Derived.Deep.Slices
import Derived.Deep.Matrix
import Derived.Deep.Fields
import Derived.ChangeSame
import Derived.DataShut
import Derived.SizedLaws
set_option linter.unusedVariables false
set_option linter.unusedSimpArgs false
/- integer: Pow, where the exponent is not below 0 and the power is not too long. -/
namespace Go.Proofs.YtdllbdfchloijaaDoor
open Num
open Go.ChangeShapes Go.WideShapes Go.ChangeAt Go.RowKit
namespace Num
theorem bd_bitN (x : Int) : Bd (bitN x.natAbs) x := by
  unfold Bd bitN
  split
  · rename_i h; rw [h]; decide
  · exact Nat.lt_log2_self
theorem bitN_one {m : Nat} (h : bitN m = 1) : m = 1 := by
  unfold bitN at h
  split at h
  · omega
  · have h0 : m.log2 = 0 := by omega
    have := @Nat.lt_log2_self m
    rw [h0] at this
    omega
theorem neg_pow_even (n : Nat) (h : n % 2 = 0) : (-1 : Int) ^ n = 1 := by
  obtain ⟨k, rfl⟩ : ∃ k, n = 2 * k := ⟨n / 2, by omega⟩
  rw [Int.pow_mul]
  exact Int.one_pow
theorem neg_pow_odd (n : Nat) (h : ¬ n % 2 = 0) : (-1 : Int) ^ n = -1 := by
  obtain ⟨k, rfl⟩ : ∃ k, n = 2 * k + 1 := ⟨n / 2, by omega⟩
  rw [Int.pow_succ, neg_pow_even (2 * k) (by omega)]
  rfl
end Num

set_option maxRecDepth 100000 in
set_option maxHeartbeats 2000000 in
theorem pow_c (vx : Value) (x : Int) (n : Nat) (w : World) (hx : IsInt w vx x) (hb : n * bitN x.natAbs ≤ 65536) (hk : bitN x.natAbs ≤ 65536) (hn : n ≤ 9223372036854775807) :
    Calls Tryd.prog 22 #[vx, .int .i64 (n : Int)] w fun e w' => (∃ v, e = .returned (.tuple #[v, .int .i64 0]) ∧ IsInt w' v (x ^ n)) ∧ Below w.heap.size w w' := by
  have bx := bd_bitN x
  have bc := fun vx w h => bits_c vx x (bitN x.natAbs) w h bx (by omega)
  have sc := fun vx w h => sign_c vx x w h
  have oc := fun w => of_c 1 w (by omega) (by omega)
  have mc := fun vx vy j w h1 h2 hj => mul_c vx vy (x ^ j) x (j * bitN x.natAbs + 1) (bitN x.natAbs) w h1 h2 (bx.pow j) bx hj (by omega)
  have HX := Lib.hid hx
  obtain ⟨n1, a1, c1, l1, rfl, _, g1, s1, hv⟩ := hx
  have HV := Lib.hid hv
  clear hv
  unfold iv at *
  have z0 : bitN x.natAbs = 0 ↔ x = 0 := by
    unfold bitN; split <;> omega
  have h0 : x = 0 ∨ (x ≠ 0 ∧ bitN x.natAbs = 1) ∨ (x ≠ 0 ∧ 1 < bitN x.natAbs) := by omega
  generalize hbb : bitN x.natAbs = b at *
  have HB := Lib.hid hbb
  clear hbb
  have hq : ∀ k : Nat, k ≤ n → k * b + 1 ≤ 17179869184 := fun k hk => by
    have := Nat.mul_le_mul_right b hk
    omega
  have hB0 := Below.refl w.heap.size w
  have hn0 : ¬ ((n : Int) < 0) := by omega
  rcases h0 with h0 | ⟨h0, h1⟩ | ⟨h0, h1⟩
  · obtain rfl : b = 0 := z0.2 h0
    subst h0
    obtain rfl : n1 = false := by
      have := HV.out
      cases n1 with
      | false => rfl
      | true =>
        exfalso
        have hl := s1 rfl
        have : val l1 = 0 := by have := HV.out; simp [sg] at this; omega
        exact hl ((val_nil_iff g1).1 this)
    clear z0 hb s1 mc
    have hsg : (0 : Int).sign = 0 := rfl
    rw [hsg] at sc
    go_enter Tryd.func22, Tryd.ntmps22
    go_wp2_with fail
    refine (bc _ _ (HX.out.keep belA)).mono ?_
    rintro e w1 ⟨rfl, hb1⟩
    have x0 : w1.cell? ⟨w.heap.size, 0, none⟩ = some (.bool false) := bkc hb1
    have zx0 := cell_lt x0
    have x1 : w1.cell? ⟨w.heap.size, 1, none⟩ = some (.slice a1 l1.length c1) := bkc hb1
    have r0 : w1.cell? ⟨w.heap.size + 1, 0, none⟩ = some (.bool false) := bkc hb1
    have zr0 := cell_lt r0
    have r0f : w1.frozen? ⟨w.heap.size + 1, 0, none⟩ = false := bkcf (v := .bool false) hb1
    have r1 : w1.cell? ⟨w.heap.size + 1, 1, none⟩ = some (.slice none 0 0) := bkc hb1
    have r1f : w1.frozen? ⟨w.heap.size + 1, 1, none⟩ = false := bkcf (v := .slice none 0 0) hb1
    have hB : Below w.heap.size w w1 := bthen belA hb1
    have hz : w.heap.size ≤ w1.heap.size := hB.size
    go_wp2_with fail
    refine (oc _).mono ?_
    rintro e w3 ⟨⟨v3, rfl, hi3⟩, hb3⟩
    have x0 : w3.cell? ⟨w.heap.size, 0, none⟩ = some (.bool false) := bkc hb3
    have zx0 := cell_lt x0
    have x1 : w3.cell? ⟨w.heap.size, 1, none⟩ = some (.slice a1 l1.length c1) := bkc hb3
    have r0 : w3.cell? ⟨w.heap.size + 1, 0, none⟩ = some (.bool false) := bkc hb3
    have zr0 := cell_lt r0
    have r0f : w3.frozen? ⟨w.heap.size + 1, 0, none⟩ = false := bkcf (v := .bool false) hb3
    have r1 : w3.cell? ⟨w.heap.size + 1, 1, none⟩ = some (.slice none 0 0) := bkc hb3
    have r1f : w3.frozen? ⟨w.heap.size + 1, 1, none⟩ = false := bkcf (v := .slice none 0 0) hb3
    have hB : Below w.heap.size w w3 := bthen belA hb3
    have hz : w.heap.size ≤ w3.heap.size := hB.size
    have HI3 := Lib.hid hi3
    obtain ⟨n3, a3, c3, l3, rfl, -, -, -, -⟩ := hi3
    unfold iv at *
    go_wp2_with fail
    refine (sc _ _ (HX.out.keep belA)).mono ?_
    rintro e w4 ⟨rfl, hb4⟩
    have x0 : w4.cell? ⟨w.heap.size, 0, none⟩ = some (.bool false) := bkc hb4
    have zx0 := cell_lt x0
    have x1 : w4.cell? ⟨w.heap.size, 1, none⟩ = some (.slice a1 l1.length c1) := bkc hb4
    have r0 : w4.cell? ⟨w.heap.size + 1, 0, none⟩ = some (.bool false) := bkc hb4
    have zr0 := cell_lt r0
    have r0f : w4.frozen? ⟨w.heap.size + 1, 0, none⟩ = false := bkcf (v := .bool false) hb4
    have r1 : w4.cell? ⟨w.heap.size + 1, 1, none⟩ = some (.slice none 0 0) := bkc hb4
    have r1f : w4.frozen? ⟨w.heap.size + 1, 1, none⟩ = false := bkcf (v := .slice none 0 0) hb4
    have o0 : w4.cell? ⟨w3.heap.size, 0, none⟩ = some (.bool n3) := bkc hb4
    have zo0 := cell_lt o0
    have o0f : w4.frozen? ⟨w3.heap.size, 0, none⟩ = false := bkcf (v := .bool n3) hb4
    have o1 : w4.cell? ⟨w3.heap.size, 1, none⟩ = some (.slice a3 l3.length c3) := bkc hb4
    have o1f : w4.frozen? ⟨w3.heap.size, 1, none⟩ = false := bkcf (v := .slice a3 l3.length c3) hb4
    have hB : Below w.heap.size w w4 := bthen belA hb4
    have hz : w.heap.size ≤ w4.heap.size := hB.size
    have HI5 := Lib.hid (HI3.out.keep (bthen (bal (Below.refl _ _) _) hb4))
    have HX5 := Lib.hid (HX.out.keep hB)
    have hg : w.heap.size + 1 < w3.heap.size := by omega
    clear HI3 hb4 hb3 hb1 bc oc sc
    generalize w3.heap.size = g at *
    cases n with
    | zero =>
      have HP := Lib.hid (HI5.out.put2 r0 r1)
      have hB7 := bset (bset hB (p := ⟨w.heap.size + 1, 0, none⟩) (by simp) (.bool n3)) (p := ⟨w.heap.size + 1, 1, none⟩) (by simp) (.slice a3 l3.length c3)
      go_wp2
      refine bodyPost_ret (v := .tuple #[.agg #[.bool n3, .slice a3 l3.length c3], .int .i64 0]) (by simp [results, Tryd.results22, go_sem, *]) rfl ⟨⟨_, rfl, by simpa using HP.out _ _⟩, ?_⟩
      exact hB7
    | succ n =>
      have H1 := HX5.out.put2 o0 o1 (.bool false) (.slice a1 l1.length c1)
      have HP := Lib.hid (H1.put2 (cell_far (cell_far r0 (addr_ne (by omega)) _) (addr_ne (by omega)) _) (cell_far (cell_far r1 (addr_ne (by omega)) _) (addr_ne (by omega)) _) (.bool false) (.slice a1 l1.length c1))
      have hB7 := bset (bset (bset (bset hB (p := ⟨g, 0, none⟩) (by simp; omega) (.bool false)) (p := ⟨g, 1, none⟩) (by simp; omega) (.slice a1 l1.length c1)) (p := ⟨w.heap.size + 1, 0, none⟩) (by simp) (.bool false)) (p := ⟨w.heap.size + 1, 1, none⟩) (by simp) (.slice a1 l1.length c1)
      clear H1
      have hne : ((n : Int) + 1 == 0) = false := by simp; omega
      go_wp2
      refine bodyPost_ret (v := .tuple #[.agg #[.bool false, .slice a1 l1.length c1], .int .i64 0]) (by simp [results, Tryd.results22, go_sem, *]) rfl ⟨⟨_, rfl, by rw [Int.zero_pow (by omega)]; exact HP.out⟩, ?_⟩
      exact hB7
  · subst h1
    have habs : x.natAbs = 1 := bitN_one HB.out
    clear z0 s1 mc
    have hn2 : (n : Int) ≤ 65536 := by omega
    cases n1
    · have hx1 : x = 1 := by have := HV.out; have := habs; simp [sg] at *; omega
      subst hx1
      have hsg : Int.sign (1) = 1 := rfl
      rw [hsg] at sc
      clear hsg habs
      go_enter Tryd.func22, Tryd.ntmps22
      go_wp2_with fail
      refine (bc _ _ (HX.out.keep belA)).mono ?_
      rintro e w1 ⟨rfl, hb1⟩
      have x0 : w1.cell? ⟨w.heap.size, 0, none⟩ = some (.bool false) := bkc hb1
      have zx0 := cell_lt x0
      have x1 : w1.cell? ⟨w.heap.size, 1, none⟩ = some (.slice a1 l1.length c1) := bkc hb1
      have r0 : w1.cell? ⟨w.heap.size + 1, 0, none⟩ = some (.bool false) := bkc hb1
      have zr0 := cell_lt r0
      have r0f : w1.frozen? ⟨w.heap.size + 1, 0, none⟩ = false := bkcf (v := .bool false) hb1
      have r1 : w1.cell? ⟨w.heap.size + 1, 1, none⟩ = some (.slice none 0 0) := bkc hb1
      have r1f : w1.frozen? ⟨w.heap.size + 1, 1, none⟩ = false := bkcf (v := .slice none 0 0) hb1
      have hB : Below w.heap.size w w1 := bthen belA hb1
      have hz : w.heap.size ≤ w1.heap.size := hB.size
      go_wp2_with fail
      refine (bc _ _ (HX.out.keep belA)).mono ?_
      rintro e w2 ⟨rfl, hb2⟩
      have x0 : w2.cell? ⟨w.heap.size, 0, none⟩ = some (.bool false) := bkc hb2
      have zx0 := cell_lt x0
      have x1 : w2.cell? ⟨w.heap.size, 1, none⟩ = some (.slice a1 l1.length c1) := bkc hb2
      have r0 : w2.cell? ⟨w.heap.size + 1, 0, none⟩ = some (.bool false) := bkc hb2
      have zr0 := cell_lt r0
      have r0f : w2.frozen? ⟨w.heap.size + 1, 0, none⟩ = false := bkcf (v := .bool false) hb2
      have r1 : w2.cell? ⟨w.heap.size + 1, 1, none⟩ = some (.slice none 0 0) := bkc hb2
      have r1f : w2.frozen? ⟨w.heap.size + 1, 1, none⟩ = false := bkcf (v := .slice none 0 0) hb2
      have hB : Below w.heap.size w w2 := bthen belA hb2
      have hz : w.heap.size ≤ w2.heap.size := hB.size
      go_wp2_with fail
      refine (oc _).mono ?_
      rintro e w3 ⟨⟨v3, rfl, hi3⟩, hb3⟩
      have x0 : w3.cell? ⟨w.heap.size, 0, none⟩ = some (.bool false) := bkc hb3
      have zx0 := cell_lt x0
      have x1 : w3.cell? ⟨w.heap.size, 1, none⟩ = some (.slice a1 l1.length c1) := bkc hb3
      have r0 : w3.cell? ⟨w.heap.size + 1, 0, none⟩ = some (.bool false) := bkc hb3
      have zr0 := cell_lt r0
      have r0f : w3.frozen? ⟨w.heap.size + 1, 0, none⟩ = false := bkcf (v := .bool false) hb3
      have r1 : w3.cell? ⟨w.heap.size + 1, 1, none⟩ = some (.slice none 0 0) := bkc hb3
      have r1f : w3.frozen? ⟨w.heap.size + 1, 1, none⟩ = false := bkcf (v := .slice none 0 0) hb3
      have hB : Below w.heap.size w w3 := bthen belA hb3
      have hz : w.heap.size ≤ w3.heap.size := hB.size
      have HI3 := Lib.hid hi3
      obtain ⟨n3, a3, c3, l3, rfl, -, -, -, -⟩ := hi3
      unfold iv at *
      go_wp2_with fail
      refine (sc _ _ (HX.out.keep belA)).mono ?_
      rintro e w4 ⟨rfl, hb4⟩
      have x0 : w4.cell? ⟨w.heap.size, 0, none⟩ = some (.bool false) := bkc hb4
      have zx0 := cell_lt x0
      have x1 : w4.cell? ⟨w.heap.size, 1, none⟩ = some (.slice a1 l1.length c1) := bkc hb4
      have r0 : w4.cell? ⟨w.heap.size + 1, 0, none⟩ = some (.bool false) := bkc hb4
      have zr0 := cell_lt r0
      have r0f : w4.frozen? ⟨w.heap.size + 1, 0, none⟩ = false := bkcf (v := .bool false) hb4
      have r1 : w4.cell? ⟨w.heap.size + 1, 1, none⟩ = some (.slice none 0 0) := bkc hb4
      have r1f : w4.frozen? ⟨w.heap.size + 1, 1, none⟩ = false := bkcf (v := .slice none 0 0) hb4
      have o0 : w4.cell? ⟨w3.heap.size, 0, none⟩ = some (.bool n3) := bkc hb4
      have zo0 := cell_lt o0
      have o0f : w4.frozen? ⟨w3.heap.size, 0, none⟩ = false := bkcf (v := .bool n3) hb4
      have o1 : w4.cell? ⟨w3.heap.size, 1, none⟩ = some (.slice a3 l3.length c3) := bkc hb4
      have o1f : w4.frozen? ⟨w3.heap.size, 1, none⟩ = false := bkcf (v := .slice a3 l3.length c3) hb4
      have hB : Below w.heap.size w w4 := bthen belA hb4
      have hz : w.heap.size ≤ w4.heap.size := hB.size
      go_wp2_with fail
      refine (bc _ _ (HX.out.keep belA)).mono ?_
      rintro e w5 ⟨rfl, hb5⟩
      have x0 : w5.cell? ⟨w.heap.size, 0, none⟩ = some (.bool false) := bkc hb5
      have zx0 := cell_lt x0
      have x1 : w5.cell? ⟨w.heap.size, 1, none⟩ = some (.slice a1 l1.length c1) := bkc hb5
      have r0 : w5.cell? ⟨w.heap.size + 1, 0, none⟩ = some (.bool false) := bkc hb5
      have zr0 := cell_lt r0
      have r0f : w5.frozen? ⟨w.heap.size + 1, 0, none⟩ = false := bkcf (v := .bool false) hb5
      have r1 : w5.cell? ⟨w.heap.size + 1, 1, none⟩ = some (.slice none 0 0) := bkc hb5
      have r1f : w5.frozen? ⟨w.heap.size + 1, 1, none⟩ = false := bkcf (v := .slice none 0 0) hb5
      have o0 : w5.cell? ⟨w3.heap.size, 0, none⟩ = some (.bool n3) := bkc hb5
      have zo0 := cell_lt o0
      have o0f : w5.frozen? ⟨w3.heap.size, 0, none⟩ = false := bkcf (v := .bool n3) hb5
      have o1 : w5.cell? ⟨w3.heap.size, 1, none⟩ = some (.slice a3 l3.length c3) := bkc hb5
      have o1f : w5.frozen? ⟨w3.heap.size, 1, none⟩ = false := bkcf (v := .slice a3 l3.length c3) hb5
      have hB : Below w.heap.size w w5 := bthen belA hb5
      have hz : w.heap.size ≤ w5.heap.size := hB.size
      have HI5 := Lib.hid (HI3.out.keep (bthen (bthen (bal (Below.refl _ _) _) hb4) hb5))
      have HX5 := Lib.hid (HX.out.keep hB)
      have hg : w.heap.size + 1 < w3.heap.size := by omega
      clear HI3 hb4 hb5 hb3 hb1 hb2 bc oc sc
      generalize w3.heap.size = g at *
      by_cases hn1 : n = 0
      · subst hn1
        have HPW := Lib.hid (Int.pow_zero (1))
        have HP := Lib.hid (HI5.out.put2 r0 r1)
        have hB7 := bset (bset hB (p := ⟨w.heap.size + 1, 0, none⟩) (by simp) (.bool n3)) (p := ⟨w.heap.size + 1, 1, none⟩) (by simp) (.slice a3 l3.length c3)
        go_wp2
        refine bodyPost_ret (v := .tuple #[.agg #[.bool n3, .slice a3 l3.length c3], .int .i64 0]) (by simp [results, Tryd.results22, go_sem, *]) rfl ⟨⟨_, rfl, by rw [HPW.out]; exact HP.out _ _⟩, ?_⟩
        exact hB7
      · have HPW := Lib.hid (Int.one_pow (n := n))
        have hne : ((n : Int) == 0) = false := by simp; omega
        have H1 := HX5.out.put2 o0 o1 (.bool false) (.slice a1 l1.length c1)
        have HP := Lib.hid (H1.put2 (cell_far (cell_far r0 (addr_ne (by omega)) _) (addr_ne (by omega)) _) (cell_far (cell_far r1 (addr_ne (by omega)) _) (addr_ne (by omega)) _) (.bool false) (.slice a1 l1.length c1))
        have hB7 := bset (bset (bset (bset hB (p := ⟨g, 0, none⟩) (by simp; omega) (.bool false)) (p := ⟨g, 1, none⟩) (by simp; omega) (.slice a1 l1.length c1)) (p := ⟨w.heap.size + 1, 0, none⟩) (by simp) (.bool false)) (p := ⟨w.heap.size + 1, 1, none⟩) (by simp) (.slice a1 l1.length c1)
        clear H1
        go_wp2
        refine bodyPost_ret (v := .tuple #[.agg #[.bool false, .slice a1 l1.length c1], .int .i64 0]) (by simp [results, Tryd.results22, go_sem, *]) rfl ⟨⟨_, rfl, by rw [HPW.out]; exact HP.out⟩, ?_⟩
        exact hB7
    · have hx1 : x = -1 := by have := HV.out; have := habs; simp [sg] at *; omega
      subst hx1
      have hsg : Int.sign (-1) = -1 := rfl
      rw [hsg] at sc
      clear hsg habs
      go_enter Tryd.func22, Tryd.ntmps22
      go_wp2_with fail
      refine (bc _ _ (HX.out.keep belA)).mono ?_
      rintro e w1 ⟨rfl, hb1⟩
      have x0 : w1.cell? ⟨w.heap.size, 0, none⟩ = some (.bool true) := bkc hb1
      have zx0 := cell_lt x0
      have x1 : w1.cell? ⟨w.heap.size, 1, none⟩ = some (.slice a1 l1.length c1) := bkc hb1
      have r0 : w1.cell? ⟨w.heap.size + 1, 0, none⟩ = some (.bool false) := bkc hb1
      have zr0 := cell_lt r0
      have r0f : w1.frozen? ⟨w.heap.size + 1, 0, none⟩ = false := bkcf (v := .bool false) hb1
      have r1 : w1.cell? ⟨w.heap.size + 1, 1, none⟩ = some (.slice none 0 0) := bkc hb1
      have r1f : w1.frozen? ⟨w.heap.size + 1, 1, none⟩ = false := bkcf (v := .slice none 0 0) hb1
      have hB : Below w.heap.size w w1 := bthen belA hb1
      have hz : w.heap.size ≤ w1.heap.size := hB.size
      go_wp2_with fail
      refine (bc _ _ (HX.out.keep belA)).mono ?_
      rintro e w2 ⟨rfl, hb2⟩
      have x0 : w2.cell? ⟨w.heap.size, 0, none⟩ = some (.bool true) := bkc hb2
      have zx0 := cell_lt x0
      have x1 : w2.cell? ⟨w.heap.size, 1, none⟩ = some (.slice a1 l1.length c1) := bkc hb2
      have r0 : w2.cell? ⟨w.heap.size + 1, 0, none⟩ = some (.bool false) := bkc hb2
      have zr0 := cell_lt r0
      have r0f : w2.frozen? ⟨w.heap.size + 1, 0, none⟩ = false := bkcf (v := .bool false) hb2
      have r1 : w2.cell? ⟨w.heap.size + 1, 1, none⟩ = some (.slice none 0 0) := bkc hb2
      have r1f : w2.frozen? ⟨w.heap.size + 1, 1, none⟩ = false := bkcf (v := .slice none 0 0) hb2
      have hB : Below w.heap.size w w2 := bthen belA hb2
      have hz : w.heap.size ≤ w2.heap.size := hB.size
      go_wp2_with fail
      refine (oc _).mono ?_
      rintro e w3 ⟨⟨v3, rfl, hi3⟩, hb3⟩
      have x0 : w3.cell? ⟨w.heap.size, 0, none⟩ = some (.bool true) := bkc hb3
      have zx0 := cell_lt x0
      have x1 : w3.cell? ⟨w.heap.size, 1, none⟩ = some (.slice a1 l1.length c1) := bkc hb3
      have r0 : w3.cell? ⟨w.heap.size + 1, 0, none⟩ = some (.bool false) := bkc hb3
      have zr0 := cell_lt r0
      have r0f : w3.frozen? ⟨w.heap.size + 1, 0, none⟩ = false := bkcf (v := .bool false) hb3
      have r1 : w3.cell? ⟨w.heap.size + 1, 1, none⟩ = some (.slice none 0 0) := bkc hb3
      have r1f : w3.frozen? ⟨w.heap.size + 1, 1, none⟩ = false := bkcf (v := .slice none 0 0) hb3
      have hB : Below w.heap.size w w3 := bthen belA hb3
      have hz : w.heap.size ≤ w3.heap.size := hB.size
      have HI3 := Lib.hid hi3
      obtain ⟨n3, a3, c3, l3, rfl, -, -, -, -⟩ := hi3
      unfold iv at *
      go_wp2_with fail
      refine (sc _ _ (HX.out.keep belA)).mono ?_
      rintro e w4 ⟨rfl, hb4⟩
      have x0 : w4.cell? ⟨w.heap.size, 0, none⟩ = some (.bool true) := bkc hb4
      have zx0 := cell_lt x0
      have x1 : w4.cell? ⟨w.heap.size, 1, none⟩ = some (.slice a1 l1.length c1) := bkc hb4
      have r0 : w4.cell? ⟨w.heap.size + 1, 0, none⟩ = some (.bool false) := bkc hb4
      have zr0 := cell_lt r0
      have r0f : w4.frozen? ⟨w.heap.size + 1, 0, none⟩ = false := bkcf (v := .bool false) hb4
      have r1 : w4.cell? ⟨w.heap.size + 1, 1, none⟩ = some (.slice none 0 0) := bkc hb4
      have r1f : w4.frozen? ⟨w.heap.size + 1, 1, none⟩ = false := bkcf (v := .slice none 0 0) hb4
      have o0 : w4.cell? ⟨w3.heap.size, 0, none⟩ = some (.bool n3) := bkc hb4
      have zo0 := cell_lt o0
      have o0f : w4.frozen? ⟨w3.heap.size, 0, none⟩ = false := bkcf (v := .bool n3) hb4
      have o1 : w4.cell? ⟨w3.heap.size, 1, none⟩ = some (.slice a3 l3.length c3) := bkc hb4
      have o1f : w4.frozen? ⟨w3.heap.size, 1, none⟩ = false := bkcf (v := .slice a3 l3.length c3) hb4
      have hB : Below w.heap.size w w4 := bthen belA hb4
      have hz : w.heap.size ≤ w4.heap.size := hB.size
      go_wp2_with fail
      refine (bc _ _ (HX.out.keep belA)).mono ?_
      rintro e w5 ⟨rfl, hb5⟩
      have x0 : w5.cell? ⟨w.heap.size, 0, none⟩ = some (.bool true) := bkc hb5
      have zx0 := cell_lt x0
      have x1 : w5.cell? ⟨w.heap.size, 1, none⟩ = some (.slice a1 l1.length c1) := bkc hb5
      have r0 : w5.cell? ⟨w.heap.size + 1, 0, none⟩ = some (.bool false) := bkc hb5
      have zr0 := cell_lt r0
      have r0f : w5.frozen? ⟨w.heap.size + 1, 0, none⟩ = false := bkcf (v := .bool false) hb5
      have r1 : w5.cell? ⟨w.heap.size + 1, 1, none⟩ = some (.slice none 0 0) := bkc hb5
      have r1f : w5.frozen? ⟨w.heap.size + 1, 1, none⟩ = false := bkcf (v := .slice none 0 0) hb5
      have o0 : w5.cell? ⟨w3.heap.size, 0, none⟩ = some (.bool n3) := bkc hb5
      have zo0 := cell_lt o0
      have o0f : w5.frozen? ⟨w3.heap.size, 0, none⟩ = false := bkcf (v := .bool n3) hb5
      have o1 : w5.cell? ⟨w3.heap.size, 1, none⟩ = some (.slice a3 l3.length c3) := bkc hb5
      have o1f : w5.frozen? ⟨w3.heap.size, 1, none⟩ = false := bkcf (v := .slice a3 l3.length c3) hb5
      have hB : Below w.heap.size w w5 := bthen belA hb5
      have hz : w.heap.size ≤ w5.heap.size := hB.size
      have HI5 := Lib.hid (HI3.out.keep (bthen (bthen (bal (Below.refl _ _) _) hb4) hb5))
      have HX5 := Lib.hid (HX.out.keep hB)
      have hg : w.heap.size + 1 < w3.heap.size := by omega
      clear HI3 hb4 hb5 hb3 hb1 hb2 bc oc sc
      generalize w3.heap.size = g at *
      by_cases hn1 : n = 0
      · subst hn1
        have HPW := Lib.hid (Int.pow_zero (-1))
        have HP := Lib.hid (HI5.out.put2 r0 r1)
        have hB7 := bset (bset hB (p := ⟨w.heap.size + 1, 0, none⟩) (by simp) (.bool n3)) (p := ⟨w.heap.size + 1, 1, none⟩) (by simp) (.slice a3 l3.length c3)
        go_wp2
        refine bodyPost_ret (v := .tuple #[.agg #[.bool n3, .slice a3 l3.length c3], .int .i64 0]) (by simp [results, Tryd.results22, go_sem, *]) rfl ⟨⟨_, rfl, by rw [HPW.out]; exact HP.out _ _⟩, ?_⟩
        exact hB7
      · have hne : ((n : Int) == 0) = false := by simp; omega
        by_cases hev : n % 2 = 0
        · have hev' : ((n : Int).tmod 2 == 0) = true := by rw [Int.tmod_eq_emod_of_nonneg (by omega)]; simp; omega
          have hev2 : ((n : Int) % 2 == 0) = true := by simp; omega
          have HPW := Lib.hid (neg_pow_even n hev)
          have HP := Lib.hid (HI5.out.put2 r0 r1)
          have hB7 := bset (bset hB (p := ⟨w.heap.size + 1, 0, none⟩) (by simp) (.bool n3)) (p := ⟨w.heap.size + 1, 1, none⟩) (by simp) (.slice a3 l3.length c3)
          go_wp2
          refine bodyPost_ret (v := .tuple #[.agg #[.bool n3, .slice a3 l3.length c3], .int .i64 0]) (by simp [results, Tryd.results22, go_sem, *]) rfl ⟨⟨_, rfl, by rw [HPW.out]; exact HP.out _ _⟩, ?_⟩
          exact hB7
        · have hev' : ((n : Int).tmod 2 == 0) = false := by rw [Int.tmod_eq_emod_of_nonneg (by omega)]; simp; omega
          have hev2 : ((n : Int) % 2 == 0) = false := by simp; omega
          have HPW := Lib.hid (neg_pow_odd n hev)
          have H1 := HX5.out.put2 o0 o1 (.bool true) (.slice a1 l1.length c1)
          have HP := Lib.hid (H1.put2 (cell_far (cell_far r0 (addr_ne (by omega)) _) (addr_ne (by omega)) _) (cell_far (cell_far r1 (addr_ne (by omega)) _) (addr_ne (by omega)) _) (.bool true) (.slice a1 l1.length c1))
          have hB7 := bset (bset (bset (bset hB (p := ⟨g, 0, none⟩) (by simp; omega) (.bool true)) (p := ⟨g, 1, none⟩) (by simp; omega) (.slice a1 l1.length c1)) (p := ⟨w.heap.size + 1, 0, none⟩) (by simp) (.bool true)) (p := ⟨w.heap.size + 1, 1, none⟩) (by simp) (.slice a1 l1.length c1)
          clear H1
          go_wp2
          refine bodyPost_ret (v := .tuple #[.agg #[.bool true, .slice a1 l1.length c1], .int .i64 0]) (by simp [results, Tryd.results22, go_sem, *]) rfl ⟨⟨_, rfl, by rw [HPW.out]; exact HP.out⟩, ?_⟩
          exact hB7
  · have hz : (0 : Int) < (b : Int) := by omega
    obtain ⟨q, hqe⟩ : ∃ q, q = 65536 / b := ⟨_, rfl⟩
    have hdiv : n ≤ q := by rw [hqe]; exact (Nat.le_div_iff_mul_le (by omega)).2 hb
    have hq1 : q ≤ 65536 := by rw [hqe]; exact Nat.div_le_self _ _
    have hdq : (65536 : Int) / (b : Int) = (q : Int) := by rw [hqe]; simp
    have hdq' : Int.tdiv 65536 (b : Int) = (q : Int) := by rw [Int.tdiv_eq_ediv_of_nonneg (by omega), hdq]
    have hnq : ¬ ((q : Int) < (n : Int)) := by omega
    clear hqe hdiv
    clear z0 hb s1
    go_enter Tryd.func22, Tryd.ntmps22
    go_wp2_with fail
    refine (bc _ _ (HX.out.keep belA)).mono ?_
    rintro e w1 ⟨rfl, hb1⟩
    have x0 : w1.cell? ⟨w.heap.size, 0, none⟩ = some (.bool n1) := bkc hb1
    have zx0 := cell_lt x0
    have x1 : w1.cell? ⟨w.heap.size, 1, none⟩ = some (.slice a1 l1.length c1) := bkc hb1
    have r0 : w1.cell? ⟨w.heap.size + 1, 0, none⟩ = some (.bool false) := bkc hb1
    have zr0 := cell_lt r0
    have r0f : w1.frozen? ⟨w.heap.size + 1, 0, none⟩ = false := bkcf (v := .bool false) hb1
    have r1 : w1.cell? ⟨w.heap.size + 1, 1, none⟩ = some (.slice none 0 0) := bkc hb1
    have r1f : w1.frozen? ⟨w.heap.size + 1, 1, none⟩ = false := bkcf (v := .slice none 0 0) hb1
    have hB : Below w.heap.size w w1 := bthen belA hb1
    have hz : w.heap.size ≤ w1.heap.size := hB.size
    have HB1 := Lib.hid hB
    go_wp2_with fail
    refine (bc _ _ (HX.out.keep belA)).mono ?_
    rintro e w2 ⟨rfl, hb2⟩
    have x0 : w2.cell? ⟨w.heap.size, 0, none⟩ = some (.bool n1) := bkc hb2
    have zx0 := cell_lt x0
    have x1 : w2.cell? ⟨w.heap.size, 1, none⟩ = some (.slice a1 l1.length c1) := bkc hb2
    have r0 : w2.cell? ⟨w.heap.size + 1, 0, none⟩ = some (.bool false) := bkc hb2
    have zr0 := cell_lt r0
    have r0f : w2.frozen? ⟨w.heap.size + 1, 0, none⟩ = false := bkcf (v := .bool false) hb2
    have r1 : w2.cell? ⟨w.heap.size + 1, 1, none⟩ = some (.slice none 0 0) := bkc hb2
    have r1f : w2.frozen? ⟨w.heap.size + 1, 1, none⟩ = false := bkcf (v := .slice none 0 0) hb2
    have hB : Below w.heap.size w w2 := bthen belA hb2
    have hz : w.heap.size ≤ w2.heap.size := hB.size
    have HB2 := Lib.hid hB
    go_wp2_with fail
    refine (oc _).mono ?_
    rintro e w3 ⟨⟨v3, rfl, hi3⟩, hb3⟩
    have x0 : w3.cell? ⟨w.heap.size, 0, none⟩ = some (.bool n1) := bkc hb3
    have zx0 := cell_lt x0
    have x1 : w3.cell? ⟨w.heap.size, 1, none⟩ = some (.slice a1 l1.length c1) := bkc hb3
    have r0 : w3.cell? ⟨w.heap.size + 1, 0, none⟩ = some (.bool false) := bkc hb3
    have zr0 := cell_lt r0
    have r0f : w3.frozen? ⟨w.heap.size + 1, 0, none⟩ = false := bkcf (v := .bool false) hb3
    have r1 : w3.cell? ⟨w.heap.size + 1, 1, none⟩ = some (.slice none 0 0) := bkc hb3
    have r1f : w3.frozen? ⟨w.heap.size + 1, 1, none⟩ = false := bkcf (v := .slice none 0 0) hb3
    have hB : Below w.heap.size w w3 := bthen belA hb3
    have hz : w.heap.size ≤ w3.heap.size := hB.size
    have HB3 := Lib.hid hB
    have HI3 := Lib.hid hi3
    obtain ⟨n3, a3, c3, l3, rfl, -, -, -, -⟩ := hi3
    unfold iv at *
    have hsg : x.sign ≠ 0 := by rw [ne_eq, Int.sign_eq_zero_iff_zero]; exact h0
    have hsg' : (x.sign == 0) = false := by simp [h0]
    have hb1' : ((b : Int) == 1) = false := by simp; omega
    clear hsg
    go_wp2_with fail
    refine (sc _ _ (HX.out.keep belA)).mono ?_
    rintro e w4 ⟨rfl, hb4⟩
    have x0 : w4.cell? ⟨w.heap.size, 0, none⟩ = some (.bool n1) := bkc hb4
    have zx0 := cell_lt x0
    have x1 : w4.cell? ⟨w.heap.size, 1, none⟩ = some (.slice a1 l1.length c1) := bkc hb4
    have r0 : w4.cell? ⟨w.heap.size + 1, 0, none⟩ = some (.bool false) := bkc hb4
    have zr0 := cell_lt r0
    have r0f : w4.frozen? ⟨w.heap.size + 1, 0, none⟩ = false := bkcf (v := .bool false) hb4
    have r1 : w4.cell? ⟨w.heap.size + 1, 1, none⟩ = some (.slice none 0 0) := bkc hb4
    have r1f : w4.frozen? ⟨w.heap.size + 1, 1, none⟩ = false := bkcf (v := .slice none 0 0) hb4
    have o0 : w4.cell? ⟨w3.heap.size, 0, none⟩ = some (.bool n3) := bkc hb4
    have zo0 := cell_lt o0
    have o0f : w4.frozen? ⟨w3.heap.size, 0, none⟩ = false := bkcf (v := .bool n3) hb4
    have o1 : w4.cell? ⟨w3.heap.size, 1, none⟩ = some (.slice a3 l3.length c3) := bkc hb4
    have o1f : w4.frozen? ⟨w3.heap.size, 1, none⟩ = false := bkcf (v := .slice a3 l3.length c3) hb4
    have hB : Below w.heap.size w w4 := bthen belA hb4
    have hz : w.heap.size ≤ w4.heap.size := hB.size
    have HB4 := Lib.hid hB
    generalize x.sign = sx at *
    go_wp2_with fail
    refine (bc _ _ (HX.out.keep belA)).mono ?_
    rintro e w5 ⟨rfl, hb5⟩
    have x0 : w5.cell? ⟨w.heap.size, 0, none⟩ = some (.bool n1) := bkc hb5
    have zx0 := cell_lt x0
    have x1 : w5.cell? ⟨w.heap.size, 1, none⟩ = some (.slice a1 l1.length c1) := bkc hb5
    have r0 : w5.cell? ⟨w.heap.size + 1, 0, none⟩ = some (.bool false) := bkc hb5
    have zr0 := cell_lt r0
    have r0f : w5.frozen? ⟨w.heap.size + 1, 0, none⟩ = false := bkcf (v := .bool false) hb5
    have r1 : w5.cell? ⟨w.heap.size + 1, 1, none⟩ = some (.slice none 0 0) := bkc hb5
    have r1f : w5.frozen? ⟨w.heap.size + 1, 1, none⟩ = false := bkcf (v := .slice none 0 0) hb5
    have o0 : w5.cell? ⟨w3.heap.size, 0, none⟩ = some (.bool n3) := bkc hb5
    have zo0 := cell_lt o0
    have o0f : w5.frozen? ⟨w3.heap.size, 0, none⟩ = false := bkcf (v := .bool n3) hb5
    have o1 : w5.cell? ⟨w3.heap.size, 1, none⟩ = some (.slice a3 l3.length c3) := bkc hb5
    have o1f : w5.frozen? ⟨w3.heap.size, 1, none⟩ = false := bkcf (v := .slice a3 l3.length c3) hb5
    have hB : Below w.heap.size w w5 := bthen belA hb5
    have hz : w.heap.size ≤ w5.heap.size := hB.size
    have HB5 := Lib.hid hB
    have HI5 := Lib.hid (HI3.out.keep (bthen (bthen (bal (Below.refl _ _) _) hb4) hb5))
    have hg : w.heap.size + 1 < w3.heap.size := by omega
    clear HI3 hb4 hb5 hb3 hb2 hb1 HB1 HB2 HB3 HB4 bc oc sc
    generalize w3.heap.size = g at *
    go_wp2_with fail
    go_loopw [1] (fun y wr => ∃ (j : Nat) (n6 : Bool) (a6 : Option Addr) (k6 c6 : Nat), j ≤ n ∧ y = .int .i64 ((n : Int) - (j : Int)) ∧ IsInt wr (.agg #[.bool n6, .slice a6 k6 c6]) (x ^ j) ∧ wr.cell? ⟨g, 0, none⟩ = some (.bool n6) ∧ wr.cell? ⟨g, 1, none⟩ = some (.slice a6 k6 c6) ∧ wr.frozen? ⟨g, 0, none⟩ = false ∧ wr.frozen? ⟨g, 1, none⟩ = false ∧ wr.cell? ⟨w.heap.size, 0, none⟩ = some (.bool n1) ∧ wr.cell? ⟨w.heap.size, 1, none⟩ = some (.slice a1 l1.length c1) ∧ wr.cell? ⟨w.heap.size + 1, 0, none⟩ = some (.bool false) ∧ wr.cell? ⟨w.heap.size + 1, 1, none⟩ = some (.slice none 0 0) ∧ wr.frozen? ⟨w.heap.size + 1, 0, none⟩ = false ∧ wr.frozen? ⟨w.heap.size + 1, 1, none⟩ = false ∧ Below w.heap.size w wr) (fun y _ => (intOf y).toNat)
    case atStart => exact ⟨0, n3, a3, _, c3, Nat.zero_le _, by simp, by simpa using HI5.out, o0, o1, o0f, o1f, x0, x1, r0, r1, r0f, r1f, hB⟩
    case round =>
      obtain ⟨j, n6, a6, k6, c6, hj, rfl, hi6, o0, o1, o0f, o1f, x0, x1, r0, r1, r0f, r1f, hB⟩ := hrel
      have HI6 := Lib.hid hi6
      have HB6 := Lib.hid hB
      by_cases hjn : j < n
      · have hjn' : (0 : Int) < (n : Int) - (j : Int) := by omega
        go_wp2_with fail
        refine (mc _ _ j _ HI6.out (HX.out.keep HB6.out) (hq j (by omega))).mono ?_
        rintro e w7 ⟨⟨v7, rfl, hi7⟩, hb7⟩
        have x0 : w7.cell? ⟨w.heap.size, 0, none⟩ = some (.bool n1) := bkc hb7
        have zx0 := cell_lt x0
        have x1 : w7.cell? ⟨w.heap.size, 1, none⟩ = some (.slice a1 l1.length c1) := bkc hb7
        have r0 : w7.cell? ⟨w.heap.size + 1, 0, none⟩ = some (.bool false) := bkc hb7
        have zr0 := cell_lt r0
        have r0f : w7.frozen? ⟨w.heap.size + 1, 0, none⟩ = false := bkcf (v := .bool false) hb7
        have r1 : w7.cell? ⟨w.heap.size + 1, 1, none⟩ = some (.slice none 0 0) := bkc hb7
        have r1f : w7.frozen? ⟨w.heap.size + 1, 1, none⟩ = false := bkcf (v := .slice none 0 0) hb7
        have o0 : w7.cell? ⟨g, 0, none⟩ = some (.bool n6) := bkc hb7
        have zo0 := cell_lt o0
        have o0f : w7.frozen? ⟨g, 0, none⟩ = false := bkcf (v := .bool n6) hb7
        have o1 : w7.cell? ⟨g, 1, none⟩ = some (.slice a6 k6 c6) := bkc hb7
        have o1f : w7.frozen? ⟨g, 1, none⟩ = false := bkcf (v := .slice a6 k6 c6) hb7
        have hB : Below w.heap.size w w7 := bthen belA hb7
        have hz : w.heap.size ≤ w7.heap.size := hB.size
        have HP := Lib.hid (hi7.put2 o0 o1)
        obtain ⟨n7, a7, c7, l7, rfl, -, -, -, -⟩ := hi7
        unfold iv at *
        have hB7 := bset (bset hB (p := ⟨g, 0, none⟩) (by simp; omega) (.bool n7)) (p := ⟨g, 1, none⟩) (by simp; omega) (.slice a7 l7.length c7)
        go_wp2
        refine ⟨⟨j + 1, n7, a7, l7.length, c7, by omega, by go_num, by rw [Int.pow_succ]; exact HP.out _ _, cell_far (cell_here o0 _) (by simp) _, cell_here (cell_far o1 (by simp) _) _, by simpa [go_sem] using o0f, by simpa [go_sem] using o1f, cell_far (cell_far x0 (addr_ne (by omega)) _) (addr_ne (by omega)) _, cell_far (cell_far x1 (addr_ne (by omega)) _) (addr_ne (by omega)) _, cell_far (cell_far r0 (addr_ne (by omega)) _) (addr_ne (by omega)) _, cell_far (cell_far r1 (addr_ne (by omega)) _) (addr_ne (by omega)) _, by simpa [go_sem] using r0f, by simpa [go_sem] using r1f, hB7⟩, by simp [intOf]; omega⟩
      · obtain rfl : j = n := by omega
        have e0 : (j : Int) - (j : Int) = 0 := by omega
        have HP := Lib.hid (hi6.put2 r0 r1)
        have hB7 := bset (bset hB (p := ⟨w.heap.size + 1, 0, none⟩) (by simp) (.bool n6)) (p := ⟨w.heap.size + 1, 1, none⟩) (by simp) (.slice a6 k6 c6)
        go_wp2
        refine bodyPost_ret (v := .tuple #[.agg #[.bool n6, .slice a6 k6 c6], .int .i64 0]) (by simp [results, Tryd.results22, go_sem, *]) rfl ⟨⟨_, rfl, HP.out _ _⟩, ?_⟩
        exact hB7
end Go.Proofs.YtdllbdfchloijaaDoor

