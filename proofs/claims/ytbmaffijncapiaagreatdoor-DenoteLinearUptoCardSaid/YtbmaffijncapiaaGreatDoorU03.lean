/- Texts of this seat, laid together (what the earlier ones leave out): DwF, DwFu, Vo, Vq. Each opens with its own remark, which says what it proves, and under which conditions. -/
import Derived.Test.YtbmaffijncapiaaGreatDoorL01
import Derived.Test.YtbmaffijncapiaaGreatDoorL02
import Derived.Test.YtbmaffijncapiaaGreatDoorL03
import Derived.Test.YtbmaffijncapiaaGreatDoorL04
import Derived.Test.YtbmaffijncapiaaGreatDoorL05
import Derived.Test.YtbmaffijncapiaaGreatDoorL06
import Derived.Test.YtbmaffijncapiaaGreatDoorL07
import Derived.Test.YtbmaffijncapiaaGreatDoorL08
import Derived.Test.YtbmaffijncapiaaGreatDoorL09
import Derived.Test.YtbmaffijncapiaaGreatDoorL10
import Derived.Test.YtbmaffijncapiaaGreatDoorL11
import Derived.Test.YtbmaffijncapiaaGreatDoorL12
import Derived.Test.YtbmaffijncapiaaGreatDoorL13
import Derived.Test.YtbmaffijncapiaaGreatDoorL14
import Derived.Test.YtbmaffijncapiaaGreatDoorL15
import Derived.Test.YtbmaffijncapiaaGreatDoorL16
import Derived.Test.YtbmaffijncapiaaGreatDoorL17
import Derived.Test.YtbmaffijncapiaaGreatDoorL18
import Derived.Test.YtbmaffijncapiaaGreatDoorL19
import Derived.Test.YtbmaffijncapiaaGreatDoorL20
import Derived.Test.YtbmaffijncapiaaGreatDoorL21
import Derived.Test.YtbmaffijncapiaaGreatDoorL22
import Derived.Test.YtbmaffijncapiaaGreatDoorL23
import Derived.Test.YtbmaffijncapiaaGreatDoorL24
import Derived.Test.YtbmaffijncapiaaGreatDoorL25
import Derived.Test.YtbmaffijncapiaaGreatDoorL26
import Derived.Test.YtbmaffijncapiaaGreatDoorL27
import Derived.Test.YtbmaffijncapiaaGreatDoorL28
import Derived.Test.YtbmaffijncapiaaGreatDoorL29
import Derived.Test.YtbmaffijncapiaaGreatDoorL30
import Derived.Test.YtbmaffijncapiaaGreatDoorL31
import Derived.Test.YtbmaffijncapiaaGreatDoorL32
import Derived.Test.YtbmaffijncapiaaGreatDoorL33
import Derived.Test.YtbmaffijncapiaaGreatDoorU01
import Derived.Test.YtbmaffijncapiaaGreatDoorU02
import Derived.WalkKit
import Derived.ProofKit
import Derived.OpenShut
import Derived.Deep.QuietTactic
import Derived.BigQuiet
import Derived.Outline
import Derived.Lib.Hide
import Derived.WalkSmall
import Derived.WalkSpells
import Derived.WalkLawsBesides
import Derived.Deep.RegionWith
import Derived.Deep.RegionHeld3
import Derived.Laws.CopyOwn
import Derived.Shelf.Small.Bits
import Derived.Laws.AppendOwn
import Derived.Deep.AppendLies
import Derived.OneCell
import Derived.Laws.BitsAllLaws
import Derived.Shelf.Spec.TrailingZeros
import Derived.Shelf.Strings.Builder1
import Derived.Shelf.Strings.Trim
import Derived.Deep.Cut
import Derived.Deep.DeepCutAuto
import Derived.ArgAppend
import Derived.Deep.DeepFit
import Derived.RegionTactic
import Derived.ChangeAlike
import Derived.Laws.OwnMore
import Derived.Deep.Onto
import Derived.Shelf.Abstract
import Derived.Laws.EntriesVeiled
import Derived.Deep.DrawnRows
import Derived.Deep.RegionLaw
import Derived.Deep.LoopGhost
import Derived.RangeFuncNested
import Derived.RangeFuncBound
import Derived.RangeFuncCalls
import Derived.RangeFuncLeaves
import Derived.Shelf.RegionOpen
import Derived.OwnWalkIn
import Derived.TacticsInMore
import Derived.LoopNIn
import Derived.LoopIn
import Derived.Laws.CopyRow
import Derived.Laws.Rows
import Derived.Laws.Tables
import Derived.StillTail
import Derived.Deep.Quiet
import Derived.StillTailTactics
import Derived.Lib.AppendZeros
import Derived.Laws.IdiomStrings
import Derived.Laws.BytesArg
import Derived.Laws.RangeString
import Derived.Lib.OthersKept
import Derived.Maps.AppendAt
import Derived.Shelf.Strings.OnBuilder
import Derived.Lib.SmallJoins
import Derived.Deep.Slices
import Derived.Deep.Matrix
import Derived.Deep.Fields
import Derived.ChangeSame
import Derived.DataShut
import Derived.SizedLaws
set_option linter.unusedVariables false
set_option linter.unusedSimpArgs false
/- DenoteLinear: the law answers true (under way). -/
namespace Go.Proofs.YtbmaffijncapiaaGreatDoor
open Num
open Go.ChangeShapes Go.WideShapes Go.ChangeAt Go.RowKit
attribute [local go_sem ↓] Go.wp_at_zero Go.wp_at_succ
theorem cap_le {l : List Int} {n c : Nat} (h : l = [] ∨ l.length ≤ c) (hn : n ≤ l.length) (n1 : 1 ≤ n) : (n : Int) ≤ (c : Int) := by
  rcases h with rfl | h
  · have : n ≤ 0 := hn
    omega
  · omega
theorem rowI_bd9 {w : World} {v : Value} {l : List Int} (h : RowI w v l) : ∀ j, Bd 64 (l.getD j 0) := fun j => by
  obtain ⟨a, c, -, h⟩ := h
  by_cases hj : j < l.length
  · obtain ⟨b, off, -, -, h5⟩ := h j hj
    unfold I64 at h5; unfold Bd; omega
  · rw [List.getD_eq_getElem?_getD, List.getElem?_eq_none (by omega)]; exact bd_zero
theorem RowI.head {w : World} {a : Option Addr} {c : Nat} {l : List Int} (h : RowI w (.slice a l.length c) l) {n : Nat} (hn : n ≤ l.length) : RowI w (.slice a n c) (l.take n) := by
  obtain ⟨a', c', h1, h2⟩ := h
  cases h1
  refine ⟨a, c, by rw [List.length_take, Nat.min_eq_left hn], fun k hk => ?_⟩
  rw [List.length_take, Nat.min_eq_left hn] at hk
  rw [List.getD_eq_getElem?_getD, List.getElem?_take_of_lt hk, ← List.getD_eq_getElem?_getD]
  exact h2 k (by omega)
set_option maxRecDepth 100000 in
set_option maxHeartbeats 16000000 in
theorem linear_c (ins regs : Int) (ca oa aa ab : Option Addr) (cc oc ac bc : Nat) (code : List Ins) (outs la lb : List Int) (w : World) (hc : InsV w ca cc code) (ho : IntsV w oa oc outs)
    (hla : RowI w (.slice aa la.length ac) la) (hlb : RowI w (.slice ab lb.length bc) lb) (hca : la = [] ∨ la.length ≤ ac) (hcb : lb = [] ∨ lb.length ≤ bc) (h1 : la.length ≤ 1048576) (h2 : lb.length ≤ 1048576) :
    Calls Tryz.prog 6 #[.agg #[.int .i64 ins, .int .i64 regs, .slice ca code.length cc, .slice oa outs.length oc], .slice aa la.length ac, .slice ab lb.length bc] w fun e w' => e = .returned (.bool true) ∧ Below w.heap.size w w' := by
  have HC := Lib.hid (And.intro hc ho)
  have HL := Lib.hid (And.intro hla hlb)
  have hB := Below.refl w.heap.size w
  have LC := Lib.hid (fun V => long9_c ins regs ca oa code.length cc outs.length oc V)
  clear hc ho hla hlb
  go_enter Tryz.func6, Tryz.ntmps6
  go_wp2_with fail
  refine (works9_c _).mono ?_
  rintro e w1 ⟨rfl, hb1⟩
  have p0 : w1.cell? ⟨w.heap.size, 0, none⟩ = some (.int .i64 ins) := bkc hb1
  have zp0 := cell_lt p0
  have p1 : w1.cell? ⟨w.heap.size, 1, none⟩ = some (.int .i64 regs) := bkc hb1
  have p2 : w1.cell? ⟨w.heap.size, 2, none⟩ = some (.slice ca code.length cc) := bkc hb1
  have p3 : w1.cell? ⟨w.heap.size, 3, none⟩ = some (.slice oa outs.length oc) := bkc hb1
  have hB : Below w.heap.size w w1 := bthen (by repeat (first|exact bzR _ _|exact hB|refine bzD ?_|refine bzN ?_|refine bzS ?_|refine bzA ?_)) hb1
  have hz : w.heap.size ≤ w1.heap.size := hB.size
  go_wp2_with fail
  (with_reducible refine (LC.out _).mono ?_)
  rintro e w2 ⟨⟨b2, rfl⟩, hb2⟩
  have p0 : w2.cell? ⟨w.heap.size, 0, none⟩ = some (.int .i64 ins) := bkc hb2
  have zp0 := cell_lt p0
  have p1 : w2.cell? ⟨w.heap.size, 1, none⟩ = some (.int .i64 regs) := bkc hb2
  have p2 : w2.cell? ⟨w.heap.size, 2, none⟩ = some (.slice ca code.length cc) := bkc hb2
  have p3 : w2.cell? ⟨w.heap.size, 3, none⟩ = some (.slice oa outs.length oc) := bkc hb2
  have hB : Below w.heap.size w w2 := bthen (by repeat (first|exact bzR _ _|exact hB|refine bzD ?_|refine bzN ?_|refine bzS ?_|refine bzA ?_)) hb2
  have hz : w.heap.size ≤ w2.heap.size := hB.size
  clear LC hb1 hb2
  cases b2 with
  | true =>
    go_wp2
    go_ret
    exact ⟨rfl, hB⟩
  | false =>
    by_cases h3 : (la.length : Int) < ins
    · go_wp2
      go_ret
      exact ⟨rfl, hB⟩
    by_cases h4 : (lb.length : Int) < ins
    · go_wp2
      go_ret
      exact ⟨rfl, hB⟩
    by_cases h5 : ins < 1
    · go_wp2
      go_ret
      exact ⟨rfl, hB⟩
    obtain ⟨n, rfl⟩ : ∃ n : Nat, ins = n := ⟨ins.toNat, by omega⟩
    have hna : n ≤ la.length := by omega
    have hnb : n ≤ lb.length := by omega
    have n1 : 1 ≤ n := by omega
    have cna : (n : Int) ≤ (ac : Int) := cap_le hca hna n1
    have cnb : (n : Int) ≤ (bc : Int) := cap_le hcb hnb n1
    have cn0 : (0 : Int) ≤ (n : Int) := by omega
    obtain ⟨ba, xa, rfl⟩ : ∃ b o, aa = some ⟨b, o, none⟩ := by
      obtain ⟨a', c', e, h⟩ := HL.out.1; cases e; obtain ⟨b, o, e2, -⟩ := h 0 (by omega); exact ⟨b, o, e2⟩
    obtain ⟨bb, xb, rfl⟩ : ∃ b o, ab = some ⟨b, o, none⟩ := by
      obtain ⟨a', c', e, h⟩ := HL.out.2; cases e; obtain ⟨b, o, e2, -⟩ := h 0 (by omega); exact ⟨b, o, e2⟩
    have LA := Lib.hid (fun V (q : Below w2.heap.size w2 V) => list9_c (.slice (some ⟨ba, xa, none⟩) n ac) (la.take n) V ((HL.out.1.head hna).keep (bthen hB q)) (by rw [List.length_take]; omega))
    have LB := Lib.hid (fun V (q : Below w2.heap.size w2 V) => list9_c (.slice (some ⟨bb, xb, none⟩) n bc) (lb.take n) V ((HL.out.2.head hnb).keep (bthen hB q)) (by rw [List.length_take]; omega))
    have HST := Lib.hid (show ∀ V, Below w2.heap.size w2 V → V.cell? ⟨w.heap.size, 0, none⟩ = some (.int .i64 (n : Int)) from fun V q => bkeep q p0)
    have hBw := Below.refl w2.heap.size w2
    go_wp2
    go_region_held3 (fun V => V.cell? ⟨w.heap.size, 0, none⟩ = some (.int .i64 (n : Int)))
      (first | (refine HST.out _ ?_; (repeat (first|exact bzR _ _|exact hBw|refine bzD ?_|refine bzN ?_|refine bzS ?_|refine bzA ?_)); done) | fail)
      (first
      | (go_at_call 33; (with_reducible refine (LA.out _ ?_).mono ?_); (repeat (first|exact bzR _ _|exact hBw|refine bzD ?_|refine bzN ?_|refine bzS ?_|refine bzA ?_)); rintro e w3 ⟨⟨vx, rfl, hx⟩, hb3⟩; (have hBd : Below w2.heap.size w2 w3 := bthen (by repeat (first|exact bzR _ _|exact hBw|refine bzD ?_|refine bzN ?_|refine bzS ?_|refine bzA ?_)) hb3); have hBx := hBd; clear hBw; have hBw := hBd; clear hBd; have HX := Lib.hid hx; clear hx)
      | (go_at_call 33; (with_reducible refine (LB.out _ ?_).mono ?_); (repeat (first|exact bzR _ _|exact hBw|refine bzD ?_|refine bzN ?_|refine bzS ?_|refine bzA ?_)); rintro e w4 ⟨⟨vy, rfl, hy⟩, hb4⟩; (have hBd : Below w2.heap.size w2 w4 := bthen (by repeat (first|exact bzR _ _|exact hBw|refine bzD ?_|refine bzN ?_|refine bzS ?_|refine bzA ?_)) hb4); have hBy := hBd; clear hBw; have hBw := hBd; clear hBd; have HY := Lib.hid hy; clear hy)
      | fail)
    have HX4 := Lib.hid (HX.out.keep lims_int hb4)
    have hzw : w2.heap.size ≤ w4.heap.size := hBy.size
    have lx : (la.take n).length = n := by rw [List.length_take]; omega
    have ly : (lb.take n).length = n := by rw [List.length_take]; omega
    have bX := rowI_bd9 (HL.out.1.head hna)
    have bY := rowI_bd9 (HL.out.2.head hnb)
    obtain ⟨lX, hlX⟩ : ∃ l, la.take n = l := ⟨_, rfl⟩
    obtain ⟨lY, hlY⟩ : ∃ l, lb.take n = l := ⟨_, rfl⟩
    rw [hlX] at HX HX4 lx bX
    rw [hlY] at HY ly bY
    have HBX := Lib.hid bX
    have HBY := Lib.hid bY
    clear bX bY
    obtain ⟨xa', xc, e1, hxc, hxv⟩ := HX4.out.row.view
    obtain ⟨ya', yc, e2, hyc, hyv⟩ := HY.out.row.view
    subst e1 e2
    rw [lx] at hxv ⊢
    rw [ly] at hyv ⊢
    have hB4 := bthen hB hBy
    have HVX := Lib.hid hxv
    have HVY := Lib.hid hyv
    have hY0 := Below.refl w4.heap.size w4
    clear hxv hyv HX HST LA LB hBx
    go_wp2
    go_loopw [9, 58] (fun va x wr => ∃ j : Nat, j ≤ n ∧ x = .int .i64 j ∧ Hid (OwnF IsInt 50 w4 wr va j (fun i => lX.getD i 0 + lY.getD i 0))) (fun _ x _ => n - (intOf x).toNat)
    case atStart => exact ⟨0, Nat.zero_le _, rfl, Lib.hid (OwnF.nil _ _ _ hY0)⟩
    case round =>
      obtain ⟨j, hj, rfl, hF⟩ := hrel
      have hBr := hF.out.bel
      obtain ⟨fa, fc, hfv⟩ : ∃ a c, _ = Value.slice a j c := by obtain ⟨a, c, h, _⟩ := hF.out.view; exact ⟨a, c, h⟩
      subst hfv
      by_cases hlt : j < n
      · have hltI : (j : Int) < (n : Int) := by omega
        obtain ⟨xb', xo, nb, ad, len, cp, rfl, q0, q1, q2⟩ := HVX.out j hlt
        obtain ⟨yb', yo, nb2, ad2, len2, cp2, rfl, r0, r1, r2⟩ := HVY.out j hlt
        have AC := Lib.hid (fun W (q : Below wr.heap.size wr W) => addI_c (.agg #[.bool nb, .slice ad len cp]) (.agg #[.bool nb2, .slice ad2 len2 cp2]) (lX.getD j 0) (lY.getD j 0) 64 W (q2.keep (bthen hBr q)) (r2.keep (bthen hBr q)) (HBX.out j) (HBY.out j) (by omega))
        have HSN := Lib.hid (snoc_fn (fun i => lX.getD i 0 + lY.getD i 0) j)
        have HS := Lib.hid (show ∀ W, Below w4.heap.size w4 W → W.cell? ⟨xb', xo + j * 2, none⟩ = some (.bool nb) ∧ W.cell? ⟨xb', xo + j * 2 + 1, none⟩ = some (.slice ad len cp) ∧ W.cell? ⟨yb', yo + j * 2, none⟩ = some (.bool nb2) ∧ W.cell? ⟨yb', yo + j * 2 + 1, none⟩ = some (.slice ad2 len2 cp2) from fun W q => ⟨bkeep q q0, bkeep q q1, bkeep q r0, bkeep q r1⟩)
        obtain ⟨z, hz⟩ : ∃ z, lX.getD j 0 + lY.getD j 0 = z := ⟨_, rfl⟩
        simp only [hz] at AC HSN
        have hBw := Below.refl wr.heap.size wr
        clear q0 q1 q2 r0 r1 r2
        obtain ⟨q0, q1, r0, r1⟩ := HS.out wr hBr
        have hBc := hBr
        have z1 := cell_lt q0
        have z2 := cell_lt r0
        have HF := hF
        clear hF
        go_wp2
        go_region_held3 (fun W => W.cell? ⟨xb', xo + j * 2, none⟩ = some (.bool nb) ∧ W.cell? ⟨xb', xo + j * 2 + 1, none⟩ = some (.slice ad len cp) ∧ W.cell? ⟨yb', yo + j * 2, none⟩ = some (.bool nb2) ∧ W.cell? ⟨yb', yo + j * 2 + 1, none⟩ = some (.slice ad2 len2 cp2))
          (first | (refine HS.out _ ?_; (repeat (first|exact bzR _ _|exact hBc|refine bzD ?_|refine bzN ?_|refine bzS ?_|refine bzA ?_)); done) | fail)
          (first
          | (refine step_num0 elInt (by decide) lims_int (by rfl) (by rfl) HF5.out HV5.out (by rfl) (by rfl) (by omega) ?_; intro v' w8 hF8 _ _; have HF8 := Lib.hid (hF8.congr' HSN.out); (clear hBc; have hBc := hF8.bel); clear hF8)
          | (go_at_call 37; (with_reducible refine (AC.out _ ?_).mono ?_); (repeat (first|exact bzR _ _|exact hBw|refine bzD ?_|refine bzN ?_|refine bzS ?_|refine bzA ?_)); rintro e w5 ⟨⟨v5, rfl, hi5⟩, hb5⟩; (have hBd : Below wr.heap.size wr w5 := bthen (by repeat (first|exact bzR _ _|exact hBw|refine bzD ?_|refine bzN ?_|refine bzS ?_|refine bzA ?_)) hb5; clear hBw; have hBw := hBd; clear hBd); (clear hBc; have hBc := bthen hBr hBw); have HF5 := Lib.hid (HF.out.below lims_int hBw); have HV5 := Lib.hid hi5; obtain ⟨n5, a5, c5, l5, rfl, -⟩ := hi5; unfold iv at *)
          | fail)
        all_goals
          go_wp2
          exact ⟨⟨j + 1, hlt, by go_num, HF8⟩, meas hlt (by go_num) rfl⟩
      · obtain rfl : n = j := by omega
        have HZ := Lib.hid (show PRow 0 wr _ ((List.range n).map fun i => lX.getD i 0 + lY.getD i 0) from (OwnF.row (w0 := w4) (l := (List.range n).map fun i => lX.getD i 0 + lY.getD i 0) (by
          rw [List.length_map, List.length_range]
          exact hF.out.congr' fun k hk => (range_getD (fun i => lX.getD i 0 + lY.getD i 0) hk).symm)).rebase (Nat.zero_le _))
        have HX5 := Lib.hid (show PRow 0 wr (.slice xa' n xc) lX from by have h := (HX4.out.row.keep lims_int hBr).rebase (Nat.zero_le _); rwa [lx] at h)
        have HY5 := Lib.hid (show PRow 0 wr (.slice ya' n yc) lY from by have h := (HY.out.row.keep lims_int hBr).rebase (Nat.zero_le _); rwa [ly] at h)
        have hZB : ∀ j, Bd 65 (((List.range n).map fun i => lX.getD i 0 + lY.getD i 0).getD j 0) := fun j => by
          by_cases hj : j < n
          · rw [range_getD _ hj]
            have h1 := HBX.out j
            have h2 := HBY.out j
            unfold Bd at *; omega
          · rw [List.getD_eq_getElem?_getD, List.getElem?_eq_none (by simp; omega)]; exact bd_zero
        obtain ⟨lZ, hlZ⟩ : ∃ l, ((List.range n).map fun i => lX.getD i 0 + lY.getD i 0) = l := ⟨_, rfl⟩
        have lz : lZ.length = n := by rw [← hlZ]; simp
        rw [hlZ] at HZ hZB
        have HLZ := Lib.hid (show ∀ j, j < n → lZ.getD j 0 = lX.getD j 0 + lY.getD j 0 from fun j hj => by rw [← hlZ]; exact range_getD _ hj)
        have hBr4 := bthen hB4 hBr
        have AX := Lib.hid (fun V (q : Below wr.heap.size wr V) => apply_cQ (n : Int) regs ca oa cc oc code outs (.slice xa' n xc) lX V (HC.out.1.keep (bthen hBr4 q)) (HC.out.2.keep (bthen hBr4 q)) (HX5.out.keep lims_int q) (fun j => (HBX.out j).mono (by omega)) (by omega))
        have AY := Lib.hid (fun V (q : Below wr.heap.size wr V) => apply_cQ (n : Int) regs ca oa cc oc code outs (.slice ya' n yc) lY V (HC.out.1.keep (bthen hBr4 q)) (HC.out.2.keep (bthen hBr4 q)) (HY5.out.keep lims_int q) (fun j => (HBY.out j).mono (by omega)) (by omega))
        have AZ := Lib.hid (fun V (q : Below wr.heap.size wr V) => apply_cQ (n : Int) regs ca oa cc oc code outs _ lZ V (HC.out.1.keep (bthen hBr4 q)) (HC.out.2.keep (bthen hBr4 q)) (HZ.out.keep lims_int q) (fun j => (hZB j).mono (by omega)) (by omega))
        have HZB := Lib.hid hZB
        have hw2r : Below w2.heap.size w2 wr := bthen hBy hBr
        have RC := Lib.hid (fun V (q : Below wr.heap.size wr V) => rows_c (n : Int) regs ca oa cc oc code outs V (HC.out.1.keep (bthen hBr4 q)) (HC.out.2.keep (bthen hBr4 q)))
        have p0 := bkeep hw2r p0
        have p1 := bkeep hw2r p1
        have p2 := bkeep hw2r p2
        have p3 := bkeep hw2r p3
        have hB := bthen hB hw2r
        have hz := hB.size
        have hq := Below.refl wr.heap.size wr
        clear hF hZB hlZ hB4 hBr4 hBy hw2r
        go_wp2_with fail
        (with_reducible refine (AX.out _ ?_).mono ?_); (repeat (first|exact bzR _ _|exact hq|refine bzD ?_|refine bzN ?_|refine bzS ?_|refine bzA ?_))
        rintro e w10 ⟨⟨vu, qu, rfl, hu⟩, hb10⟩
        have hqn : Below wr.heap.size wr w10 := bthen (by repeat (first|exact bzR _ _|exact hq|refine bzD ?_|refine bzN ?_|refine bzS ?_|refine bzA ?_)) hb10
        clear hq
        have hq := hqn
        clear hqn
        have HU := Lib.hid hu
        clear hu
        have p0 : w10.cell? ⟨w.heap.size, 0, none⟩ = some (.int .i64 (n : Int)) := bkc hb10
        have zp0 := cell_lt p0
        have p1 : w10.cell? ⟨w.heap.size, 1, none⟩ = some (.int .i64 regs) := bkc hb10
        have p2 : w10.cell? ⟨w.heap.size, 2, none⟩ = some (.slice ca code.length cc) := bkc hb10
        have p3 : w10.cell? ⟨w.heap.size, 3, none⟩ = some (.slice oa outs.length oc) := bkc hb10
        have hB : Below w.heap.size w w10 := bthen (by repeat (first|exact bzR _ _|exact hB|refine bzD ?_|refine bzN ?_|refine bzS ?_|refine bzA ?_)) hb10
        have hz : w.heap.size ≤ w10.heap.size := hB.size
        go_wp2_with fail
        (with_reducible refine (AY.out _ ?_).mono ?_); (repeat (first|exact bzR _ _|exact hq|refine bzD ?_|refine bzN ?_|refine bzS ?_|refine bzA ?_))
        rintro e w11 ⟨⟨vv, qv, rfl, hv⟩, hb11⟩
        have hqn : Below wr.heap.size wr w11 := bthen (by repeat (first|exact bzR _ _|exact hq|refine bzD ?_|refine bzN ?_|refine bzS ?_|refine bzA ?_)) hb11
        clear hq
        have hq := hqn
        clear hqn
        have HV := Lib.hid hv
        clear hv
        have p0 : w11.cell? ⟨w.heap.size, 0, none⟩ = some (.int .i64 (n : Int)) := bkc hb11
        have zp0 := cell_lt p0
        have p1 : w11.cell? ⟨w.heap.size, 1, none⟩ = some (.int .i64 regs) := bkc hb11
        have p2 : w11.cell? ⟨w.heap.size, 2, none⟩ = some (.slice ca code.length cc) := bkc hb11
        have p3 : w11.cell? ⟨w.heap.size, 3, none⟩ = some (.slice oa outs.length oc) := bkc hb11
        have hB : Below w.heap.size w w11 := bthen (by repeat (first|exact bzR _ _|exact hB|refine bzD ?_|refine bzN ?_|refine bzS ?_|refine bzA ?_)) hb11
        have hz : w.heap.size ≤ w11.heap.size := hB.size
        go_wp2_with fail
        (with_reducible refine (AZ.out _ ?_).mono ?_); (repeat (first|exact bzR _ _|exact hq|refine bzD ?_|refine bzN ?_|refine bzS ?_|refine bzA ?_))
        rintro e w12 ⟨⟨vw, qw, rfl, hw⟩, hb12⟩
        have hqn : Below wr.heap.size wr w12 := bthen (by repeat (first|exact bzR _ _|exact hq|refine bzD ?_|refine bzN ?_|refine bzS ?_|refine bzA ?_)) hb12
        clear hq
        have hq := hqn
        clear hqn
        have HW := Lib.hid hw
        clear hw
        have p0 : w12.cell? ⟨w.heap.size, 0, none⟩ = some (.int .i64 (n : Int)) := bkc hb12
        have zp0 := cell_lt p0
        have p1 : w12.cell? ⟨w.heap.size, 1, none⟩ = some (.int .i64 regs) := bkc hb12
        have p2 : w12.cell? ⟨w.heap.size, 2, none⟩ = some (.slice ca code.length cc) := bkc hb12
        have p3 : w12.cell? ⟨w.heap.size, 3, none⟩ = some (.slice oa outs.length oc) := bkc hb12
        have hB : Below w.heap.size w w12 := bthen (by repeat (first|exact bzR _ _|exact hB|refine bzD ?_|refine bzN ?_|refine bzS ?_|refine bzA ?_)) hb12
        have hz : w.heap.size ≤ w12.heap.size := hB.size
        go_wp2_with fail
        (with_reducible refine (RC.out _ ?_).mono ?_); (repeat (first|exact bzR _ _|exact hq|refine bzD ?_|refine bzN ?_|refine bzS ?_|refine bzA ?_))
        rintro e w13 ⟨⟨vr, qr, rfl, hr⟩, hb13⟩
        have hqn : Below wr.heap.size wr w13 := bthen (by repeat (first|exact bzR _ _|exact hq|refine bzD ?_|refine bzN ?_|refine bzS ?_|refine bzA ?_)) hb13
        clear hq
        have hq := hqn
        clear hqn
        have HR := Lib.hid hr
        clear hr
        have p0 : w13.cell? ⟨w.heap.size, 0, none⟩ = some (.int .i64 (n : Int)) := bkc hb13
        have zp0 := cell_lt p0
        have p1 : w13.cell? ⟨w.heap.size, 1, none⟩ = some (.int .i64 regs) := bkc hb13
        have p2 : w13.cell? ⟨w.heap.size, 2, none⟩ = some (.slice ca code.length cc) := bkc hb13
        have p3 : w13.cell? ⟨w.heap.size, 3, none⟩ = some (.slice oa outs.length oc) := bkc hb13
        have hB : Below w.heap.size w w13 := bthen (by repeat (first|exact bzR _ _|exact hB|refine bzD ?_|refine bzN ?_|refine bzS ?_|refine bzA ?_)) hb13
        have hz : w.heap.size ≤ w13.heap.size := hB.size
        by_cases c1 : qu = 0
        rotate_left
        · have d1 : (qu != 0) = true := by simpa using c1
          go_wp2
          go_ret
          exact ⟨rfl, hB⟩
        subst c1
        by_cases c2 : qv = 0
        rotate_left
        · have d1 : (qv != 0) = true := by simpa using c2
          go_wp2
          go_ret
          exact ⟨rfl, hB⟩
        subst c2
        by_cases c3 : qw = 0
        rotate_left
        · have d1 : (qw != 0) = true := by simpa using c3
          go_wp2
          go_ret
          exact ⟨rfl, hB⟩
        subst c3
        by_cases c4 : qr = 0
        rotate_left
        · have d1 : (qr != 0) = true := by simpa using c4
          go_wp2
          go_ret
          exact ⟨rfl, hB⟩
        subst c4
        obtain ⟨hp, -, hxx, ex, fU⟩ := HU.out.ok
        obtain ⟨-, -, hyy, ey, fV⟩ := HV.out.ok
        obtain ⟨-, -, hzz, ez, fW⟩ := HW.out.ok
        obtain ⟨-, S, es, oR⟩ := HR.out.ok
        have LK := linOk hp lx ly lz ex ey ez es HLZ.out (fun j => (HBX.out j).mono (by omega)) (fun j => (HBY.out j).mono (by omega)) (fun j => (HZB.out j).mono (by omega))
        have hn128 : n ≤ 128 := by have := hp.i2; have := hp.r1; omega
        replace fU := ((fU.keep hb11).keep hb12).keep hb13
        replace fV := (fV.keep hb12).keep hb13
        replace fW := fW.keep hb13
        obtain ⟨LU, hLU⟩ : ∃ L, (outsF outs hxx).flatten = L := ⟨_, rfl⟩
        obtain ⟨LV, hLV⟩ : ∃ L, (outsF outs hyy).flatten = L := ⟨_, rfl⟩
        obtain ⟨LW, hLW⟩ : ∃ L, (outsF outs hzz).flatten = L := ⟨_, rfl⟩
        obtain ⟨G, hG⟩ : ∃ G, outsF outs S = G := ⟨_, rfl⟩
        rw [hLU, hLV, hLW, hG] at LK
        rw [hLU] at fU
        rw [hLV] at fV
        rw [hLW] at fW
        rw [hG] at oR
        have HRW := Lib.hid (ownP_isL0 oR)
        have HX13 := Lib.hid (show PRow 0 w13 (.slice xa' n xc) lX from (((HX5.out.keep lims_int hb10).keep lims_int hb11).keep lims_int hb12).keep lims_int hb13)
        obtain ⟨m, hm⟩ : ∃ m, outs.length = m := ⟨_, rfl⟩
        rw [hm] at LK
        have hm128 : m ≤ 128 := by have := hp.o2; omega
        have HLK := Lib.hid LK
        obtain ⟨ua, uc, rfl⟩ := FrRow.ex fU
        obtain ⟨va, vc, rfl⟩ := FrRow.ex fV
        obtain ⟨wa, wc, rfl⟩ := FrRow.ex fW
        obtain ⟨ra, rc, e, -, hrv⟩ := HRW.out.view
        subst e
        rw [HLK.out.ul] at fU ⊢
        rw [HLK.out.vl] at fV ⊢
        rw [HLK.out.wl] at fW ⊢
        rw [HLK.out.gl] at HRW ⊢
        have HFU := Lib.hid fU
        have HFV := Lib.hid fV
        have HFW := Lib.hid fW
        have dm : ((m : Int) != (m : Int)) = false := by simp
        have hB13 := hB
        have HB413 := Lib.hid (bthen hBr hq)
        clear hBr
        clear fU fV fW LK hLU hLV hLW hG hm hrv oR ex ey ez es hp p0 p1 p2 p3 HU HV HW HR hb10 hb11 hb12 hb13 hq AX AY AZ RC HX5 HY5 HZ HC HZB HLZ
        have h13 := Below.refl w13.heap.size w13
        go_wp2
        go_loopw [132] (fun x wq => ∃ i : Nat, i ≤ m ∧ x = .int .i64 i ∧ Below w13.heap.size w13 wq) (fun x _ => m - (intOf x).toNat)
        case atStart => exact ⟨0, Nat.zero_le _, rfl, h13⟩
        case round =>
          rename World => wq
          obtain ⟨i, hi, rfl, hBq⟩ := hrel
          by_cases hli : i < m
          · have hltI : (i : Int) < (m : Int) := by omega
            obtain ⟨a', c', e', -, hv⟩ := (HRW.out.keep (prs_frow 0) hBq).view
            have hiG : i < G.length := by rw [HLK.out.gl]; exact hli
            obtain ⟨gb, go, u, e2, hu, hrow⟩ := hv i hiG
            obtain ⟨rfl, -, rfl⟩ := Value.slice.inj e'
            subst e2
            have hgi : G[i] = G.getD i [] := by simp [hiG]
            rw [hgi] at hrow
            have hrl : (G.getD i []).length = n := HLK.out.row i hli
            obtain ⟨xra, xrc, rfl⟩ := FrRow.ex hrow
            rw [hrl] at hu hrow
            have HROW := Lib.hid hrow
            obtain ⟨f, hf⟩ : ∃ f : Nat → Rat, (fun j => (G.getD i []).getD j 0 * ((lX.getD j 0 : Int) : Rat)) = f := ⟨_, rfl⟩
            have hdot := HLK.out.dot i hli
            rw [hf] at hdot
            have hfb : ∀ j, j < n → BdQ 65600 (f j) := fun j hj => by rw [← hf]; exact mulQ_bd (HLK.out.gb i j hli hj) (HBX.out j)
            have HFB := Lib.hid hfb
            have HFJ := Lib.hid (show ∀ j, (G.getD i []).getD j 0 * ((lX.getD j 0 : Int) : Rat) = f j from fun j => by rw [← hf])
            have HDOT := Lib.hid hdot
            have zu := cell_lt hu
            clear hv hgi hrow hrl e' hf hfb hdot
            go_wp2
            go_loopw [20, 140] (fun vs x wz => ∃ j : Nat, j ≤ n ∧ x = .int .i64 j ∧ Hid (FrOwn IsQP 79 wq wz vs ((List.range j).map f))) (fun _ x _ => n - (intOf x).toNat)
            case atStart => exact ⟨0, Nat.zero_le _, rfl, Lib.hid (FrOwn.nil _ _ (Below.refl _ _))⟩
            case round =>
              rename World => wz
              obtain ⟨j, hj, rfl, hO⟩ := hrel
              have hbz := hO.out.bel
              by_cases hlt2 : j < n
              · have hltJ : (j : Int) < (n : Int) := by omega
                have hrz := HROW.out.keep hbz
                obtain ⟨b, off, rfl, -, g1, gy1, s1, t1, g2, gy2, s2, t2, y0, y1, y2, y3, yI⟩ := FrRow.at hrz hlt2
                obtain ⟨xb', xo, nb, ad, len, cp, rfl, q0, q1, q2⟩ := HVX.out j hlt2
                have hw4z : Below w4.heap.size w4 wz := bthen HB413.out (bthen hBq hbz)
                have HLN := Lib.hid (rangeQ_snoc f j)
                have HLL := Lib.hid (show ((List.range j).map f).length + 1 ≤ 1099511627776 from by rw [List.length_map, List.length_range]; omega)
                obtain ⟨L, hL⟩ : ∃ L, (List.range j).map f = L := ⟨_, rfl⟩
                rw [hL] at hO HLN HLL
                have HXB := Lib.hid (HLK.out.gb i j hli hlt2)
                have HZB := Lib.hid (HBX.out j)
                have HFJ1 := Lib.hid (HFJ.out j)
                have HQI := Lib.hid (q2.keep hw4z)
                have HYI := Lib.hid yI
                obtain ⟨X, hX⟩ : ∃ X, (G.getD i []).getD j 0 = X := ⟨_, rfl⟩
                obtain ⟨z, hz⟩ : ∃ z, lX.getD j 0 = z := ⟨_, rfl⟩
                rw [hX] at HXB HFJ1 HYI
                rw [hz] at HZB HFJ1 HQI
                have q0 := bkeep hw4z q0
                have q1 := bkeep hw4z q1
                have zq := cell_lt q0
                have zy := cell_lt y0
                have hu := bkeep hbz hu
                have zu2 := cell_lt hu
                obtain ⟨fa, fc, hfv⟩ := hO.out.ex
                subst hfv
                have hzz := Below.refl wz.heap.size wz
                clear hL hX hz q2 yI hrz hw4z
                go_upto_region 27 with (fail)
                refine wp_name fun w5 hW5 => ?_
                have h5 : Below wz.heap.size wz w5 := by rw [hW5]; repeat (first|exact bzR _ _|exact hzz|refine bzD ?_|refine bzN ?_|refine bzS ?_|refine bzA ?_)
                have HV5 := Lib.hid (show VarF wz.heap.size X w5 from by rw [hW5]; exact VarF.mk HYI.out)
                have HF5 := Lib.hid (hO.out.below frk_prog h5)
                have x0 := bkeep h5 q0
                have x1 := bkeep h5 q1
                have HQ5 := Lib.hid (HQI.out.keep h5)
                obtain ⟨VB, hVB⟩ : ∃ VB, wz.heap.size = VB := ⟨_, rfl⟩
                rw [hVB] at HV5 ⊢
                obtain ⟨o1, oa1, ol1, oc1, o2, oa2, ol2, oc2, c0, c1, c2, c3, cI, -⟩ := HV5.out.view
                have HCI := Lib.hid cI
                have zx := cell_lt x0
                have zc := cell_lt c0
                have h55 := Below.refl w5.heap.size w5
                have WC := Lib.hid (fun V (q : Below w5.heap.size w5 V) => pqWhole_c (.agg #[.bool nb, .slice ad len cp]) z V (HQ5.out.keep q))
                have MC := Lib.hid (fun u V (hu : IsQP V u ((z : Int) : Rat)) (q : Below w5.heap.size w5 V) => pqMul_c (.agg #[.bool o1, .slice oa1 ol1 oc1, .bool o2, .slice oa2 ol2 oc2]) u X ((z : Int) : Rat) 65536 64 V (HCI.out.keep q) hu HXB.out (BdQ.whole HZB.out (by omega)) (by omega))
                clear hW5 cI hzz HYI q0 q1 y0 y1 y2 y3 hVB
                go_region_law (first
                  | (refine step_q0 elRat (by decide) frk_prog (by rfl) (by rfl) HF7.out HU7.out (by rfl) (by rfl) HLL.out ?_; intro v' w8 hF8 _ _; have HF8 := Lib.hid hF8; rw [HFJ1.out, HLN.out] at HF8; clear hF8)
                  | (go_simp; go_wp2_with (first
                    | (go_at_call 39; (with_reducible refine (WC.out _ ?_).mono ?_); (repeat (first|exact bzR _ _|exact h55|refine bzD ?_|refine bzN ?_|refine bzS ?_|refine bzA ?_)); rintro e w6 ⟨⟨u6, rfl, hu6⟩, hb6⟩; have h56 : Below w5.heap.size w5 w6 := bthen (by repeat (first|exact bzR _ _|exact h55|refine bzD ?_|refine bzN ?_|refine bzS ?_|refine bzA ?_)) hb6; have HU6 := Lib.hid hu6; obtain ⟨m1, b1, k1, d1, m2, b2, k2, d2, rfl, -, -⟩ := hu6; have c06 := bkeep h56 c0; have c16 := bkeep h56 c1; have c26 := bkeep h56 c2; have c36 := bkeep h56 c3; have zc6 := cell_lt c06; have h66 := Below.refl w6.heap.size w6)
                    | (go_at_call 38; (with_reducible refine (MC.out _ _ (HU6.out.keep ?_) ?_).mono ?_); (repeat (first|exact bzR _ _|exact h66|refine bzD ?_|refine bzN ?_|refine bzS ?_|refine bzA ?_)); (refine bthen h56 ?_; (repeat (first|exact bzR _ _|exact h66|refine bzD ?_|refine bzN ?_|refine bzS ?_|refine bzA ?_))); rintro e w7 ⟨⟨u7, rfl, hu7⟩, hb7⟩; have h57 : Below w5.heap.size w5 w7 := bthen h56 (bthen (by repeat (first|exact bzR _ _|exact h66|refine bzD ?_|refine bzN ?_|refine bzS ?_|refine bzA ?_)) hb7); have HU7 := Lib.hid hu7; obtain ⟨m3, b3, k3, d3, m4, b4, k4, d4, rfl, -, -⟩ := hu7; have HF7 := Lib.hid (HF5.out.below frk_prog h57)))))
                all_goals
                  go_wp2
                  exact ⟨⟨j + 1, hlt2, by go_num, HF8⟩, meas hlt2 (by go_num) rfl⟩
              · obtain rfl : j = n := by omega
                have hltJ : ¬ (j : Int) < (j : Int) := by omega
                have hbq2 := bthen hBq hbz
                have HSL := Lib.hid (show ((List.range j).map f).length = j from by rw [List.length_map, List.length_range])
                have HSB := Lib.hid (sumRange_bd HFB.out)
                have HSU := Lib.hid (show FRow 0 wz _ ((List.range j).map f) from FrRow.rebase hO.out.row (Nat.zero_le _))
                obtain ⟨L, hL⟩ : ∃ L, (List.range j).map f = L := ⟨_, rfl⟩
                rw [hL] at hO HSL HSB HSU HDOT
                obtain ⟨fa, fc, hfv⟩ := hO.out.ex
                subst hfv
                rw [HSL.out] at HSU ⊢
                obtain ⟨ub, uo, rfl, -, g1, gy1, s1, t1, g2, gy2, s2, t2, u0, u1, u2, u3, uI⟩ := FrRow.at (HFU.out.keep hbq2) hli
                obtain ⟨vb, vo, rfl, -, e1, ey1, es1, et1, e2, ey2, es2, et2, v0, v1, v2, v3, vI⟩ := FrRow.at (HFV.out.keep hbq2) hli
                obtain ⟨wb, wo, rfl, -, i1, iy1, is1, it1, i2, iy2, is2, it2, w0', w1', w2', w3', wI⟩ := FrRow.at (HFW.out.keep hbq2) hli
                have hadd := HLK.out.add i hli
                have hub := HLK.out.ub i hli
                have hvb := HLK.out.vb i hli
                have hwb := HLK.out.wb i hli
                have hdot := HDOT.out
                obtain ⟨UX, hUX⟩ : ∃ X, LU.getD i 0 = X := ⟨_, rfl⟩
                obtain ⟨VX, hVX⟩ : ∃ X, LV.getD i 0 = X := ⟨_, rfl⟩
                obtain ⟨WX, hWX⟩ : ∃ X, LW.getD i 0 = X := ⟨_, rfl⟩
                rw [hUX] at uI hadd hub hdot
                rw [hVX] at vI hadd hvb
                rw [hWX] at wI hadd hwb
                have HUI := Lib.hid uI
                have HVI := Lib.hid vI
                have HWI := Lib.hid wI
                have SC := Lib.hid (fun V (q : Below wz.heap.size wz V) => (show Calls Tryz.prog 41 #[.slice fa j fc] V fun e w' => (∃ v, e = .returned v ∧ IsQP w' v UX) ∧ Below V.heap.size V w' from by
                  rw [← hdot]
                  exact ratSum_c (.slice fa j fc) L 65600 V (HSU.out.keep q) HSB.out (by rw [HSL.out]; omega) (by rw [HSL.out]; omega)))
                have S1 := Lib.hid (fun u V (hu : IsQP V u UX) (q : Below wz.heap.size wz V) => (show Calls Tryz.prog 40 #[u, .agg #[.bool g1, .slice gy1 s1 t1, .bool g2, .slice gy2 s2 t2]] V fun e w' => e = .returned (.bool true) ∧ Below V.heap.size V w' from by
                  have h := same9_c u _ UX UX 65536 65536 V hu (HUI.out.keep q) hub hub (by omega)
                  rw [decide_eq_true rfl] at h; exact h))
                have AD := Lib.hid (fun V (q : Below wz.heap.size wz V) => (show Calls Tryz.prog 42 #[.agg #[.bool g1, .slice gy1 s1 t1, .bool g2, .slice gy2 s2 t2], .agg #[.bool e1, .slice ey1 es1 et1, .bool e2, .slice ey2 es2 et2]] V fun e w' => (∃ v, e = .returned v ∧ IsQP w' v WX) ∧ Below V.heap.size V w' from by
                  rw [← hadd]
                  exact pqAdd_c _ _ UX VX 65536 65536 V (HUI.out.keep q) (HVI.out.keep q) hub hvb (by omega)))
                have S2 := Lib.hid (fun u V (hu : IsQP V u WX) (q : Below wz.heap.size wz V) => (show Calls Tryz.prog 40 #[u, .agg #[.bool i1, .slice iy1 is1 it1, .bool i2, .slice iy2 is2 it2]] V fun e w' => e = .returned (.bool true) ∧ Below V.heap.size V w' from by
                  have h := same9_c u _ WX WX 65536 65536 V hu (HWI.out.keep q) hwb hwb (by omega)
                  rw [decide_eq_true rfl] at h; exact h))
                have HS := Lib.hid (show ∀ W, Below wz.heap.size wz W → W.cell? ⟨ub, uo + i * 4, none⟩ = some (.bool g1) ∧ W.cell? ⟨ub, uo + i * 4 + 1, none⟩ = some (.slice gy1 s1 t1) ∧ W.cell? ⟨ub, uo + i * 4 + 2, none⟩ = some (.bool g2) ∧ W.cell? ⟨ub, uo + i * 4 + 3, none⟩ = some (.slice gy2 s2 t2) ∧ W.cell? ⟨vb, vo + i * 4, none⟩ = some (.bool e1) ∧ W.cell? ⟨vb, vo + i * 4 + 1, none⟩ = some (.slice ey1 es1 et1) ∧ W.cell? ⟨vb, vo + i * 4 + 2, none⟩ = some (.bool e2) ∧ W.cell? ⟨vb, vo + i * 4 + 3, none⟩ = some (.slice ey2 es2 et2) ∧ W.cell? ⟨wb, wo + i * 4, none⟩ = some (.bool i1) ∧ W.cell? ⟨wb, wo + i * 4 + 1, none⟩ = some (.slice iy1 is1 it1) ∧ W.cell? ⟨wb, wo + i * 4 + 2, none⟩ = some (.bool i2) ∧ W.cell? ⟨wb, wo + i * 4 + 3, none⟩ = some (.slice iy2 is2 it2) from
                  fun W q => ⟨bkeep q u0, bkeep q u1, bkeep q u2, bkeep q u3, bkeep q v0, bkeep q v1, bkeep q v2, bkeep q v3, bkeep q w0', bkeep q w1', bkeep q w2', bkeep q w3'⟩)
                have zu0 := cell_lt u0
                have zv0 := cell_lt v0
                have zw0 := cell_lt w0'
                have hBw := Below.refl wz.heap.size wz
                clear hL hdot hadd hub hvb hwb hUX hVX hWX uI vI wI hO hbz
                go_wp2
                go_region_held3 (fun W => W.cell? ⟨ub, uo + i * 4, none⟩ = some (.bool g1) ∧ W.cell? ⟨ub, uo + i * 4 + 1, none⟩ = some (.slice gy1 s1 t1) ∧ W.cell? ⟨ub, uo + i * 4 + 2, none⟩ = some (.bool g2) ∧ W.cell? ⟨ub, uo + i * 4 + 3, none⟩ = some (.slice gy2 s2 t2) ∧ W.cell? ⟨vb, vo + i * 4, none⟩ = some (.bool e1) ∧ W.cell? ⟨vb, vo + i * 4 + 1, none⟩ = some (.slice ey1 es1 et1) ∧ W.cell? ⟨vb, vo + i * 4 + 2, none⟩ = some (.bool e2) ∧ W.cell? ⟨vb, vo + i * 4 + 3, none⟩ = some (.slice ey2 es2 et2) ∧ W.cell? ⟨wb, wo + i * 4, none⟩ = some (.bool i1) ∧ W.cell? ⟨wb, wo + i * 4 + 1, none⟩ = some (.slice iy1 is1 it1) ∧ W.cell? ⟨wb, wo + i * 4 + 2, none⟩ = some (.bool i2) ∧ W.cell? ⟨wb, wo + i * 4 + 3, none⟩ = some (.slice iy2 is2 it2))
                  (first | (refine HS.out _ ?_; (repeat (first|exact bzR _ _|exact hBw|refine bzD ?_|refine bzN ?_|refine bzS ?_|refine bzA ?_)); done) | fail)
                  (first
                  | (go_at_call 41; (with_reducible refine (SC.out _ ?_).mono ?_); (repeat (first|exact bzR _ _|exact hBw|refine bzD ?_|refine bzN ?_|refine bzS ?_|refine bzA ?_)); rintro e w16 ⟨⟨u16, rfl, hu16⟩, hb16⟩; (have hBd : Below wz.heap.size wz w16 := bthen (by repeat (first|exact bzR _ _|exact hBw|refine bzD ?_|refine bzN ?_|refine bzS ?_|refine bzA ?_)) hb16; clear hBw; have hBw := hBd; clear hBd); have HU16 := Lib.hid hu16; obtain ⟨m1, b1, k1, d1, m2, b2, k2, d2, rfl, -, -⟩ := hu16; have hy16 := Below.refl w16.heap.size w16)
                  | (go_at_call 40; (with_reducible refine (S1.out _ _ (HU16.out.keep ?_) ?_).mono ?_); (repeat (first|exact bzR _ _|exact hy16|refine bzD ?_|refine bzN ?_|refine bzS ?_|refine bzA ?_)); (repeat (first|exact bzR _ _|exact hBw|refine bzD ?_|refine bzN ?_|refine bzS ?_|refine bzA ?_)); rintro e w17 ⟨rfl, hb17⟩; (have hBd : Below wz.heap.size wz w17 := bthen (by repeat (first|exact bzR _ _|exact hBw|refine bzD ?_|refine bzN ?_|refine bzS ?_|refine bzA ?_)) hb17; clear hBw; have hBw := hBd; clear hBd))
                  | (go_at_call 42; (with_reducible refine (AD.out _ ?_).mono ?_); (repeat (first|exact bzR _ _|exact hBw|refine bzD ?_|refine bzN ?_|refine bzS ?_|refine bzA ?_)); rintro e w18 ⟨⟨u18, rfl, hu18⟩, hb18⟩; (have hBd : Below wz.heap.size wz w18 := bthen (by repeat (first|exact bzR _ _|exact hBw|refine bzD ?_|refine bzN ?_|refine bzS ?_|refine bzA ?_)) hb18; clear hBw; have hBw := hBd; clear hBd); have HU18 := Lib.hid hu18; obtain ⟨m3, b3, k3, d3, m4, b4, k4, d4, rfl, -, -⟩ := hu18; have hy18 := Below.refl w18.heap.size w18)
                  | (go_at_call 40; (with_reducible refine (S2.out _ _ (HU18.out.keep ?_) ?_).mono ?_); (repeat (first|exact bzR _ _|exact hy18|refine bzD ?_|refine bzN ?_|refine bzS ?_|refine bzA ?_)); (repeat (first|exact bzR _ _|exact hBw|refine bzD ?_|refine bzN ?_|refine bzS ?_|refine bzA ?_)); rintro e w19 ⟨rfl, hb19⟩; (have hBd : Below wz.heap.size wz w19 := bthen (by repeat (first|exact bzR _ _|exact hBw|refine bzD ?_|refine bzN ?_|refine bzS ?_|refine bzA ?_)) hb19; clear hBw; have hBw := hBd; clear hBd))
                  | fail)
                all_goals
                  have hBn := bthen hbq2 hBw
                  go_wp2
                  exact ⟨⟨i + 1, hli, by go_num, hBn⟩, meas hli (by go_num) rfl⟩
          · obtain rfl : i = m := by omega
            have hltI : ¬ (i : Int) < (i : Int) := by omega
            have hBf := bthen hB13 hBq
            go_wp2
            go_ret
            exact ⟨rfl, by repeat (first|exact bzR _ _|exact hBf|refine bzD ?_|refine bzN ?_|refine bzS ?_|refine bzA ?_)⟩
end Go.Proofs.YtbmaffijncapiaaGreatDoor

/- DenoteLinear, where what it reads is of bulk at most 1048576: the law answers true. -/
namespace Go.Proofs.YtbmaffijncapiaaGreatDoor
open Go.ChangeShapes Go.WideShapes Go.ChangeAt Go.RowKit
theorem denoteLinear_u (ins regs : Int) (ca oa : Option Addr) (cc oc : Nat) (code : List Ins) (outs : List Int) (aa : Option Addr) (ac : Nat) (la : List Int) (ab : Option Addr) (bc : Nat) (lb : List Int) (w : World)
    (hp : InsV w ca cc code ∧ IntsV w oa oc outs ∧ (ca = none → code = []) ∧ (oa = none → outs = []) ∧ code.length ≤ 1048576 ∧ outs.length ≤ 1048576)
    (hla : RowI w (.slice aa la.length ac) la ∧ (la = [] ∨ la.length ≤ ac) ∧ la.length ≤ 1048576) (hlb : RowI w (.slice ab lb.length bc) lb ∧ (lb = [] ∨ lb.length ≤ bc) ∧ lb.length ≤ 1048576) :
    Calls Tryz.prog 6 #[.agg #[.int .i64 ins, .int .i64 regs, .slice ca code.length cc, .slice oa outs.length oc], .slice aa la.length ac, .slice ab lb.length bc] w fun e w' => e = .returned (.bool true) ∧ Below w.heap.size w w' :=
  linear_c ins regs ca oa aa ab cc oc ac bc code outs la lb w hp.1 hp.2.1 hla.1 hlb.1 hla.2.1 hlb.2.1 hla.2.2 hlb.2.2
end Go.Proofs.YtbmaffijncapiaaGreatDoor

/- Arguments as they come in, opened: a program; rows of int64; what their bulk gives. -/
namespace Go.Proofs.YtbmaffijncapiaaGreatDoor
open Go.ChangeShapes Go.WideShapes Go.ChangeAt Go.RowKit Go.Joins Go.Deep
namespace bulks
end bulks
section
variable {H : Type} {enc : TypeId × Value → H} {P : Program} {w : World} {base : Nat} {spare : Nat → Bool} {held : Bool}
end
section
variable {H : Type} {enc : TypeId × Value → H} {W : World} {b0 : Nat} {r : Reach} {v : Value} {d : DataW H} {p : List MemPlace}
theorem i64_of {n : Int} (h : (Lit.int .i64 n).wf = true) : I64 n := by
  have h1 := (Lit.wf_int_iff .i64 n).1 h
  have e1 : IntKind.i64.min = -9223372036854775808 := by decide
  have e2 : IntKind.i64.max = 9223372036854775807 := by decide
  rw [e1, e2] at h1
  exact h1
end
end Go.Proofs.YtbmaffijncapiaaGreatDoor

/- A row of int64s that came in, with its bulk and its room. -/
namespace Go.Proofs.YtbmaffijncapiaaGreatDoor
open Go.ChangeShapes Go.WideShapes Go.ChangeAt Go.RowKit Go.Joins Go.Deep
section
variable {H : Type} {enc : TypeId × Value → H} {W : World} {b0 : Nat} {r : Reach} {v : Value} {d : DataW H} {p : List MemPlace}
set_option maxRecDepth 100000 in
theorem open_i64row_k (hv : Value.okWide Tryz.prog W r b0 64 v) (h : DataW.Trod enc Tryz.prog W 0 (fun _ => true) true 64 v d p) :
    ∃ a c l, v = .slice a (List.length l) c ∧ RowI W (.slice a (List.length l) c) l ∧ (l = [] ∨ l.length ≤ c) ∧ l.length ≤ Rows.uptoBulk d := by
  obtain ⟨a, n, cap, rfl⟩ := okWide_slice Tryz.underlying64 hv
  obtain ⟨fuel, hf⟩ := h
  rcases open_ints Tryz.underlying64 Tryz.underlying2 (by kernel_rfl) hf with ⟨hcs, hx⟩ | ⟨a', len, c, zs, hcs, _, hl, hm, hz, hx, hc, hwf⟩
  · simp [Value.cells] at hcs
    obtain ⟨rfl, rfl, rfl⟩ := hcs
    exact ⟨none, 0, [], rfl, ⟨_, _, rfl, fun k hk => absurd hk (by simp)⟩, .inl rfl, by simp⟩
  · simp [Value.cells] at hcs
    obtain ⟨rfl, rfl, rfl⟩ := hcs
    simp only [if_true] at hz
    simp only [Prod.mk.injEq] at hx
    have hlen : (zs.take n).length = n := by rw [List.length_take]; omega
    refine ⟨_, _, zs.take n, by rw [hlen], ⟨_, _, rfl, fun k hk => ?_⟩, .inr (by rw [hlen]; omega), ?_⟩
    · rw [hlen] at hk
      obtain ⟨b, o, rfl⟩ := plain_at (hc 0 (by omega))
      have h9 := hc k (by omega)
      rw [add_plain] at h9
      have e2 : (zs.take n).getD k 0 = zs.getD k 0 := by rw [List.getD_eq_getElem?_getD, List.getD_eq_getElem?_getD, List.getElem?_take_of_lt hk]
      rw [e2]
      refine ⟨b, o, rfl, h9, i64_of (hwf _ ?_)⟩
      rw [List.getD_eq_getElem?_getD, List.getElem?_eq_getElem (by omega)]
      exact List.getElem_mem _
    · have h1 := bulks.length_le (H := H) (lits .i64 (zs.take n))
      simp only [lits, List.length_map] at h1
      rw [hx.1]
      simp only [Rows.uptoBulk, lits]
      omega
end
end Go.Proofs.YtbmaffijncapiaaGreatDoor

