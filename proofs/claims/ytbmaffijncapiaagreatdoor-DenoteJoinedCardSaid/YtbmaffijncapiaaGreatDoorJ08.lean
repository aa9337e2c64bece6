/- Texts of this seat, laid together (what the earlier ones leave out): DnR, DnH, DnI, DwA. Each opens with its own remark, which says what it proves, and under which conditions. -/
import Derived.Test.YtbmaffijncapiaaGreatDoorL01
import Derived.Test.YtbmaffijncapiaaGreatDoorL02
import Derived.Test.YtbmaffijncapiaaGreatDoorL03
import Derived.Test.YtbmaffijncapiaaGreatDoorL04
import Derived.Test.YtbmaffijncapiaaGreatDoorL05
import Derived.Test.YtbmaffijncapiaaGreatDoorL06
import Derived.Test.YtbmaffijncapiaaGreatDoorL07
import Derived.Test.YtbmaffijncapiaaGreatDoorL08
import Derived.Test.YtbmaffijncapiaaGreatDoorL09
import Derived.Test.YtbmaffijncapiaaGreatDoorL10
import Derived.Test.YtbmaffijncapiaaGreatDoorL11
import Derived.Test.YtbmaffijncapiaaGreatDoorL12
import Derived.Test.YtbmaffijncapiaaGreatDoorL13
import Derived.Test.YtbmaffijncapiaaGreatDoorL14
import Derived.Test.YtbmaffijncapiaaGreatDoorL15
import Derived.Test.YtbmaffijncapiaaGreatDoorL16
import Derived.Test.YtbmaffijncapiaaGreatDoorL17
import Derived.Test.YtbmaffijncapiaaGreatDoorL18
import Derived.Test.YtbmaffijncapiaaGreatDoorL19
import Derived.Test.YtbmaffijncapiaaGreatDoorL20
import Derived.Test.YtbmaffijncapiaaGreatDoorL21
import Derived.Test.YtbmaffijncapiaaGreatDoorL22
import Derived.Test.YtbmaffijncapiaaGreatDoorL23
import Derived.Test.YtbmaffijncapiaaGreatDoorL24
import Derived.Test.YtbmaffijncapiaaGreatDoorJ01
import Derived.Test.YtbmaffijncapiaaGreatDoorJ02
import Derived.Test.YtbmaffijncapiaaGreatDoorJ03
import Derived.Test.YtbmaffijncapiaaGreatDoorJ04
import Derived.Test.YtbmaffijncapiaaGreatDoorJ05
import Derived.Test.YtbmaffijncapiaaGreatDoorJ06
import Derived.Test.YtbmaffijncapiaaGreatDoorJ07
import Derived.WalkKit
import Derived.ProofKit
import Derived.OpenShut
import Derived.Deep.QuietTactic
import Derived.BigQuiet
import Derived.Outline
import Derived.Lib.Hide
import Derived.WalkSmall
import Derived.WalkSpells
import Derived.WalkLawsBesides
import Derived.Deep.RegionWith
import Derived.Deep.RegionHeld3
import Derived.Laws.CopyOwn
import Derived.Shelf.Small.Bits
import Derived.Laws.AppendOwn
import Derived.Deep.AppendLies
import Derived.OneCell
import Derived.Laws.BitsAllLaws
import Derived.Shelf.Spec.TrailingZeros
import Derived.Shelf.Strings.Builder1
import Derived.Shelf.Strings.Trim
import Derived.Deep.Cut
import Derived.Deep.DeepCutAuto
import Derived.ArgAppend
import Derived.Deep.DeepFit
import Derived.Shelf.Abstract
import Derived.Laws.EntriesVeiled
import Derived.RegionTactic
import Derived.ChangeAlike
import Derived.Laws.OwnMore
import Derived.Deep.Onto
import Derived.Deep.DrawnRows
import Derived.Deep.RegionLaw
import Derived.Deep.LoopGhost
import Derived.RangeFuncNested
import Derived.RangeFuncBound
import Derived.RangeFuncCalls
import Derived.RangeFuncLeaves
import Derived.Shelf.RegionOpen
import Derived.OwnWalkIn
import Derived.TacticsInMore
import Derived.LoopNIn
import Derived.LoopIn
import Derived.Laws.CopyRow
import Derived.Laws.Rows
import Derived.Laws.Tables
import Derived.StillTail
import Derived.Deep.Quiet
import Derived.StillTailTactics
import Derived.Lib.AppendZeros
import Derived.Laws.IdiomStrings
import Derived.Laws.BytesArg
import Derived.Laws.RangeString
import Derived.Lib.OthersKept
import Derived.Maps.AppendAt
import Derived.Shelf.Strings.OnBuilder
import Derived.Lib.SmallJoins
import Derived.Deep.Slices
import Derived.Deep.Matrix
import Derived.Deep.Fields
import Derived.ChangeSame
import Derived.DataShut
import Derived.SizedLaws
set_option linter.unusedVariables false
set_option linter.unusedSimpArgs false
/- denote: Matrix: the walk. -/
namespace Go.Proofs.YtbmaffijncapiaaGreatDoor
open Num
open Go.ChangeShapes Go.WideShapes Go.ChangeAt Go.RowKit
attribute [local go_sem ↓] Go.wp_at_zero Go.wp_at_succ
set_option maxRecDepth 100000 in
set_option maxHeartbeats 16000000 in
theorem matrix_c (ins regs : Int) (ca oa : Option Addr) (cc oc : Nat) (code : List Ins) (outs : List Int) (w : World) (hc : InsV w ca cc code) (ho : IntsV w oa oc outs) :
    Calls Tryz.prog 23 #[.agg #[.int .i64 ins, .int .i64 regs, .slice ca code.length cc, .slice oa outs.length oc]] w (MatPost ins regs code outs w) := by
  have HC := Lib.hid (And.intro hc ho)
  clear hc ho
  have hB := Below.refl w.heap.size w
  by_cases hp : ProgOk ins regs code outs
  · have HP := Lib.hid hp
    cases he : endF ins regs code with
    | none =>
      have HR := Lib.hid (show MatNo ins regs code outs 3 from .inr (.inl ⟨hp, he, rfl⟩))
      have RC := Lib.hid (fun V (q : Below w.heap.size w V) => rows_wide (HC.out.1.keep q) (HC.out.2.keep q) hp he)
      clear hp he
      go_enter Tryz.func23, Tryz.ntmps23
      go_wp2_with fail
      (with_reducible refine (RC.out _ ?_).mono ?_); (repeat (first|exact bzR _ _|exact hB|refine bzD ?_|refine bzN ?_|refine bzS ?_|refine bzA ?_))
      rintro e w1 ⟨rfl, hb1⟩
      have p0 : w1.cell? ⟨w.heap.size, 0, none⟩ = some (.int .i64 ins) := bkc hb1
      have zp0 := cell_lt p0
      have m0 : w1.cell? ⟨w.heap.size + 1, 0, none⟩ = some (.slice none 0 0) := bkc hb1
      have zm0 := cell_lt m0
      have m0f : w1.frozen? ⟨w.heap.size + 1, 0, none⟩ = false := bkcf (v := .slice none 0 0) hb1
      have d0 : w1.cell? ⟨w.heap.size + 1 + 1, 0, none⟩ = some (.bool false) := bkc hb1
      have zd0 := cell_lt d0
      have d0f : w1.frozen? ⟨w.heap.size + 1 + 1, 0, none⟩ = false := bkcf (v := .bool false) hb1
      have d1 : w1.cell? ⟨w.heap.size + 1 + 1, 1, none⟩ = some (.slice none 0 0) := bkc hb1
      have d1f : w1.frozen? ⟨w.heap.size + 1 + 1, 1, none⟩ = false := bkcf (v := .slice none 0 0) hb1
      have hB : Below w.heap.size w w1 := bthen (by repeat (first|exact bzR _ _|exact hB|refine bzD ?_|refine bzN ?_|refine bzS ?_|refine bzA ?_)) hb1
      have hz : w.heap.size ≤ w1.heap.size := hB.size
      clear RC
      go_wp2
      refine bodyPost_ret (v := .tuple #[.agg #[.slice none 0 0], .agg #[.bool false, .slice none 0 0], .int .i64 3]) (by simp [results, Tryz.results23, go_sem, *]) rfl (MatPost.no HR.out ?_)
      repeat (first|exact bzR _ _|exact hB|refine bzD ?_|refine bzN ?_|refine bzS ?_|refine bzA ?_)
    | some h =>
      have RC := Lib.hid (fun V (q : Below w.heap.size w V) => rows_yes (HC.out.1.keep q) (HC.out.2.keep q) hp he)
      have HE := Lib.hid he
      have HPR := Lib.hid hp
      have HF := Lib.hid (fun h16 o16 => mat_facts hp he h16 o16)
      have HPY := Lib.hid (fun w' v u h16 o16 h5 h6 hb => MatPost.yes (w := w) (w' := w') (v := v) (u := u) hp h16 o16 he h5 h6 hb)
      have HFL := Lib.hid (outsF_len outs h)
      obtain ⟨F, hF⟩ : ∃ F, outsF outs h = F := ⟨_, rfl⟩
      rw [hF] at RC HF HPY HFL
      obtain ⟨O, hO⟩ : ∃ O, outs.length = O := ⟨_, rfl⟩
      have HO := Lib.hid hO
      have hO1 := hp.o1
      have hO2 := hp.o2
      have hi1 := hp.i1
      rw [hO] at hO1 hO2
      clear hp he hF hO
      go_enter Tryz.func23, Tryz.ntmps23
      go_wp2_with fail
      (with_reducible refine (RC.out _ ?_).mono ?_); (repeat (first|exact bzR _ _|exact hB|refine bzD ?_|refine bzN ?_|refine bzS ?_|refine bzA ?_))
      rintro e w1 ⟨⟨v1, rfl, hv1⟩, hb1⟩
      have p0 : w1.cell? ⟨w.heap.size, 0, none⟩ = some (.int .i64 ins) := bkc hb1
      have zp0 := cell_lt p0
      have m0 : w1.cell? ⟨w.heap.size + 1, 0, none⟩ = some (.slice none 0 0) := bkc hb1
      have zm0 := cell_lt m0
      have m0f : w1.frozen? ⟨w.heap.size + 1, 0, none⟩ = false := bkcf (v := .slice none 0 0) hb1
      have d0 : w1.cell? ⟨w.heap.size + 1 + 1, 0, none⟩ = some (.bool false) := bkc hb1
      have zd0 := cell_lt d0
      have d0f : w1.frozen? ⟨w.heap.size + 1 + 1, 0, none⟩ = false := bkcf (v := .bool false) hb1
      have d1 : w1.cell? ⟨w.heap.size + 1 + 1, 1, none⟩ = some (.slice none 0 0) := bkc hb1
      have d1f : w1.frozen? ⟨w.heap.size + 1 + 1, 1, none⟩ = false := bkcf (v := .slice none 0 0) hb1
      have hB : Below w.heap.size w w1 := bthen (by repeat (first|exact bzR _ _|exact hB|refine bzD ?_|refine bzN ?_|refine bzS ?_|refine bzA ?_)) hb1
      have hz : w.heap.size ≤ w1.heap.size := hB.size
      have HV1 := Lib.hid (ownP_isL0 hv1)
      obtain ⟨a1, c1, rfl⟩ := hv1.ex
      rw [HFL.out, HO.out] at HV1 ⊢
      clear RC hv1
      by_cases h16 : ins ≤ 16
      · have h16d : decide (ins > 16) = false := by simpa using h16
        by_cases o16 : O ≤ 16
        · have o16d : decide ((O : Int) > 16) = false := by simp; omega
          obtain ⟨m, rfl⟩ : ∃ m : Nat, ins = m := ⟨ins.toNat, by omega⟩
          have HFF := Lib.hid (HF.out h16 (by rw [HO.out]; exact o16))
          have HY := Lib.hid (fun w' v u => HPY.out w' v u h16 (by rw [HO.out]; exact o16))
          rw [Int.toNat_natCast, HO.out] at HFF
          have hm1 : 1 ≤ m := by omega
          have hm16 : m ≤ 16 := by omega
          have hT := HFF.out.2.2.2.2.1
          have hT0 := HFF.out.2.2.2.2.2
          have CQ := Lib.hid (fun V (q : Below w1.heap.size w1 V) => concatQ_c (.slice a1 O c1) F V ((HV1.out.psqs HFF.out.1 hm1).keep prs_psq q) (by rw [HFF.out.2.2.2.1]; exact hT0) (by rw [HFF.out.2.2.2.1]; omega) (by rw [HFF.out.2.2.1]; omega))
          obtain ⟨T, hTE⟩ : ∃ T, O * m = T := ⟨_, rfl⟩
          have HT := Lib.hid hTE
          rw [hTE] at hT hT0
          have hBw := Below.refl w1.heap.size w1
          clear HF HPY hTE
          go_wp2_with fail
          (with_reducible refine (CQ.out _ ?_).mono ?_); (repeat (first|exact bzR _ _|exact hBw|refine bzD ?_|refine bzN ?_|refine bzS ?_|refine bzA ?_))
          rintro e w2 ⟨⟨v2, rfl, hv2⟩, hb2⟩
          have p0 : w2.cell? ⟨w.heap.size, 0, none⟩ = some (.int .i64 (m : Int)) := bkc hb2
          have zp0 := cell_lt p0
          have m0 : w2.cell? ⟨w.heap.size + 1, 0, none⟩ = some (.slice none 0 0) := bkc hb2
          have zm0 := cell_lt m0
          have m0f : w2.frozen? ⟨w.heap.size + 1, 0, none⟩ = false := bkcf (v := .slice none 0 0) hb2
          have d0 : w2.cell? ⟨w.heap.size + 1 + 1, 0, none⟩ = some (.bool false) := bkc hb2
          have zd0 := cell_lt d0
          have d0f : w2.frozen? ⟨w.heap.size + 1 + 1, 0, none⟩ = false := bkcf (v := .bool false) hb2
          have d1 : w2.cell? ⟨w.heap.size + 1 + 1, 1, none⟩ = some (.slice none 0 0) := bkc hb2
          have d1f : w2.frozen? ⟨w.heap.size + 1 + 1, 1, none⟩ = false := bkcf (v := .slice none 0 0) hb2
          have hB : Below w.heap.size w w2 := bthen (by repeat (first|exact bzR _ _|exact hB|refine bzD ?_|refine bzN ?_|refine bzS ?_|refine bzA ?_)) hb2
          have hz : w.heap.size ≤ w2.heap.size := hB.size
          have HV2 := Lib.hid hv2
          have CC := Lib.hid (fun V (q : Below w2.heap.size w2 V) => common_c v2 F.flatten 65536 V ((FRow.keep hv2.row q).rebase (Nat.zero_le _)) (flatF_bd HFF.out.1 HFF.out.2.1) (by rw [HFF.out.2.2.2.1, HT.out]; exact hT0) (by rw [HFF.out.2.2.2.1, HT.out]; omega) (by rw [HFF.out.2.2.2.1, HT.out]; omega))
          obtain ⟨a2, c2, hv2e⟩ := hv2.ex
          rw [HFF.out.2.2.2.1, HT.out] at hv2e CC
          subst hv2e
          have hBx := Below.refl w2.heap.size w2
          clear CQ hv2 hBw
          go_wp2_with fail
          (with_reducible refine (CC.out _ ?_).mono ?_); (repeat (first|exact bzR _ _|exact hBx|refine bzD ?_|refine bzN ?_|refine bzS ?_|refine bzA ?_))
          rintro e w3 ⟨⟨u3, x3, rfl, hx3, hu3⟩, hb3⟩
          have p0 : w3.cell? ⟨w.heap.size, 0, none⟩ = some (.int .i64 (m : Int)) := bkc hb3
          have zp0 := cell_lt p0
          have m0 : w3.cell? ⟨w.heap.size + 1, 0, none⟩ = some (.slice none 0 0) := bkc hb3
          have zm0 := cell_lt m0
          have m0f : w3.frozen? ⟨w.heap.size + 1, 0, none⟩ = false := bkcf (v := .slice none 0 0) hb3
          have d0 : w3.cell? ⟨w.heap.size + 1 + 1, 0, none⟩ = some (.bool false) := bkc hb3
          have zd0 := cell_lt d0
          have d0f : w3.frozen? ⟨w.heap.size + 1 + 1, 0, none⟩ = false := bkcf (v := .bool false) hb3
          have d1 : w3.cell? ⟨w.heap.size + 1 + 1, 1, none⟩ = some (.slice none 0 0) := bkc hb3
          have d1f : w3.frozen? ⟨w.heap.size + 1 + 1, 1, none⟩ = false := bkcf (v := .slice none 0 0) hb3
          have hB : Below w.heap.size w w3 := bthen (by repeat (first|exact bzR _ _|exact hB|refine bzD ?_|refine bzN ?_|refine bzS ?_|refine bzA ?_)) hb3
          have hz : w.heap.size ≤ w3.heap.size := hB.size
          have HX3 := Lib.hid hx3
          obtain ⟨nb3, na3, nl3, nc3, rfl⟩ := hx3.lit
          obtain ⟨B, c3, rfl, hc3, hcm3, hB3, ht3, hi3⟩ := hu3
          have HI3 := Lib.hid hi3
          have HCH := Lib.hid (fun V => chunk_c B O m c3 T V HT.out.symm hm1)
          have hBy := Below.refl w3.heap.size w3
          clear CC hx3 hi3 hBx
          go_wp2_with fail
          (with_reducible refine (HCH.out _).mono ?_)
          rintro e w4 ⟨⟨sb, nb, rfl, hsb0, hnb0, hsb, hnb, hch⟩, hb4⟩
          have h34 : Below w3.heap.size w3 w4 := bthen (by repeat (first|exact bzR _ _|exact hBy|refine bzD ?_|refine bzN ?_|refine bzS ?_|refine bzA ?_)) hb4
          have x0 : w4.cell? ⟨w3.heap.size, 0, none⟩ = some (.bool nb3) := bkeep hb4 (cell_new rfl rfl)
          have x1 : w4.cell? ⟨w3.heap.size, 1, none⟩ = some (.slice na3 nl3 nc3) := bkeep hb4 (cell_new rfl rfl)
          have p0 : w4.cell? ⟨w.heap.size, 0, none⟩ = some (.int .i64 (m : Int)) := bkc hb4
          have zp0 := cell_lt p0
          have m0 : w4.cell? ⟨w.heap.size + 1, 0, none⟩ = some (.slice none 0 0) := bkc hb4
          have zm0 := cell_lt m0
          have m0f : w4.frozen? ⟨w.heap.size + 1, 0, none⟩ = false := bkcf (v := .slice none 0 0) hb4
          have d0 : w4.cell? ⟨w.heap.size + 1 + 1, 0, none⟩ = some (.bool false) := bkc hb4
          have zd0 := cell_lt d0
          have d0f : w4.frozen? ⟨w.heap.size + 1 + 1, 0, none⟩ = false := bkcf (v := .bool false) hb4
          have d1 : w4.cell? ⟨w.heap.size + 1 + 1, 1, none⟩ = some (.slice none 0 0) := bkc hb4
          have d1f : w4.frozen? ⟨w.heap.size + 1 + 1, 1, none⟩ = false := bkcf (v := .slice none 0 0) hb4
          have hB : Below w.heap.size w w4 := bthen (by repeat (first|exact bzR _ _|exact hB|refine bzD ?_|refine bzN ?_|refine bzS ?_|refine bzA ?_)) hb4
          have hz : w.heap.size ≤ w4.heap.size := hB.size
          have CL := Lib.hid (fun V (q : Below w4.heap.size w4 V) => collectR_c 199 #[.pointer (some ⟨sb, 0, none⟩), .pointer (some ⟨nb, 0, none⟩)] B m O (ChIn sb nb B O m c3) V (enters_of Tryz.func199 (by kernel_rfl) rfl)
            (fun n0 S0 hs => chunk_iterD n0 sb nb B O m c3 S0 (fun h => by have := hs sb h; have := q.size; omega) (fun h => by have := hs nb h; have := q.size; omega) hm1 (by omega) (by omega) (by rw [HT.out]; exact hc3) hcm3) (fun W k => ⟨bkeep k (bkeep q hch.1), bkeep k (bkeep q hch.2)⟩) (by omega))
          have hBz := Below.refl w4.heap.size w4
          clear HCH hBy hb4 hsb0 hnb0
          go_wp2_with fail
          (with_reducible refine (CL.out _ ?_).mono ?_); (repeat (first|exact bzR _ _|exact hBz|refine bzD ?_|refine bzN ?_|refine bzS ?_|refine bzA ?_))
          rintro e w5 ⟨⟨a5, c5, rfl, hI5⟩, hb5⟩
          have h45 : Below w4.heap.size w4 w5 := bthen (by repeat (first|exact bzR _ _|exact hBz|refine bzD ?_|refine bzN ?_|refine bzS ?_|refine bzA ?_)) hb5
          have x0 := bkeep h45 x0
          have x1 := bkeep h45 x1
          have p0 : w5.cell? ⟨w.heap.size, 0, none⟩ = some (.int .i64 (m : Int)) := bkc hb5
          have zp0 := cell_lt p0
          have m0 : w5.cell? ⟨w.heap.size + 1, 0, none⟩ = some (.slice none 0 0) := bkc hb5
          have zm0 := cell_lt m0
          have m0f : w5.frozen? ⟨w.heap.size + 1, 0, none⟩ = false := bkcf (v := .slice none 0 0) hb5
          have d0 : w5.cell? ⟨w.heap.size + 1 + 1, 0, none⟩ = some (.bool false) := bkc hb5
          have zd0 := cell_lt d0
          have d0f : w5.frozen? ⟨w.heap.size + 1 + 1, 0, none⟩ = false := bkcf (v := .bool false) hb5
          have d1 : w5.cell? ⟨w.heap.size + 1 + 1, 1, none⟩ = some (.slice none 0 0) := bkc hb5
          have d1f : w5.frozen? ⟨w.heap.size + 1 + 1, 1, none⟩ = false := bkcf (v := .slice none 0 0) hb5
          have hB : Below w.heap.size w w5 := bthen (by repeat (first|exact bzR _ _|exact hB|refine bzD ?_|refine bzN ?_|refine bzS ?_|refine bzA ?_)) hb5
          have hz : w.heap.size ≤ w5.heap.size := hB.size
          have hGL := matG_len F
          rw [HFF.out.2.2.1] at hGL
          have NC := Lib.hid (fun V (q : Below w5.heap.size w5 V) => newM_c (.slice a5 O c5) (matG F) V (IsL.keep (prs_prow 0) (chunk_rows (f := fun i => (F.flatten.getD i 0).num * (comD F.flatten / ((F.flatten.getD i 0).den : Int))) hI5 (by
              rw [HT.out]
              exact fun k hk => (HI3.out.keep lims_int (h34.trans (h45.mono h34.size))) k hk) (typ_keep ht3 (h34.trans (h45.mono h34.size))) hGL (matG_rct HFF.out.1) (by omega) (fun i j hi hj => by
              rw [matG_at HFF.out.1 (by rw [HFF.out.2.2.1]; exact hi) hj]
              show _ = (F.flatten.getD (i * m + j) 0).num * (comD F.flatten / ((F.flatten.getD (i * m + j) 0).den : Int))
              rw [flatF_get HFF.out.1 (by rw [HFF.out.2.2.1]; exact hi) hj]; rfl)) q) (fun i hi => by rw [matG_rct HFF.out.1 i hi]; omega))
          have hBq := Below.refl w5.heap.size w5
          have hfit := matG_fits HFF.out.1 hm1 hm16 (by rw [HFF.out.2.2.1]; exact hO1) (by rw [HFF.out.2.2.1]; exact o16)
          clear CL hb5 hBz hsb hnb hch
          go_wp2_with fail
          (with_reducible refine (NC.out _ ?_).mono ?_); (repeat (first|exact bzR _ _|exact hBq|refine bzD ?_|refine bzN ?_|refine bzS ?_|refine bzA ?_))
          rintro e w6 ⟨(⟨-, v6, rfl, hv6⟩ | ⟨h, -⟩), hb6⟩
          rotate_left
          · exact absurd hfit h
          have h56 : Below w5.heap.size w5 w6 := bthen (by repeat (first|exact bzR _ _|exact hBq|refine bzD ?_|refine bzN ?_|refine bzS ?_|refine bzA ?_)) hb6
          have x0 := bkeep h56 x0
          have x1 := bkeep h56 x1
          have zx0 := cell_lt x0
          have p0 : w6.cell? ⟨w.heap.size, 0, none⟩ = some (.int .i64 (m : Int)) := bkc hb6
          have zp0 := cell_lt p0
          have m0 : w6.cell? ⟨w.heap.size + 1, 0, none⟩ = some (.slice none 0 0) := bkc hb6
          have zm0 := cell_lt m0
          have m0f : w6.frozen? ⟨w.heap.size + 1, 0, none⟩ = false := bkcf (v := .slice none 0 0) hb6
          have d0 : w6.cell? ⟨w.heap.size + 1 + 1, 0, none⟩ = some (.bool false) := bkc hb6
          have zd0 := cell_lt d0
          have d0f : w6.frozen? ⟨w.heap.size + 1 + 1, 0, none⟩ = false := bkcf (v := .bool false) hb6
          have d1 : w6.cell? ⟨w.heap.size + 1 + 1, 1, none⟩ = some (.slice none 0 0) := bkc hb6
          have d1f : w6.frozen? ⟨w.heap.size + 1 + 1, 1, none⟩ = false := bkcf (v := .slice none 0 0) hb6
          have hB : Below w.heap.size w w6 := bthen (by repeat (first|exact bzR _ _|exact hB|refine bzD ?_|refine bzN ?_|refine bzS ?_|refine bzA ?_)) hb6
          have hz : w.heap.size ≤ w6.heap.size := hB.size
          have hMT := matG_mt HFF.out.1 HFF.out.2.1 hm1 hm16 (by rw [HFF.out.2.2.1]; exact hO1) (by rw [HFF.out.2.2.1]; exact o16) (hv6.rebase (Nat.zero_le _))
          have HMT := Lib.hid hMT
          have HM6 := Lib.hid (hv6.rebase (show w5.heap.size ≤ _ from by first | exact Nat.le_refl _ | (simp; done)))
          obtain ⟨a6, c6, hv6e⟩ := hv6.lit
          rw [hGL] at hv6e
          subst hv6e
          have HX6 := Lib.hid (HX3.out.keep (h34.trans ((h45.trans (h56.mono h45.size)).mono h34.size)))
          clear NC hb6 hBq hfit hv6 hMT hI5 hGL
          go_upto_region 10 with (fail)
          refine wp_name fun w7 hW7 => ?_
          have hBr := Below.refl w6.heap.size w6
          have h67 : Below w6.heap.size w6 w7 := by rw [hW7]; repeat (first|exact bzR _ _|exact hBr|refine bzD ?_|refine bzN ?_|refine bzS ?_|refine bzA ?_)
          have y0 : w7.cell? ⟨w6.heap.size, 0, none⟩ = some (.slice a6 O c6) := by rw [hW7]; simp [go_sem]
          have x0 := bkeep h67 x0
          have x1 := bkeep h67 x1
          have m0f := bkeepf h67 m0 m0f
          have m0 := bkeep h67 m0
          have d0f := bkeepf h67 d0 d0f
          have d0 := bkeep h67 d0
          have d1f := bkeepf h67 d1 d1f
          have d1 := bkeep h67 d1
          have zm0 := cell_lt m0
          have zd0 := cell_lt d0
          have zy0 := cell_lt y0
          have zx0 := cell_lt x0
          have hB7 : Below w.heap.size w w7 := bthen hB h67
          have HLM := Lib.hid (show Lim w7 (((w7.setCell ⟨w.heap.size + 1, 0, none⟩ (.slice a6 O c6)).setCell ⟨w.heap.size + 1 + 1, 0, none⟩ (.bool nb3)).setCell ⟨w.heap.size + 1 + 1, 1, none⟩ (.slice na3 nl3 nc3)) from (((Lim.refl w7).slice m0 _).bool (cell_far d0 (by simp) _) _).slice (cell_far (cell_far d1 (by simp) _) (by simp) _) _)
          have HOM := Lib.hid (show Out (fun k => k < w5.heap.size) w7 (((w7.setCell ⟨w.heap.size + 1, 0, none⟩ (.slice a6 O c6)).setCell ⟨w.heap.size + 1 + 1, 0, none⟩ (.bool nb3)).setCell ⟨w.heap.size + 1 + 1, 1, none⟩ (.slice na3 nl3 nc3)) from (((Out.refl _ w7).set (fun _ => (by show w.heap.size + 1 < w5.heap.size; omega)) _).set (fun _ => (by show w.heap.size + 1 + 1 < w5.heap.size; omega)) _).set (fun _ => (by show w.heap.size + 1 + 1 < w5.heap.size; omega)) _)
          have HM9 := Lib.hid (IsM.rebase (IsM.out (IsM.keep HM6.out h67) HOM.out (fun k hk h => absurd h (by omega)) HLM.out) (Nat.zero_le _))
          have HX9 := Lib.hid ((HX6.out.keep h67).lim HLM.out)
          have hb9 := bset (bset (bset hB7 (p := ⟨w.heap.size + 1, 0, none⟩) (by simp) (.slice a6 O c6)) (p := ⟨w.heap.size + 1 + 1, 0, none⟩) (by simp; omega) (.bool nb3)) (p := ⟨w.heap.size + 1 + 1, 1, none⟩) (by simp; omega) (.slice na3 nl3 nc3)
          have n1 : ¬ w3.heap.size = w.heap.size + 1 := by omega
          have n2 : ¬ w3.heap.size = w.heap.size + 1 + 1 := by omega
          clear hW7
          go_region
          go_wp2
          refine bodyPost_ret (v := .tuple #[.agg #[.slice a6 O c6], .agg #[.bool nb3, .slice na3 nl3 nc3], .int .i64 0]) (by simp [results, Tryz.results23, go_sem, *]) rfl (HY.out _ _ _ ⟨HM9.out.keep (Below.refl _ _).drew, HMT.out.rc, HMT.out.sz, HMT.out.bd⟩ (HX9.out.keep (Below.refl _ _).drew) hb9.drew)
        · have HR := Lib.hid (show MatNo ins regs code outs 5 from .inr (.inr ⟨HPR.out, ⟨h, HE.out⟩, .inr (by rw [HO.out]; omega), rfl⟩))
          have o16d : decide ((O : Int) > 16) = true := by simp; omega
          go_wp2
          refine bodyPost_ret (v := .tuple #[.agg #[.slice none 0 0], .agg #[.bool false, .slice none 0 0], .int .i64 5]) (by simp [results, Tryz.results23, go_sem, *]) rfl (MatPost.no HR.out ?_)
          repeat (first|exact bzR _ _|exact hB|refine bzD ?_|refine bzN ?_|refine bzS ?_|refine bzA ?_)
      · have HR := Lib.hid (show MatNo ins regs code outs 5 from .inr (.inr ⟨HPR.out, ⟨h, HE.out⟩, .inl (by omega), rfl⟩))
        have h16d : decide (ins > 16) = true := by simpa using h16
        go_wp2
        refine bodyPost_ret (v := .tuple #[.agg #[.slice none 0 0], .agg #[.bool false, .slice none 0 0], .int .i64 5]) (by simp [results, Tryz.results23, go_sem, *]) rfl (MatPost.no HR.out ?_)
        repeat (first|exact bzR _ _|exact hB|refine bzD ?_|refine bzN ?_|refine bzS ?_|refine bzA ?_)
  · have HR := Lib.hid (show MatNo ins regs code outs 80 from .inl ⟨hp, rfl⟩)
    have RC := Lib.hid (fun V (q : Below w.heap.size w V) => rows_no (HC.out.1.keep q) (HC.out.2.keep q) hp)
    clear hp
    go_enter Tryz.func23, Tryz.ntmps23
    go_wp2_with fail
    (with_reducible refine (RC.out _ ?_).mono ?_); (repeat (first|exact bzR _ _|exact hB|refine bzD ?_|refine bzN ?_|refine bzS ?_|refine bzA ?_))
    rintro e w1 ⟨rfl, hb1⟩
    have p0 : w1.cell? ⟨w.heap.size, 0, none⟩ = some (.int .i64 ins) := bkc hb1
    have zp0 := cell_lt p0
    have m0 : w1.cell? ⟨w.heap.size + 1, 0, none⟩ = some (.slice none 0 0) := bkc hb1
    have zm0 := cell_lt m0
    have m0f : w1.frozen? ⟨w.heap.size + 1, 0, none⟩ = false := bkcf (v := .slice none 0 0) hb1
    have d0 : w1.cell? ⟨w.heap.size + 1 + 1, 0, none⟩ = some (.bool false) := bkc hb1
    have zd0 := cell_lt d0
    have d0f : w1.frozen? ⟨w.heap.size + 1 + 1, 0, none⟩ = false := bkcf (v := .bool false) hb1
    have d1 : w1.cell? ⟨w.heap.size + 1 + 1, 1, none⟩ = some (.slice none 0 0) := bkc hb1
    have d1f : w1.frozen? ⟨w.heap.size + 1 + 1, 1, none⟩ = false := bkcf (v := .slice none 0 0) hb1
    have hB : Below w.heap.size w w1 := bthen (by repeat (first|exact bzR _ _|exact hB|refine bzD ?_|refine bzN ?_|refine bzS ?_|refine bzA ?_)) hb1
    have hz : w.heap.size ≤ w1.heap.size := hB.size
    clear RC
    go_wp2
    refine bodyPost_ret (v := .tuple #[.agg #[.slice none 0 0], .agg #[.bool false, .slice none 0 0], .int .i64 80]) (by simp [results, Tryz.results23, go_sem, *]) rfl (MatPost.no HR.out ?_)
    repeat (first|exact bzR _ _|exact hB|refine bzD ?_|refine bzN ?_|refine bzS ?_|refine bzA ?_)
end Go.Proofs.YtbmaffijncapiaaGreatDoor

/- denote: Steps: what its iterator tells. -/
namespace Go.Proofs.YtbmaffijncapiaaGreatDoor
open Num
open Go.ChangeShapes Go.WideShapes Go.ChangeAt Go.RowKit
attribute [local go_sem ↓] Go.wp_at_zero Go.wp_at_succ
def AF (n0 : Nat) (T : Nat → List Rat) (k : Nat) (args : Array Value) (X : World) : Prop := ∃ v b base, args = #[.int .i64 (k : Int), v] ∧ n0 ≤ base ∧ PRp base X v (b, T k)
def XsF (args : Array Value) (q : Nat) : Prop := ∃ v, args[1]? = some v ∧ rowBlk v = some q
theorem prp_blk {base b q : Nat} {X : World} {v : Value} {L : List Rat} (h : PRp base X v (b, L)) (hq : rowBlk v = some q) : q = b ∧ base ≤ q ∧ typOf X q = some 79 := by
  obtain ⟨c, rfl, _, hb, hf⟩ := h
  simp [rowBlk] at hq
  subst hq
  exact ⟨rfl, hb, hf.ty⟩
theorem AF.cells {n0 : Nat} {T : Nat → List Rat} {k q : Nat} {args : Array Value} {X : World} (h : AF n0 T k args X) (hq : XsF args q) : ∃ o, X.heap[q]? = some o ∧ o.isCells = true := by
  obtain ⟨v, b, base, rfl, _, hr⟩ := h
  obtain ⟨v', e, hb⟩ := hq
  simp at e
  subst e
  exact typ_cells (prp_blk hr hb).2.2
def YieldsF (l m : Nat) (A : Nat → Array Value → World → Prop) (Xs : Array Value → Nat → Prop) (J Jx : Nat → (Nat → Prop) → World → Prop) : Prop :=
  ∀ k args S X, k < m → J k S X → A k args X → (∀ q, Xs args q → ¬ S q) → YieldAt Fence.wide 3 Tryz.prog l args X fun e Y => (∃ b, e = .returned (.bool b) ∧ ((b = true ∧ ∃ S', GrewX (Xs args) S S' X ∧ J (k + 1) S' Y ∧ OutT (fun q => S q ∨ Xs args q) X Y) ∨ (b = false ∧ ∃ S', Jx (k + 1) S' Y)))
theorem yieldAt_monoF {F : Fence} {m : Nat} {P : Program} {l : Nat} {args : Array Value} {W : World} {R R' : Ending → World → Prop} (h : YieldAt F m P l args W R) (hr : ∀ e w, R e w → R' e w) : YieldAt F m P l args W R' := by
  obtain ⟨fn, tmps, asg, body, hy, hR⟩ := h
  exact ⟨fn, tmps, asg, body, hy, hR.mono hr⟩
theorem OutT.baseF {S X : Nat → Prop} {a b c : World} (k : Below a.heap.size a b) (h : OutT (fun q => S q ∨ X q) b c) (hx : ∀ q, X q → a.heap.size ≤ q) (hS : ∀ q, S q → q < a.heap.size) : OutT S a c := by
  refine ⟨⟨h.1.os.trans k.os, h.1.tape.trans k.tape, h.1.output.trans k.output, Nat.le_trans k.size h.1.size, fun q hq hs => (h.1.block q (Nat.lt_of_lt_of_le hq k.size) fun e => ?_).trans (k.block q hq)⟩, fun q hq hl => ?_⟩
  · rcases e with e | e
    · exact hs e
    · have := hx q e; omega
  · rw [h.2 q (.inl hq) (Nat.lt_of_lt_of_le hl k.size)]
    unfold typOf; rw [k.block q hl]
set_option maxRecDepth 100000 in
set_option maxHeartbeats 8000000 in
theorem stepsFq_c (y yb M : Nat) (T : Nat → List Rat) (J Jx : Nat → (Nat → Prop) → World → Prop) (C : World → Prop) (n0 : Nat) (hJ : ∀ k S X Y, J k S X → Clo n0 S X Y → KeepsOthers X Y → J k S Y) (hJS : ∀ k S X, J k S X → Soil S X) (hT : ∀ k, k < M → 0 < (T k).length ∧ (T k).length ≤ 1099511627776)
    (hC : ∀ W, C W → W.cell? ⟨yb, 0, none⟩ = some (.func (.yield y) #[] #[])) (hCn : ∀ W, C W → n0 ≤ W.heap.size) (hY : YieldsF y M (AF n0 T) XsF J Jx) : FnTQ 104 #[.pointer (some ⟨yb, 0, none⟩)] T M J Jx C := by
  intro k S W v hk hj hc hv
  show Calls Tryz.prog 104 #[.int .i64 (k : Int), v, .pointer (some ⟨yb, 0, none⟩)] W _
  have HJ := Lib.hid hJ
  have HJK := Lib.hid hj
  have HS := Lib.hid (hJS k S W hj)
  have HYY := Lib.hid hY
  obtain ⟨hl0, hl⟩ := hT k hk
  have y0 := hC W hc
  have hnW := hCn W hc
  have zy := cell_lt y0
  have kcl := fun W1 (h : Below W.heap.size W W1) => (cloneQ_c v (T k) W1 (hv.1.keep h) hl).mono (R' := fun e w' => ∃ v' b, e = .returned v' ∧ PRp W.heap.size w' v' (b, T k) ∧ Below W.heap.size W1 w') fun e w' ⟨⟨v', h1, h2⟩, h3⟩ => by
    obtain ⟨b, hb⟩ := h2.prp hl0
    exact ⟨v', b, h1, hb.rebase h.size, h3.mono h.size⟩
  obtain ⟨va, vc, rfl, -⟩ := hv.1
  clear hJ hj hJS hY hT hC hc hCn
  have hB := Below.refl W.heap.size W
  go_enter Tryz.func104, Tryz.ntmps104
  go_wp2
  have hmx : (Tryz.prog).follows .mixedOrders = true := by kernel_rfl
  refine (wpIn_wide (n := 4)).1 ?_
  gi_region_with_o (first
    | (refine ⟨trivial, ?_⟩; refine CallsIn.mono (callsIn_wide.2 (kcl _ ?_)) ?_; (repeat (first|exact bzR _ _|exact hB|refine bzD ?_|refine bzN ?_|refine bzS ?_|refine bzA ?_)); rintro e w5 ⟨v5, b5, rfl, hr5', hb5⟩; have hB5 : Below W.heap.size W w5 := Below.trans (by repeat (first|exact bzR _ _|exact hB|refine bzD ?_|refine bzN ?_|refine bzS ?_|refine bzA ?_)) hb5; have y5 := bkeep hB5 y0; obtain ⟨fn, tmps, asg, body, hy, hRd⟩ := HYY.out k _ S w5 hk (HJ.out _ _ _ _ HJK.out (.of_below hB5) (out_others (Out.of_below (fun _ => False) hB5) fun _ h => h.elim)) ⟨v5, b5, _, rfl, hnW, hr5'⟩ (fun q hq hs => by obtain ⟨v', e, hb⟩ := hq; simp at e; subst e; have h1 := (prp_blk hr5' hb).2.1; have h2 := HS.out.lt hs; omega); have HR5 := Lib.hid hr5'; obtain ⟨c5, rfl, -⟩ := hr5')
    | (refine hRd.mono ?_; rintro e w6 ⟨bb, rfl, hres⟩; have HRES := Lib.hid hres; clear hres)
    | fail)
  all_goals
    gi_wp2
    go_wp2
    go_ret
    refine ⟨bb, rfl, ?_⟩
    rcases HRES.out with ⟨h1, S', hg, hj', ho⟩ | ⟨h1, S', hx⟩
    · exact .inl ⟨h1, S', fun q hq => (by
        rcases hg q hq with h | h | h
        · exact .inl h
        · obtain ⟨v', e, hb⟩ := h; simp at e; subst e; exact .inr (prp_blk HR5.out hb).2.1
        · exact .inr (Nat.le_trans hB5.size h)), hj', OutT.baseF hB5 ho (fun q hq => by obtain ⟨v', e, hb⟩ := hq; simp at e; subst e; exact (prp_blk HR5.out hb).2.1) fun q hq => HS.out.lt hq⟩
    · exact .inr ⟨h1, S', hx⟩
end Go.Proofs.YtbmaffijncapiaaGreatDoor

/- denote: Steps: its iterator. -/
namespace Go.Proofs.YtbmaffijncapiaaGreatDoor
open Num
open Go.ChangeShapes Go.WideShapes Go.ChangeAt Go.RowKit
attribute [local go_sem ↓] Go.wp_at_zero Go.wp_at_succ
theorem toldQ_len {code : List Ins} {g : GridF} {m M k : Nat} (hr : RectF m g) (hs : SlimG g) (hc : ∀ n, n < code.length → 0 ≤ (code.getD n default).a ∧ (code.getD n default).a < g.length) (t : ToldF code g M) (hk : k < M) : (toldQ code g k).length = m := by
  obtain ⟨s, e⟩ := t.has
  have hl := t.le
  cases e1 : afterF code g k with
  | none => rw [afterF_mono e1 (show k ≤ M by omega)] at e; cases e
  | some g1 =>
    obtain ⟨h1, h2⟩ := hc k (by omega)
    rw [toldQ_eq e1, rowF_len]
    exact (afterF_ok hr hs hc (show k ≤ code.length by omega) e1).1 _ (by rw [afterF_len e1]; omega)
theorem OwnL.regsFS {S : Nat → Prop} {base : Nat} {w0 w : World} {v : Value} {g : GridF} (h : OwnL 38 (FRow base) w0 w v g) (hg : 0 < g.length) (hS : ∀ q, S q → q < base) : ∃ rb rc, v = .slice (some ⟨rb, 0, none⟩) g.length rc ∧ w0.heap.size ≤ rb ∧ RegsF S w rb g := by
  obtain ⟨rb, rc, e, h1, h2, h3, h4, h5, h6⟩ := h.blk hg
  refine ⟨rb, rc, e, h1, h4, h5, fun k hk => ?_⟩
  obtain ⟨u, hu, hp⟩ := h6 k hk
  have : g[k] = g.getD k [] := by simp [hk]
  rw [this] at hp
  exact ⟨u, hu, FRowX.of hp hS⟩
theorem runF_end {code : List Ins} {g : GridF} {M rb R rc : Nat} {J Jx : Nat → (Nat → Prop) → World → Prop} {e : Ending} {w : World} (t : ToldF code g M) (h : RunF code g M rb R rc J Jx e w) : (∃ q, e = .returned q) ∧ ((∃ S, J M S w) ∨ ∃ k S, k ≤ M ∧ Jx k S w) := by
  rcases h with ⟨s, S, h1, h2, h3, _⟩ | ⟨h2, ⟨_, S, h3⟩ | ⟨k, S, h3, h4⟩⟩
  · obtain rfl : M = code.length := by
      rcases Nat.lt_or_ge M code.length with h | h
      · rw [afterF_mono (t.stop h) (show M + 1 ≤ code.length by omega)] at h1; cases h1
      · have := t.le; omega
    exact ⟨⟨_, h2⟩, .inl ⟨S, h3⟩⟩
  · exact ⟨⟨_, h2⟩, .inl ⟨S, h3⟩⟩
  · exact ⟨⟨_, h2⟩, .inr ⟨k, S, h3, h4⟩⟩
structure StepsInF (n0 : Nat) (S0 : Nat → Prop) (pb : Nat) (ins regs : Int) (ca oa : Option Addr) (cc oc : Nat) (code : List Ins) (outs : List Int) (W : World) : Prop where
  p0 : W.cell? ⟨pb, 0, none⟩ = some (.int .i64 ins)
  p1 : W.cell? ⟨pb, 1, none⟩ = some (.int .i64 regs)
  p2 : W.cell? ⟨pb, 2, none⟩ = some (.slice ca code.length cc)
  p3 : W.cell? ⟨pb, 3, none⟩ = some (.slice oa outs.length oc)
  hc : InsV W ca cc code
  ho : IntsV W oa oc outs
  lt : ∀ q, S0 q → q < n0
  le : n0 ≤ W.heap.size
  nc : ∀ b off, ca = some ⟨b, off, none⟩ → 0 < code.length → ¬ S0 b
section
variable {n0 : Nat} {S0 : Nat → Prop} {pb : Nat} {ins regs : Int} {ca oa : Option Addr} {cc oc : Nat} {code : List Ins} {outs : List Int} {W W' : World}
theorem StepsInF.keep (h : StepsInF n0 S0 pb ins regs ca oa cc oc code outs W) (k : Below W.heap.size W W') : StepsInF n0 S0 pb ins regs ca oa cc oc code outs W' :=
  ⟨bkeep k h.p0, bkeep k h.p1, bkeep k h.p2, bkeep k h.p3, h.hc.keep k, h.ho.keep k, h.lt, Nat.le_trans h.le k.size, h.nc⟩
set_option maxRecDepth 100000 in
set_option maxHeartbeats 8000000 in
theorem stepsF_yes {M : Nat} (hok : ProgOk ins regs code outs) (hM : ToldF code (unitsF ins.toNat regs.toNat) M) :
    IterX Tryz.prog 103 #[.pointer (some ⟨pb, 0, none⟩)] (AF n0 (toldQ code (unitsF ins.toNat regs.toNat))) M XsF n0 S0 (StepsInF n0 S0 pb ins regs ca oa cc oc code outs) := by
  intro y J Jx W hG hJ hJx hJS hY h0
  refine callsIn_wide.2 ?_
  show Calls Tryz.prog 103 #[.func (.yield y) #[] #[], .pointer (some ⟨pb, 0, none⟩)] W _
  have CK := Lib.hid (fun V (h : Below W.heap.size W V) => check_c ins regs ca oa cc oc code outs V (hG.hc.keep h) (hG.ho.keep h))
  have HJ := Lib.hid (fun V (h : Below W.heap.size W V) => hJ 0 S0 W V h0 (.of_below h) (others_of_below h))
  have HJJ := Lib.hid hJ
  have HJS := Lib.hid hJS
  have HY := Lib.hid (show YieldsF y M (AF n0 (toldQ code (unitsF ins.toNat regs.toNat))) XsF J Jx from fun k args S X hk hj ha hx => yieldAt_monoF (yieldAt_wide (hY k args S X hk hj ha hx)) fun e w h => by
    rcases h with ⟨rfl, h⟩ | ⟨rfl, h⟩
    · exact ⟨true, rfl, .inl ⟨rfl, h⟩⟩
    · exact ⟨false, rfl, .inr ⟨rfl, h⟩⟩)
  have HG := Lib.hid hG
  have HOK := Lib.hid hok
  have HM := Lib.hid hM
  have HIN0 := Lib.hid (fun k (hk : k < code.length) => (show InsOk (code.getD k default) (unitsF ins.toNat regs.toNat).length from by rw [unitsF_len]; exact ins_ofF hok hk))
  obtain ⟨n, rfl⟩ : ∃ n : Nat, ins = n := ⟨ins.toNat, by have := hok.i1; omega⟩
  obtain ⟨R, rfl⟩ : ∃ R : Nat, regs = R := ⟨regs.toNat, by have := hok.i1; have := hok.i2; omega⟩
  have hn1 : 1 ≤ n := by have := hok.i1; omega
  have hnR : n ≤ R := by have := hok.i2; omega
  have hR128 : R ≤ 128 := by have := hok.r1; omega
  have hcl := hok.c1
  have p0 := hG.p0
  have p1 := hG.p1
  have p2 := hG.p2
  have p3 := hG.p3
  have hn0 := hG.le
  have zp0 := cell_lt p0
  have HNC := Lib.hid (show ∀ b off, ca = some ⟨b, off, none⟩ → 0 < code.length → b < W.heap.size ∧ ¬ S0 b from fun b off e hl => ⟨by
    rcases hG.hc with h0 | ⟨b', off', h1, _, h3⟩
    · rw [h0] at hl; simp at hl
    · rw [e] at h1; cases h1
      exact cell_lt (h3 0 hl).c0, hG.nc b off e hl⟩)
  clear hG hJ hJx hJS hY h0 hok hM
  simp only [Int.toNat_natCast] at HY HM HIN0
  have UC := Lib.hid (fun V => units_c n R ca oa code.length cc outs.length oc V hnR hn1 hR128)
  have HUL := Lib.hid (unitsF_len n R)
  have HUR := Lib.hid (And.intro (unitsF_rect n R) (unitsF_slim n R))
  obtain ⟨U, hU⟩ : ∃ U, unitsF n R = U := ⟨_, rfl⟩
  rw [hU] at UC HUL HUR HM HY HIN0
  clear hU
  have hB := Below.refl W.heap.size W
  have y0 : (W.alloc (.cells #[.func (.yield y) #[] #[]] 155)).cell? ⟨W.heap.size, 0, none⟩ = some (.func (.yield y) #[] #[]) := cell_new rfl rfl
  go_enter Tryz.func103, Tryz.ntmps103
  go_wp2_with fail
  (with_reducible refine (CK.out _ ?_).mono ?_); (repeat (first|exact bzR _ _|exact hB|refine bzD ?_|refine bzN ?_|refine bzS ?_|refine bzA ?_))
  rintro e w1 ⟨r, s, rfl, (⟨hok, rfl, rfl⟩ | ⟨hok, rfl⟩), hb1⟩
  rotate_left
  · exact absurd HOK.out hok
  · have hB1 : Below W.heap.size W w1 := bthen (by repeat (first|exact bzR _ _|exact hB|refine bzD ?_|refine bzN ?_|refine bzS ?_|refine bzA ?_)) hb1
    have y1 : w1.cell? ⟨W.heap.size, 0, none⟩ = some (.func (.yield y) #[] #[]) := bkeep hb1 (by first | exact cell_new rfl rfl | exact cell_drew (cell_new rfl rfl))
    clear CK y0 hok
    have p0 := bkeep hB1 p0
    have p1 := bkeep hB1 p1
    have p2 := bkeep hB1 p2
    have p3 := bkeep hB1 p3
    have zp1 := cell_lt p0
    have zy1 := cell_lt y1
    have hsz : W.heap.size ≤ w1.heap.size := hB1.size
    have HP := Lib.hid (show ∀ V, Below w1.heap.size w1 V → V.cell? ⟨pb, 0, none⟩ = some (.int .i64 (n : Int)) ∧ V.cell? ⟨pb, 1, none⟩ = some (.int .i64 (R : Int)) ∧ V.cell? ⟨pb, 2, none⟩ = some (.slice ca code.length cc) ∧ V.cell? ⟨pb, 3, none⟩ = some (.slice oa outs.length oc) from fun V h => ⟨bkeep h p0, bkeep h p1, bkeep h p2, bkeep h p3⟩)
    have RX := Lib.hid (fun rb rc V (k : Below w1.heap.size w1 V) (hr : RegsF S0 V rb U) (hrb : w1.heap.size ≤ rb) => runQ_c n0 M S0 J Jx HJJ.out HJS.out HG.out.lt (n : Int) (R : Int) ca oa cc outs.length oc code U n rb rc 104 #[.pointer (some ⟨W.heap.size, 0, none⟩)] V (HG.out.hc.keep (bthen hB1 k)) HIN0.out (by omega) (by rw [HUL.out]; exact hR128) hr HUR.out.1 (by omega) HUR.out.2 HM.out
      (stepsFq_c y W.heap.size M (toldQ code U) J Jx _ n0 HJJ.out HJS.out (fun k hk => by
        have := toldQ_len HUR.out.1 HUR.out.2 (fun n hn => ⟨(HIN0.out n hn).a0, (HIN0.out n hn).a1⟩) HM.out hk
        omega) (fun V2 ho => okeep ho (bkeep k y1) (fun h => by
        rcases h with h | h
        · omega
        · have := HG.out.lt _ h; omega)) (fun V2 ho => Nat.le_trans HG.out.le (Nat.le_trans (Nat.le_trans hsz k.size) ho.size)) HY.out) (ensD Tryz.func104 (by kernel_rfl) rfl) (fun b off e hl => ⟨fun e2 => by
      have := (HNC.out b off e hl).1
      omega, (HNC.out b off e hl).2⟩) (by omega) (HJ.out V (bthen hB1 k)))
    rw [HUL.out] at RX
    have UD := Lib.hid (fun V (h : Below w1.heap.size w1 V) => (UC.out V).mono (R' := fun e w' => ∃ rb rc, e = .returned (.slice (some ⟨rb, 0, none⟩) R rc) ∧ w1.heap.size ≤ rb ∧ RegsF S0 w' rb U ∧ Below w1.heap.size V w') fun e w' ⟨⟨v, h1, h2⟩, h3⟩ => by
      obtain ⟨rb, rc, hv, hlo, hr⟩ := h2.regsFS (S := S0) (by rw [HUL.out]; omega) (fun q hq => by have := HG.out.lt q hq; have := h.size; omega)
      rw [HUL.out] at hv
      exact ⟨rb, rc, by rw [h1, hv], Nat.le_trans h.size hlo, hr, h3.mono h.size⟩)
    clear p0 p1 p2 p3 y1 UC HNC
    obtain ⟨p0, p1, p2, p3⟩ := HP.out w1 (Below.refl _ _)
    have zp2 := cell_lt p0
    have hBc := Below.refl w1.heap.size w1
    go_wp2
    go_region_law (go_simp; go_wp2_with (first
      | (go_at_call 96; refine (UD.out _ ?_).mono ?_; (repeat (first|exact bzR _ _|exact hBc|refine bzD ?_|refine bzN ?_|refine bzS ?_|refine bzA ?_)); rintro e w3 ⟨rb, rc, rfl, hrb, hrg, hb3⟩; (have hBd : Below w1.heap.size w1 w3 := Below.trans (by repeat (first|exact bzR _ _|exact hBc|refine bzD ?_|refine bzN ?_|refine bzS ?_|refine bzA ?_)) hb3; clear hBc; have hBc := hBd; clear hBd); have HRG := Lib.hid hrg; have hBu := Below.refl w3.heap.size w3; clear hrg hb3; obtain ⟨p0, p1, p2, p3⟩ := HP.out w3 hBc; have zp3 := cell_lt p0)
      | (go_at_call 95; refine (RX.out rb rc _ ?_ (HRG.out.keep ?_) hrb).mono ?_; (repeat (first|exact bzR _ _|exact hBc|refine bzD ?_|refine bzN ?_|refine bzS ?_|refine bzA ?_)); (repeat (first|exact bzR _ _|exact hBu|refine bzD ?_|refine bzN ?_|refine bzS ?_|refine bzA ?_)); rintro e w4 hres; have HRES := Lib.hid (show (∃ q, e = .returned q) ∧ ((∃ S, J M S w4) ∨ ∃ k S, k ≤ M ∧ Jx k S w4) from runF_end HM.out hres); obtain ⟨⟨q, rfl⟩, -⟩ := HRES.out; clear hres)
      | fail))
    all_goals
      go_wp2
      refine bodyPost_end (results_none rfl _ _ _) rfl ?_
      exact ⟨⟨_, rfl⟩, HRES.out.2⟩
end
end Go.Proofs.YtbmaffijncapiaaGreatDoor

/- denote's laws: the document's example; Steps. -/
namespace Go.Proofs.YtbmaffijncapiaaGreatDoor
open Num
open Go.ChangeShapes Go.WideShapes Go.ChangeAt Go.RowKit
attribute [local go_sem ↓] Go.wp_at_zero Go.wp_at_succ
def dC : List Ins := [⟨4, 2, 0, 1, 0⟩, ⟨6, 2, 2, 0, 2⟩]
def dO : List Int := [2, 0]
theorem d_ok : ProgOk 2 3 dC dO := by
  refine ⟨by decide, by decide, by decide, by decide, by decide, by decide, fun k hk => ?_, fun k hk => ?_⟩
  · rcases (show k = 0 ∨ k = 1 by have : k < 2 := hk; omega) with rfl | rfl <;> decide
  · rcases (show k = 0 ∨ k = 1 by have : k < 2 := hk; omega) with rfl | rfl <;> decide
def dG : GridF := [[1, 0], [0, 1], [(Rat.divInt 1 2), (Rat.divInt (-1) 2)]]
theorem d_end : endF 2 3 dC = some dG := by kernel_rfl
theorem d_outs : outsF dO dG = [[(Rat.divInt 1 2), (Rat.divInt (-1) 2)], [1, 0]] := by kernel_rfl
theorem d_told : ToldF dC (unitsF (2 : Int).toNat (3 : Int).toNat) 2 := by
  obtain ⟨m, t⟩ := toldF_ex dC (unitsF (2 : Int).toNat (3 : Int).toNat)
  have h := d_end
  have hm : m = 2 := by
    by_cases e : m < 2
    · have h1 := t.stop e
      have h2 := afterF_mono h1 (show m + 1 ≤ 2 by omega)
      have h3 : afterF dC (unitsF (2 : Int).toNat (3 : Int).toNat) 2 = some dG := h
      rw [h3] at h2; cases h2
    · have := t.le
      have : m ≤ 2 := this
      omega
  rw [hm] at t; exact t
theorem txt_h : (qTxt (Rat.divInt 1 2)).toArray = #[49, 47, 50] := by kernel_rfl
theorem txt_mh : (qTxt (Rat.divInt (-1) 2)).toArray = #[45, 49, 47, 50] := by kernel_rfl
theorem txt_1 : (qTxt 1).toArray = #[49] := by kernel_rfl
theorem equalInF9 {P : Program} (w : World) (d : Nat) (t : TypeId) {ps rs : Array TypeId} {v : Bool} (f : Fn) (bs cs : Array Value) (h : P.underlying t = some (.func ps rs v)) : (Op.equalIn (d + 1) t (.func f bs cs) .nilFunc).run P w = .ok false w := by
  simp [Op.equalIn, run_underlying h]
theorem eqlF9 {P : Program} (w : World) (t : TypeId) {ps rs : Array TypeId} {v : Bool} (f : Fn) (bs cs : Array Value) (h : P.underlying t = some (.func ps rs v)) : (binOp .eql t (.func f bs cs) .nilFunc).run P w = .ok (.bool false) w := by
  simp only [binOp]
  simp [Op.equal, Op.maxDepth, equalInF9 w 9999 t f bs cs h]
set_option maxRecDepth 100000 in
set_option maxHeartbeats 4000000 in
theorem example9_c (w : World) : Calls Tryz.prog 52 #[] w fun e w' => (∃ a b, e = .returned (.agg #[.int .i64 2, .int .i64 3, .slice (some a) 2 2, .slice (some b) 2 2]) ∧ InsV w' (some a) 2 dC ∧ IntsV w' (some b) 2 dO) ∧ Below w.heap.size w w' := by
  have hB := Below.refl w.heap.size w
  go_enter Tryz.func52, Tryz.ntmps52
  go_wp2
  refine bodyPost_ret (v := .agg #[.int .i64 2, .int .i64 3, .slice (some ⟨w.heap.size + 1, 0, none⟩) 2 2, .slice (some ⟨w.heap.size + 1 + 1, 0, none⟩) 2 2]) (by simp [results, Tryz.results52, go_sem]) rfl ⟨⟨_, _, rfl, .inr ⟨w.heap.size + 1, 0, rfl, by decide, fun k hk => ?_⟩, .inr ⟨w.heap.size + 1 + 1, 0, rfl, by decide, fun k hk => ?_⟩⟩, by repeat (first|exact bzR _ _|exact hB|refine bzD ?_|refine bzN ?_|refine bzS ?_|refine bzA ?_)⟩
  · rcases (show k = 0 ∨ k = 1 by have : k < 2 := hk; omega) with rfl | rfl
    · constructor <;> simp [go_sem, dC]
    · constructor <;> simp [go_sem, dC]
  · rcases (show k = 0 ∨ k = 1 by have : k < 2 := hk; omega) with rfl | rfl <;> simp [go_sem, dO]
set_option maxRecDepth 100000 in
theorem steps9_c (ins regs : Int) (ca oa : Option Addr) (cl cc ol oc : Nat) (w : World) : Calls Tryz.prog 21 #[.agg #[.int .i64 ins, .int .i64 regs, .slice ca cl cc, .slice oa ol oc]] w fun e w' => (∃ pb, e = .returned (.func (.func 103) #[] #[.pointer (some ⟨pb, 0, none⟩)]) ∧ w'.cell? ⟨pb, 0, none⟩ = some (.int .i64 ins) ∧ w'.cell? ⟨pb, 1, none⟩ = some (.int .i64 regs) ∧ w'.cell? ⟨pb, 2, none⟩ = some (.slice ca cl cc) ∧ w'.cell? ⟨pb, 3, none⟩ = some (.slice oa ol oc)) ∧ Below w.heap.size w w' := by
  have hB := Below.refl w.heap.size w
  go_enter Tryz.func21, Tryz.ntmps21
  go_wp2
  go_ret
  refine ⟨⟨_, rfl, by simp [go_sem], by simp [go_sem], by simp [go_sem], by simp [go_sem]⟩, ?_⟩
  repeat (first|exact bzR _ _|exact hB|refine bzD ?_|refine bzN ?_|refine bzS ?_|refine bzA ?_)
end Go.Proofs.YtbmaffijncapiaaGreatDoor

