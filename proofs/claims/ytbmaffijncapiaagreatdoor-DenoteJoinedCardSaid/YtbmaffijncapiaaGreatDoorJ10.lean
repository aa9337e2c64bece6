/- Texts of this seat, laid together (what the earlier ones leave out): DwQ, Vo. Each opens with its own remark, which says what it proves, and under which conditions. -/
import Derived.Test.YtbmaffijncapiaaGreatDoorL01
import Derived.Test.YtbmaffijncapiaaGreatDoorL02
import Derived.Test.YtbmaffijncapiaaGreatDoorL03
import Derived.Test.YtbmaffijncapiaaGreatDoorL04
import Derived.Test.YtbmaffijncapiaaGreatDoorL05
import Derived.Test.YtbmaffijncapiaaGreatDoorL06
import Derived.Test.YtbmaffijncapiaaGreatDoorL07
import Derived.Test.YtbmaffijncapiaaGreatDoorL08
import Derived.Test.YtbmaffijncapiaaGreatDoorL09
import Derived.Test.YtbmaffijncapiaaGreatDoorL10
import Derived.Test.YtbmaffijncapiaaGreatDoorL11
import Derived.Test.YtbmaffijncapiaaGreatDoorL12
import Derived.Test.YtbmaffijncapiaaGreatDoorL13
import Derived.Test.YtbmaffijncapiaaGreatDoorL14
import Derived.Test.YtbmaffijncapiaaGreatDoorL15
import Derived.Test.YtbmaffijncapiaaGreatDoorL16
import Derived.Test.YtbmaffijncapiaaGreatDoorL17
import Derived.Test.YtbmaffijncapiaaGreatDoorL18
import Derived.Test.YtbmaffijncapiaaGreatDoorL19
import Derived.Test.YtbmaffijncapiaaGreatDoorL20
import Derived.Test.YtbmaffijncapiaaGreatDoorL21
import Derived.Test.YtbmaffijncapiaaGreatDoorL22
import Derived.Test.YtbmaffijncapiaaGreatDoorL23
import Derived.Test.YtbmaffijncapiaaGreatDoorL24
import Derived.Test.YtbmaffijncapiaaGreatDoorJ01
import Derived.Test.YtbmaffijncapiaaGreatDoorJ02
import Derived.Test.YtbmaffijncapiaaGreatDoorJ03
import Derived.Test.YtbmaffijncapiaaGreatDoorJ04
import Derived.Test.YtbmaffijncapiaaGreatDoorJ05
import Derived.Test.YtbmaffijncapiaaGreatDoorJ06
import Derived.Test.YtbmaffijncapiaaGreatDoorJ07
import Derived.Test.YtbmaffijncapiaaGreatDoorJ08
import Derived.Test.YtbmaffijncapiaaGreatDoorJ09
import Derived.WalkKit
import Derived.ProofKit
import Derived.OpenShut
import Derived.Deep.QuietTactic
import Derived.BigQuiet
import Derived.Outline
import Derived.Lib.Hide
import Derived.WalkSmall
import Derived.WalkSpells
import Derived.WalkLawsBesides
import Derived.Deep.RegionWith
import Derived.Deep.RegionHeld3
import Derived.Laws.CopyOwn
import Derived.Shelf.Small.Bits
import Derived.Laws.AppendOwn
import Derived.Deep.AppendLies
import Derived.OneCell
import Derived.Laws.BitsAllLaws
import Derived.Shelf.Spec.TrailingZeros
import Derived.Shelf.Strings.Builder1
import Derived.Shelf.Strings.Trim
import Derived.Deep.Cut
import Derived.Deep.DeepCutAuto
import Derived.ArgAppend
import Derived.Deep.DeepFit
import Derived.Shelf.Abstract
import Derived.Laws.EntriesVeiled
import Derived.RegionTactic
import Derived.ChangeAlike
import Derived.Laws.OwnMore
import Derived.Deep.Onto
import Derived.Deep.DrawnRows
import Derived.Deep.RegionLaw
import Derived.Deep.LoopGhost
import Derived.RangeFuncNested
import Derived.RangeFuncBound
import Derived.RangeFuncCalls
import Derived.RangeFuncLeaves
import Derived.Shelf.RegionOpen
import Derived.OwnWalkIn
import Derived.TacticsInMore
import Derived.LoopNIn
import Derived.LoopIn
import Derived.Laws.CopyRow
import Derived.Laws.Rows
import Derived.Laws.Tables
import Derived.StillTail
import Derived.Deep.Quiet
import Derived.StillTailTactics
import Derived.Lib.AppendZeros
import Derived.Laws.IdiomStrings
import Derived.Laws.BytesArg
import Derived.Laws.RangeString
import Derived.Lib.OthersKept
import Derived.Maps.AppendAt
import Derived.Shelf.Strings.OnBuilder
import Derived.Lib.SmallJoins
import Derived.Deep.Slices
import Derived.Deep.Matrix
import Derived.Deep.Fields
import Derived.ChangeSame
import Derived.DataShut
import Derived.SizedLaws
set_option linter.unusedVariables false
set_option linter.unusedSimpArgs false
/- DenoteJoined: the law answers true. -/
namespace Go.Proofs.YtbmaffijncapiaaGreatDoor
open Num
open Go.ChangeShapes Go.WideShapes Go.ChangeAt Go.RowKit
attribute [local go_sem ↓] Go.wp_at_zero Go.wp_at_succ
theorem MatRes.ex {ins regs : Int} {code : List Ins} {outs : List Int} {w : World} {v u : Value} {q : Int} (h : MatRes ins regs code outs w v u q) : ∃ a n c b a' n' c', v = .agg #[.slice a n c] ∧ u = .agg #[.bool b, .slice a' n' c'] := by
  rcases h with ⟨-, rfl, rfl⟩ | ⟨-, -, -, -, g, -, h1, h2⟩
  · exact ⟨_, _, _, _, _, _, _, rfl, rfl⟩
  · obtain ⟨a, c, rfl⟩ := h1.m.lit
    obtain ⟨b, a', n', c', rfl⟩ := h2.lit
    exact ⟨_, _, _, _, _, _, _, rfl, rfl⟩
theorem MatRes.ok {ins regs : Int} {code : List Ins} {outs : List Int} {w : World} {v u : Value} (h : MatRes ins regs code outs w v u 0) : ProgOk ins regs code outs ∧ ins ≤ 16 ∧ outs.length ≤ 16 ∧ ∃ h, endF ins regs code = some h ∧ Mt 17000000 (matG (outsF outs h)) v w ∧ IsInt w u (matD (outsF outs h)) := by
  rcases h with ⟨h, -⟩ | ⟨h1, h2, h3, -, h, h4, h5, h6⟩
  · rcases h with ⟨-, h⟩ | ⟨-, -, h⟩ | ⟨-, -, -, h⟩ <;> omega
  · exact ⟨h1, h2, h3, h, h4, h5, h6⟩
theorem progV_new {w w' : World} {v0 v1 v2 v3 : Value} (e : w' = w.alloc (.cells #[v0, v1, v2, v3] 25)) : w'.cell? ⟨w.heap.size, 0, none⟩ = some v0 ∧ w'.cell? ⟨w.heap.size, 1, none⟩ = some v1 ∧ w'.cell? ⟨w.heap.size, 2, none⟩ = some v2 ∧ w'.cell? ⟨w.heap.size, 3, none⟩ = some v3 := by
  subst e; exact ⟨cell_new rfl rfl, cell_new rfl rfl, cell_new rfl rfl, cell_new rfl rfl⟩
theorem joined_is {n R R' : Nat} {ins' : Int} {code code' : List Ins} {outs outs' : List Int} {S T : GridF} (hp : ProgOk (n : Int) (R : Int) code outs) (hq : ProgOk ins' (R' : Int) code' outs') (e : ins' = outs.length) (hr : (R : Int) + R' ≤ 128) (hl : code.length + outs.length + code'.length ≤ 16384)
    (hs : endF (n : Int) (R : Int) code = some S) (ht : endF ins' (R' : Int) code' = some T) (h16 : (n : Int) ≤ 16) (o16 : outs.length ≤ 16) {b : Bool} {q : Int}
    (h : IsRes (n : Int) ((R : Int) + R') (joinC (R : Int) code outs code') (joinO (R : Int) outs') (timesG (matG (outsF outs' T)) (matG (outsF outs S))) (matD (outsF outs S) * matD (outsF outs' T)) b q) : q = 3 ∨ (q = 0 ∧ b = true) := by
  have kS := endF_ok hp hs
  have kT := endF_ok hq ht
  have dS := matD_pos kS.1 (slimG_bd kS.2)
  have dT := matD_pos kT.1 (slimG_bd kT.2)
  have hd : matD (outsF outs S) * matD (outsF outs' T) ≠ 0 := Int.ne_of_gt (Int.mul_pos dS dT)
  have o1 := hp.o1
  have o1' := hq.o1
  rw [Int.toNat_natCast] at kS
  have cS : cols (matG (outsF outs S)) = n := (matG_rct kS.1).cols (by rw [matG_len, outsF_len]; omega)
  have lT : (matG (outsF outs' T)).length = outs'.length := by rw [matG_len, outsF_len]
  rcases h with ⟨-, ⟨h, -⟩ | ⟨-, h, -⟩ | ⟨-, -, -, h⟩⟩ | ⟨-, -, g, hg, rfl, h⟩
  · exact absurd h hd
  · exact absurd (join_ok hp hq e hr hl) h
  · exact .inl h
  · refine .inr ⟨rfl, h.2 ⟨?_, ?_, fun i j hi hj => ?_⟩⟩
    · rw [times_cols (by rw [lT]; omega), cS]
    · rw [times_len, lT, joinO_len]
    · rw [times_len, lT] at hi
      rw [times_cols (by rw [lT]; omega), cS] at hj
      exact join_at hp hq e hr hl hs ht hg hi hj
theorem joined_is' {ins regs regs' ins' : Int} {code code' : List Ins} {outs outs' : List Int} {S T : GridF} (hp : ProgOk ins regs code outs) (hq : ProgOk ins' regs' code' outs') (e : ins' = outs.length) (hr : regs + regs' ≤ 128) (hl : code.length + outs.length + code'.length ≤ 16384)
    (hs : endF ins regs code = some S) (ht : endF ins' regs' code' = some T) (h16 : ins ≤ 16) (o16 : outs.length ≤ 16) {b : Bool} {q : Int}
    (h : IsRes ins (regs + regs') (joinC regs code outs code') (joinO regs outs') (timesG (matG (outsF outs' T)) (matG (outsF outs S))) (matD (outsF outs S) * matD (outsF outs' T)) b q) : q = 3 ∨ (q = 0 ∧ b = true) := by
  have p1 := hp.i1
  have p2 := hp.i2
  have q1 := hq.i1
  have q2 := hq.i2
  obtain ⟨n, rfl⟩ : ∃ n : Nat, ins = n := ⟨ins.toNat, by omega⟩
  obtain ⟨R, rfl⟩ : ∃ R : Nat, regs = R := ⟨regs.toNat, by omega⟩
  obtain ⟨R', rfl⟩ : ∃ R : Nat, regs' = R := ⟨regs'.toNat, by omega⟩
  exact joined_is hp hq e hr hl hs ht h16 o16 h
theorem matD_bdc {ins regs : Int} {code : List Ins} {outs : List Int} {h : GridF} (hok : ProgOk ins regs code outs) (e : endF ins regs code = some h) (h16 : ins ≤ 16) (o16 : outs.length ≤ 16) : Bd 17000000 (matD (outsF outs h)) := by
  obtain ⟨h1, h2, h3, h4, h5, h6⟩ := mat_facts hok e h16 o16
  have := matD_bd h1 h2
  rw [h3] at this
  refine this.mono ?_
  have := Nat.mul_le_mul_left 65536 h5
  omega
theorem join_cols {ins regs ins' regs' : Int} {code code' : List Ins} {outs outs' : List Int} {S T : GridF} (hp : ProgOk ins regs code outs) (hq : ProgOk ins' regs' code' outs') (e : ins' = outs.length) (ht : endF ins' regs' code' = some T) : cols (matG (outsF outs' T)) = (matG (outsF outs S)).length := by
  have kT := endF_ok hq ht
  rw [show ins'.toNat = outs.length by omega] at kT
  have o1' := hq.o1
  rw [(matG_rct kT.1).cols (by rw [matG_len, outsF_len]; omega), matG_len, outsF_len]
set_option maxRecDepth 100000 in
set_option maxHeartbeats 16000000 in
theorem denoteJoined_h (ins regs ins' regs' : Int) (ca oa ca' oa' : Option Addr) (cc oc cc' oc' : Nat) (code code' : List Ins) (outs outs' : List Int) (w : World) (hc : InsV w ca cc code) (ho : IntsV w oa oc outs) (hc' : InsV w ca' cc' code') (ho' : IntsV w oa' oc' outs') :
    Calls Tryz.prog 9 #[.agg #[.int .i64 ins, .int .i64 regs, .slice ca code.length cc, .slice oa outs.length oc], .agg #[.int .i64 ins', .int .i64 regs', .slice ca' code'.length cc', .slice oa' outs'.length oc']] w fun e w' => e = .returned (.bool true) ∧ Below w.heap.size w w' := by
  have LP := Lib.hid (fun V => long9_c ins regs ca oa code.length cc outs.length oc V)
  have LQ := Lib.hid (fun V => long9_c ins' regs' ca' oa' code'.length cc' outs'.length oc' V)
  have JC := Lib.hid (fun V (q : Below w.heap.size w V) => joinP_c ins regs ins' regs' ca oa ca' oa' cc oc cc' oc' code code' outs outs' V (hc.keep q) (ho.keep q) (hc'.keep q) (ho'.keep q))
  have MP := Lib.hid (fun V (q : Below w.heap.size w V) => matrix_c ins regs ca oa cc oc code outs V (hc.keep q) (ho.keep q))
  have MQ := Lib.hid (fun V (q : Below w.heap.size w V) => matrix_c ins' regs' ca' oa' cc' oc' code' outs' V (hc'.keep q) (ho'.keep q))
  have hB := Below.refl w.heap.size w
  clear hc ho hc' ho'
  go_enter Tryz.func9, Tryz.ntmps9
  go_wp2_with fail
  refine (works9_c _).mono ?_
  rintro e w1 ⟨rfl, hb1⟩
  have p0 : w1.cell? ⟨w.heap.size, 0, none⟩ = some (.int .i64 ins) := bkc hb1
  have zp0 := cell_lt p0
  have p1 : w1.cell? ⟨w.heap.size, 1, none⟩ = some (.int .i64 regs) := bkc hb1
  have p2 : w1.cell? ⟨w.heap.size, 2, none⟩ = some (.slice ca code.length cc) := bkc hb1
  have p3 : w1.cell? ⟨w.heap.size, 3, none⟩ = some (.slice oa outs.length oc) := bkc hb1
  have q0 : w1.cell? ⟨w.heap.size + 1, 0, none⟩ = some (.int .i64 ins') := bkc hb1
  have zq0 := cell_lt q0
  have q1 : w1.cell? ⟨w.heap.size + 1, 1, none⟩ = some (.int .i64 regs') := bkc hb1
  have q2 : w1.cell? ⟨w.heap.size + 1, 2, none⟩ = some (.slice ca' code'.length cc') := bkc hb1
  have q3 : w1.cell? ⟨w.heap.size + 1, 3, none⟩ = some (.slice oa' outs'.length oc') := bkc hb1
  have hB : Below w.heap.size w w1 := bthen (by repeat (first|exact bzR _ _|exact hB|refine bzD ?_|refine bzN ?_|refine bzS ?_|refine bzA ?_)) hb1
  have hz : w.heap.size ≤ w1.heap.size := hB.size
  clear hb1
  go_wp2_with fail
  (with_reducible refine (LP.out _).mono ?_)
  rintro e w2 ⟨⟨b2, rfl⟩, hb2⟩
  have p0 : w2.cell? ⟨w.heap.size, 0, none⟩ = some (.int .i64 ins) := bkc hb2
  have zp0 := cell_lt p0
  have p1 : w2.cell? ⟨w.heap.size, 1, none⟩ = some (.int .i64 regs) := bkc hb2
  have p2 : w2.cell? ⟨w.heap.size, 2, none⟩ = some (.slice ca code.length cc) := bkc hb2
  have p3 : w2.cell? ⟨w.heap.size, 3, none⟩ = some (.slice oa outs.length oc) := bkc hb2
  have q0 : w2.cell? ⟨w.heap.size + 1, 0, none⟩ = some (.int .i64 ins') := bkc hb2
  have zq0 := cell_lt q0
  have q1 : w2.cell? ⟨w.heap.size + 1, 1, none⟩ = some (.int .i64 regs') := bkc hb2
  have q2 : w2.cell? ⟨w.heap.size + 1, 2, none⟩ = some (.slice ca' code'.length cc') := bkc hb2
  have q3 : w2.cell? ⟨w.heap.size + 1, 3, none⟩ = some (.slice oa' outs'.length oc') := bkc hb2
  have hB : Below w.heap.size w w2 := bthen (by repeat (first|exact bzR _ _|exact hB|refine bzD ?_|refine bzN ?_|refine bzS ?_|refine bzA ?_)) hb2
  have hz : w.heap.size ≤ w2.heap.size := hB.size
  clear LP hb2
  cases b2 with
  | true =>
    go_wp2
    go_ret
    exact ⟨rfl, by repeat (first|exact bzR _ _|exact hB|refine bzD ?_|refine bzN ?_|refine bzS ?_|refine bzA ?_)⟩
  | false =>
  go_wp2_with fail
  (with_reducible refine (LQ.out _).mono ?_)
  rintro e w3 ⟨⟨b3, rfl⟩, hb3⟩
  have p0 : w3.cell? ⟨w.heap.size, 0, none⟩ = some (.int .i64 ins) := bkc hb3
  have zp0 := cell_lt p0
  have p1 : w3.cell? ⟨w.heap.size, 1, none⟩ = some (.int .i64 regs) := bkc hb3
  have p2 : w3.cell? ⟨w.heap.size, 2, none⟩ = some (.slice ca code.length cc) := bkc hb3
  have p3 : w3.cell? ⟨w.heap.size, 3, none⟩ = some (.slice oa outs.length oc) := bkc hb3
  have q0 : w3.cell? ⟨w.heap.size + 1, 0, none⟩ = some (.int .i64 ins') := bkc hb3
  have zq0 := cell_lt q0
  have q1 : w3.cell? ⟨w.heap.size + 1, 1, none⟩ = some (.int .i64 regs') := bkc hb3
  have q2 : w3.cell? ⟨w.heap.size + 1, 2, none⟩ = some (.slice ca' code'.length cc') := bkc hb3
  have q3 : w3.cell? ⟨w.heap.size + 1, 3, none⟩ = some (.slice oa' outs'.length oc') := bkc hb3
  have hB : Below w.heap.size w w3 := bthen (by repeat (first|exact bzR _ _|exact hB|refine bzD ?_|refine bzN ?_|refine bzS ?_|refine bzA ?_)) hb3
  have hz : w.heap.size ≤ w3.heap.size := hB.size
  clear LQ hb3
  cases b3 with
  | true =>
    go_wp2
    go_ret
    exact ⟨rfl, by repeat (first|exact bzR _ _|exact hB|refine bzD ?_|refine bzN ?_|refine bzS ?_|refine bzA ?_)⟩
  | false =>
  go_wp2_with fail
  (with_reducible refine (JC.out _ ?_).mono ?_); (repeat (first|exact bzR _ _|exact hB|refine bzD ?_|refine bzN ?_|refine bzS ?_|refine bzA ?_))
  rintro e w4 ⟨⟨vj, qj, rfl, hj⟩, hb4⟩
  have p0 : w4.cell? ⟨w.heap.size, 0, none⟩ = some (.int .i64 ins) := bkc hb4
  have zp0 := cell_lt p0
  have p1 : w4.cell? ⟨w.heap.size, 1, none⟩ = some (.int .i64 regs) := bkc hb4
  have p2 : w4.cell? ⟨w.heap.size, 2, none⟩ = some (.slice ca code.length cc) := bkc hb4
  have p3 : w4.cell? ⟨w.heap.size, 3, none⟩ = some (.slice oa outs.length oc) := bkc hb4
  have q0 : w4.cell? ⟨w.heap.size + 1, 0, none⟩ = some (.int .i64 ins') := bkc hb4
  have zq0 := cell_lt q0
  have q1 : w4.cell? ⟨w.heap.size + 1, 1, none⟩ = some (.int .i64 regs') := bkc hb4
  have q2 : w4.cell? ⟨w.heap.size + 1, 2, none⟩ = some (.slice ca' code'.length cc') := bkc hb4
  have q3 : w4.cell? ⟨w.heap.size + 1, 3, none⟩ = some (.slice oa' outs'.length oc') := bkc hb4
  have hB : Below w.heap.size w w4 := bthen (by repeat (first|exact bzR _ _|exact hB|refine bzD ?_|refine bzN ?_|refine bzS ?_|refine bzA ?_)) hb4
  have hz : w.heap.size ≤ w4.heap.size := hB.size
  clear JC hb4
  rcases hj with ⟨hq, rfl⟩ | ⟨rfl, hy⟩
  · have d1 : (qj != 0) = true := by simpa using hq
    clear hq
    go_wp2
    go_ret
    exact ⟨rfl, by repeat (first|exact bzR _ _|exact hB|refine bzD ?_|refine bzN ?_|refine bzS ?_|refine bzA ?_)⟩
  have HY := Lib.hid hy
  obtain ⟨-, -, -, -, -, ca2, cc2, oa2, oc2, rfl, hic, hio⟩ := hy
  obtain ⟨cj, hcj⟩ : ∃ L, joinC regs code outs code' = L := ⟨_, rfl⟩
  obtain ⟨oj, hoj⟩ : ∃ L, joinO regs outs' = L := ⟨_, rfl⟩
  obtain ⟨T, hT⟩ : ∃ T, regs + regs' = T := ⟨_, rfl⟩
  have HE := Lib.hid (And.intro hcj (And.intro hoj hT))
  rw [hcj, hoj, hT]
  rw [hcj] at hic
  rw [hoj] at hio
  have HIC := Lib.hid (And.intro hic hio)
  clear hcj hoj hT hic hio
  have zp4 := cell_lt p0
  have zq4 := cell_lt q0
  have h44 := Below.refl w4.heap.size w4
  go_upto_region 6 with (fail)
  refine wp_name fun w5 hW5 => ?_
  have h45 : Below w4.heap.size w4 w5 := by rw [hW5]; repeat (first|exact bzR _ _|exact h44|refine bzD ?_|refine bzN ?_|refine bzS ?_|refine bzA ?_)
  obtain ⟨j0, j1, j2, j3⟩ := progV_new hW5
  have p0 := bkeep h45 p0
  have p1 := bkeep h45 p1
  have p2 := bkeep h45 p2
  have p3 := bkeep h45 p3
  have q0 := bkeep h45 q0
  have q1 := bkeep h45 q1
  have q2 := bkeep h45 q2
  have q3 := bkeep h45 q3
  have hB := bthen hB h45
  have hz := hB.size
  obtain ⟨JB, hJB⟩ : ∃ JB, w4.heap.size = JB := ⟨_, rfl⟩
  rw [hJB] at j0 j1 j2 j3 ⊢
  have H45 := Lib.hid h45
  have zj5 := cell_lt j0
  clear hW5 h44 hJB zp4 zq4
  go_wp2_with fail
  (with_reducible refine (MP.out _ ?_).mono ?_); (repeat (first|exact bzR _ _|exact hB|refine bzD ?_|refine bzN ?_|refine bzS ?_|refine bzA ?_))
  rintro e w6 ⟨⟨vm, um, qm, rfl, hm⟩, hb6⟩
  have HM := Lib.hid hm
  obtain ⟨a6, n6, c6, b6, d6, l6, e6, rfl, rfl⟩ := hm.ex
  clear hm MP
  have p0 : w6.cell? ⟨w.heap.size, 0, none⟩ = some (.int .i64 ins) := bkc hb6
  have zp0 := cell_lt p0
  have p1 : w6.cell? ⟨w.heap.size, 1, none⟩ = some (.int .i64 regs) := bkc hb6
  have p2 : w6.cell? ⟨w.heap.size, 2, none⟩ = some (.slice ca code.length cc) := bkc hb6
  have p3 : w6.cell? ⟨w.heap.size, 3, none⟩ = some (.slice oa outs.length oc) := bkc hb6
  have q0 : w6.cell? ⟨w.heap.size + 1, 0, none⟩ = some (.int .i64 ins') := bkc hb6
  have zq0 := cell_lt q0
  have q1 : w6.cell? ⟨w.heap.size + 1, 1, none⟩ = some (.int .i64 regs') := bkc hb6
  have q2 : w6.cell? ⟨w.heap.size + 1, 2, none⟩ = some (.slice ca' code'.length cc') := bkc hb6
  have q3 : w6.cell? ⟨w.heap.size + 1, 3, none⟩ = some (.slice oa' outs'.length oc') := bkc hb6
  have j0 : w6.cell? ⟨JB, 0, none⟩ = some (.int .i64 ins) := bkc hb6
  have zj0 := cell_lt j0
  have j1 : w6.cell? ⟨JB, 1, none⟩ = some (.int .i64 T) := bkc hb6
  have j2 : w6.cell? ⟨JB, 2, none⟩ = some (.slice ca2 cj.length cc2) := bkc hb6
  have j3 : w6.cell? ⟨JB, 3, none⟩ = some (.slice oa2 oj.length oc2) := bkc hb6
  have hB : Below w.heap.size w w6 := bthen (by repeat (first|exact bzR _ _|exact hB|refine bzD ?_|refine bzN ?_|refine bzS ?_|refine bzA ?_)) hb6
  have hz : w.heap.size ≤ w6.heap.size := hB.size
  have h66 := Below.refl w6.heap.size w6
  go_upto_region 9 with (fail)
  refine wp_name fun w7 hW7 => ?_
  have h67 : Below w6.heap.size w6 w7 := by rw [hW7]; repeat (first|exact bzR _ _|exact h66|refine bzD ?_|refine bzN ?_|refine bzS ?_|refine bzA ?_)
  have m0 : w7.cell? ⟨w6.heap.size, 0, none⟩ = some (.slice a6 n6 c6) := by rw [hW7]; simp [go_sem]
  have d0 : w7.cell? ⟨w6.heap.size + 1, 0, none⟩ = some (.bool b6) := by rw [hW7]; simp [go_sem]
  have d1 : w7.cell? ⟨w6.heap.size + 1, 1, none⟩ = some (.slice d6 l6 e6) := by rw [hW7]; simp [go_sem]
  have p0 := bkeep h67 p0
  have p1 := bkeep h67 p1
  have p2 := bkeep h67 p2
  have p3 := bkeep h67 p3
  have q0 := bkeep h67 q0
  have q1 := bkeep h67 q1
  have q2 := bkeep h67 q2
  have q3 := bkeep h67 q3
  have j0 := bkeep h67 j0
  have j1 := bkeep h67 j1
  have j2 := bkeep h67 j2
  have j3 := bkeep h67 j3
  have hB := bthen hB h67
  have hz := hB.size
  have H57 := Lib.hid (bthen hb6 h67)
  have H67 := Lib.hid h67
  obtain ⟨MB, hMB⟩ : ∃ MB, w6.heap.size = MB := ⟨_, rfl⟩
  rw [hMB] at m0 d0 d1 ⊢
  have zm7 := cell_lt m0
  have zd7 := cell_lt d0
  have zp7 := cell_lt p0
  have zq7 := cell_lt q0
  have zj7 := cell_lt j0
  clear hW7 h66 hMB hb6
  go_wp2_with fail
  (with_reducible refine (MQ.out _ ?_).mono ?_); (repeat (first|exact bzR _ _|exact hB|refine bzD ?_|refine bzN ?_|refine bzS ?_|refine bzA ?_))
  rintro e w8 ⟨⟨vn, un, qn, rfl, hm⟩, hb8⟩
  have HN := Lib.hid hm
  obtain ⟨a8, n8, c8, b8, d8, l8, e8, rfl, rfl⟩ := hm.ex
  clear hm MQ
  have p0 : w8.cell? ⟨w.heap.size, 0, none⟩ = some (.int .i64 ins) := bkc hb8
  have zp0 := cell_lt p0
  have p1 : w8.cell? ⟨w.heap.size, 1, none⟩ = some (.int .i64 regs) := bkc hb8
  have p2 : w8.cell? ⟨w.heap.size, 2, none⟩ = some (.slice ca code.length cc) := bkc hb8
  have p3 : w8.cell? ⟨w.heap.size, 3, none⟩ = some (.slice oa outs.length oc) := bkc hb8
  have q0 : w8.cell? ⟨w.heap.size + 1, 0, none⟩ = some (.int .i64 ins') := bkc hb8
  have zq0 := cell_lt q0
  have q1 : w8.cell? ⟨w.heap.size + 1, 1, none⟩ = some (.int .i64 regs') := bkc hb8
  have q2 : w8.cell? ⟨w.heap.size + 1, 2, none⟩ = some (.slice ca' code'.length cc') := bkc hb8
  have q3 : w8.cell? ⟨w.heap.size + 1, 3, none⟩ = some (.slice oa' outs'.length oc') := bkc hb8
  have j0 : w8.cell? ⟨JB, 0, none⟩ = some (.int .i64 ins) := bkc hb8
  have zj0 := cell_lt j0
  have j1 : w8.cell? ⟨JB, 1, none⟩ = some (.int .i64 T) := bkc hb8
  have j2 : w8.cell? ⟨JB, 2, none⟩ = some (.slice ca2 cj.length cc2) := bkc hb8
  have j3 : w8.cell? ⟨JB, 3, none⟩ = some (.slice oa2 oj.length oc2) := bkc hb8
  have m0 : w8.cell? ⟨MB, 0, none⟩ = some (.slice a6 n6 c6) := bkc hb8
  have zm0 := cell_lt m0
  have d0 : w8.cell? ⟨MB + 1, 0, none⟩ = some (.bool b6) := bkc hb8
  have zd0 := cell_lt d0
  have d1 : w8.cell? ⟨MB + 1, 1, none⟩ = some (.slice d6 l6 e6) := bkc hb8
  have hB : Below w.heap.size w w8 := bthen (by repeat (first|exact bzR _ _|exact hB|refine bzD ?_|refine bzN ?_|refine bzS ?_|refine bzA ?_)) hb8
  have hz : w.heap.size ≤ w8.heap.size := hB.size
  have h88 := Below.refl w8.heap.size w8
  go_upto_region 10 with (fail)
  refine wp_name fun w9 hW9 => ?_
  have h89 : Below w8.heap.size w8 w9 := by rw [hW9]; repeat (first|exact bzR _ _|exact h88|refine bzD ?_|refine bzN ?_|refine bzS ?_|refine bzA ?_)
  have x0 : w9.cell? ⟨w8.heap.size, 0, none⟩ = some (.slice a8 n8 c8) := by rw [hW9]; simp [go_sem]
  have f0 : w9.cell? ⟨w8.heap.size + 1, 0, none⟩ = some (.bool b8) := by rw [hW9]; simp [go_sem]
  have f1 : w9.cell? ⟨w8.heap.size + 1, 1, none⟩ = some (.slice d8 l8 e8) := by rw [hW9]; simp [go_sem]
  have j0 := bkeep h89 j0
  have j1 := bkeep h89 j1
  have j2 := bkeep h89 j2
  have j3 := bkeep h89 j3
  have m0 := bkeep h89 m0
  have d0 := bkeep h89 d0
  have d1 := bkeep h89 d1
  have hB := bthen hB h89
  have hz := hB.size
  have H79 := Lib.hid (bthen hb8 h89)
  have H89 := Lib.hid h89
  obtain ⟨NB, hNB⟩ : ∃ NB, w8.heap.size = NB := ⟨_, rfl⟩
  rw [hNB] at x0 f0 f1 ⊢
  have zx9 := cell_lt x0
  have zf9 := cell_lt f0
  have zm9 := cell_lt m0
  have zd9 := cell_lt d0
  have zj9 := cell_lt j0
  clear hW9 h88 hNB hb8 p0 p1 p2 p3 q0 q1 q2 q3
  by_cases c1 : qm = 0
  rotate_left
  · have g1 : (qm != 0) = true := by simpa using c1
    go_wp2
    go_ret
    exact ⟨rfl, by repeat (first|exact bzR _ _|exact hB|refine bzD ?_|refine bzN ?_|refine bzS ?_|refine bzA ?_)⟩
  subst c1
  by_cases c2 : qn = 0
  rotate_left
  · have g1 : (qn != 0) = true := by simpa using c2
    go_wp2
    go_ret
    exact ⟨rfl, by repeat (first|exact bzR _ _|exact hB|refine bzD ?_|refine bzN ?_|refine bzS ?_|refine bzA ?_)⟩
  subst c2
  obtain ⟨hp, h16, o16, S, eS, mtM, iD⟩ := HM.out.ok
  obtain ⟨hq, h16', o16', U, eU, mtN, iF⟩ := HN.out.ok
  obtain ⟨-, -, he, hr, hl, -⟩ := HY.out
  have HIS := Lib.hid (fun b q h => joined_is' (b := b) (q := q) hp hq he hr hl eS eU h16 o16 h)
  rw [HE.out.1, HE.out.2.1, HE.out.2.2] at HIS
  have bD := matD_bdc hp eS h16 o16
  have bF := matD_bdc hq eU h16' o16'
  have hcl := join_cols (S := S) hp hq he eU
  obtain ⟨F, hF⟩ : ∃ F, outsF outs S = F := ⟨_, rfl⟩
  obtain ⟨H, hH⟩ : ∃ H, outsF outs' U = H := ⟨_, rfl⟩
  rw [hF] at mtM iD bD hcl HIS
  rw [hH] at mtN iF bF hcl HIS
  have HMM := Lib.hid (mtM.keep (H67.out.trans (H79.out.mono H67.out.size)))
  have HMN := Lib.hid (mtN.keep H89.out)
  have HID := Lib.hid (iD.keep (H67.out.trans (H79.out.mono H67.out.size)))
  have HIF := Lib.hid (iF.keep H89.out)
  have HBD := Lib.hid (And.intro bD bF)
  obtain ⟨nn, hnn⟩ : ∃ nn, (matG H).length = nn := ⟨_, rfl⟩
  have TC := Lib.hid (fun V (q : Below w9.heap.size w9 V) => Mt.times (HMN.out.keep q) (HMM.out.keep q) hcl (by decide) hnn)
  have h99 := Below.refl w9.heap.size w9
  clear hF hH mtM mtN iD iF bD bF hcl hnn hp hq h16 o16 h16' o16' eS eU he hr hl HM HN
  go_wp2_with fail
  (with_reducible refine (TC.out _ ?_).mono ?_); (repeat (first|exact bzR _ _|exact h99|refine bzD ?_|refine bzN ?_|refine bzS ?_|refine bzA ?_))
  rintro e w10 ⟨⟨ta, tc, rfl, ht⟩, hb10⟩
  have j0 := bkeep hb10 j0
  have j1 := bkeep hb10 j1
  have j2 := bkeep hb10 j2
  have j3 := bkeep hb10 j3
  have m0 := bkeep hb10 m0
  have d0 := bkeep hb10 d0
  have d1 := bkeep hb10 d1
  have x0 := bkeep hb10 x0
  have f0 := bkeep hb10 f0
  have f1 := bkeep hb10 f1
  have hB := bthen hB hb10
  have hz := hB.size
  have h10 := Below.refl w10.heap.size w10
  go_upto_region 13 with (fail)
  refine wp_name fun w11 hW11 => ?_
  have h1011 : Below w10.heap.size w10 w11 := by rw [hW11]; repeat (first|exact bzR _ _|exact h10|refine bzD ?_|refine bzN ?_|refine bzS ?_|refine bzA ?_)
  have t0 : w11.cell? ⟨w10.heap.size, 0, none⟩ = some (.slice ta nn tc) := by rw [hW11]; simp [go_sem]
  have j0 := bkeep h1011 j0
  have j1 := bkeep h1011 j1
  have j2 := bkeep h1011 j2
  have j3 := bkeep h1011 j3
  have m0 := bkeep h1011 m0
  have d0 := bkeep h1011 d0
  have d1 := bkeep h1011 d1
  have x0 := bkeep h1011 x0
  have f0 := bkeep h1011 f0
  have f1 := bkeep h1011 f1
  have hB := bthen hB h1011
  have hz := hB.size
  have H911 := Lib.hid (bthen hb10 h1011)
  have HT11 := Lib.hid (ht.keep h1011)
  have H411 := Lib.hid (H45.out.trans ((H57.out.mono H45.out.size).trans ((H79.out.mono (Nat.le_trans H45.out.size H57.out.size)).trans (H911.out.mono (Nat.le_trans H45.out.size (Nat.le_trans H57.out.size H79.out.size))))))
  obtain ⟨TB, hTB⟩ : ∃ TB, w10.heap.size = TB := ⟨_, rfl⟩
  rw [hTB] at t0 ⊢
  have zt := cell_lt t0
  have zm11 := cell_lt m0
  have zd11 := cell_lt d0
  have zj11 := cell_lt j0
  have zf11 := cell_lt f0
  have MC := Lib.hid (fun V (q : Below w11.heap.size w11 V) => mul_c (.agg #[.bool b6, .slice d6 l6 e6]) (.agg #[.bool b8, .slice d8 l8 e8]) _ _ 17000000 17000000 V (HID.out.keep (bthen H911.out q)) (HIF.out.keep (bthen H911.out q)) HBD.out.1 HBD.out.2 (by omega) (by omega))
  have IC := Lib.hid (fun u V (hu : IsInt V u (matD F * matD H)) (q : Below w11.heap.size w11 V) => is_cQ ins T ca2 oa2 cc2 oc2 cj oj (.agg #[.slice ta nn tc]) u (timesG (matG H) (matG F)) (matD F * matD H) 34000016 V (HIC.out.1.keep (bthen H411.out q)) (HIC.out.2.keep (bthen H411.out q)) (HT11.out.keep q) hu ((HBD.out.1.mul HBD.out.2).mono (by omega)) (by omega))
  have HS := Lib.hid (show ∀ W, Below w11.heap.size w11 W → W.cell? ⟨JB, 0, none⟩ = some (.int .i64 ins) ∧ W.cell? ⟨JB, 1, none⟩ = some (.int .i64 T) ∧ W.cell? ⟨JB, 2, none⟩ = some (.slice ca2 cj.length cc2) ∧ W.cell? ⟨JB, 3, none⟩ = some (.slice oa2 oj.length oc2) ∧ W.cell? ⟨TB, 0, none⟩ = some (.slice ta nn tc) ∧ W.cell? ⟨MB + 1, 0, none⟩ = some (.bool b6) ∧ W.cell? ⟨MB + 1, 1, none⟩ = some (.slice d6 l6 e6) ∧ W.cell? ⟨NB + 1, 0, none⟩ = some (.bool b8) ∧ W.cell? ⟨NB + 1, 1, none⟩ = some (.slice d8 l8 e8) from fun W q => ⟨bkeep q j0, bkeep q j1, bkeep q j2, bkeep q j3, bkeep q t0, bkeep q d0, bkeep q d1, bkeep q f0, bkeep q f1⟩)
  have hBw := Below.refl w11.heap.size w11
  clear hW11 h10 hTB ht hb10 h1011 TC h99
  go_wp2
  go_region_held3 (fun W => W.cell? ⟨JB, 0, none⟩ = some (.int .i64 ins) ∧ W.cell? ⟨JB, 1, none⟩ = some (.int .i64 T) ∧ W.cell? ⟨JB, 2, none⟩ = some (.slice ca2 cj.length cc2) ∧ W.cell? ⟨JB, 3, none⟩ = some (.slice oa2 oj.length oc2) ∧ W.cell? ⟨TB, 0, none⟩ = some (.slice ta nn tc) ∧ W.cell? ⟨MB + 1, 0, none⟩ = some (.bool b6) ∧ W.cell? ⟨MB + 1, 1, none⟩ = some (.slice d6 l6 e6) ∧ W.cell? ⟨NB + 1, 0, none⟩ = some (.bool b8) ∧ W.cell? ⟨NB + 1, 1, none⟩ = some (.slice d8 l8 e8))
    (first | (refine HS.out _ ?_; (repeat (first|exact bzR _ _|exact hBw|refine bzD ?_|refine bzN ?_|refine bzS ?_|refine bzA ?_)); done) | fail)
    (first
    | (go_at_call 51; (with_reducible refine (MC.out _ ?_).mono ?_); (repeat (first|exact bzR _ _|exact hBw|refine bzD ?_|refine bzN ?_|refine bzS ?_|refine bzA ?_)); rintro e w12 ⟨⟨u12, rfl, hu12⟩, hb12⟩; (have hBd : Below w11.heap.size w11 w12 := bthen (by repeat (first|exact bzR _ _|exact hBw|refine bzD ?_|refine bzN ?_|refine bzS ?_|refine bzA ?_)) hb12; clear hBw; have hBw := hBd; clear hBd); have HU12 := Lib.hid hu12; obtain ⟨y1, ya, yl, yc, rfl⟩ := hu12.lit; have hy12 := Below.refl w12.heap.size w12)
    | (go_at_call 44; (with_reducible refine (IC.out _ _ (HU12.out.keep ?_) ?_).mono ?_); (repeat (first|exact bzR _ _|exact hy12|refine bzD ?_|refine bzN ?_|refine bzS ?_|refine bzA ?_)); (repeat (first|exact bzR _ _|exact hBw|refine bzD ?_|refine bzN ?_|refine bzS ?_|refine bzA ?_)); rintro e w13 ⟨⟨b13, q13, rfl, hr13⟩, hb13⟩; (have hBd : Below w11.heap.size w11 w13 := bthen (by repeat (first|exact bzR _ _|exact hBw|refine bzD ?_|refine bzN ?_|refine bzS ?_|refine bzA ?_)) hb13; clear hBw; have hBw := hBd; clear hBd); have HR13 := Lib.hid (HIS.out _ _ hr13))
    | fail)
  all_goals
    have hBf := bthen hB hBw
    rcases HR13.out with rfl | ⟨rfl, rfl⟩
    · go_wp2
      go_ret
      exact ⟨rfl, by repeat (first|exact bzR _ _|exact hBf|refine bzD ?_|refine bzN ?_|refine bzS ?_|refine bzA ?_)⟩
    · go_wp2
      go_ret
      exact ⟨rfl, by repeat (first|exact bzR _ _|exact hBf|refine bzD ?_|refine bzN ?_|refine bzS ?_|refine bzA ?_)⟩
end Go.Proofs.YtbmaffijncapiaaGreatDoor

/- Arguments as they come in, opened: a program; rows of int64; what their bulk gives. -/
namespace Go.Proofs.YtbmaffijncapiaaGreatDoor
open Go.ChangeShapes Go.WideShapes Go.ChangeAt Go.RowKit Go.Joins Go.Deep
namespace bulks
theorem one_le {H : Type} (d : DataW H) : 1 ≤ Rows.uptoBulk d := by
  cases d with
  | lit l => cases l <;> simp [Rows.uptoBulk]
  | nil => simp [Rows.uptoBulk]
  | ptr d => simp [Rows.uptoBulk]
  | slice elems spare => simp [Rows.uptoBulk]
  | agg parts => simp [Rows.uptoBulk]
  | iface t d => simp [Rows.uptoBulk]
  | map entries => simp [Rows.uptoBulk]
  | held h => simp [Rows.uptoBulk]
theorem length_le {H : Type} (l : List (DataW H)) : l.length ≤ Rows.uptoBulkAll l := by
  induction l with
  | nil => simp [Rows.uptoBulkAll]
  | cons x r ih => have := one_le x; simp only [Rows.uptoBulkAll, List.length_cons]; omega
end bulks
section
variable {H : Type} {enc : TypeId × Value → H} {P : Program} {w : World} {base : Nat} {spare : Nat → Bool} {held : Bool}
theorem open_slice_fields {t e : TypeId} {fs : Array Field} {fuel : Nat} {cs : List Value} {x : DataW H × List MemPlace} (ht : P.underlying t = some (.slice e)) (he : P.underlying e = some (.struct fs))
    (hone : oneCellFields P fs = true) (hC : P.cellsOf e = fs.size) (h : DataW.trod enc P w base spare held fuel t cs = some x) :
    (cs = [.slice none 0 0] ∧ x = (.nil, [])) ∨
    ∃ (a : Addr) (len cap m : Nat) (D : Nat → DataW H) (Pl : Nat → List MemPlace), cs = [.slice (some a) len cap] ∧ base ≤ a.block ∧ len ≤ cap ∧ cap ≤ maxLen ∧ m = (if spare a.block then cap else len) ∧
      x = (.slice ((List.range len).map D) ((List.range (m - len)).map fun j => D (len + j)), MemPlace.row a (m * fs.size) ++ (List.range m).flatMap Pl) ∧
      ∀ i, i < m → ∃ (ys : List (DataW H × List MemPlace)) (n : Nat), D i = .agg (ys.map (·.1)) ∧ Pl i = ys.flatMap (·.2) ∧ ys.length = fs.size ∧
        ∀ (j : Nat) (f : Field), fs[j]? = some f → ∃ (v : Value) (y : DataW H × List MemPlace), w.cell? (a.add (i * fs.size + j)) = some v ∧ ys[j]? = some y ∧ DataW.trod enc P w base spare held n f.type [v] = some y := by
  rcases open_slice ht h with h0 | ⟨a, len, cap, m, n, D, Pl, hcs, hb, hl, hm, hmm, hx, hi⟩
  · exact .inl h0
  · refine .inr ⟨a, len, cap, m, D, Pl, hcs, hb, hl, hm, hmm, by rw [hC] at hx; exact hx, fun i him => ?_⟩
    obtain ⟨cs', hc, ht'⟩ := hi i him
    rw [hC] at hc
    obtain ⟨ys, n', hn', hy, hlen, hyl, hf⟩ := DataW.trod_struct he ht'
    obtain ⟨_, hcl, hat⟩ := World.cells?_some hc
    simp only [Prod.mk.injEq] at hy
    refine ⟨ys, n', hy.1, hy.2, hyl, fun j f hj => ?_⟩
    obtain ⟨ho, hk⟩ := hone_of hone j f hj
    have hjl : j < fs.size := (Array.getElem?_eq_some_iff.1 hj).1
    have hcell := hat j hjl
    have hv : cs'[j]? = some (cs'[j]'(by omega)) := List.getElem?_eq_getElem (by omega)
    have h1 := hf j f hj
    rw [ho, hk] at h1
    have hone' : (cs'.drop j).take 1 = [cs'[j]'(by omega)] := by
      rw [List.drop_eq_getElem_cons (by omega)]
      rfl
    rw [hone'] at h1
    have hys : ys[j]? = some (ys[j]'(by omega)) := List.getElem?_eq_getElem (by omega)
    refine ⟨_, _, ?_, hys, h1.trans hys⟩
    rw [← Go.Deep.add_add, hcell, hv]
end
theorem addr_plain {w : World} {a : Addr} {v : Value} (h : w.cell? a = some v) : a = ⟨a.block, a.off, none⟩ := by
  obtain ⟨b, o, s⟩ := a
  cases s with
  | none => rfl
  | some s =>
    simp only [World.cell?] at h
    split at h <;> simp at h
theorem add_plain (b o k : Nat) : (⟨b, o, none⟩ : Addr).add k = ⟨b, o + k, none⟩ := by
  unfold Addr.add; split
  · subst_vars; rfl
  · rfl
theorem plain_at {w : World} {a : Addr} {v : Value} (h : w.cell? (a.add 0) = some v) : ∃ b o, a = ⟨b, o, none⟩ := by
  have h2 : w.cell? a = some v := by simpa [Addr.add] using h
  exact ⟨_, _, addr_plain h2⟩
section
variable {H : Type} {enc : TypeId × Value → H} {W : World} {b0 : Nat} {r : Reach} {v : Value} {d : DataW H} {p : List MemPlace}
theorem open_intsV {fuel : Nat} {v : Value} {y : DataW H × List MemPlace} (h : DataW.trod enc Tryz.prog W 0 (fun _ => true) true fuel 23 [v] = some y) :
    ∃ a c L, v = .slice a (List.length L) c ∧ IntsV W a c L ∧ (a = none → L = []) ∧ L.length ≤ Rows.uptoBulk y.1 := by
  rcases open_ints Tryz.underlying23 Tryz.underlying3 (by kernel_rfl) h with ⟨hcs, rfl⟩ | ⟨a, len, cap, zs, hcs, _, hl, hm, hz, rfl, hc, hw⟩
  · simp at hcs; subst hcs
    exact ⟨_, _, [], rfl, .inl rfl, fun _ => rfl, by simp⟩
  · simp at hcs; subst hcs
    simp only [if_true] at hz
    have hlen : (zs.take len).length = len := by rw [List.length_take]; omega
    refine ⟨some a, cap, zs.take len, by rw [hlen], ?_, (fun e => by cases e), ?_⟩
    · by_cases h0 : len = 0
      · exact .inl (by subst h0; simp)
      · obtain ⟨b, o, rfl⟩ := plain_at (hc 0 (by omega))
        refine .inr ⟨b, o, rfl, by rw [hlen]; exact hl, fun k hk => ?_⟩
        rw [hlen] at hk
        have h9 := hc k (by omega)
        rw [add_plain] at h9
        rw [h9, List.getD_eq_getElem?_getD, List.getD_eq_getElem?_getD, List.getElem?_take_of_lt hk]
    · have := bulks.length_le (H := H) (lits .i64 (zs.take len))
      simp only [lits, List.length_map] at this
      simp only [Rows.uptoBulk, lits]; omega
theorem cells_ins : Tryz.prog.cellsOf 96 = 5 := by kernel_rfl
theorem open_insV {fuel : Nat} {v : Value} {y : DataW H × List MemPlace} (h : DataW.trod enc Tryz.prog W 0 (fun _ => true) true fuel 22 [v] = some y) :
    ∃ a c L, v = .slice a (List.length L) c ∧ InsV W a c L ∧ (a = none → L = []) ∧ L.length ≤ Rows.uptoBulk y.1 := by
  rcases open_slice_fields Tryz.underlying22 Tryz.underlying96 (by kernel_rfl) cells_ins h with ⟨hcs, rfl⟩ | ⟨x, n, c, m, D, Pl, hcs, _, hl, hm, hmm, rfl, hcell⟩
  · simp at hcs; subst hcs
    exact ⟨_, _, [], rfl, .inl rfl, fun _ => rfl, by simp⟩
  · simp at hcs; subst hcs
    simp only [if_true] at hmm
    subst hmm
    have hall : ∀ i, i < m → ∃ q : Ins, W.cell? (x.add (i * 5)) = some (.int .i64 q.op) ∧ W.cell? (x.add (i * 5 + 1)) = some (.int .i64 q.to) ∧ W.cell? (x.add (i * 5 + 2)) = some (.int .i64 q.a) ∧ W.cell? (x.add (i * 5 + 3)) = some (.int .i64 q.b) ∧ W.cell? (x.add (i * 5 + 4)) = some (.int .i64 q.c) := by
      intro i hi
      obtain ⟨ys, k, _, _, _, hf⟩ := hcell i hi
      obtain ⟨u0, y0, c0, _, t0⟩ := hf 0 _ rfl
      obtain ⟨u1, y1, c1, _, t1⟩ := hf 1 _ rfl
      obtain ⟨u2, y2, c2, _, t2⟩ := hf 2 _ rfl
      obtain ⟨u3, y3, c3, _, t3⟩ := hf 3 _ rfl
      obtain ⟨u4, y4, c4, _, t4⟩ := hf 4 _ rfl
      obtain ⟨a0, e0, _, _⟩ := DataW.trod_int Tryz.underlying3 t0
      obtain ⟨a1, e1, _, _⟩ := DataW.trod_int Tryz.underlying3 t1
      obtain ⟨a2, e2, _, _⟩ := DataW.trod_int Tryz.underlying3 t2
      obtain ⟨a3, e3, _, _⟩ := DataW.trod_int Tryz.underlying3 t3
      obtain ⟨a4, e4, _, _⟩ := DataW.trod_int Tryz.underlying3 t4
      simp at e0 e1 e2 e3 e4
      subst e0 e1 e2 e3 e4
      exact ⟨⟨a0, a1, a2, a3, a4⟩, c0, c1, c2, c3, c4⟩
    have hf : ∃ f : Nat → Ins, ∀ i, i < m → W.cell? (x.add (i * 5)) = some (.int .i64 (f i).op) ∧ W.cell? (x.add (i * 5 + 1)) = some (.int .i64 (f i).to) ∧ W.cell? (x.add (i * 5 + 2)) = some (.int .i64 (f i).a) ∧ W.cell? (x.add (i * 5 + 3)) = some (.int .i64 (f i).b) ∧ W.cell? (x.add (i * 5 + 4)) = some (.int .i64 (f i).c) := by
      refine ⟨fun i => if hi : i < m then (hall i hi).choose else default, fun i hi => ?_⟩
      simp only [dif_pos hi]
      exact (hall i hi).choose_spec
    obtain ⟨f, hf⟩ := hf
    refine ⟨some x, m, (List.range n).map f, by simp, ?_, (fun e => by cases e), ?_⟩
    · by_cases h0 : n = 0
      · exact .inl (by subst h0; simp)
      · obtain ⟨b, o, rfl⟩ := plain_at (by have := (hf 0 (by omega)).1; simpa using this)
        refine .inr ⟨b, o, rfl, by simpa using hl, fun k hk => ?_⟩
        rw [List.length_map, List.length_range] at hk
        obtain ⟨c0, c1, c2, c3, c4⟩ := hf k (by omega)
        rw [add_plain] at c0 c1 c2 c3 c4
        have e : ((List.range n).map f).getD k default = f k := by simp [hk]
        rw [e]
        exact ⟨c0, c1, c2, c3, c4⟩
    · have := bulks.length_le (H := H) ((List.range n).map D)
      simp only [List.length_map, List.length_range] at this ⊢
      simp only [Rows.uptoBulk]; omega
theorem cells_prog : Tryz.prog.cellsOf 25 = 4 := by kernel_rfl
set_option maxRecDepth 100000 in
theorem open_prog (hv : Value.okWide Tryz.prog W r b0 25 v) (h : DataW.Trod enc Tryz.prog W 0 (fun _ => true) true 25 v d p) :
    ∃ ins regs ca oa cc oc code outs, v = .agg #[.int .i64 ins, .int .i64 regs, .slice ca (List.length code) cc, .slice oa (List.length outs) oc] ∧ InsV W ca cc code ∧ IntsV W oa oc outs ∧ (ca = none → code = []) ∧ (oa = none → outs = []) ∧ code.length + outs.length ≤ Rows.uptoBulk d := by
  obtain ⟨v0, v1, v2, v3, y0, y1, y2, y3, n, rfl, rfl, rfl, t0, t1, t2, t3⟩ := open_agg4 Tryz.underlying25 (by kernel_rfl) cells_prog hv h
  obtain ⟨a0, e0, rfl, _⟩ := DataW.trod_int Tryz.underlying3 t0
  obtain ⟨a1, e1, rfl, _⟩ := DataW.trod_int Tryz.underlying3 t1
  simp at e0 e1
  subst e0 e1
  obtain ⟨ca, cc, code, rfl, hc, hcn, hcl⟩ := open_insV t2
  obtain ⟨oa, oc, outs, rfl, ho, hon, hol⟩ := open_intsV t3
  exact ⟨a0, a1, ca, oa, cc, oc, code, outs, rfl, hc, ho, hcn, hon, by simp only [Rows.uptoBulk, Rows.uptoBulkAll]; omega⟩
end
end Go.Proofs.YtbmaffijncapiaaGreatDoor

