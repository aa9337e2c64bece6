/- Texts of this seat, laid together (what the earlier ones leave out): DwM. Each opens with its own remark, which says what it proves, and under which conditions. -/
import Derived.Test.YtbmaffijncapiaaGreatDoorL01
import Derived.Test.YtbmaffijncapiaaGreatDoorL02
import Derived.Test.YtbmaffijncapiaaGreatDoorL03
import Derived.Test.YtbmaffijncapiaaGreatDoorL04
import Derived.Test.YtbmaffijncapiaaGreatDoorL05
import Derived.Test.YtbmaffijncapiaaGreatDoorL06
import Derived.Test.YtbmaffijncapiaaGreatDoorL07
import Derived.Test.YtbmaffijncapiaaGreatDoorL08
import Derived.Test.YtbmaffijncapiaaGreatDoorL09
import Derived.Test.YtbmaffijncapiaaGreatDoorL10
import Derived.Test.YtbmaffijncapiaaGreatDoorL11
import Derived.Test.YtbmaffijncapiaaGreatDoorL12
import Derived.Test.YtbmaffijncapiaaGreatDoorL13
import Derived.Test.YtbmaffijncapiaaGreatDoorL14
import Derived.Test.YtbmaffijncapiaaGreatDoorL15
import Derived.Test.YtbmaffijncapiaaGreatDoorL16
import Derived.Test.YtbmaffijncapiaaGreatDoorL17
import Derived.Test.YtbmaffijncapiaaGreatDoorL18
import Derived.Test.YtbmaffijncapiaaGreatDoorL19
import Derived.Test.YtbmaffijncapiaaGreatDoorL20
import Derived.Test.YtbmaffijncapiaaGreatDoorL21
import Derived.Test.YtbmaffijncapiaaGreatDoorL22
import Derived.Test.YtbmaffijncapiaaGreatDoorL23
import Derived.Test.YtbmaffijncapiaaGreatDoorL24
import Derived.Test.YtbmaffijncapiaaGreatDoorJ01
import Derived.Test.YtbmaffijncapiaaGreatDoorJ02
import Derived.Test.YtbmaffijncapiaaGreatDoorJ03
import Derived.Test.YtbmaffijncapiaaGreatDoorJ04
import Derived.Test.YtbmaffijncapiaaGreatDoorJ05
import Derived.Test.YtbmaffijncapiaaGreatDoorJ06
import Derived.WalkKit
import Derived.ProofKit
import Derived.OpenShut
import Derived.Deep.QuietTactic
import Derived.BigQuiet
import Derived.Outline
import Derived.Lib.Hide
import Derived.WalkSmall
import Derived.WalkSpells
import Derived.WalkLawsBesides
import Derived.Deep.RegionWith
import Derived.Deep.RegionHeld3
import Derived.Laws.CopyOwn
import Derived.Shelf.Small.Bits
import Derived.Laws.AppendOwn
import Derived.Deep.AppendLies
import Derived.OneCell
import Derived.Laws.BitsAllLaws
import Derived.Shelf.Spec.TrailingZeros
import Derived.Shelf.Strings.Builder1
import Derived.Shelf.Strings.Trim
import Derived.Deep.Cut
import Derived.Deep.DeepCutAuto
import Derived.ArgAppend
import Derived.Deep.DeepFit
import Derived.Shelf.Abstract
import Derived.Laws.EntriesVeiled
import Derived.RegionTactic
import Derived.ChangeAlike
import Derived.Laws.OwnMore
import Derived.Deep.Onto
import Derived.Deep.DrawnRows
import Derived.Deep.RegionLaw
import Derived.Deep.LoopGhost
import Derived.RangeFuncNested
import Derived.RangeFuncBound
import Derived.RangeFuncCalls
import Derived.RangeFuncLeaves
import Derived.Shelf.RegionOpen
import Derived.OwnWalkIn
import Derived.TacticsInMore
import Derived.LoopNIn
import Derived.LoopIn
import Derived.Laws.CopyRow
import Derived.Laws.Rows
import Derived.Laws.Tables
import Derived.StillTail
import Derived.Deep.Quiet
import Derived.StillTailTactics
import Derived.Lib.AppendZeros
import Derived.Laws.IdiomStrings
import Derived.Laws.BytesArg
import Derived.Laws.RangeString
import Derived.Lib.OthersKept
import Derived.Maps.AppendAt
import Derived.Shelf.Strings.OnBuilder
import Derived.Lib.SmallJoins
import Derived.Deep.Slices
import Derived.Deep.Matrix
import Derived.Deep.Fields
import Derived.ChangeSame
import Derived.DataShut
import Derived.SizedLaws
set_option linter.unusedVariables false
set_option linter.unusedSimpArgs false
/- prog: Join: two programs, one behind the other. -/
namespace Go.Proofs.YtbmaffijncapiaaGreatDoor
open Num
open Go.ChangeShapes Go.WideShapes Go.ChangeAt Go.RowKit
attribute [local go_sem ↓] Go.wp_at_zero Go.wp_at_succ
theorem ownsJ_le {w : World} {base base' n size : Nat} {T : TypeId} {v : Value} {xs : List Value} (h : w.ownsRow base T size v n xs) (hb : base' ≤ base) : w.ownsRow base' T size v n xs := by
  refine ⟨h.1, ?_⟩
  rcases h.2 with h2 | ⟨g, cap, cur, hv, hg, r⟩
  · exact .inl h2
  · exact .inr ⟨g, cap, cur, hv, Nat.le_trans hb hg, r⟩
def JoinYes (ins regs ins' regs' : Int) (code code' : List Ins) (outs outs' : List Int) (w' : World) (v : Value) : Prop :=
  ProgOk ins regs code outs ∧ ProgOk ins' regs' code' outs' ∧ ins' = (outs.length : Int) ∧ regs + regs' ≤ 128 ∧ code.length + outs.length + code'.length ≤ 16384 ∧
    ∃ ca cc oa oc, v = .agg #[.int .i64 ins, .int .i64 (regs + regs'), .slice ca (joinC regs code outs code').length cc, .slice oa (joinO regs outs').length oc] ∧ InsV w' ca cc (joinC regs code outs code') ∧ IntsV w' oa oc (joinO regs outs')
def JoinPost (ins regs ins' regs' : Int) (code code' : List Ins) (outs outs' : List Int) (w : World) (e : Ending) (w' : World) : Prop :=
  (∃ v q, e = .returned (.tuple #[v, .int .i64 q]) ∧ ((q ≠ 0 ∧ v = .agg #[.int .i64 0, .int .i64 0, .slice none 0 0, .slice none 0 0]) ∨ (q = 0 ∧ JoinYes ins regs ins' regs' code code' outs outs' w' v))) ∧ Below w.heap.size w w'
theorem JoinPost.no {ins regs ins' regs' : Int} {code code' : List Ins} {outs outs' : List Int} {w w' : World} {q : Int} (h : q ≠ 0) (hb : Below w.heap.size w w') : JoinPost ins regs ins' regs' code code' outs outs' w (.returned (.tuple #[.agg #[.int .i64 0, .int .i64 0, .slice none 0 0, .slice none 0 0], .int .i64 q])) w' := ⟨⟨_, _, rfl, .inl ⟨h, rfl⟩⟩, hb⟩
theorem JoinPost.yes {ins regs ins' regs' : Int} {code code' : List Ins} {outs outs' : List Int} {w w' : World} {v : Value} (h : JoinYes ins regs ins' regs' code code' outs outs' w' v) (hb : Below w.heap.size w w') : JoinPost ins regs ins' regs' code code' outs outs' w (.returned (.tuple #[v, .int .i64 0])) w' := ⟨⟨_, _, rfl, .inr ⟨rfl, h⟩⟩, hb⟩
theorem JnB.mk1 {base : Nat} {k R : Int} {L : List Ins} {w : World} {v : Value} (h : w.ownsRow base 96 5 v L.length (pcel L)) : JnB base w.heap.size k R L [] (w.alloc (.cells #[.int .i64 k, .int .i64 R, v, .slice none 0 0] 25)) :=
  ⟨typ_fresh rfl, Free.new rfl, cell_new rfl rfl, cell_new rfl rfl, ⟨v, cell_new rfl rfl, owns_kp (S := fun _ => True) h (Kp.of_below _ (bal (Below.refl _ _) _)) trivial⟩, ⟨.slice none 0 0, cell_new rfl rfl, World.ownsRow_nil _ _ _ _⟩⟩
theorem JnB.mk2 {base pb : Nat} {k R : Int} {L : List Ins} {w w' : World} {v : Value} (hp : pb = w.heap.size) (hb : Below (w.alloc (.cells #[.int .i64 0, .int .i64 0, .slice none 0 0, .slice none 0 0] 25)).heap.size (w.alloc (.cells #[.int .i64 0, .int .i64 0, .slice none 0 0, .slice none 0 0] 25)) w')
    (h : w'.ownsRow base 96 5 v L.length (pcel L)) : JnB base pb k R L [] ((((w'.setCell ⟨pb, 0, none⟩ (.int .i64 k)).setCell ⟨pb, 1, none⟩ (.int .i64 R)).setCell ⟨pb, 2, none⟩ v).setCell ⟨pb, 3, none⟩ (.slice none 0 0)) := by
  subst hp
  have ht : typOf w' w.heap.size = some 25 := typ_keep (typ_fresh rfl) hb
  have hf : Free w' w.heap.size := (Free.new rfl).keep hb
  have c0 : w'.cell? ⟨w.heap.size, 0, none⟩ = some (.int .i64 0) := bkeep hb (cell_new rfl rfl)
  have c1 : w'.cell? ⟨w.heap.size, 1, none⟩ = some (.int .i64 0) := bkeep hb (cell_new rfl rfl)
  have c2 : w'.cell? ⟨w.heap.size, 2, none⟩ = some (.slice none 0 0) := bkeep hb (cell_new rfl rfl)
  have c3 : w'.cell? ⟨w.heap.size, 3, none⟩ = some (.slice none 0 0) := bkeep hb (cell_new rfl rfl)
  refine ⟨by rw [typ_set, typ_set, typ_set, typ_set]; exact ht, (((hf.set _ _).set _ _).set _ _).set _ _, ?_, ?_, ⟨v, ?_, ?_⟩, ⟨.slice none 0 0, ?_, World.ownsRow_nil _ _ _ _⟩⟩
  · exact cell_far (cell_far (cell_far (cell_here c0 _) (by simp) _) (by simp) _) (by simp) _
  · exact cell_far (cell_far (cell_here (cell_far c1 (by simp) _) _) (by simp) _) (by simp) _
  · exact cell_far (cell_here (cell_far (cell_far c2 (by simp) _) (by simp) _) _) (by simp) _
  · exact JnB.nb (by rw [typ_set, typ_set, typ_set]; exact ht) (by decide) (JnB.nb (by rw [typ_set, typ_set]; exact ht) (by decide) (JnB.nb (by rw [typ_set]; exact ht) (by decide) (JnB.nb ht (by decide) h _) _) _) _
  · exact cell_here (cell_far (cell_far (cell_far c3 (by simp) _) (by simp) _) (by simp) _) _
theorem mvs_take (R : Int) {outs : List Int} {k : Nat} (h : k < outs.length) : (mvs R outs).take k ++ [(mvs R outs).getD k default] = (mvs R outs).take (k + 1) := by
  have hl : k < (mvs R outs).length := by rw [mvs_len]; exact h
  rw [List.take_succ_eq_append_getElem hl, List.getD_eq_getElem?_getD, List.getElem?_eq_getElem hl]; rfl
theorem map_take {f : Ins → Ins} {L : List Ins} {k : Nat} (h : k < L.length) : (L.map f).take k ++ [(L.map f).getD k default] = (L.map f).take (k + 1) := by
  have hl : k < (L.map f).length := by rw [List.length_map]; exact h
  rw [List.take_succ_eq_append_getElem hl, List.getD_eq_getElem?_getD, List.getElem?_eq_getElem hl]; rfl
theorem joinO_take (R : Int) {L : List Int} {k : Nat} (h : k < L.length) : (joinO R L).take k ++ [L.getD k 0 + R] = (joinO R L).take (k + 1) := by
  have hl : k < (joinO R L).length := by rw [joinO_len]; exact h
  rw [← joinO_get (R := R) h, List.take_succ_eq_append_getElem hl, List.getD_eq_getElem?_getD, List.getElem?_eq_getElem hl]; rfl
theorem wrapJ {x : Int} (h1 : -1000000 ≤ x) (h2 : x ≤ 1000000) : wrap64 x = x := by unfold wrap64; omega
theorem wrapK {ins regs regs' : Int} {a b c k : Nat} (h : 1 ≤ ins ∧ ins ≤ regs ∧ regs ≤ 128 ∧ regs' ≤ 128 ∧ a ≤ 16384 ∧ b ≤ 16384 ∧ c ≤ 128) (hk : k ≤ c) : wrap64 (regs + (k : Int)) = regs + (k : Int) := wrapJ (by omega) (by omega)
theorem wrapL {ins regs regs' r : Int} {a b c : Nat} (h : 1 ≤ ins ∧ ins ≤ regs ∧ regs ≤ 128 ∧ regs' ≤ 128 ∧ a ≤ 16384 ∧ b ≤ 16384 ∧ c ≤ 128) (hr : 0 ≤ r ∧ r < regs') : wrap64 (r + regs) = r + regs := wrapJ (by omega) (by omega)
theorem belowJ {a b : World} (h : Below a.heap.size a b) : a.heap.size ≤ b.heap.size := h.size
set_option maxRecDepth 100000 in
set_option maxHeartbeats 16000000 in
theorem joinP_c (ins regs ins' regs' : Int) (ca oa ca' oa' : Option Addr) (cc oc cc' oc' : Nat) (code code' : List Ins) (outs outs' : List Int) (w : World) (hc : InsV w ca cc code) (ho : IntsV w oa oc outs) (hc' : InsV w ca' cc' code') (ho' : IntsV w oa' oc' outs') :
    Calls Tryz.prog 49 #[.agg #[.int .i64 ins, .int .i64 regs, .slice ca code.length cc, .slice oa outs.length oc], .agg #[.int .i64 ins', .int .i64 regs', .slice ca' code'.length cc', .slice oa' outs'.length oc']] w (JoinPost ins regs ins' regs' code code' outs outs' w) := by
  have HC := Lib.hid (And.intro hc ho)
  have HD := Lib.hid (And.intro hc' ho')
  have hB := Below.refl w.heap.size w
  clear hc ho hc' ho'
  by_cases hp : ProgOk ins regs code outs
  rotate_left
  · have RP := Lib.hid (fun V (q : Below w.heap.size w V) => right_no (HC.out.1.keep q) (HC.out.2.keep q) hp)
    clear hp
    go_enter Tryz.func49, Tryz.ntmps49
    go_wp2_with fail
    (with_reducible refine (RP.out _ ?_).mono ?_); (repeat (first|exact bzR _ _|exact hB|refine bzD ?_|refine bzN ?_|refine bzS ?_|refine bzA ?_))
    rintro e w1 ⟨rfl, hb1⟩
    have p0 : w1.cell? ⟨w.heap.size, 0, none⟩ = some (.int .i64 ins) := bkc hb1
    have zp0 := cell_lt p0
    have p1 : w1.cell? ⟨w.heap.size, 1, none⟩ = some (.int .i64 regs) := bkc hb1
    have p2 : w1.cell? ⟨w.heap.size, 2, none⟩ = some (.slice ca code.length cc) := bkc hb1
    have p3 : w1.cell? ⟨w.heap.size, 3, none⟩ = some (.slice oa outs.length oc) := bkc hb1
    have q0 : w1.cell? ⟨w.heap.size + 1, 0, none⟩ = some (.int .i64 ins') := bkc hb1
    have zq0 := cell_lt q0
    have q1 : w1.cell? ⟨w.heap.size + 1, 1, none⟩ = some (.int .i64 regs') := bkc hb1
    have q2 : w1.cell? ⟨w.heap.size + 1, 2, none⟩ = some (.slice ca' code'.length cc') := bkc hb1
    have q3 : w1.cell? ⟨w.heap.size + 1, 3, none⟩ = some (.slice oa' outs'.length oc') := bkc hb1
    have r0 : w1.cell? ⟨w.heap.size + 1 + 1, 0, none⟩ = some (.int .i64 0) := bkc hb1
    have zr0 := cell_lt r0
    have r0f : w1.frozen? ⟨w.heap.size + 1 + 1, 0, none⟩ = false := bkcf (v := .int .i64 0) hb1
    have r1 : w1.cell? ⟨w.heap.size + 1 + 1, 1, none⟩ = some (.int .i64 0) := bkc hb1
    have r1f : w1.frozen? ⟨w.heap.size + 1 + 1, 1, none⟩ = false := bkcf (v := .int .i64 0) hb1
    have r2 : w1.cell? ⟨w.heap.size + 1 + 1, 2, none⟩ = some (.slice none 0 0) := bkc hb1
    have r2f : w1.frozen? ⟨w.heap.size + 1 + 1, 2, none⟩ = false := bkcf (v := .slice none 0 0) hb1
    have r3 : w1.cell? ⟨w.heap.size + 1 + 1, 3, none⟩ = some (.slice none 0 0) := bkc hb1
    have r3f : w1.frozen? ⟨w.heap.size + 1 + 1, 3, none⟩ = false := bkcf (v := .slice none 0 0) hb1
    have hB : Below w.heap.size w w1 := bthen (by repeat (first|exact bzR _ _|exact hB|refine bzD ?_|refine bzN ?_|refine bzS ?_|refine bzA ?_)) hb1
    have hz : w.heap.size ≤ w1.heap.size := hB.size
    clear RP hb1
    go_wp2
    refine bodyPost_ret (v := .tuple #[.agg #[.int .i64 0, .int .i64 0, .slice none 0 0, .slice none 0 0], .int .i64 80]) (by simp [results, Tryz.results49, go_sem, *]) rfl (JoinPost.no (by omega) ?_)
    repeat (first | exact hB | refine bset ?_ (by show w.heap.size ≤ w.heap.size + 1 + 1; omega) _)
  have RP := Lib.hid (fun V (q : Below w.heap.size w V) => right_yes (HC.out.1.keep q) (HC.out.2.keep q) hp)
  have HP := Lib.hid hp
  by_cases hq : ProgOk ins' regs' code' outs'
  rotate_left
  · have RQ := Lib.hid (fun V (q : Below w.heap.size w V) => right_no (HD.out.1.keep q) (HD.out.2.keep q) hq)
    clear hp hq
    go_enter Tryz.func49, Tryz.ntmps49
    go_wp2_with fail
    (with_reducible refine (RP.out _ ?_).mono ?_); (repeat (first|exact bzR _ _|exact hB|refine bzD ?_|refine bzN ?_|refine bzS ?_|refine bzA ?_))
    rintro e w1 ⟨rfl, hb1⟩
    have p0 : w1.cell? ⟨w.heap.size, 0, none⟩ = some (.int .i64 ins) := bkc hb1
    have zp0 := cell_lt p0
    have p1 : w1.cell? ⟨w.heap.size, 1, none⟩ = some (.int .i64 regs) := bkc hb1
    have p2 : w1.cell? ⟨w.heap.size, 2, none⟩ = some (.slice ca code.length cc) := bkc hb1
    have p3 : w1.cell? ⟨w.heap.size, 3, none⟩ = some (.slice oa outs.length oc) := bkc hb1
    have q0 : w1.cell? ⟨w.heap.size + 1, 0, none⟩ = some (.int .i64 ins') := bkc hb1
    have zq0 := cell_lt q0
    have q1 : w1.cell? ⟨w.heap.size + 1, 1, none⟩ = some (.int .i64 regs') := bkc hb1
    have q2 : w1.cell? ⟨w.heap.size + 1, 2, none⟩ = some (.slice ca' code'.length cc') := bkc hb1
    have q3 : w1.cell? ⟨w.heap.size + 1, 3, none⟩ = some (.slice oa' outs'.length oc') := bkc hb1
    have r0 : w1.cell? ⟨w.heap.size + 1 + 1, 0, none⟩ = some (.int .i64 0) := bkc hb1
    have zr0 := cell_lt r0
    have r0f : w1.frozen? ⟨w.heap.size + 1 + 1, 0, none⟩ = false := bkcf (v := .int .i64 0) hb1
    have r1 : w1.cell? ⟨w.heap.size + 1 + 1, 1, none⟩ = some (.int .i64 0) := bkc hb1
    have r1f : w1.frozen? ⟨w.heap.size + 1 + 1, 1, none⟩ = false := bkcf (v := .int .i64 0) hb1
    have r2 : w1.cell? ⟨w.heap.size + 1 + 1, 2, none⟩ = some (.slice none 0 0) := bkc hb1
    have r2f : w1.frozen? ⟨w.heap.size + 1 + 1, 2, none⟩ = false := bkcf (v := .slice none 0 0) hb1
    have r3 : w1.cell? ⟨w.heap.size + 1 + 1, 3, none⟩ = some (.slice none 0 0) := bkc hb1
    have r3f : w1.frozen? ⟨w.heap.size + 1 + 1, 3, none⟩ = false := bkcf (v := .slice none 0 0) hb1
    have hB : Below w.heap.size w w1 := bthen (by repeat (first|exact bzR _ _|exact hB|refine bzD ?_|refine bzN ?_|refine bzS ?_|refine bzA ?_)) hb1
    have hz : w.heap.size ≤ w1.heap.size := hB.size
    clear RP hb1
    go_wp2_with fail
    (with_reducible refine (RQ.out _ ?_).mono ?_); (repeat (first|exact bzR _ _|exact hB|refine bzD ?_|refine bzN ?_|refine bzS ?_|refine bzA ?_))
    rintro e w2 ⟨rfl, hb2⟩
    have p0 : w2.cell? ⟨w.heap.size, 0, none⟩ = some (.int .i64 ins) := bkc hb2
    have zp0 := cell_lt p0
    have p1 : w2.cell? ⟨w.heap.size, 1, none⟩ = some (.int .i64 regs) := bkc hb2
    have p2 : w2.cell? ⟨w.heap.size, 2, none⟩ = some (.slice ca code.length cc) := bkc hb2
    have p3 : w2.cell? ⟨w.heap.size, 3, none⟩ = some (.slice oa outs.length oc) := bkc hb2
    have q0 : w2.cell? ⟨w.heap.size + 1, 0, none⟩ = some (.int .i64 ins') := bkc hb2
    have zq0 := cell_lt q0
    have q1 : w2.cell? ⟨w.heap.size + 1, 1, none⟩ = some (.int .i64 regs') := bkc hb2
    have q2 : w2.cell? ⟨w.heap.size + 1, 2, none⟩ = some (.slice ca' code'.length cc') := bkc hb2
    have q3 : w2.cell? ⟨w.heap.size + 1, 3, none⟩ = some (.slice oa' outs'.length oc') := bkc hb2
    have r0 : w2.cell? ⟨w.heap.size + 1 + 1, 0, none⟩ = some (.int .i64 0) := bkc hb2
    have zr0 := cell_lt r0
    have r0f : w2.frozen? ⟨w.heap.size + 1 + 1, 0, none⟩ = false := bkcf (v := .int .i64 0) hb2
    have r1 : w2.cell? ⟨w.heap.size + 1 + 1, 1, none⟩ = some (.int .i64 0) := bkc hb2
    have r1f : w2.frozen? ⟨w.heap.size + 1 + 1, 1, none⟩ = false := bkcf (v := .int .i64 0) hb2
    have r2 : w2.cell? ⟨w.heap.size + 1 + 1, 2, none⟩ = some (.slice none 0 0) := bkc hb2
    have r2f : w2.frozen? ⟨w.heap.size + 1 + 1, 2, none⟩ = false := bkcf (v := .slice none 0 0) hb2
    have r3 : w2.cell? ⟨w.heap.size + 1 + 1, 3, none⟩ = some (.slice none 0 0) := bkc hb2
    have r3f : w2.frozen? ⟨w.heap.size + 1 + 1, 3, none⟩ = false := bkcf (v := .slice none 0 0) hb2
    have hB : Below w.heap.size w w2 := bthen (by repeat (first|exact bzR _ _|exact hB|refine bzD ?_|refine bzN ?_|refine bzS ?_|refine bzA ?_)) hb2
    have hz : w.heap.size ≤ w2.heap.size := hB.size
    clear RQ hb2
    go_wp2
    refine bodyPost_ret (v := .tuple #[.agg #[.int .i64 0, .int .i64 0, .slice none 0 0, .slice none 0 0], .int .i64 80]) (by simp [results, Tryz.results49, go_sem, *]) rfl (JoinPost.no (by omega) ?_)
    repeat (first | exact hB | refine bset ?_ (by show w.heap.size ≤ w.heap.size + 1 + 1; omega) _)
  have RQ := Lib.hid (fun V (q : Below w.heap.size w V) => right_yes (HD.out.1.keep q) (HD.out.2.keep q) hq)
  have HQ := Lib.hid hq
  clear hp hq
  by_cases he : ins' = (outs.length : Int)
  rotate_left
  · have d1 : (ins' != (outs.length : Int)) = true := by simpa using he
    clear he
    go_enter Tryz.func49, Tryz.ntmps49
    go_wp2_with fail
    (with_reducible refine (RP.out _ ?_).mono ?_); (repeat (first|exact bzR _ _|exact hB|refine bzD ?_|refine bzN ?_|refine bzS ?_|refine bzA ?_))
    rintro e w1 ⟨rfl, hb1⟩
    have p0 : w1.cell? ⟨w.heap.size, 0, none⟩ = some (.int .i64 ins) := bkc hb1
    have zp0 := cell_lt p0
    have p1 : w1.cell? ⟨w.heap.size, 1, none⟩ = some (.int .i64 regs) := bkc hb1
    have p2 : w1.cell? ⟨w.heap.size, 2, none⟩ = some (.slice ca code.length cc) := bkc hb1
    have p3 : w1.cell? ⟨w.heap.size, 3, none⟩ = some (.slice oa outs.length oc) := bkc hb1
    have q0 : w1.cell? ⟨w.heap.size + 1, 0, none⟩ = some (.int .i64 ins') := bkc hb1
    have zq0 := cell_lt q0
    have q1 : w1.cell? ⟨w.heap.size + 1, 1, none⟩ = some (.int .i64 regs') := bkc hb1
    have q2 : w1.cell? ⟨w.heap.size + 1, 2, none⟩ = some (.slice ca' code'.length cc') := bkc hb1
    have q3 : w1.cell? ⟨w.heap.size + 1, 3, none⟩ = some (.slice oa' outs'.length oc') := bkc hb1
    have r0 : w1.cell? ⟨w.heap.size + 1 + 1, 0, none⟩ = some (.int .i64 0) := bkc hb1
    have zr0 := cell_lt r0
    have r0f : w1.frozen? ⟨w.heap.size + 1 + 1, 0, none⟩ = false := bkcf (v := .int .i64 0) hb1
    have r1 : w1.cell? ⟨w.heap.size + 1 + 1, 1, none⟩ = some (.int .i64 0) := bkc hb1
    have r1f : w1.frozen? ⟨w.heap.size + 1 + 1, 1, none⟩ = false := bkcf (v := .int .i64 0) hb1
    have r2 : w1.cell? ⟨w.heap.size + 1 + 1, 2, none⟩ = some (.slice none 0 0) := bkc hb1
    have r2f : w1.frozen? ⟨w.heap.size + 1 + 1, 2, none⟩ = false := bkcf (v := .slice none 0 0) hb1
    have r3 : w1.cell? ⟨w.heap.size + 1 + 1, 3, none⟩ = some (.slice none 0 0) := bkc hb1
    have r3f : w1.frozen? ⟨w.heap.size + 1 + 1, 3, none⟩ = false := bkcf (v := .slice none 0 0) hb1
    have hB : Below w.heap.size w w1 := bthen (by repeat (first|exact bzR _ _|exact hB|refine bzD ?_|refine bzN ?_|refine bzS ?_|refine bzA ?_)) hb1
    have hz : w.heap.size ≤ w1.heap.size := hB.size
    clear RP hb1
    go_wp2_with fail
    (with_reducible refine (RQ.out _ ?_).mono ?_); (repeat (first|exact bzR _ _|exact hB|refine bzD ?_|refine bzN ?_|refine bzS ?_|refine bzA ?_))
    rintro e w2 ⟨rfl, hb2⟩
    have p0 : w2.cell? ⟨w.heap.size, 0, none⟩ = some (.int .i64 ins) := bkc hb2
    have zp0 := cell_lt p0
    have p1 : w2.cell? ⟨w.heap.size, 1, none⟩ = some (.int .i64 regs) := bkc hb2
    have p2 : w2.cell? ⟨w.heap.size, 2, none⟩ = some (.slice ca code.length cc) := bkc hb2
    have p3 : w2.cell? ⟨w.heap.size, 3, none⟩ = some (.slice oa outs.length oc) := bkc hb2
    have q0 : w2.cell? ⟨w.heap.size + 1, 0, none⟩ = some (.int .i64 ins') := bkc hb2
    have zq0 := cell_lt q0
    have q1 : w2.cell? ⟨w.heap.size + 1, 1, none⟩ = some (.int .i64 regs') := bkc hb2
    have q2 : w2.cell? ⟨w.heap.size + 1, 2, none⟩ = some (.slice ca' code'.length cc') := bkc hb2
    have q3 : w2.cell? ⟨w.heap.size + 1, 3, none⟩ = some (.slice oa' outs'.length oc') := bkc hb2
    have r0 : w2.cell? ⟨w.heap.size + 1 + 1, 0, none⟩ = some (.int .i64 0) := bkc hb2
    have zr0 := cell_lt r0
    have r0f : w2.frozen? ⟨w.heap.size + 1 + 1, 0, none⟩ = false := bkcf (v := .int .i64 0) hb2
    have r1 : w2.cell? ⟨w.heap.size + 1 + 1, 1, none⟩ = some (.int .i64 0) := bkc hb2
    have r1f : w2.frozen? ⟨w.heap.size + 1 + 1, 1, none⟩ = false := bkcf (v := .int .i64 0) hb2
    have r2 : w2.cell? ⟨w.heap.size + 1 + 1, 2, none⟩ = some (.slice none 0 0) := bkc hb2
    have r2f : w2.frozen? ⟨w.heap.size + 1 + 1, 2, none⟩ = false := bkcf (v := .slice none 0 0) hb2
    have r3 : w2.cell? ⟨w.heap.size + 1 + 1, 3, none⟩ = some (.slice none 0 0) := bkc hb2
    have r3f : w2.frozen? ⟨w.heap.size + 1 + 1, 3, none⟩ = false := bkcf (v := .slice none 0 0) hb2
    have hB : Below w.heap.size w w2 := bthen (by repeat (first|exact bzR _ _|exact hB|refine bzD ?_|refine bzN ?_|refine bzS ?_|refine bzA ?_)) hb2
    have hz : w.heap.size ≤ w2.heap.size := hB.size
    clear RQ hb2
    go_wp2
    refine bodyPost_ret (v := .tuple #[.agg #[.int .i64 0, .int .i64 0, .slice none 0 0, .slice none 0 0], .int .i64 5]) (by simp [results, Tryz.results49, go_sem, *]) rfl (JoinPost.no (by omega) ?_)
    repeat (first | exact hB | refine bset ?_ (by show w.heap.size ≤ w.heap.size + 1 + 1; omega) _)
  subst he
  have p1' := HP.out.i1
  have p2' := HP.out.i2
  have p3' := HP.out.r1
  have p4' := HP.out.c1
  have q1' := HQ.out.i1
  have q2' := HQ.out.i2
  have q3' := HQ.out.r1
  have q4' := HQ.out.c1
  have o2' := HP.out.o2
  obtain ⟨T, hT⟩ : ∃ T, regs + regs' = T := ⟨_, rfl⟩
  obtain ⟨A, hA⟩ : ∃ A : Int, (code.length : Int) + (outs.length : Int) = A := ⟨_, rfl⟩
  obtain ⟨N, hN⟩ : ∃ N : Int, A + (code'.length : Int) = N := ⟨_, rfl⟩
  have hb1 : -1000000 ≤ T ∧ T ≤ 1000000 := by omega
  have hb2 : -1000000 ≤ A ∧ A ≤ 1000000 := by omega
  have hb3 : -1000000 ≤ N ∧ N ≤ 1000000 := by omega
  have hw1 : wrap64 (regs + regs') = T := by rw [hT]; exact wrapJ hb1.1 hb1.2
  have hw2 : wrap64 ((code.length : Int) + (outs.length : Int)) = A := by rw [hA]; exact wrapJ hb2.1 hb2.2
  have hw3 : wrap64 (A + (code'.length : Int)) = N := by rw [hN]; exact wrapJ hb3.1 hb3.2
  have hwi : IntKind.i64.wrap (regs + regs') = T := (IntWalk.i64_left _).trans hw1
  have HT := Lib.hid hT
  have HN := Lib.hid (show (code.length : Int) + (outs.length : Int) + (code'.length : Int) = N from by rw [hA]; exact hN)
  have HRG := Lib.hid (show 1 ≤ ins ∧ ins ≤ regs ∧ regs ≤ 128 ∧ regs' ≤ 128 ∧ code.length ≤ 16384 ∧ code'.length ≤ 16384 ∧ outs.length ≤ 128 from ⟨p1', p2', p3', q3', p4', q4', o2'⟩)
  have d0 : ((outs.length : Int) != (outs.length : Int)) = false := by simp
  clear hb1 hb2 hb3 hT hA hN p1' p2' p3' p4' q1' q2' q3' q4' o2'
  by_cases d1 : (128 : Int) < T
  ·
    go_enter Tryz.func49, Tryz.ntmps49
    go_wp2_with fail
    (with_reducible refine (RP.out _ ?_).mono ?_); (repeat (first|exact bzR _ _|exact hB|refine bzD ?_|refine bzN ?_|refine bzS ?_|refine bzA ?_))
    rintro e w1 ⟨rfl, hb1⟩
    have p0 : w1.cell? ⟨w.heap.size, 0, none⟩ = some (.int .i64 ins) := bkc hb1
    have zp0 := cell_lt p0
    have p1 : w1.cell? ⟨w.heap.size, 1, none⟩ = some (.int .i64 regs) := bkc hb1
    have p2 : w1.cell? ⟨w.heap.size, 2, none⟩ = some (.slice ca code.length cc) := bkc hb1
    have p3 : w1.cell? ⟨w.heap.size, 3, none⟩ = some (.slice oa outs.length oc) := bkc hb1
    have q0 : w1.cell? ⟨w.heap.size + 1, 0, none⟩ = some (.int .i64 (outs.length : Int)) := bkc hb1
    have zq0 := cell_lt q0
    have q1 : w1.cell? ⟨w.heap.size + 1, 1, none⟩ = some (.int .i64 regs') := bkc hb1
    have q2 : w1.cell? ⟨w.heap.size + 1, 2, none⟩ = some (.slice ca' code'.length cc') := bkc hb1
    have q3 : w1.cell? ⟨w.heap.size + 1, 3, none⟩ = some (.slice oa' outs'.length oc') := bkc hb1
    have r0 : w1.cell? ⟨w.heap.size + 1 + 1, 0, none⟩ = some (.int .i64 0) := bkc hb1
    have zr0 := cell_lt r0
    have r0f : w1.frozen? ⟨w.heap.size + 1 + 1, 0, none⟩ = false := bkcf (v := .int .i64 0) hb1
    have r1 : w1.cell? ⟨w.heap.size + 1 + 1, 1, none⟩ = some (.int .i64 0) := bkc hb1
    have r1f : w1.frozen? ⟨w.heap.size + 1 + 1, 1, none⟩ = false := bkcf (v := .int .i64 0) hb1
    have r2 : w1.cell? ⟨w.heap.size + 1 + 1, 2, none⟩ = some (.slice none 0 0) := bkc hb1
    have r2f : w1.frozen? ⟨w.heap.size + 1 + 1, 2, none⟩ = false := bkcf (v := .slice none 0 0) hb1
    have r3 : w1.cell? ⟨w.heap.size + 1 + 1, 3, none⟩ = some (.slice none 0 0) := bkc hb1
    have r3f : w1.frozen? ⟨w.heap.size + 1 + 1, 3, none⟩ = false := bkcf (v := .slice none 0 0) hb1
    have hB : Below w.heap.size w w1 := bthen (by repeat (first|exact bzR _ _|exact hB|refine bzD ?_|refine bzN ?_|refine bzS ?_|refine bzA ?_)) hb1
    have hz : w.heap.size ≤ w1.heap.size := hB.size
    clear RP hb1
    go_wp2_with fail
    (with_reducible refine (RQ.out _ ?_).mono ?_); (repeat (first|exact bzR _ _|exact hB|refine bzD ?_|refine bzN ?_|refine bzS ?_|refine bzA ?_))
    rintro e w2 ⟨rfl, hb2⟩
    have p0 : w2.cell? ⟨w.heap.size, 0, none⟩ = some (.int .i64 ins) := bkc hb2
    have zp0 := cell_lt p0
    have p1 : w2.cell? ⟨w.heap.size, 1, none⟩ = some (.int .i64 regs) := bkc hb2
    have p2 : w2.cell? ⟨w.heap.size, 2, none⟩ = some (.slice ca code.length cc) := bkc hb2
    have p3 : w2.cell? ⟨w.heap.size, 3, none⟩ = some (.slice oa outs.length oc) := bkc hb2
    have q0 : w2.cell? ⟨w.heap.size + 1, 0, none⟩ = some (.int .i64 (outs.length : Int)) := bkc hb2
    have zq0 := cell_lt q0
    have q1 : w2.cell? ⟨w.heap.size + 1, 1, none⟩ = some (.int .i64 regs') := bkc hb2
    have q2 : w2.cell? ⟨w.heap.size + 1, 2, none⟩ = some (.slice ca' code'.length cc') := bkc hb2
    have q3 : w2.cell? ⟨w.heap.size + 1, 3, none⟩ = some (.slice oa' outs'.length oc') := bkc hb2
    have r0 : w2.cell? ⟨w.heap.size + 1 + 1, 0, none⟩ = some (.int .i64 0) := bkc hb2
    have zr0 := cell_lt r0
    have r0f : w2.frozen? ⟨w.heap.size + 1 + 1, 0, none⟩ = false := bkcf (v := .int .i64 0) hb2
    have r1 : w2.cell? ⟨w.heap.size + 1 + 1, 1, none⟩ = some (.int .i64 0) := bkc hb2
    have r1f : w2.frozen? ⟨w.heap.size + 1 + 1, 1, none⟩ = false := bkcf (v := .int .i64 0) hb2
    have r2 : w2.cell? ⟨w.heap.size + 1 + 1, 2, none⟩ = some (.slice none 0 0) := bkc hb2
    have r2f : w2.frozen? ⟨w.heap.size + 1 + 1, 2, none⟩ = false := bkcf (v := .slice none 0 0) hb2
    have r3 : w2.cell? ⟨w.heap.size + 1 + 1, 3, none⟩ = some (.slice none 0 0) := bkc hb2
    have r3f : w2.frozen? ⟨w.heap.size + 1 + 1, 3, none⟩ = false := bkcf (v := .slice none 0 0) hb2
    have hB : Below w.heap.size w w2 := bthen (by repeat (first|exact bzR _ _|exact hB|refine bzD ?_|refine bzN ?_|refine bzS ?_|refine bzA ?_)) hb2
    have hz : w.heap.size ≤ w2.heap.size := hB.size
    clear RQ hb2
    go_wp2
    refine bodyPost_ret (v := .tuple #[.agg #[.int .i64 0, .int .i64 0, .slice none 0 0, .slice none 0 0], .int .i64 3]) (by simp [results, Tryz.results49, go_sem, *]) rfl (JoinPost.no (by omega) ?_)
    repeat (first | exact hB | refine bset ?_ (by show w.heap.size ≤ w.heap.size + 1 + 1; omega) _)
  by_cases d2 : (16384 : Int) < N
  ·
    go_enter Tryz.func49, Tryz.ntmps49
    go_wp2_with fail
    (with_reducible refine (RP.out _ ?_).mono ?_); (repeat (first|exact bzR _ _|exact hB|refine bzD ?_|refine bzN ?_|refine bzS ?_|refine bzA ?_))
    rintro e w1 ⟨rfl, hb1⟩
    have p0 : w1.cell? ⟨w.heap.size, 0, none⟩ = some (.int .i64 ins) := bkc hb1
    have zp0 := cell_lt p0
    have p1 : w1.cell? ⟨w.heap.size, 1, none⟩ = some (.int .i64 regs) := bkc hb1
    have p2 : w1.cell? ⟨w.heap.size, 2, none⟩ = some (.slice ca code.length cc) := bkc hb1
    have p3 : w1.cell? ⟨w.heap.size, 3, none⟩ = some (.slice oa outs.length oc) := bkc hb1
    have q0 : w1.cell? ⟨w.heap.size + 1, 0, none⟩ = some (.int .i64 (outs.length : Int)) := bkc hb1
    have zq0 := cell_lt q0
    have q1 : w1.cell? ⟨w.heap.size + 1, 1, none⟩ = some (.int .i64 regs') := bkc hb1
    have q2 : w1.cell? ⟨w.heap.size + 1, 2, none⟩ = some (.slice ca' code'.length cc') := bkc hb1
    have q3 : w1.cell? ⟨w.heap.size + 1, 3, none⟩ = some (.slice oa' outs'.length oc') := bkc hb1
    have r0 : w1.cell? ⟨w.heap.size + 1 + 1, 0, none⟩ = some (.int .i64 0) := bkc hb1
    have zr0 := cell_lt r0
    have r0f : w1.frozen? ⟨w.heap.size + 1 + 1, 0, none⟩ = false := bkcf (v := .int .i64 0) hb1
    have r1 : w1.cell? ⟨w.heap.size + 1 + 1, 1, none⟩ = some (.int .i64 0) := bkc hb1
    have r1f : w1.frozen? ⟨w.heap.size + 1 + 1, 1, none⟩ = false := bkcf (v := .int .i64 0) hb1
    have r2 : w1.cell? ⟨w.heap.size + 1 + 1, 2, none⟩ = some (.slice none 0 0) := bkc hb1
    have r2f : w1.frozen? ⟨w.heap.size + 1 + 1, 2, none⟩ = false := bkcf (v := .slice none 0 0) hb1
    have r3 : w1.cell? ⟨w.heap.size + 1 + 1, 3, none⟩ = some (.slice none 0 0) := bkc hb1
    have r3f : w1.frozen? ⟨w.heap.size + 1 + 1, 3, none⟩ = false := bkcf (v := .slice none 0 0) hb1
    have hB : Below w.heap.size w w1 := bthen (by repeat (first|exact bzR _ _|exact hB|refine bzD ?_|refine bzN ?_|refine bzS ?_|refine bzA ?_)) hb1
    have hz : w.heap.size ≤ w1.heap.size := hB.size
    clear RP hb1
    go_wp2_with fail
    (with_reducible refine (RQ.out _ ?_).mono ?_); (repeat (first|exact bzR _ _|exact hB|refine bzD ?_|refine bzN ?_|refine bzS ?_|refine bzA ?_))
    rintro e w2 ⟨rfl, hb2⟩
    have p0 : w2.cell? ⟨w.heap.size, 0, none⟩ = some (.int .i64 ins) := bkc hb2
    have zp0 := cell_lt p0
    have p1 : w2.cell? ⟨w.heap.size, 1, none⟩ = some (.int .i64 regs) := bkc hb2
    have p2 : w2.cell? ⟨w.heap.size, 2, none⟩ = some (.slice ca code.length cc) := bkc hb2
    have p3 : w2.cell? ⟨w.heap.size, 3, none⟩ = some (.slice oa outs.length oc) := bkc hb2
    have q0 : w2.cell? ⟨w.heap.size + 1, 0, none⟩ = some (.int .i64 (outs.length : Int)) := bkc hb2
    have zq0 := cell_lt q0
    have q1 : w2.cell? ⟨w.heap.size + 1, 1, none⟩ = some (.int .i64 regs') := bkc hb2
    have q2 : w2.cell? ⟨w.heap.size + 1, 2, none⟩ = some (.slice ca' code'.length cc') := bkc hb2
    have q3 : w2.cell? ⟨w.heap.size + 1, 3, none⟩ = some (.slice oa' outs'.length oc') := bkc hb2
    have r0 : w2.cell? ⟨w.heap.size + 1 + 1, 0, none⟩ = some (.int .i64 0) := bkc hb2
    have zr0 := cell_lt r0
    have r0f : w2.frozen? ⟨w.heap.size + 1 + 1, 0, none⟩ = false := bkcf (v := .int .i64 0) hb2
    have r1 : w2.cell? ⟨w.heap.size + 1 + 1, 1, none⟩ = some (.int .i64 0) := bkc hb2
    have r1f : w2.frozen? ⟨w.heap.size + 1 + 1, 1, none⟩ = false := bkcf (v := .int .i64 0) hb2
    have r2 : w2.cell? ⟨w.heap.size + 1 + 1, 2, none⟩ = some (.slice none 0 0) := bkc hb2
    have r2f : w2.frozen? ⟨w.heap.size + 1 + 1, 2, none⟩ = false := bkcf (v := .slice none 0 0) hb2
    have r3 : w2.cell? ⟨w.heap.size + 1 + 1, 3, none⟩ = some (.slice none 0 0) := bkc hb2
    have r3f : w2.frozen? ⟨w.heap.size + 1 + 1, 3, none⟩ = false := bkcf (v := .slice none 0 0) hb2
    have hB : Below w.heap.size w w2 := bthen (by repeat (first|exact bzR _ _|exact hB|refine bzD ?_|refine bzN ?_|refine bzS ?_|refine bzA ?_)) hb2
    have hz : w.heap.size ≤ w2.heap.size := hB.size
    clear RQ hb2
    go_wp2
    refine bodyPost_ret (v := .tuple #[.agg #[.int .i64 0, .int .i64 0, .slice none 0 0, .slice none 0 0], .int .i64 3]) (by simp [results, Tryz.results49, go_sem, *]) rfl (JoinPost.no (by omega) ?_)
    repeat (first | exact hB | refine bset ?_ (by show w.heap.size ≤ w.heap.size + 1 + 1; omega) _)
  go_enter Tryz.func49, Tryz.ntmps49
  go_wp2_with fail
  (with_reducible refine (RP.out _ ?_).mono ?_); (repeat (first|exact bzR _ _|exact hB|refine bzD ?_|refine bzN ?_|refine bzS ?_|refine bzA ?_))
  rintro e w1 ⟨rfl, hb1⟩
  have p0 : w1.cell? ⟨w.heap.size, 0, none⟩ = some (.int .i64 ins) := bkc hb1
  have zp0 := cell_lt p0
  have p1 : w1.cell? ⟨w.heap.size, 1, none⟩ = some (.int .i64 regs) := bkc hb1
  have p2 : w1.cell? ⟨w.heap.size, 2, none⟩ = some (.slice ca code.length cc) := bkc hb1
  have p3 : w1.cell? ⟨w.heap.size, 3, none⟩ = some (.slice oa outs.length oc) := bkc hb1
  have q0 : w1.cell? ⟨w.heap.size + 1, 0, none⟩ = some (.int .i64 (outs.length : Int)) := bkc hb1
  have zq0 := cell_lt q0
  have q1 : w1.cell? ⟨w.heap.size + 1, 1, none⟩ = some (.int .i64 regs') := bkc hb1
  have q2 : w1.cell? ⟨w.heap.size + 1, 2, none⟩ = some (.slice ca' code'.length cc') := bkc hb1
  have q3 : w1.cell? ⟨w.heap.size + 1, 3, none⟩ = some (.slice oa' outs'.length oc') := bkc hb1
  have r0 : w1.cell? ⟨w.heap.size + 1 + 1, 0, none⟩ = some (.int .i64 0) := bkc hb1
  have zr0 := cell_lt r0
  have r0f : w1.frozen? ⟨w.heap.size + 1 + 1, 0, none⟩ = false := bkcf (v := .int .i64 0) hb1
  have r1 : w1.cell? ⟨w.heap.size + 1 + 1, 1, none⟩ = some (.int .i64 0) := bkc hb1
  have r1f : w1.frozen? ⟨w.heap.size + 1 + 1, 1, none⟩ = false := bkcf (v := .int .i64 0) hb1
  have r2 : w1.cell? ⟨w.heap.size + 1 + 1, 2, none⟩ = some (.slice none 0 0) := bkc hb1
  have r2f : w1.frozen? ⟨w.heap.size + 1 + 1, 2, none⟩ = false := bkcf (v := .slice none 0 0) hb1
  have r3 : w1.cell? ⟨w.heap.size + 1 + 1, 3, none⟩ = some (.slice none 0 0) := bkc hb1
  have r3f : w1.frozen? ⟨w.heap.size + 1 + 1, 3, none⟩ = false := bkcf (v := .slice none 0 0) hb1
  have hB : Below w.heap.size w w1 := bthen (by repeat (first|exact bzR _ _|exact hB|refine bzD ?_|refine bzN ?_|refine bzS ?_|refine bzA ?_)) hb1
  have hz : w.heap.size ≤ w1.heap.size := hB.size
  clear RP hb1
  go_wp2_with fail
  (with_reducible refine (RQ.out _ ?_).mono ?_); (repeat (first|exact bzR _ _|exact hB|refine bzD ?_|refine bzN ?_|refine bzS ?_|refine bzA ?_))
  rintro e w2 ⟨rfl, hb2⟩
  have p0 : w2.cell? ⟨w.heap.size, 0, none⟩ = some (.int .i64 ins) := bkc hb2
  have zp0 := cell_lt p0
  have p1 : w2.cell? ⟨w.heap.size, 1, none⟩ = some (.int .i64 regs) := bkc hb2
  have p2 : w2.cell? ⟨w.heap.size, 2, none⟩ = some (.slice ca code.length cc) := bkc hb2
  have p3 : w2.cell? ⟨w.heap.size, 3, none⟩ = some (.slice oa outs.length oc) := bkc hb2
  have q0 : w2.cell? ⟨w.heap.size + 1, 0, none⟩ = some (.int .i64 (outs.length : Int)) := bkc hb2
  have zq0 := cell_lt q0
  have q1 : w2.cell? ⟨w.heap.size + 1, 1, none⟩ = some (.int .i64 regs') := bkc hb2
  have q2 : w2.cell? ⟨w.heap.size + 1, 2, none⟩ = some (.slice ca' code'.length cc') := bkc hb2
  have q3 : w2.cell? ⟨w.heap.size + 1, 3, none⟩ = some (.slice oa' outs'.length oc') := bkc hb2
  have r0 : w2.cell? ⟨w.heap.size + 1 + 1, 0, none⟩ = some (.int .i64 0) := bkc hb2
  have zr0 := cell_lt r0
  have r0f : w2.frozen? ⟨w.heap.size + 1 + 1, 0, none⟩ = false := bkcf (v := .int .i64 0) hb2
  have r1 : w2.cell? ⟨w.heap.size + 1 + 1, 1, none⟩ = some (.int .i64 0) := bkc hb2
  have r1f : w2.frozen? ⟨w.heap.size + 1 + 1, 1, none⟩ = false := bkcf (v := .int .i64 0) hb2
  have r2 : w2.cell? ⟨w.heap.size + 1 + 1, 2, none⟩ = some (.slice none 0 0) := bkc hb2
  have r2f : w2.frozen? ⟨w.heap.size + 1 + 1, 2, none⟩ = false := bkcf (v := .slice none 0 0) hb2
  have r3 : w2.cell? ⟨w.heap.size + 1 + 1, 3, none⟩ = some (.slice none 0 0) := bkc hb2
  have r3f : w2.frozen? ⟨w.heap.size + 1 + 1, 3, none⟩ = false := bkcf (v := .slice none 0 0) hb2
  have hB : Below w.heap.size w w2 := bthen (by repeat (first|exact bzR _ _|exact hB|refine bzD ?_|refine bzN ?_|refine bzS ?_|refine bzA ?_)) hb2
  have hz : w.heap.size ≤ w2.heap.size := hB.size
  clear RQ hb2
  have HS := Lib.hid (show ∀ W, Below w2.heap.size w2 W → W.cell? ⟨w.heap.size, 0, none⟩ = some (.int .i64 ins) ∧ W.cell? ⟨w.heap.size, 1, none⟩ = some (.int .i64 regs) ∧ W.cell? ⟨w.heap.size, 2, none⟩ = some (.slice ca code.length cc) ∧ W.cell? ⟨w.heap.size + 1, 1, none⟩ = some (.int .i64 regs') from fun W q => ⟨bkeep q p0, bkeep q p1, bkeep q p2, bkeep q q1⟩)
  have CL := Lib.hid (fun V (q : Below w2.heap.size w2 V) => cloneInsO_c ca cc code V (HC.out.1.keep (bthen hB q)) HC.out.1.nn (by have := HRG.out; omega))
  have HB2 := Lib.hid hB
  have HSA := Lib.hid (show ∀ W, Below w2.heap.size w2 W → W.cell? ⟨w.heap.size, 1, none⟩ = some (.int .i64 regs) ∧ W.cell? ⟨w.heap.size, 3, none⟩ = some (.slice oa outs.length oc) ∧ W.cell? ⟨w.heap.size + 1, 2, none⟩ = some (.slice ca' code'.length cc') ∧ W.cell? ⟨w.heap.size + 1, 3, none⟩ = some (.slice oa' outs'.length oc') from fun W q => ⟨bkeep q p1, bkeep q p3, bkeep q q2, bkeep q q3⟩)
  have HSR := Lib.hid (show ∀ W, Below w2.heap.size w2 W → W.cell? ⟨w.heap.size + 1 + 1, 0, none⟩ = some (.int .i64 0) ∧ W.cell? ⟨w.heap.size + 1 + 1, 1, none⟩ = some (.int .i64 0) ∧ W.cell? ⟨w.heap.size + 1 + 1, 2, none⟩ = some (.slice none 0 0) ∧ W.cell? ⟨w.heap.size + 1 + 1, 3, none⟩ = some (.slice none 0 0) ∧ W.frozen? ⟨w.heap.size + 1 + 1, 0, none⟩ = false ∧ W.frozen? ⟨w.heap.size + 1 + 1, 1, none⟩ = false ∧ W.frozen? ⟨w.heap.size + 1 + 1, 2, none⟩ = false ∧ W.frozen? ⟨w.heap.size + 1 + 1, 3, none⟩ = false from fun W q => ⟨bkeep q r0, bkeep q r1, bkeep q r2, bkeep q r3, bkeepf q r0 r0f, bkeepf q r1 r1f, bkeepf q r2 r2f, bkeepf q r3 r3f⟩)
  have zr2 : w.heap.size + 1 + 1 < w2.heap.size := cell_lt r0
  clear r0 r1 r2 r3 r0f r1f r2f r3f hB
  go_upto_region 7 with (fail)
  go_cut [6] (fun s6 wx => ∃ pb, s6 = .pointer (some ⟨pb, 0, none⟩) ∧ w2.heap.size ≤ pb ∧ Hid (JnB w2.heap.size pb ins T code [] wx) ∧ Below w2.heap.size w2 wx)
  case first =>
    have hBj := Below.refl w2.heap.size w2
    have hla : w2.heap.size ≤ w2.heap.size := Nat.le_refl _
    go_region_held3 (fun W => W.cell? ⟨w.heap.size, 0, none⟩ = some (.int .i64 ins) ∧ W.cell? ⟨w.heap.size, 1, none⟩ = some (.int .i64 regs) ∧ W.cell? ⟨w.heap.size, 2, none⟩ = some (.slice ca code.length cc) ∧ W.cell? ⟨w.heap.size + 1, 1, none⟩ = some (.int .i64 regs'))
      (first | (refine HS.out _ ?_; (repeat' (first | exact Below.refl _ _ | exact hBj | refine Below.drew ?_ | refine below_drewN ?_ _ | refine bal ?_ _ | refine bset ?_ ?_ _ | exact hla4 | exact Nat.le_trans hla4 (Nat.le_succ _) | exact Nat.le_refl _ | exact Nat.le_succ _)); done) | fail)
      (first
      | (go_at_call 136; (with_reducible refine (CL.out _ ?_).mono ?_); (repeat (first|exact bzR _ _|exact hBj|refine bzD ?_|refine bzN ?_|refine bzS ?_|refine bzA ?_)); rintro e w4 ⟨⟨a4, c4, rfl, ho4⟩, hb4⟩; have HO4 := Lib.hid (ownsJ_le (base' := w2.heap.size) ho4 (belowJ (by repeat (first|exact bzR _ _|exact hBj|refine bzD ?_|refine bzN ?_|refine bzS ?_|refine bzA ?_)))); (have hBd : Below w2.heap.size w2 w4 := bthen (by repeat (first|exact bzR _ _|exact hBj|refine bzD ?_|refine bzN ?_|refine bzS ?_|refine bzA ?_)) hb4; clear hBj; have hBj := hBd; clear hBd); have hc4 := (bcell hb4).1; have hf4 := (bcell hb4).2; have ht4 := tcell hb4; have hla4 := hBj.size; have hs4 := hb4.size; (try simp [go_sem] at hs4); have HB4 := Lib.hid hb4)
      | fail)
    all_goals
      go_wp2_with fail
      go_meet
      try rw [hwi]
      refine ⟨_, rfl, ?_, Lib.hid ?_, ?_⟩
      all_goals first
        | exact JnB.mk1 HO4.out
        | exact JnB.mk2 rfl (bthen (Below.refl _ _).drew HB4.out) HO4.out
        | (first | exact Nat.le_refl _ | exact hla4)
        | ((repeat' (first | exact Below.refl _ _ | exact hBj | refine Below.drew ?_ | refine below_drewN ?_ _ | refine bal ?_ _ | refine bset ?_ ?_ _ | exact Nat.le_refl _)); done)
  case rest =>
    obtain ⟨pb, rfl, hpb, hJ, hk⟩ := hcut
    obtain ⟨p1, p3, q2, q3⟩ := HSA.out wc hk
    have zp3 := cell_lt p3
    have hlo : outs.length ≤ 128 := HRG.out.2.2.2.2.2.2
    have hlc : code'.length ≤ 16384 := HRG.out.2.2.2.2.2.1
    have hlp : outs'.length ≤ 128 := HQ.out.o2
    clear HS CL
    go_wp2
    go_loopw [66] (fun x wr => ∃ k : Nat, k ≤ outs.length ∧ x = .int .i64 k ∧ Below w2.heap.size w2 wr ∧ Hid (JnB w2.heap.size pb ins T (code ++ (mvs regs outs).take k) [] wr)) (fun x _ => outs.length - (intOf x).toNat)
    case atStart => exact ⟨0, Nat.zero_le _, rfl, hk, Lib.hid (by rw [List.take_zero, List.append_nil]; exact hJ.out)⟩
    case round =>
      obtain ⟨k, hk1, rfl, hBr, hJr⟩ := hrel
      obtain ⟨p1, p3, q2, q3⟩ := HSA.out wr hBr
      by_cases hlt : k < outs.length
      · have hltI : (k : Int) < (outs.length : Int) := by omega
        rcases HC.out.2 with h00 | ⟨ob, oo, rfl, hcap, hcell⟩
        · rw [h00] at hlt; simp at hlt
        have hoc := bkeep (bthen HB2.out hBr) (hcell k hlt)
        obtain ⟨v, p2c, hr⟩ := hJr.out.code
        obtain ⟨va, vc, rfl⟩ := ownsJ_ex hr
        have p2f := hJr.out.fr.2 2
        obtain ⟨r, hr0⟩ : ∃ r, outs.getD k 0 = r := ⟨_, rfl⟩
        rw [hr0] at hoc
        have HLN := Lib.hid (show (code ++ (mvs regs outs).take k) ++ [⟨1, regs + (k : Int), r, 0, 0⟩] = code ++ (mvs regs outs).take (k + 1) from by
          rw [List.append_assoc, ← hr0, ← mvs_get regs hlt, mvs_take regs hlt])
        have HLL := Lib.hid (show (code ++ (mvs regs outs).take k).length + 1 ≤ 1099511627776 from by have := HRG.out; rw [List.length_append, List.length_take]; omega)
        have hw4 : wrap64 (regs + (k : Int)) = regs + (k : Int) := wrapK HRG.out (by omega)
        have HR := Lib.hid hr
        obtain ⟨L, hL⟩ : ∃ L, code ++ (mvs regs outs).take k = L := ⟨_, rfl⟩
        rw [hL] at HLN HLL HR hJr p2c
        have HNX := Lib.hid (show ∀ v' w', w'.ownsRow w2.heap.size 96 5 v' (L.length + 1) (pcel L ++ [.int .i64 1, .int .i64 (regs + (k : Int)), .int .i64 r, .int .i64 0, .int .i64 0]) → Kp (· ≠ 96) wr w' → Below w2.heap.size wr w' → JnB w2.heap.size pb ins T (code ++ (mvs regs outs).take (k + 1)) [] (w'.setCell ⟨pb, 2, none⟩ v') ∧ w'.cell? ⟨pb, 2, none⟩ = some (.slice va L.length vc) ∧ w'.frozen? ⟨pb, 2, none⟩ = false from
          fun v' w' h1 h2 h3 => ⟨by rw [← HLN.out]; exact hJr.out.put (M := L ++ [⟨1, regs + (k : Int), r, 0, 0⟩]) (by rw [pcel_appJ, List.length_append]; exact h1) h2 h3.size, h2.cell hJr.out.ty (by decide) p2c, h2.frz hJr.out.ty (by decide) p2f⟩)
        have zo := cell_lt hoc
        have zp := cell_lt p2c
        have HBS := Lib.hid hBr.size
        clear hcell hcap hr hr0 hL hJr HLN
        go_wp2_with (at_builtin; refine app_litJ (base := w2.heap.size) (v := .slice va L.length vc) (n := L.length) (xs := pcel L) (g := wr.heap.size) (m := 1) (c := 1) (C := [.int .i64 1, .int .i64 (regs + (k : Int)), .int .i64 r, .int .i64 0, .int .i64 0]) elP (by rfl) (by rfl) HR.out HBS.out (by rfl) (by rfl) rfl rfl (pcel_one [⟨1, regs + (k : Int), r, 0, 0⟩]) HLL.out ?_)
        intro v' w8 hO hK hBe
        obtain ⟨va2, vc2, rfl⟩ := ownsJ_ex hO
        obtain ⟨hj9, p8, p8f⟩ := HNX.out _ w8 hO hK hBe
        have HJ9 := Lib.hid hj9
        have zp8 := cell_lt p8
        have hB9 := bset (hBr.trans hBe) (p := ⟨pb, 2, none⟩) hpb (.slice va2 (L.length + 1) vc2)
        clear hO hK hBe hj9 HNX HR p2c p2f
        go_wp2
        exact ⟨⟨k + 1, hlt, by go_num, hB9, HJ9⟩, meas hlt (by go_num) rfl⟩
      · obtain rfl : k = outs.length := by omega
        have hltI : ¬ (outs.length : Int) < (outs.length : Int) := by omega
        rw [List.take_of_length_le (by rw [mvs_len]; exact Nat.le_refl _)] at hJr
        have HL1 := Lib.hid (show (code ++ mvs regs outs).length = code.length + outs.length from by rw [List.length_append, mvs_len])
        obtain ⟨L1, hL1⟩ : ∃ L, code ++ mvs regs outs = L := ⟨_, rfl⟩
        rw [hL1] at hJr HL1
        have HLE := Lib.hid hL1
        have zq := cell_lt q2
        clear hL1 hJ hk
        go_wp2
        go_loopw [86] (fun x wq => ∃ k : Nat, k ≤ code'.length ∧ x = .int .i64 k ∧ Below w2.heap.size w2 wq ∧ Hid (JnB w2.heap.size pb ins T (L1 ++ (code'.map (movI regs)).take k) [] wq)) (fun x _ => code'.length - (intOf x).toNat)
        case atStart => exact ⟨0, Nat.zero_le _, rfl, hBr, Lib.hid (by rw [List.take_zero, List.append_nil]; exact hJr.out)⟩
        case round =>
          rename World => wq
          obtain ⟨k, hk1, rfl, hBq, hJq⟩ := hrel
          obtain ⟨p1, p3, q2, q3⟩ := HSA.out wq hBq
          by_cases hlt : k < code'.length
          · have hltI : (k : Int) < (code'.length : Int) := by omega
            rcases HD.out.1 with h00 | ⟨qb, qo, rfl, hcap, hcell⟩
            · rw [h00] at hlt; simp at hlt
            have hI := (hcell k hlt).keep (bthen HB2.out hBq)
            have hio := ins_ofF HQ.out hlt
            have hmp : (code'.map (movI regs)).getD k default = movI regs (code'.getD k default) := by simp [hlt]
            have htk := map_take (f := movI regs) hlt
            rw [hmp] at htk
            obtain ⟨i, hi⟩ : ∃ i, code'.getD k default = i := ⟨_, rfl⟩
            rw [hi] at hI hio htk
            obtain ⟨op, t, a, b, c⟩ := i
            have i0 := hI.c0
            have i1 := hI.c1
            have i2 := hI.c2
            have i3 := hI.c3
            have i4 := hI.c4
            dsimp only at i0 i1 i2 i3 i4
            have MC := Lib.hid (fun V => moved_c ⟨op, t, a, b, c⟩ regs V (by have := hio.t0; have := hio.t1; have := HRG.out; dsimp only at *; omega) (by have := hio.a0; have := hio.a1; have := HRG.out; dsimp only at *; omega) (by have := hio.b0; have := hio.b1; have := HRG.out; dsimp only at *; omega) (by have := HRG.out; omega))
            obtain ⟨t2, a2, b2, hm⟩ : ∃ t2 a2 b2, movI regs ⟨op, t, a, b, c⟩ = ⟨op, t2, a2, b2, c⟩ := ⟨_, _, _, rfl⟩
            rw [hm] at MC htk
            unfold Ins.v at MC
            dsimp only at MC
            obtain ⟨v, p2c, hr⟩ := hJq.out.code
            obtain ⟨va, vc, rfl⟩ := ownsJ_ex hr
            have p2f := hJq.out.fr.2 2
            have HLN := Lib.hid (show (L1 ++ (code'.map (movI regs)).take k) ++ [⟨op, t2, a2, b2, c⟩] = L1 ++ (code'.map (movI regs)).take (k + 1) from by rw [List.append_assoc, htk])
            have HLL := Lib.hid (show (L1 ++ (code'.map (movI regs)).take k).length + 1 ≤ 1099511627776 from by have := HRG.out; rw [List.length_append, List.length_take, HL1.out, List.length_map]; omega)
            obtain ⟨L, hL⟩ : ∃ L, L1 ++ (code'.map (movI regs)).take k = L := ⟨_, rfl⟩
            rw [hL] at HLN HLL hr hJq p2c
            have HR := Lib.hid hr
            have HNX := Lib.hid (show ∀ w6, Below wq.heap.size wq w6 → ∀ v' w', w'.ownsRow w2.heap.size 96 5 v' (L.length + 1) (pcel L ++ [.int .i64 op, .int .i64 t2, .int .i64 a2, .int .i64 b2, .int .i64 c]) → Kp (· ≠ 96) w6 w' → Below w2.heap.size w6 w' → JnB w2.heap.size pb ins T (L1 ++ (code'.map (movI regs)).take (k + 1)) [] (w'.setCell ⟨pb, 2, none⟩ v') ∧ w'.cell? ⟨pb, 2, none⟩ = some (.slice va L.length vc) ∧ w'.frozen? ⟨pb, 2, none⟩ = false ∧ Below w2.heap.size w2 (w'.setCell ⟨pb, 2, none⟩ v') from
              fun w6 h6 v' w' h1 h2 h3 => by
                have h7 := hJq.out.below h6
                exact ⟨by rw [← HLN.out]; exact h7.put (M := L ++ [⟨op, t2, a2, b2, c⟩]) (by rw [pcel_appJ, List.length_append]; exact h1) h2 h3.size, h2.cell h7.ty (by decide) (bkeep h6 p2c), h2.frz h7.ty (by decide) (bkeepf h6 p2c p2f), bset ((bthen hBq h6).trans h3) (p := ⟨pb, 2, none⟩) hpb v'⟩)
            have zo := cell_lt i0
            have zp := cell_lt p2c
            have HBS := Lib.hid hBq.size
            have hqq := Below.refl wq.heap.size wq
            clear hcell hcap hI hi hio hmp htk hm hr hL hJq HLN
            go_upto_region 16 with (fail)
            refine wp_name fun w5 hW5 => ?_
            have h5 : Below wq.heap.size wq w5 := by rw [hW5]; repeat (first|exact bzR _ _|exact hqq|refine bzD ?_|refine bzN ?_|refine bzS ?_|refine bzA ?_)
            have x0 : w5.cell? ⟨wq.heap.size, 0, none⟩ = some (.int .i64 op) := by rw [hW5]; exact cell_new rfl rfl
            have x1 : w5.cell? ⟨wq.heap.size, 1, none⟩ = some (.int .i64 t) := by rw [hW5]; exact cell_new rfl rfl
            have x2 : w5.cell? ⟨wq.heap.size, 2, none⟩ = some (.int .i64 a) := by rw [hW5]; exact cell_new rfl rfl
            have x3 : w5.cell? ⟨wq.heap.size, 3, none⟩ = some (.int .i64 b) := by rw [hW5]; exact cell_new rfl rfl
            have x4 : w5.cell? ⟨wq.heap.size, 4, none⟩ = some (.int .i64 c) := by rw [hW5]; exact cell_new rfl rfl
            have p25 := bkeep h5 p2c
            have p15 := bkeep h5 p1
            have zx5 := cell_lt x0
            have zp5 := cell_lt p25
            have zq5 := cell_lt p15
            have h55 := Below.refl w5.heap.size w5
            have HR5 := Lib.hid (owns_kp (S := fun _ => True) HR.out (Kp.of_below _ h5) trivial)
            clear hW5 hqq i0 i1 i2 i3 i4
            go_region_law (first
              | (refine step_litJ (base := w2.heap.size) (v := .slice va L.length vc) (n := L.length) (xs := pcel L) (g := w6.heap.size) (m := 1) (c := 1) (C := [.int .i64 op, .int .i64 t2, .int .i64 a2, .int .i64 b2, .int .i64 c]) elP (by rfl) (by rfl) HR6.out HBS6.out (by rfl) (by rfl) rfl rfl (pcel_one [⟨op, t2, a2, b2, c⟩]) HLL.out ?_; intro v' w8 hO hK hBe; obtain ⟨va2, vc2, rfl⟩ := ownsJ_ex hO; obtain ⟨hj9, p8, p8f, hB9⟩ := HNX.out w6 HQ6.out _ w8 hO hK hBe; have HJ9 := Lib.hid hj9; have zp8 := cell_lt p8; clear hO hK hBe hj9)
              | (go_simp; go_wp2_with (go_at_call 137; (with_reducible refine (MC.out _).mono ?_); rintro e w6 ⟨rfl, hb6⟩; have h56 : Below w5.heap.size w5 w6 := bthen (by repeat (first|exact bzR _ _|exact h55|refine bzD ?_|refine bzN ?_|refine bzS ?_|refine bzA ?_)) hb6; have HQ6 := Lib.hid (bthen h5 h56); have HBS6 := Lib.hid (Nat.le_trans HBS.out HQ6.out.size); have HR6 := Lib.hid (owns_kp (S := fun _ => True) HR5.out (Kp.of_below _ h56) trivial); have p26 := bkeep h56 p25; have zp6 := cell_lt p26)))
            all_goals
              go_wp2
              exact ⟨⟨k + 1, hlt, by go_num, hB9, HJ9⟩, meas hlt (by go_num) rfl⟩
          · obtain rfl : k = code'.length := by omega
            have hltI : ¬ (code'.length : Int) < (code'.length : Int) := by omega
            rw [List.take_of_length_le (by rw [List.length_map]; exact Nat.le_refl _), ← HLE.out] at hJq
            have hJ3 : Hid (JnB w2.heap.size pb ins T (joinC regs code outs code') [] wq) := hJq
            obtain ⟨CJ, hCJ⟩ : ∃ L, joinC regs code outs code' = L := ⟨_, rfl⟩
            rw [hCJ] at hJ3
            have HCJ := Lib.hid hCJ
            have zq := cell_lt q3
            clear hJq hCJ hJr
            go_wp2
            go_loopw [103] (fun x wz => ∃ k : Nat, k ≤ outs'.length ∧ x = .int .i64 k ∧ Below w2.heap.size w2 wz ∧ Hid (JnB w2.heap.size pb ins T CJ ((joinO regs outs').take k) wz)) (fun x _ => outs'.length - (intOf x).toNat)
            case atStart => exact ⟨0, Nat.zero_le _, rfl, hBq, hJ3⟩
            case round =>
              rename World => wz
              obtain ⟨k, hk1, rfl, hBz, hJz⟩ := hrel
              obtain ⟨p1, p3, q2, q3⟩ := HSA.out wz hBz
              by_cases hlt : k < outs'.length
              · have hltI : (k : Int) < (outs'.length : Int) := by omega
                rcases HD.out.2 with h00 | ⟨ob, oo, rfl, hcap, hcell⟩
                · rw [h00] at hlt; simp at hlt
                have hoc := bkeep (bthen HB2.out hBz) (hcell k hlt)
                have hos := HQ.out.os k hlt
                have htk := joinO_take regs hlt
                obtain ⟨v, p2c, hr⟩ := hJz.out.outs
                obtain ⟨va, vc, rfl⟩ := ownsJ_ex hr
                have p2f := hJz.out.fr.2 3
                obtain ⟨r, hr0⟩ : ∃ r, outs'.getD k 0 = r := ⟨_, rfl⟩
                rw [hr0] at hoc hos htk
                have hw4 : wrap64 (r + regs) = r + regs := wrapL HRG.out hos
                have HLL := Lib.hid (show ((joinO regs outs').take k).length + 1 ≤ 1099511627776 from by have := HQ.out.o2; rw [List.length_take, joinO_len]; omega)
                obtain ⟨L, hL⟩ : ∃ L, (joinO regs outs').take k = L := ⟨_, rfl⟩
                rw [hL] at htk HLL hr hJz p2c
                have HLN := Lib.hid htk
                have HR := Lib.hid hr
                have HNX := Lib.hid (show ∀ v' w', w'.ownsRow w2.heap.size 3 1 v' (L.length + 1) (icel L ++ [.int .i64 (r + regs)]) → Kp (· ≠ 3) wz w' → Below w2.heap.size wz w' → JnB w2.heap.size pb ins T CJ ((joinO regs outs').take (k + 1)) (w'.setCell ⟨pb, 3, none⟩ v') ∧ w'.cell? ⟨pb, 3, none⟩ = some (.slice va L.length vc) ∧ w'.frozen? ⟨pb, 3, none⟩ = false from
                  fun v' w' h1 h2 h3 => ⟨by rw [← HLN.out]; exact hJz.out.putO (N := L ++ [r + regs]) (by rw [icel_appJ, List.length_append]; exact h1) h2 h3.size, h2.cell hJz.out.ty (by decide) p2c, h2.frz hJz.out.ty (by decide) p2f⟩)
                have zo := cell_lt hoc
                have zp := cell_lt p2c
                have HBS := Lib.hid hBz.size
                clear hcell hcap hr hr0 hL hJz HLN htk hos
                go_wp2_with (at_builtin; refine app_litJ (base := w2.heap.size) (v := .slice va L.length vc) (n := L.length) (xs := icel L) (g := wz.heap.size) (m := 1) (c := 1) (C := [.int .i64 (r + regs)]) elI (by rfl) (by rfl) HR.out HBS.out (by rfl) (by rfl) rfl rfl (icel_one [r + regs]) HLL.out ?_)
                intro v' w8 hO hK hBe
                obtain ⟨va2, vc2, rfl⟩ := ownsJ_ex hO
                obtain ⟨hj9, p8, p8f⟩ := HNX.out _ w8 hO hK hBe
                have HJ9 := Lib.hid hj9
                have zp8 := cell_lt p8
                have hB9 := bset (hBz.trans hBe) (p := ⟨pb, 3, none⟩) hpb (.slice va2 (L.length + 1) vc2)
                clear hO hK hBe hj9 HNX HR p2c p2f
                go_wp2
                exact ⟨⟨k + 1, hlt, by go_num, hB9, HJ9⟩, meas hlt (by go_num) rfl⟩
              · obtain rfl : k = outs'.length := by omega
                have hltI : ¬ (outs'.length : Int) < (outs'.length : Int) := by omega
                rw [List.take_of_length_le (by rw [joinO_len]; exact Nat.le_refl _)] at hJz
                obtain ⟨v2, c2, hr2⟩ := hJz.out.code
                obtain ⟨v3, c3, hr3⟩ := hJz.out.outs
                obtain ⟨a2, e2, rfl, hI2, hF2⟩ := own_ins hr2
                obtain ⟨a3, e3, rfl, hI3, hF3⟩ := own_ints hr3
                have c0 := hJz.out.c0
                have c1 := hJz.out.c1
                have zc := cell_lt c0
                obtain ⟨r0, r1, r2, r3, r0f, r1f, r2f, r3f⟩ := HSR.out wz hBz
                have hBz0 := bthen HB2.out hBz
                have n2 : ∀ p, a2 = some p → p.block ≠ w.heap.size + 1 + 1 := fun p e => by have := (hF2 p e).1; omega
                have n3 : ∀ p, a3 = some p → p.block ≠ w.heap.size + 1 + 1 := fun p e => by have := (hF3 p e).1; omega
                have HV2 := Lib.hid (fun u0 u1 u2 u3 => InsV.far (InsV.far (InsV.far (InsV.far hI2 (q := ⟨w.heap.size + 1 + 1, 0, none⟩) n2 u0) (q := ⟨w.heap.size + 1 + 1, 1, none⟩) n2 u1) (q := ⟨w.heap.size + 1 + 1, 2, none⟩) n2 u2) (q := ⟨w.heap.size + 1 + 1, 3, none⟩) n2 u3)
                have HV3 := Lib.hid (fun u0 u1 u2 u3 => IntsV.far (IntsV.far (IntsV.far (IntsV.far hI3 (q := ⟨w.heap.size + 1 + 1, 0, none⟩) n3 u0) (q := ⟨w.heap.size + 1 + 1, 1, none⟩) n3 u1) (q := ⟨w.heap.size + 1 + 1, 2, none⟩) n3 u2) (q := ⟨w.heap.size + 1 + 1, 3, none⟩) n3 u3)
                rw [← HCJ.out] at HV2 c2
                have HYES := Lib.hid (fun W (h2 : InsV W a2 e2 (joinC regs code outs code')) (h3 : IntsV W a3 e3 (joinO regs outs')) => (show JoinYes ins regs (outs.length : Int) regs' code code' outs outs' W (.agg #[.int .i64 ins, .int .i64 T, .slice a2 (joinC regs code outs code').length e2, .slice a3 (joinO regs outs').length e3]) from
                  ⟨HP.out, HQ.out, rfl, by rw [HT.out]; omega, by have := HN.out; omega, a2, e2, a3, e3, by rw [HT.out], h2, h3⟩))
                obtain ⟨l2, hl2⟩ : ∃ n, (joinC regs code outs code').length = n := ⟨_, rfl⟩
                obtain ⟨l3, hl3⟩ : ∃ n, (joinO regs outs').length = n := ⟨_, rfl⟩
                rw [hl2] at c2 HYES
                rw [hl3] at c3 HYES
                have HBZ := Lib.hid hBz0
                clear hr2 hr3 hI2 hI3 hF2 hF3 n2 n3 hl2 hl3 hJz hJ3 HSR HSA
                go_wp2
                refine bodyPost_ret (v := .tuple #[.agg #[.int .i64 ins, .int .i64 T, .slice a2 l2 e2, .slice a3 l3 e3], .int .i64 0]) (by simp [results, Tryz.results49, go_sem, *]) rfl (JoinPost.yes (HYES.out _ (HV2.out _ _ _ _) (HV3.out _ _ _ _)) ?_)
                exact bset (bset (bset (bset HBZ.out (p := ⟨w.heap.size + 1 + 1, 0, none⟩) (by show w.heap.size ≤ w.heap.size + 1 + 1; omega) _) (p := ⟨w.heap.size + 1 + 1, 1, none⟩) (by show w.heap.size ≤ w.heap.size + 1 + 1; omega) _) (p := ⟨w.heap.size + 1 + 1, 2, none⟩) (by show w.heap.size ≤ w.heap.size + 1 + 1; omega) _) (p := ⟨w.heap.size + 1 + 1, 3, none⟩) (by show w.heap.size ≤ w.heap.size + 1 + 1; omega) _
end Go.Proofs.YtbmaffijncapiaaGreatDoor

