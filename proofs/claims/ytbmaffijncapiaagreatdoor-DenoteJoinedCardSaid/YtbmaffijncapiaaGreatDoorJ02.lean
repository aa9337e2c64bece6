/- Texts of this seat, laid together (what the earlier ones leave out): DnF, DnG, DnK. Each opens with its own remark, which says what it proves, and under which conditions. -/
import Derived.Test.YtbmaffijncapiaaGreatDoorL01
import Derived.Test.YtbmaffijncapiaaGreatDoorL02
import Derived.Test.YtbmaffijncapiaaGreatDoorL03
import Derived.Test.YtbmaffijncapiaaGreatDoorL04
import Derived.Test.YtbmaffijncapiaaGreatDoorL05
import Derived.Test.YtbmaffijncapiaaGreatDoorL06
import Derived.Test.YtbmaffijncapiaaGreatDoorL07
import Derived.Test.YtbmaffijncapiaaGreatDoorL08
import Derived.Test.YtbmaffijncapiaaGreatDoorL09
import Derived.Test.YtbmaffijncapiaaGreatDoorL10
import Derived.Test.YtbmaffijncapiaaGreatDoorL11
import Derived.Test.YtbmaffijncapiaaGreatDoorL12
import Derived.Test.YtbmaffijncapiaaGreatDoorL13
import Derived.Test.YtbmaffijncapiaaGreatDoorL14
import Derived.Test.YtbmaffijncapiaaGreatDoorL15
import Derived.Test.YtbmaffijncapiaaGreatDoorL16
import Derived.Test.YtbmaffijncapiaaGreatDoorL17
import Derived.Test.YtbmaffijncapiaaGreatDoorL18
import Derived.Test.YtbmaffijncapiaaGreatDoorL19
import Derived.Test.YtbmaffijncapiaaGreatDoorL20
import Derived.Test.YtbmaffijncapiaaGreatDoorL21
import Derived.Test.YtbmaffijncapiaaGreatDoorL22
import Derived.Test.YtbmaffijncapiaaGreatDoorL23
import Derived.Test.YtbmaffijncapiaaGreatDoorL24
import Derived.Test.YtbmaffijncapiaaGreatDoorJ01
import Derived.WalkKit
import Derived.ProofKit
import Derived.OpenShut
import Derived.Deep.QuietTactic
import Derived.BigQuiet
import Derived.Outline
import Derived.Lib.Hide
import Derived.WalkSmall
import Derived.WalkSpells
import Derived.WalkLawsBesides
import Derived.Deep.RegionWith
import Derived.Deep.RegionHeld3
import Derived.Laws.CopyOwn
import Derived.Shelf.Small.Bits
import Derived.Laws.AppendOwn
import Derived.Deep.AppendLies
import Derived.OneCell
import Derived.Laws.BitsAllLaws
import Derived.Shelf.Spec.TrailingZeros
import Derived.Shelf.Strings.Builder1
import Derived.Shelf.Strings.Trim
import Derived.Deep.Cut
import Derived.Deep.DeepCutAuto
import Derived.ArgAppend
import Derived.Deep.DeepFit
import Derived.Shelf.Abstract
import Derived.Laws.EntriesVeiled
import Derived.RegionTactic
import Derived.ChangeAlike
import Derived.Laws.OwnMore
import Derived.Deep.Onto
import Derived.Deep.DrawnRows
import Derived.Deep.RegionLaw
import Derived.Deep.LoopGhost
import Derived.RangeFuncNested
import Derived.RangeFuncBound
import Derived.RangeFuncCalls
import Derived.RangeFuncLeaves
import Derived.Shelf.RegionOpen
import Derived.OwnWalkIn
import Derived.TacticsInMore
import Derived.LoopNIn
import Derived.LoopIn
import Derived.Laws.CopyRow
import Derived.Laws.Rows
import Derived.Laws.Tables
import Derived.StillTail
import Derived.Deep.Quiet
import Derived.StillTailTactics
import Derived.Lib.AppendZeros
import Derived.Laws.IdiomStrings
import Derived.Laws.BytesArg
import Derived.Laws.RangeString
import Derived.Lib.OthersKept
import Derived.Maps.AppendAt
import Derived.Shelf.Strings.OnBuilder
import Derived.Lib.SmallJoins
import Derived.Deep.Slices
import Derived.Deep.Matrix
import Derived.Deep.Fields
import Derived.ChangeSame
import Derived.DataShut
import Derived.SizedLaws
set_option linter.unusedVariables false
set_option linter.unusedSimpArgs false
/- denote: outs; always; Rows. -/
namespace Go.Proofs.YtbmaffijncapiaaGreatDoor
open Num
open Go.ChangeShapes Go.WideShapes Go.ChangeAt Go.RowKit
attribute [local go_sem ↓] Go.wp_at_zero Go.wp_at_succ
def OwnP (base : Nat) (w0 w : World) (v : Value) (g : GridF) : Prop := ∃ L : List (Nat × List Rat), OwnL 38 (PRp base) w0 w v L ∧ L.map Prod.snd = g ∧ (∀ i j, i < j → j < L.length → (L.getD i default).1 < (L.getD j default).1)
theorem OwnP.nil {base : Nat} {w0 w : World} (hb : Below w0.heap.size w0 w) : OwnP base w0 w (.slice none 0 0) [] := ⟨[], OwnL.nil _ _ hb, rfl, fun i j _ hj => by simp at hj⟩
theorem OwnP.below {base : Nat} {w0 w w' : World} {v : Value} {g : GridF} (h : OwnP base w0 w v g) (hb : Below w.heap.size w w') : OwnP base w0 w' v g := by
  obtain ⟨L, h1, h2, h3⟩ := h; exact ⟨L, h1.below (prs_prp _) hb, h2, h3⟩
theorem OwnP.bel {base : Nat} {w0 w : World} {v : Value} {g : GridF} (h : OwnP base w0 w v g) : Below w0.heap.size w0 w := by obtain ⟨L, h1, _⟩ := h; exact h1.bel
theorem OwnP.ex {base : Nat} {w0 w : World} {v : Value} {g : GridF} (h : OwnP base w0 w v g) : ∃ a c, v = .slice a g.length c := by
  obtain ⟨L, h1, rfl, _⟩ := h; rw [List.length_map]; exact h1.ex
theorem OwnP.ltb {base : Nat} {w0 w : World} {v : Value} {L : List (Nat × List Rat)} (h : OwnL 38 (PRp base) w0 w v L) : ∀ i, i < L.length → (L.getD i default).1 < w.heap.size := fun i hi => by
  obtain ⟨xs, _, h2⟩ := h
  obtain ⟨u, hu, c, e, _, _, hI⟩ := h2 i hi
  have : L.getD i default = L[i] := by simp [hi]
  rw [this]; exact typ_lt hI.ty
theorem OwnP.isL {base : Nat} {w0 w : World} {v : Value} {g : GridF} (h : OwnP base w0 w v g) : IsL 38 (FRow base) w0.heap.size w v g := by
  obtain ⟨L, h1, rfl, _⟩ := h
  obtain ⟨a, c, rfl, hc, hm, h2⟩ := h1.isL
  refine ⟨a, c, by rw [List.length_map], by rw [List.length_map]; exact hc, hm, ?_⟩
  rcases h2 with rfl | ⟨b, off, rfl, hb, ht, h3⟩
  · exact .inl rfl
  · refine .inr ⟨b, off, rfl, hb, ht, fun k hk => ?_⟩
    rw [List.length_map] at hk
    obtain ⟨u, hu, hp⟩ := h3 k hk
    exact ⟨u, hu, by simpa using hp.frow⟩
theorem OwnP.snoc {base : Nat} {w0 w : World} {v : Value} {L : List (Nat × List Rat)} {g : GridF} {b : Nat} {r : List Rat} (h : OwnL 38 (PRp base) w0 w v (L ++ [(b, r)])) (hs : L.map Prod.snd = g) (hinc : ∀ i j, i < j → j < L.length → (L.getD i default).1 < (L.getD j default).1) (hlt : ∀ i, i < L.length → (L.getD i default).1 < b) : OwnP base w0 w v (g ++ [r]) := by
  refine ⟨_, h, by rw [List.map_append, hs]; rfl, fun i j hij hj => ?_⟩
  rw [List.length_append, List.length_singleton] at hj
  by_cases e : j < L.length
  · rw [getD_app_lt e, getD_app_lt (by omega)]; exact hinc i j hij e
  · obtain rfl : j = L.length := by omega
    rw [getD_app_lt (by omega), getD_app_eq]
    exact hlt i hij
def OutsPost (outs : List Int) (g : GridF) (w : World) (e : Ending) (w' : World) : Prop := (∃ v, e = .returned v ∧ OwnP w.heap.size w w' v (outsF outs g)) ∧ Below w.heap.size w w'
theorem outsF_take {outs : List Int} {g : GridF} {k : Nat} (h : k < outs.length) : (outsF outs g).take (k + 1) = (outsF outs g).take k ++ [g.getD (outs.getD k 0).toNat []] := by
  rw [take_getDF (by simp [outsF]; exact h)]
  simp [outsF, h]
set_option maxRecDepth 100000 in
set_option maxHeartbeats 8000000 in
theorem outsQ_c (ins regs : Int) (ca oa : Option Addr) (cl cc oc : Nat) (outs : List Int) (rb rc m : Nat) (g : GridF) (w : World) (ho : IntsV w oa oc outs) (hos : ∀ k, k < outs.length → 0 ≤ outs.getD k 0 ∧ outs.getD k 0 < (g.length : Int)) (hr : ∃ S, RegsF S w rb g) (hR : RectF m g) (h1 : 1 ≤ m) (hm : m ≤ 1099511627775) (hol : outs.length ≤ 128) :
    Calls Tryz.prog 98 #[.agg #[.int .i64 ins, .int .i64 regs, .slice ca cl cc, .slice oa outs.length oc], .slice (some ⟨rb, 0, none⟩) g.length rc] w (OutsPost outs g w) := by
  have HO := Lib.hid ho
  have HOS := Lib.hid hos
  have HRG := Lib.hid hr
  have HRC := Lib.hid hR
  have HOT := Lib.hid (fun k (hk : k < outs.length) => outsF_take (g := g) hk)
  obtain ⟨n, hn⟩ : ∃ n, outs.length = n := ⟨_, rfl⟩
  have HN := Lib.hid hn
  have HFL := Lib.hid (show (outsF outs g).length = n from by rw [← hn]; simp [outsF])
  obtain ⟨OF, hOF⟩ : ∃ OF, outsF outs g = OF := ⟨_, rfl⟩
  unfold OutsPost
  rw [hOF] at HOT HFL ⊢
  rw [hn] at hol ⊢
  obtain ⟨R, hRR⟩ : ∃ R, g.length = R := ⟨_, rfl⟩
  have HRR := Lib.hid hRR
  rw [hRR]
  clear ho hos hr hR hn hOF hRR
  have hB := Below.refl w.heap.size w
  go_enter Tryz.func98, Tryz.ntmps98
  go_wp2
  refine wp_name fun w1 hW1 => ?_
  have hB1 : Below w.heap.size w w1 := by rw [hW1]; repeat (first|exact bzR _ _|exact hB|refine bzD ?_|refine bzN ?_|refine bzS ?_|refine bzA ?_)
  have hBw1 := Below.refl w1.heap.size w1
  clear hW1 hB
  go_loopw [5, 11] (fun v x wr => ∃ k : Nat, k ≤ n ∧ x = .int .i64 k ∧ Hid (OwnP w.heap.size w1 wr v (OF.take k))) (fun _ x _ => n - (intOf x).toNat)
  case atStart => exact ⟨0, Nat.zero_le _, rfl, Lib.hid (OwnP.nil hBw1)⟩
  case round =>
    obtain ⟨k, hk, rfl, HO5⟩ := hrel
    have hBr := HO5.out.bel
    have hlen : (OF.take k).length = k := by rw [List.length_take, HFL.out]; omega
    obtain ⟨va, vcp, hv⟩ := HO5.out.ex
    rw [hlen] at hv
    subst hv
    have hBW : Below w.heap.size w wr := bthen hB1 hBr
    by_cases hlt : k < n
    · have hltI : (k : Int) < (n : Int) := by omega
      have hko : k < outs.length := by rw [HN.out]; exact hlt
      rcases HO.out with h0 | ⟨ob, oo, rfl, hcap, hcell⟩
      · rw [h0] at hko; simp at hko
      have hoc := bkeep hBW (hcell k hko)
      obtain ⟨hk0, hk1⟩ := HOS.out k hko
      have hot := HOT.out k hko
      obtain ⟨q, hq⟩ : ∃ q : Nat, outs.getD k 0 = q := ⟨(outs.getD k 0).toNat, by omega⟩
      rw [hq] at hoc hk0 hk1 hot
      rw [Int.toNat_natCast] at hot
      have hqR : q < g.length := by omega
      have hqI : (q : Int) < (R : Int) := by rw [← HRR.out]; omega
      obtain ⟨S, hrs⟩ := HRG.out
      obtain ⟨u, hu, hx⟩ := hrs.cell q hqR
      have hlr := HRC.out q hqR
      obtain ⟨r, hr⟩ : ∃ r, g.getD q [] = r := ⟨_, rfl⟩
      rw [hr] at hot hx hlr
      have HOTK := Lib.hid hot
      have CC := Lib.hid (fun V (h : Below w.heap.size w V) => cloneQ_c u r V (hx.1.keep h) (by omega))
      obtain ⟨ua, uc, rfl⟩ := FrRow.ex hx.1
      have hru := bkeep hBW hu
      have zo := cell_lt hoc
      have zu := cell_lt hru
      have HLR := Lib.hid hlr
      have hBw := Below.refl wr.heap.size wr
      clear hot hx hr hq hcell hu hrs hlr
      go_wp2_with fail
      (with_reducible refine (CC.out _ ?_).mono ?_); (repeat (first|exact bzR _ _|exact hBW|refine bzD ?_|refine bzN ?_|refine bzS ?_|refine bzA ?_))
      rintro e w5 ⟨⟨v5, rfl, hv5⟩, hb5⟩
      have hk5 : Below wr.heap.size wr w5 := bthen (by repeat (first|exact bzR _ _|exact hBw|refine bzD ?_|refine bzN ?_|refine bzS ?_|refine bzA ?_)) hb5
      obtain ⟨b, hpb⟩ := hv5.prp (by rw [HLR.out]; omega)
      have hwrb : wr.heap.size ≤ b := by obtain ⟨c, e, hc, hb, _⟩ := hpb; exact Nat.le_trans (show wr.heap.size ≤ _ from (by first | exact Nat.le_refl _ | exact (show Below wr.heap.size wr _ by repeat (first|exact bzR _ _|exact hBw|refine bzD ?_|refine bzN ?_|refine bzS ?_|refine bzA ?_)).size)) hb
      have HPB := Lib.hid (hpb.rebase (show w.heap.size ≤ _ from Nat.le_trans hBW.size (by first | exact Nat.le_refl _ | exact (show Below wr.heap.size wr _ by repeat (first|exact bzR _ _|exact hBw|refine bzD ?_|refine bzN ?_|refine bzS ?_|refine bzA ?_)).size)))
      obtain ⟨a5, c5, rfl⟩ := hv5.ex
      obtain ⟨L, hL, hLs, hinc⟩ := HO5.out
      have HL := Lib.hid (And.intro hLs (And.intro hinc (OwnP.ltb hL)))
      have HLo := Lib.hid (hL.below (prs_prp _) hk5)
      have hll : L.length = k := by rw [← List.length_map (f := Prod.snd), hLs]; exact hlen
      have hLL : (L.length + 1) * 24 ≤ 140737488355328 := by rw [hll]; omega
      have hLM : L.length + 1 ≤ maxLen := by rw [hll]; unfold maxLen; omega
      clear hll
      clear CC hb5 hpb hL hLs hinc hv5 HO5 hoc hru zo zu hBw
      go_wp2_with (at_builtin; refine appL elRats (prs_prp _) (by decide) (by rfl) (by rfl) (HLo.out.below (prs_prp _) (bal (Below.refl _ _) _)) ((prs_prp _).kp HPB.out (Kp.of_below _ (bal (Below.refl _ _) _))) (by rfl) (by rfl) (cell_new rfl rfl) hLL hLM ?_)
      intro v' w8 hO8 hk8
      have HO8 := Lib.hid (show OwnP w.heap.size w1 w8 v' (OF.take (k + 1)) from by
        rw [HOTK.out]
        exact OwnP.snoc hO8 HL.out.1 HL.out.2.1 (fun i hi => by have := HL.out.2.2 i hi; omega))
      clear hO8 hk8
      go_wp2
      exact ⟨⟨k + 1, hlt, by go_num, HO8⟩, meas hlt (by go_num) rfl⟩
    · obtain rfl : k = n := by omega
      have hltI : ¬ (k : Int) < (k : Int) := by omega
      rw [show OF.take k = OF from by rw [← HFL.out]; exact List.take_length] at HO5
      have HF := Lib.hid (show OwnP w.heap.size w wr _ OF from by
        obtain ⟨L, h1, h2, h3⟩ := HO5.out
        exact ⟨L, h1.rebase hB1, h2, h3⟩)
      clear HO5
      go_wp2
      go_ret
      exact ⟨⟨_, rfl, HF.out⟩, hBW⟩
theorem always_q (k : Int) (v : Value) (w : World) (hv : ∃ a n c, v = .slice a n c) : Calls Tryz.prog 97 #[.int .i64 k, v] w fun e w' => e = .returned (.bool true) ∧ Below w.heap.size w w' := by
  obtain ⟨a, n, c, rfl⟩ := hv
  have hB := Below.refl w.heap.size w
  go_enter Tryz.func97, Tryz.ntmps97
  go_wp2
  go_ret
  exact ⟨rfl, by repeat (first|exact bzR _ _|exact hB|refine bzD ?_|refine bzN ?_|refine bzS ?_|refine bzA ?_)⟩
end Go.Proofs.YtbmaffijncapiaaGreatDoor

/- denote: Rows. -/
namespace Go.Proofs.YtbmaffijncapiaaGreatDoor
open Num
open Go.ChangeShapes Go.WideShapes Go.ChangeAt Go.RowKit
attribute [local go_sem ↓] Go.wp_at_zero Go.wp_at_succ
def JA (n0 : Nat) (w : World) (k : Nat) (S : Nat → Prop) (W : World) : Prop := (∀ q, ¬ S q) ∧ Below n0 w W
theorem always_fn (n0 : Nat) (w : World) (T : Nat → List Rat) (M : Nat) (C : World → Prop) (hn : n0 ≤ w.heap.size) : FnTQ 97 #[] T M (JA n0 w) (fun _ _ _ => False) C := by
  intro k S W v hk hj hc hv
  refine (always_q (k : Int) v W (by obtain ⟨a, c, e, _⟩ := hv.1; exact ⟨a, _, c, e⟩)).mono fun e W' ⟨he, hb⟩ => ⟨true, he, .inl ⟨rfl, S, Grew.same S W, ⟨hj.1, hj.2.trans (hb.mono (Nat.le_trans hn hj.2.size))⟩, Out.of_below _ hb, fun q hq _ => absurd hq (hj.1 q)⟩⟩
theorem runA_c (n0 : Nat) (ins regs : Int) (ca oa : Option Addr) (cc ol oc : Nat) (code : List Ins) (g : GridF) (m rb rc : Nat) (w : World) (hc : InsV w ca cc code) (hcs : ∀ n, n < code.length → InsOk (code.getD n default) g.length) (hcl : code.length ≤ 16384) (hg128 : g.length ≤ 128)
    (hI : RegsF (fun _ => False) w rb g) (hR : RectF m g) (hm : m ≤ 1099511627775) (hsg : SlimG g) (hne : ∀ b off, ca = some ⟨b, off, none⟩ → 0 < code.length → b ≠ rb) (hn0 : n0 ≤ rb) :
    Calls Tryz.prog 95 #[.agg #[.int .i64 ins, .int .i64 regs, .slice ca code.length cc, .slice oa ol oc], .slice (some ⟨rb, 0, none⟩) g.length rc, .func (.func 97) #[] #[]] w
      fun e w' => ((∃ h, afterF code g code.length = some h ∧ e = .returned (.tuple #[.slice (some ⟨rb, 0, none⟩) g.length rc, .bool true]) ∧ RegsF (fun _ => False) w' rb h) ∨ (afterF code g code.length = none ∧ e = .returned (.tuple #[.slice none 0 0, .bool false]))) ∧ Below n0 w w' := by
  obtain ⟨M, hM⟩ := toldF_ex code g
  have hz := hI.free.1
  refine (runQ_c n0 M (fun _ => False) (JA n0 w) (fun _ _ _ => False) (fun k S X Y hj hcl _ => ⟨hj.1, hj.2.trans (hcl.low (Nat.le_trans (by omega) hj.2.size))⟩) (fun k S X h q hq => absurd hq (h.1 q)) (fun q hq => hq.elim) ins regs ca oa cc ol oc code g m rb rc _ #[] w hc hcs hcl hg128 hI hR hm hsg hM (always_fn n0 w _ M _ (by omega)) (ensD Tryz.func97 (by kernel_rfl) rfl) (fun b off e hl => ⟨hne b off e hl, fun h => h⟩) hn0 ⟨fun _ h => h, Below.refl _ _⟩).mono ?_
  rintro e w' (⟨h, S, h1, h2, h3, h4⟩ | ⟨h1, ⟨h2, S, h3⟩ | ⟨k, S, _, h⟩⟩)
  · refine ⟨.inl ⟨h, h1, h2, h4.free, h4.ty, fun k hk => ?_⟩, h3.2⟩
    obtain ⟨u, hu, hx⟩ := h4.cell k hk
    exact ⟨u, hu, hx.1, .inr fun _ _ h => h⟩
  · exact ⟨.inr ⟨h2, h1⟩, h3.2⟩
  · exact h.elim
theorem OwnL.regsF {base : Nat} {w0 w : World} {v : Value} {g : GridF} (h : OwnL 38 (FRow base) w0 w v g) (hg : 0 < g.length) : ∃ rb rc, v = .slice (some ⟨rb, 0, none⟩) g.length rc ∧ w0.heap.size ≤ rb ∧ RegsF (fun _ => False) w rb g := by
  obtain ⟨rb, rc, e, h1, h2, h3, h4, h5, h6⟩ := h.blk hg
  refine ⟨rb, rc, e, h1, h4, h5, fun k hk => ?_⟩
  obtain ⟨u, hu, hp⟩ := h6 k hk
  have : g[k] = g.getD k [] := by simp [hk]
  rw [this] at hp
  exact ⟨u, hu, FrRow.rebase hp (Nat.zero_le _), .inr fun _ _ h => h⟩
def endF (ins regs : Int) (code : List Ins) : Option GridF := afterF code (unitsF ins.toNat regs.toNat) code.length
theorem OwnP.rebase {base base' : Nat} {w0 w1 w : World} {v : Value} {g : GridF} (h : OwnP base w1 w v g) (hb : Below w0.heap.size w0 w1) (hl : base' ≤ base) : OwnP base' w0 w v g := by
  obtain ⟨L, h1, h2, h3⟩ := h
  exact ⟨L, (h1.rebase hb).mono fun u x q => q.rebase hl, h2, h3⟩
def RowsRes (ins regs : Int) (code : List Ins) (outs : List Int) (w w' : World) (v : Value) (q : Int) : Prop :=
  (¬ ProgOk ins regs code outs ∧ q = 80 ∧ v = .slice none 0 0) ∨ (ProgOk ins regs code outs ∧ endF ins regs code = none ∧ q = 3 ∧ v = .slice none 0 0) ∨ (ProgOk ins regs code outs ∧ ∃ h, endF ins regs code = some h ∧ q = 0 ∧ OwnP w.heap.size w w' v (outsF outs h))
def RowsPost (ins regs : Int) (code : List Ins) (outs : List Int) (w : World) (e : Ending) (w' : World) : Prop := (∃ v q, e = .returned (.tuple #[v, .int .i64 q]) ∧ RowsRes ins regs code outs w w' v q) ∧ Below w.heap.size w w'
theorem RowsPost.bad {ins regs : Int} {code : List Ins} {outs : List Int} {w w' : World} (h : ¬ ProgOk ins regs code outs) (hb : Below w.heap.size w w') : RowsPost ins regs code outs w (.returned (.tuple #[.slice none 0 0, .int .i64 80])) w' := ⟨⟨_, _, rfl, .inl ⟨h, rfl, rfl⟩⟩, hb⟩
theorem RowsPost.wide {ins regs : Int} {code : List Ins} {outs : List Int} {w w' : World} (h : ProgOk ins regs code outs) (h2 : endF ins regs code = none) (hb : Below w.heap.size w w') : RowsPost ins regs code outs w (.returned (.tuple #[.slice none 0 0, .int .i64 3])) w' := ⟨⟨_, _, rfl, .inr (.inl ⟨h, h2, rfl, rfl⟩)⟩, hb⟩
theorem RowsPost.yes {ins regs : Int} {code : List Ins} {outs : List Int} {w w' : World} {h : GridF} {v : Value} (ho : ProgOk ins regs code outs) (h2 : endF ins regs code = some h) (hv : OwnP w.heap.size w w' v (outsF outs h)) (hb : Below w.heap.size w w') : RowsPost ins regs code outs w (.returned (.tuple #[v, .int .i64 0])) w' := ⟨⟨_, _, rfl, .inr (.inr ⟨ho, h, h2, rfl, hv⟩)⟩, hb⟩
theorem ins_ofF {ins regs : Int} {code : List Ins} {outs : List Int} (h : ProgOk ins regs code outs) {n : Nat} (hn : n < code.length) : InsOk (code.getD n default) regs.toNat := by
  have h1 := h.i1; have h2 := h.i2
  refine insOk_of ?_ (by omega)
  rw [show ((regs.toNat : Nat) : Int) = regs by omega]; exact h.cs n hn
set_option maxRecDepth 100000 in
set_option maxHeartbeats 16000000 in
theorem rows_c (ins regs : Int) (ca oa : Option Addr) (cc oc : Nat) (code : List Ins) (outs : List Int) (w : World) (hc : InsV w ca cc code) (ho : IntsV w oa oc outs) :
    Calls Tryz.prog 17 #[.agg #[.int .i64 ins, .int .i64 regs, .slice ca code.length cc, .slice oa outs.length oc]] w (RowsPost ins regs code outs w) := by
  have CK := Lib.hid (fun V (h : Below w.heap.size w V) => check_c ins regs ca oa cc oc code outs V (hc.keep h) (ho.keep h))
  have hB := Below.refl w.heap.size w
  have HC := Lib.hid hc
  have HO := Lib.hid ho
  have HCB := Lib.hid (show ∀ b off, ca = some ⟨b, off, none⟩ → 0 < code.length → b < w.heap.size from fun b off e hl => by
    rcases hc with h0 | ⟨b', off', h1, _, h3⟩
    · rw [h0] at hl; simp at hl
    · rw [e] at h1; cases h1
      exact cell_lt (h3 0 hl).c0)
  clear hc ho
  go_enter Tryz.func17, Tryz.ntmps17
  go_wp2_with fail
  (with_reducible refine (CK.out _ ?_).mono ?_); (repeat (first|exact bzR _ _|exact hB|refine bzD ?_|refine bzN ?_|refine bzS ?_|refine bzA ?_))
  rintro e w1 ⟨r, s, rfl, (⟨hok, rfl, rfl⟩ | ⟨hok, rfl⟩), hb1⟩
  rotate_left
  · have hB1 : Below w.heap.size w w1 := bthen (by repeat (first|exact bzR _ _|exact hB|refine bzD ?_|refine bzN ?_|refine bzS ?_|refine bzA ?_)) hb1
    have HNO := Lib.hid hok
    clear CK hb1 hok
    go_wp2
    refine bodyPost_ret (v := .tuple #[.slice none 0 0, .int .i64 80]) (by simp [results, Tryz.results17, go_sem]) rfl (RowsPost.bad HNO.out hB1)
  ·
    have p0 : w1.cell? ⟨w.heap.size, 0, none⟩ = some (.int .i64 ins) := bkc hb1
    have zp0 := cell_lt p0
    have p1 : w1.cell? ⟨w.heap.size, 1, none⟩ = some (.int .i64 regs) := bkc hb1
    have p2 : w1.cell? ⟨w.heap.size, 2, none⟩ = some (.slice ca code.length cc) := bkc hb1
    have p3 : w1.cell? ⟨w.heap.size, 3, none⟩ = some (.slice oa outs.length oc) := bkc hb1
    have hB : Below w.heap.size w w1 := bthen (by repeat (first|exact bzR _ _|exact hB|refine bzD ?_|refine bzN ?_|refine bzS ?_|refine bzA ?_)) hb1
    have hz : w.heap.size ≤ w1.heap.size := hB.size
    have HOK := Lib.hid hok
    obtain ⟨n, rfl⟩ : ∃ n : Nat, ins = n := ⟨ins.toNat, by have := hok.i1; omega⟩
    obtain ⟨R, rfl⟩ : ∃ R : Nat, regs = R := ⟨regs.toNat, by have := hok.i1; have := hok.i2; omega⟩
    have hn1 : 1 ≤ n := by have := hok.i1; omega
    have hnR : n ≤ R := by have := hok.i2; omega
    have hR128 : R ≤ 128 := by have := hok.r1; omega
    have HEND := Lib.hid (show endF (n : Int) (R : Int) code = afterF code (unitsF n R) code.length from rfl)
    have HIN := Lib.hid (fun k (hk : k < code.length) => (show InsOk (code.getD k default) (unitsF n R).length from by rw [unitsF_len]; exact ins_ofF hok hk))
    have hcl := hok.c1
    have UC := Lib.hid (fun V => units_c n R ca oa code.length cc outs.length oc V hnR hn1 hR128)
    have HUL := Lib.hid (unitsF_len n R)
    have HUR := Lib.hid (And.intro (unitsF_rect n R) (unitsF_slim n R))
    obtain ⟨U, hU⟩ : ∃ U, unitsF n R = U := ⟨_, rfl⟩
    rw [hU] at UC HUL HUR HEND HIN
    have hol : outs.length ≤ 128 := hok.o2
    have HOS := Lib.hid (fun (h : GridF) (e : endF (n : Int) (R : Int) code = some h) => (show (∀ k, k < outs.length → 0 ≤ outs.getD k 0 ∧ outs.getD k 0 < (h.length : Int)) ∧ RectF n h ∧ h.length = R from by
      rw [HEND.out] at e
      have hl := afterF_len e
      rw [HUL.out] at hl
      refine ⟨fun k hk => ?_, (afterF_ok HUR.out.1 HUR.out.2 (fun k hk => ⟨(HIN.out k hk).a0, (HIN.out k hk).a1⟩) (Nat.le_refl _) e).1, hl⟩
      rw [hl]; exact hok.os k hk))
    have HB1 := Lib.hid hB
    have HS := Lib.hid (show ∀ V, Below w1.heap.size w1 V → V.cell? ⟨w.heap.size, 0, none⟩ = some (.int .i64 (n : Int)) ∧ V.cell? ⟨w.heap.size, 1, none⟩ = some (.int .i64 (R : Int)) ∧ V.cell? ⟨w.heap.size, 2, none⟩ = some (.slice ca code.length cc) ∧ V.cell? ⟨w.heap.size, 3, none⟩ = some (.slice oa outs.length oc) from fun V q => ⟨bkeep q p0, bkeep q p1, bkeep q p2, bkeep q p3⟩)
    have hBw := Below.refl w1.heap.size w1
    clear CK hb1 hok hU hB
    cases hend : endF (n : Int) (R : Int) code with
    | none =>
      have HEN := Lib.hid hend
      have RC := Lib.hid (fun rb rc V (hq : Below w1.heap.size w1 V) (hr : RegsF (fun _ => False) V rb U) (hn0 : w1.heap.size ≤ rb) => (runA_c w1.heap.size (n : Int) (R : Int) ca oa cc outs.length oc code U n rb rc V (HC.out.keep (HB1.out.trans (hq.mono HB1.out.size))) HIN.out (by omega) (by rw [HUL.out]; exact hR128) hr HUR.out.1 (by omega) HUR.out.2 (fun b off e hl => by have := HCB.out b off e hl; have := HB1.out.size; omega) hn0).mono (R' := fun e w' => e = .returned (.tuple #[.slice none 0 0, .bool false]) ∧ Below w1.heap.size V w') fun e w' ⟨h1, h2⟩ => by
        rcases h1 with ⟨h, h3, _⟩ | ⟨_, h4⟩
        · rw [← HEND.out, HEN.out] at h3; cases h3
        · exact ⟨h4, h2⟩)
      rw [HUL.out] at RC
      have UD := Lib.hid (fun V (h : Below w1.heap.size w1 V) => (UC.out V).mono (R' := fun e w' => ∃ rb rc, e = .returned (.slice (some ⟨rb, 0, none⟩) R rc) ∧ w1.heap.size ≤ rb ∧ RegsF (fun _ => False) w' rb U ∧ Below w1.heap.size V w') fun e w' ⟨⟨v, h1, h2⟩, h3⟩ => by
        obtain ⟨rb, rc, hv, hlo, hr⟩ := h2.regsF (by rw [HUL.out]; omega)
        rw [HUL.out] at hv
        exact ⟨rb, rc, by rw [h1, hv], Nat.le_trans h.size hlo, hr, h3.mono h.size⟩)
      clear UC
      obtain ⟨p0, p1, p2, p3⟩ := HS.out w1 (Below.refl _ _)
      go_wp2
      go_region_held3 (fun w' => w'.cell? ⟨w.heap.size, 0, none⟩ = some (.int .i64 (n : Int)) ∧ w'.cell? ⟨w.heap.size, 1, none⟩ = some (.int .i64 (R : Int)) ∧ w'.cell? ⟨w.heap.size, 2, none⟩ = some (.slice ca code.length cc) ∧ w'.cell? ⟨w.heap.size, 3, none⟩ = some (.slice oa outs.length oc))
        (first | (refine HS.out _ ?_; (repeat (first|exact bzR _ _|exact hBw|refine bzD ?_|refine bzN ?_|refine bzS ?_|refine bzA ?_)); done) | fail)
        (first
          | (go_at_call 96; refine (UD.out _ ?_).mono ?_; (repeat (first|exact bzR _ _|exact hBw|refine bzD ?_|refine bzN ?_|refine bzS ?_|refine bzA ?_)); rintro e w2 ⟨rb, rc, rfl, hrb, hrg, hb2⟩; (have hBd : Below w1.heap.size w1 w2 := Below.trans (by repeat (first|exact bzR _ _|exact hBw|refine bzD ?_|refine bzN ?_|refine bzS ?_|refine bzA ?_)) hb2; clear hBw; have hBw := hBd; clear hBd); have HRG := Lib.hid hrg; have hBu := Below.refl w2.heap.size w2; clear hb2 hrg)
          | (go_at_call 95; refine (RC.out rb rc _ ?_ (HRG.out.keep ?_) hrb).mono ?_; (repeat (first|exact bzR _ _|exact hBw|refine bzD ?_|refine bzN ?_|refine bzS ?_|refine bzA ?_)); (repeat (first|exact bzR _ _|exact hBu|refine bzD ?_|refine bzN ?_|refine bzS ?_|refine bzA ?_)); rintro e w3 ⟨rfl, hb3⟩; (have hBd : Below w1.heap.size w1 w3 := Below.trans (by repeat (first|exact bzR _ _|exact hBw|refine bzD ?_|refine bzN ?_|refine bzS ?_|refine bzA ?_)) hb3; clear hBw; have hBw := hBd; clear hBd))
          | fail)
      all_goals
        have hBf : Below w.heap.size w w3 := HB1.out.trans (hBw.mono HB1.out.size)
        clear RC UD p0 p1 p2 p3 hBw
        go_wp2
        refine bodyPost_ret (v := .tuple #[.slice none 0 0, .int .i64 3]) (by simp [results, Tryz.results17, go_sem]) rfl (RowsPost.wide HOK.out HEN.out ?_)
        repeat (first|exact bzR _ _|exact hBf|refine bzD ?_|refine bzN ?_|refine bzS ?_|refine bzA ?_)
    | some h =>
      have HEN := Lib.hid hend
      have HOS1 := Lib.hid (HOS.out h HEN.out)
      obtain ⟨-, hHR, hHL⟩ := HOS.out h HEN.out
      have RC := Lib.hid (fun rb rc V (hq : Below w1.heap.size w1 V) (hr : RegsF (fun _ => False) V rb U) (hn0 : w1.heap.size ≤ rb) => (runA_c w1.heap.size (n : Int) (R : Int) ca oa cc outs.length oc code U n rb rc V (HC.out.keep (HB1.out.trans (hq.mono HB1.out.size))) HIN.out (by omega) (by rw [HUL.out]; exact hR128) hr HUR.out.1 (by omega) HUR.out.2 (fun b off e hl => by have := HCB.out b off e hl; have := HB1.out.size; omega) hn0).mono (R' := fun e w' => e = .returned (.tuple #[.slice (some ⟨rb, 0, none⟩) R rc, .bool true]) ∧ RegsF (fun _ => False) w' rb h ∧ Below w1.heap.size V w') fun e w' ⟨h1, h2⟩ => by
        rcases h1 with ⟨g, h3, h4, h5⟩ | ⟨h3, _⟩
        · rw [← HEND.out, HEN.out] at h3; cases h3; rw [HUL.out] at h4; exact ⟨h4, h5, h2⟩
        · rw [← HEND.out, HEN.out] at h3; cases h3)
      rw [HUL.out] at RC
      have UD := Lib.hid (fun V (h : Below w1.heap.size w1 V) => (UC.out V).mono (R' := fun e w' => ∃ rb rc, e = .returned (.slice (some ⟨rb, 0, none⟩) R rc) ∧ w1.heap.size ≤ rb ∧ RegsF (fun _ => False) w' rb U ∧ Below w1.heap.size V w') fun e w' ⟨⟨v, h1, h2⟩, h3⟩ => by
        obtain ⟨rb, rc, hv, hlo, hr⟩ := h2.regsF (by rw [HUL.out]; omega)
        rw [HUL.out] at hv
        exact ⟨rb, rc, by rw [h1, hv], Nat.le_trans h.size hlo, hr, h3.mono h.size⟩)
      clear UC
      obtain ⟨p0, p1, p2, p3⟩ := HS.out w1 (Below.refl _ _)
      go_wp2
      go_region_held3 (fun w' => w'.cell? ⟨w.heap.size, 0, none⟩ = some (.int .i64 (n : Int)) ∧ w'.cell? ⟨w.heap.size, 1, none⟩ = some (.int .i64 (R : Int)) ∧ w'.cell? ⟨w.heap.size, 2, none⟩ = some (.slice ca code.length cc) ∧ w'.cell? ⟨w.heap.size, 3, none⟩ = some (.slice oa outs.length oc))
        (first | (refine HS.out _ ?_; (repeat (first|exact bzR _ _|exact hBw|refine bzD ?_|refine bzN ?_|refine bzS ?_|refine bzA ?_)); done) | fail)
        (first
          | (go_at_call 96; refine (UD.out _ ?_).mono ?_; (repeat (first|exact bzR _ _|exact hBw|refine bzD ?_|refine bzN ?_|refine bzS ?_|refine bzA ?_)); rintro e w2 ⟨rb, rc, rfl, hrb, hrg, hb2⟩; (have hBd : Below w1.heap.size w1 w2 := Below.trans (by repeat (first|exact bzR _ _|exact hBw|refine bzD ?_|refine bzN ?_|refine bzS ?_|refine bzA ?_)) hb2; clear hBw; have hBw := hBd; clear hBd); have HRG := Lib.hid hrg; have hBu := Below.refl w2.heap.size w2; clear hb2 hrg)
          | (go_at_call 95; refine (RC.out rb rc _ ?_ (HRG.out.keep ?_) hrb).mono ?_; (repeat (first|exact bzR _ _|exact hBw|refine bzD ?_|refine bzN ?_|refine bzS ?_|refine bzA ?_)); (repeat (first|exact bzR _ _|exact hBu|refine bzD ?_|refine bzN ?_|refine bzS ?_|refine bzA ?_)); rintro e w3 ⟨rfl, hrg3, hb3⟩; have HRG3 := Lib.hid hrg3; clear hrg3; have hBo := Below.refl w3.heap.size w3; (have hBd : Below w1.heap.size w1 w3 := Below.trans (by repeat (first|exact bzR _ _|exact hBw|refine bzD ?_|refine bzN ?_|refine bzS ?_|refine bzA ?_)) hb3; clear hBw; have hBw := hBd; clear hBd))
          | fail)
      all_goals
        have hBf : Below w.heap.size w w3 := HB1.out.trans (hBw.mono HB1.out.size)
        have OC := Lib.hid (fun V (h1 : Below w.heap.size w V) (h2 : RegsF (fun _ => False) V rb h) => outsQ_c (n : Int) (R : Int) ca oa code.length cc oc outs rb rc n h V (HO.out.keep h1) HOS1.out.1 ⟨_, h2⟩ HOS1.out.2.1 hn1 (by omega) hol)
        rw [hHL] at OC
        clear RC UD p0 p1 p2 p3
        obtain ⟨p0, p1, p2, p3⟩ := HS.out w3 hBw
        go_wp2_with fail
        (with_reducible refine (OC.out _ hBf HRG3.out).mono ?_)
        rintro e w4 ⟨⟨v, rfl, hv⟩, hb4⟩
        have hBg := bthen hBf hb4
        have HV := Lib.hid (OwnP.rebase hv hBf hBf.size)
        clear hv hb4 OC HRG3
        go_wp2
        refine bodyPost_ret (v := .tuple #[v, .int .i64 0]) (by simp [results, Tryz.results17, go_sem]) rfl (RowsPost.yes HOK.out HEN.out HV.out hBg)
end Go.Proofs.YtbmaffijncapiaaGreatDoor

/- denote: Same. -/
namespace Go.Proofs.YtbmaffijncapiaaGreatDoor
open Num
open Go.ChangeShapes Go.WideShapes Go.ChangeAt Go.RowKit
attribute [local go_sem ↓] Go.wp_at_zero Go.wp_at_succ
def BdF (k : Nat) (g : GridF) : Prop := ∀ i, i < g.length → ∀ j, j < (g.getD i []).length → BdQ k ((g.getD i []).getD j 0)
theorem outsF_len (outs : List Int) (h : GridF) : (outsF outs h).length = outs.length := by simp [outsF]
theorem outsF_get {outs : List Int} {h : GridF} {i : Nat} (hi : i < outs.length) : (outsF outs h).getD i [] = h.getD (outs.getD i 0).toNat [] := by simp [outsF, hi]
theorem endF_ok {ins regs : Int} {code : List Ins} {outs : List Int} {h : GridF} (hok : ProgOk ins regs code outs) (e : endF ins regs code = some h) : RectF ins.toNat (outsF outs h) ∧ SlimG (outsF outs h) := by
  have hl := afterF_len e
  rw [unitsF_len] at hl
  obtain ⟨h1, h2⟩ := afterF_ok (unitsF_rect ins.toNat regs.toNat) (unitsF_slim _ _) (fun n hn => by rw [unitsF_len]; exact ⟨(ins_ofF hok hn).a0, (ins_ofF hok hn).a1⟩) (Nat.le_refl _) e
  have key : ∀ i, i < outs.length → (outs.getD i 0).toNat < h.length := fun i hi => by
    obtain ⟨q1, q2⟩ := hok.os i hi
    rw [hl]; omega
  constructor
  · intro i hi
    rw [outsF_len] at hi
    rw [outsF_get hi]; exact h1 _ (key i hi)
  · intro i hi
    rw [outsF_len] at hi
    rw [outsF_get hi]; exact h2 _ (key i hi)
theorem slimG_bd {g : GridF} (h : SlimG g) : BdF 65536 g := fun i hi j hj => h i hi j hj
theorem ownP_isL0 {base : Nat} {w0 w : World} {v : Value} {g : GridF} (h : OwnP base w0 w v g) : IsL 38 (FRow 0) 0 w v g := (h.isL.rebase (Nat.zero_le _)).mono fun u x q => FrRow.rebase q (Nat.zero_le _)
theorem check_yes {ins regs : Int} {ca oa : Option Addr} {cc oc : Nat} {code : List Ins} {outs : List Int} {w : World} (hc : InsV w ca cc code) (ho : IntsV w oa oc outs) (h : ProgOk ins regs code outs) : Calls Tryz.prog 94 #[.agg #[.int .i64 ins, .int .i64 regs, .slice ca code.length cc, .slice oa outs.length oc]] w fun e w' => (∃ r : Int, e = .returned (.tuple #[.int .i64 r, .int .i64 0])) ∧ Below w.heap.size w w' :=
  (check_c ins regs ca oa cc oc code outs w hc ho).mono fun e w' ⟨r, s, h1, h2, h3⟩ => by
    rcases h2 with ⟨_, rfl, rfl⟩ | ⟨h4, _⟩
    · exact ⟨⟨_, h1⟩, h3⟩
    · exact absurd h h4
theorem check_no {ins regs : Int} {ca oa : Option Addr} {cc oc : Nat} {code : List Ins} {outs : List Int} {w : World} (hc : InsV w ca cc code) (ho : IntsV w oa oc outs) (h : ¬ ProgOk ins regs code outs) : Calls Tryz.prog 94 #[.agg #[.int .i64 ins, .int .i64 regs, .slice ca code.length cc, .slice oa outs.length oc]] w fun e w' => (∃ r : Int, e = .returned (.tuple #[.int .i64 r, .int .i64 80])) ∧ Below w.heap.size w w' :=
  (check_c ins regs ca oa cc oc code outs w hc ho).mono fun e w' ⟨r, s, h1, h2, h3⟩ => by
    rcases h2 with ⟨h4, _⟩ | ⟨_, rfl⟩
    · exact absurd h4 h
    · exact ⟨⟨_, h1⟩, h3⟩
theorem rows_yes {ins regs : Int} {ca oa : Option Addr} {cc oc : Nat} {code : List Ins} {outs : List Int} {w : World} {h : GridF} (hc : InsV w ca cc code) (ho : IntsV w oa oc outs) (hok : ProgOk ins regs code outs) (he : endF ins regs code = some h) : Calls Tryz.prog 17 #[.agg #[.int .i64 ins, .int .i64 regs, .slice ca code.length cc, .slice oa outs.length oc]] w fun e w' => (∃ v, e = .returned (.tuple #[v, .int .i64 0]) ∧ OwnP w.heap.size w w' v (outsF outs h)) ∧ Below w.heap.size w w' :=
  (rows_c ins regs ca oa cc oc code outs w hc ho).mono fun e w' ⟨⟨v, q, h1, h2⟩, h3⟩ => by
    rcases h2 with ⟨h4, _⟩ | ⟨_, h4, _⟩ | ⟨_, h', h4, rfl, h5⟩
    · exact absurd hok h4
    · rw [he] at h4; cases h4
    · rw [he] at h4; cases h4; exact ⟨⟨v, h1, h5⟩, h3⟩
theorem rows_wide {ins regs : Int} {ca oa : Option Addr} {cc oc : Nat} {code : List Ins} {outs : List Int} {w : World} (hc : InsV w ca cc code) (ho : IntsV w oa oc outs) (hok : ProgOk ins regs code outs) (he : endF ins regs code = none) : Calls Tryz.prog 17 #[.agg #[.int .i64 ins, .int .i64 regs, .slice ca code.length cc, .slice oa outs.length oc]] w fun e w' => e = .returned (.tuple #[.slice none 0 0, .int .i64 3]) ∧ Below w.heap.size w w' :=
  (rows_c ins regs ca oa cc oc code outs w hc ho).mono fun e w' ⟨⟨v, q, h1, h2⟩, h3⟩ => by
    rcases h2 with ⟨h4, _⟩ | ⟨_, h4, rfl, rfl⟩ | ⟨_, h', h4, _⟩
    · exact absurd hok h4
    · exact ⟨h1, h3⟩
    · rw [he] at h4; cases h4
theorem rows_no {ins regs : Int} {ca oa : Option Addr} {cc oc : Nat} {code : List Ins} {outs : List Int} {w : World} (hc : InsV w ca cc code) (ho : IntsV w oa oc outs) (hok : ¬ ProgOk ins regs code outs) : Calls Tryz.prog 17 #[.agg #[.int .i64 ins, .int .i64 regs, .slice ca code.length cc, .slice oa outs.length oc]] w fun e w' => e = .returned (.tuple #[.slice none 0 0, .int .i64 80]) ∧ Below w.heap.size w w' :=
  (rows_c ins regs ca oa cc oc code outs w hc ho).mono fun e w' ⟨⟨v, q, h1, h2⟩, h3⟩ => by
    rcases h2 with ⟨_, rfl, rfl⟩ | ⟨h4, _⟩ | ⟨h4, _⟩
    · exact ⟨h1, h3⟩
    · exact absurd h4 hok
    · exact absurd h4 hok
end Go.Proofs.YtbmaffijncapiaaGreatDoor

