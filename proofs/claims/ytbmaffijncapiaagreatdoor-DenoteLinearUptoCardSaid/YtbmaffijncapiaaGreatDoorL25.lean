/- Texts of this seat, laid together: DnF, DnG, DnH, DnI. Each opens with its own remark, which says what it proves, and under which conditions. -/
import Derived.Test.YtbmaffijncapiaaGreatDoorL24
import Derived.Test.YtbmaffijncapiaaGreatDoorL21
import Derived.Shelf.RegionOpen
import Derived.Deep.RegionLaw
set_option linter.unusedVariables false
set_option linter.unusedSimpArgs false
/- denote: outs; always; Rows. -/
namespace Go.Proofs.YtbmaffijncapiaaGreatDoor
open Num
open Go.ChangeShapes Go.WideShapes Go.ChangeAt Go.RowKit
set_option linter.unusedVariables false
set_option linter.unusedSimpArgs false
attribute [local go_sem ↓] Go.wp_at_zero Go.wp_at_succ
def OwnP (base : Nat) (w0 w : World) (v : Value) (g : GridF) : Prop := ∃ L : List (Nat × List Rat), OwnL 38 (PRp base) w0 w v L ∧ L.map Prod.snd = g ∧ (∀ i j, i < j → j < L.length → (L.getD i default).1 < (L.getD j default).1)
theorem OwnP.nil {base : Nat} {w0 w : World} (hb : Below w0.heap.size w0 w) : OwnP base w0 w (.slice none 0 0) [] := ⟨[], OwnL.nil _ _ hb, rfl, fun i j _ hj => by simp at hj⟩
theorem OwnP.below {base : Nat} {w0 w w' : World} {v : Value} {g : GridF} (h : OwnP base w0 w v g) (hb : Below w.heap.size w w') : OwnP base w0 w' v g := by
  obtain ⟨L, h1, h2, h3⟩ := h; exact ⟨L, h1.below (prs_prp _) hb, h2, h3⟩
theorem OwnP.bel {base : Nat} {w0 w : World} {v : Value} {g : GridF} (h : OwnP base w0 w v g) : Below w0.heap.size w0 w := by obtain ⟨L, h1, _⟩ := h; exact h1.bel
theorem OwnP.ex {base : Nat} {w0 w : World} {v : Value} {g : GridF} (h : OwnP base w0 w v g) : ∃ a c, v = .slice a g.length c := by
  obtain ⟨L, h1, rfl, _⟩ := h; rw [List.length_map]; exact h1.ex
theorem OwnP.ltb {base : Nat} {w0 w : World} {v : Value} {L : List (Nat × List Rat)} (h : OwnL 38 (PRp base) w0 w v L) : ∀ i, i < L.length → (L.getD i default).1 < w.heap.size := fun i hi => by
  obtain ⟨xs, _, h2⟩ := h
  obtain ⟨u, hu, c, e, _, _, hI⟩ := h2 i hi
  have : L.getD i default = L[i] := by simp [hi]
  rw [this]; exact typ_lt hI.ty
theorem OwnP.isL {base : Nat} {w0 w : World} {v : Value} {g : GridF} (h : OwnP base w0 w v g) : IsL 38 (FRow base) w0.heap.size w v g := by
  obtain ⟨L, h1, rfl, _⟩ := h
  obtain ⟨a, c, rfl, hc, hm, h2⟩ := h1.isL
  refine ⟨a, c, by rw [List.length_map], by rw [List.length_map]; exact hc, hm, ?_⟩
  rcases h2 with rfl | ⟨b, off, rfl, hb, ht, h3⟩
  · exact .inl rfl
  · refine .inr ⟨b, off, rfl, hb, ht, fun k hk => ?_⟩
    rw [List.length_map] at hk
    obtain ⟨u, hu, hp⟩ := h3 k hk
    exact ⟨u, hu, by simpa using hp.frow⟩
theorem OwnP.snoc {base : Nat} {w0 w : World} {v : Value} {L : List (Nat × List Rat)} {g : GridF} {b : Nat} {r : List Rat} (h : OwnL 38 (PRp base) w0 w v (L ++ [(b, r)])) (hs : L.map Prod.snd = g) (hinc : ∀ i j, i < j → j < L.length → (L.getD i default).1 < (L.getD j default).1) (hlt : ∀ i, i < L.length → (L.getD i default).1 < b) : OwnP base w0 w v (g ++ [r]) := by
  refine ⟨_, h, by rw [List.map_append, hs]; rfl, fun i j hij hj => ?_⟩
  rw [List.length_append, List.length_singleton] at hj
  by_cases e : j < L.length
  · rw [getD_app_lt e, getD_app_lt (by omega)]; exact hinc i j hij e
  · obtain rfl : j = L.length := by omega
    rw [getD_app_lt (by omega), getD_app_eq]
    exact hlt i hij
def OutsPost (outs : List Int) (g : GridF) (w : World) (e : Ending) (w' : World) : Prop := (∃ v, e = .returned v ∧ OwnP w.heap.size w w' v (outsF outs g)) ∧ Below w.heap.size w w'
theorem outsF_take {outs : List Int} {g : GridF} {k : Nat} (h : k < outs.length) : (outsF outs g).take (k + 1) = (outsF outs g).take k ++ [g.getD (outs.getD k 0).toNat []] := by
  rw [take_getDF (by simp [outsF]; exact h)]
  simp [outsF, h]
set_option maxRecDepth 100000 in
set_option maxHeartbeats 8000000 in
theorem outsQ_c (ins regs : Int) (ca oa : Option Addr) (cl cc oc : Nat) (outs : List Int) (rb rc m : Nat) (g : GridF) (w : World) (ho : IntsV w oa oc outs) (hos : ∀ k, k < outs.length → 0 ≤ outs.getD k 0 ∧ outs.getD k 0 < (g.length : Int)) (hr : ∃ S, RegsF S w rb g) (hR : RectF m g) (h1 : 1 ≤ m) (hm : m ≤ 1099511627775) (hol : outs.length ≤ 128) :
    Calls Tryz.prog 98 #[.agg #[.int .i64 ins, .int .i64 regs, .slice ca cl cc, .slice oa outs.length oc], .slice (some ⟨rb, 0, none⟩) g.length rc] w (OutsPost outs g w) := by
  have HO := Lib.hid ho
  have HOS := Lib.hid hos
  have HRG := Lib.hid hr
  have HRC := Lib.hid hR
  have HOT := Lib.hid (fun k (hk : k < outs.length) => outsF_take (g := g) hk)
  obtain ⟨n, hn⟩ : ∃ n, outs.length = n := ⟨_, rfl⟩
  have HN := Lib.hid hn
  have HFL := Lib.hid (show (outsF outs g).length = n from by rw [← hn]; simp [outsF])
  obtain ⟨OF, hOF⟩ : ∃ OF, outsF outs g = OF := ⟨_, rfl⟩
  unfold OutsPost
  rw [hOF] at HOT HFL ⊢
  rw [hn] at hol ⊢
  obtain ⟨R, hRR⟩ : ∃ R, g.length = R := ⟨_, rfl⟩
  have HRR := Lib.hid hRR
  rw [hRR]
  clear ho hos hr hR hn hOF hRR
  have hB := Below.refl w.heap.size w
  go_enter Tryz.func98, Tryz.ntmps98
  go_wp2
  refine wp_name fun w1 hW1 => ?_
  have hB1 : Below w.heap.size w w1 := by rw [hW1]; repeat (first|exact bzR _ _|exact hB|refine bzD ?_|refine bzN ?_|refine bzS ?_|refine bzA ?_)
  have hBw1 := Below.refl w1.heap.size w1
  clear hW1 hB
  go_loopw [5, 11] (fun v x wr => ∃ k : Nat, k ≤ n ∧ x = .int .i64 k ∧ Hid (OwnP w.heap.size w1 wr v (OF.take k))) (fun _ x _ => n - (intOf x).toNat)
  case atStart => exact ⟨0, Nat.zero_le _, rfl, Lib.hid (OwnP.nil hBw1)⟩
  case round =>
    obtain ⟨k, hk, rfl, HO5⟩ := hrel
    have hBr := HO5.out.bel
    have hlen : (OF.take k).length = k := by rw [List.length_take, HFL.out]; omega
    obtain ⟨va, vcp, hv⟩ := HO5.out.ex
    rw [hlen] at hv
    subst hv
    have hBW : Below w.heap.size w wr := bthen hB1 hBr
    by_cases hlt : k < n
    · have hltI : (k : Int) < (n : Int) := by omega
      have hko : k < outs.length := by rw [HN.out]; exact hlt
      rcases HO.out with h0 | ⟨ob, oo, rfl, hcap, hcell⟩
      · rw [h0] at hko; simp at hko
      have hoc := bkeep hBW (hcell k hko)
      obtain ⟨hk0, hk1⟩ := HOS.out k hko
      have hot := HOT.out k hko
      obtain ⟨q, hq⟩ : ∃ q : Nat, outs.getD k 0 = q := ⟨(outs.getD k 0).toNat, by omega⟩
      rw [hq] at hoc hk0 hk1 hot
      rw [Int.toNat_natCast] at hot
      have hqR : q < g.length := by omega
      have hqI : (q : Int) < (R : Int) := by rw [← HRR.out]; omega
      obtain ⟨S, hrs⟩ := HRG.out
      obtain ⟨u, hu, hx⟩ := hrs.cell q hqR
      have hlr := HRC.out q hqR
      obtain ⟨r, hr⟩ : ∃ r, g.getD q [] = r := ⟨_, rfl⟩
      rw [hr] at hot hx hlr
      have HOTK := Lib.hid hot
      have CC := Lib.hid (fun V (h : Below w.heap.size w V) => cloneQ_c u r V (hx.1.keep h) (by omega))
      obtain ⟨ua, uc, rfl⟩ := FrRow.ex hx.1
      have hru := bkeep hBW hu
      have zo := cell_lt hoc
      have zu := cell_lt hru
      have HLR := Lib.hid hlr
      have hBw := Below.refl wr.heap.size wr
      clear hot hx hr hq hcell hu hrs hlr
      go_wp2_with fail
      (with_reducible refine (CC.out _ ?_).mono ?_); (repeat (first|exact bzR _ _|exact hBW|refine bzD ?_|refine bzN ?_|refine bzS ?_|refine bzA ?_))
      rintro e w5 ⟨⟨v5, rfl, hv5⟩, hb5⟩
      have hk5 : Below wr.heap.size wr w5 := bthen (by repeat (first|exact bzR _ _|exact hBw|refine bzD ?_|refine bzN ?_|refine bzS ?_|refine bzA ?_)) hb5
      obtain ⟨b, hpb⟩ := hv5.prp (by rw [HLR.out]; omega)
      have hwrb : wr.heap.size ≤ b := by obtain ⟨c, e, hc, hb, _⟩ := hpb; exact Nat.le_trans (show wr.heap.size ≤ _ from (by first | exact Nat.le_refl _ | exact (show Below wr.heap.size wr _ by repeat (first|exact bzR _ _|exact hBw|refine bzD ?_|refine bzN ?_|refine bzS ?_|refine bzA ?_)).size)) hb
      have HPB := Lib.hid (hpb.rebase (show w.heap.size ≤ _ from Nat.le_trans hBW.size (by first | exact Nat.le_refl _ | exact (show Below wr.heap.size wr _ by repeat (first|exact bzR _ _|exact hBw|refine bzD ?_|refine bzN ?_|refine bzS ?_|refine bzA ?_)).size)))
      obtain ⟨a5, c5, rfl⟩ := hv5.ex
      obtain ⟨L, hL, hLs, hinc⟩ := HO5.out
      have HL := Lib.hid (And.intro hLs (And.intro hinc (OwnP.ltb hL)))
      have HLo := Lib.hid (hL.below (prs_prp _) hk5)
      have hll : L.length = k := by rw [← List.length_map (f := Prod.snd), hLs]; exact hlen
      have hLL : (L.length + 1) * 24 ≤ 140737488355328 := by rw [hll]; omega
      have hLM : L.length + 1 ≤ maxLen := by rw [hll]; unfold maxLen; omega
      clear hll
      clear CC hb5 hpb hL hLs hinc hv5 HO5 hoc hru zo zu hBw
      go_wp2_with (at_builtin; refine appL elRats (prs_prp _) (by decide) (by rfl) (by rfl) (HLo.out.below (prs_prp _) (bal (Below.refl _ _) _)) ((prs_prp _).kp HPB.out (Kp.of_below _ (bal (Below.refl _ _) _))) (by rfl) (by rfl) (cell_new rfl rfl) hLL hLM ?_)
      intro v' w8 hO8 hk8
      have HO8 := Lib.hid (show OwnP w.heap.size w1 w8 v' (OF.take (k + 1)) from by
        rw [HOTK.out]
        exact OwnP.snoc hO8 HL.out.1 HL.out.2.1 (fun i hi => by have := HL.out.2.2 i hi; omega))
      clear hO8 hk8
      go_wp2
      exact ⟨⟨k + 1, hlt, by go_num, HO8⟩, meas hlt (by go_num) rfl⟩
    · obtain rfl : k = n := by omega
      have hltI : ¬ (k : Int) < (k : Int) := by omega
      rw [show OF.take k = OF from by rw [← HFL.out]; exact List.take_length] at HO5
      have HF := Lib.hid (show OwnP w.heap.size w wr _ OF from by
        obtain ⟨L, h1, h2, h3⟩ := HO5.out
        exact ⟨L, h1.rebase hB1, h2, h3⟩)
      clear HO5
      go_wp2
      go_ret
      exact ⟨⟨_, rfl, HF.out⟩, hBW⟩
theorem always_q (k : Int) (v : Value) (w : World) (hv : ∃ a n c, v = .slice a n c) : Calls Tryz.prog 97 #[.int .i64 k, v] w fun e w' => e = .returned (.bool true) ∧ Below w.heap.size w w' := by
  obtain ⟨a, n, c, rfl⟩ := hv
  have hB := Below.refl w.heap.size w
  go_enter Tryz.func97, Tryz.ntmps97
  go_wp2
  go_ret
  exact ⟨rfl, by repeat (first|exact bzR _ _|exact hB|refine bzD ?_|refine bzN ?_|refine bzS ?_|refine bzA ?_)⟩
end Go.Proofs.YtbmaffijncapiaaGreatDoor

/- denote: Rows. -/
namespace Go.Proofs.YtbmaffijncapiaaGreatDoor
open Num
open Go.ChangeShapes Go.WideShapes Go.ChangeAt Go.RowKit
set_option linter.unusedVariables false
set_option linter.unusedSimpArgs false
attribute [local go_sem ↓] Go.wp_at_zero Go.wp_at_succ
def JA (n0 : Nat) (w : World) (k : Nat) (S : Nat → Prop) (W : World) : Prop := (∀ q, ¬ S q) ∧ Below n0 w W
theorem always_fn (n0 : Nat) (w : World) (T : Nat → List Rat) (M : Nat) (C : World → Prop) (hn : n0 ≤ w.heap.size) : FnTQ 97 #[] T M (JA n0 w) (fun _ _ _ => False) C := by
  intro k S W v hk hj hc hv
  refine (always_q (k : Int) v W (by obtain ⟨a, c, e, _⟩ := hv.1; exact ⟨a, _, c, e⟩)).mono fun e W' ⟨he, hb⟩ => ⟨true, he, .inl ⟨rfl, S, Grew.same S W, ⟨hj.1, hj.2.trans (hb.mono (Nat.le_trans hn hj.2.size))⟩, Out.of_below _ hb, fun q hq _ => absurd hq (hj.1 q)⟩⟩
theorem runA_c (n0 : Nat) (ins regs : Int) (ca oa : Option Addr) (cc ol oc : Nat) (code : List Ins) (g : GridF) (m rb rc : Nat) (w : World) (hc : InsV w ca cc code) (hcs : ∀ n, n < code.length → InsOk (code.getD n default) g.length) (hcl : code.length ≤ 16384) (hg128 : g.length ≤ 128)
    (hI : RegsF (fun _ => False) w rb g) (hR : RectF m g) (hm : m ≤ 1099511627775) (hsg : SlimG g) (hne : ∀ b off, ca = some ⟨b, off, none⟩ → 0 < code.length → b ≠ rb) (hn0 : n0 ≤ rb) :
    Calls Tryz.prog 95 #[.agg #[.int .i64 ins, .int .i64 regs, .slice ca code.length cc, .slice oa ol oc], .slice (some ⟨rb, 0, none⟩) g.length rc, .func (.func 97) #[] #[]] w
      fun e w' => ((∃ h, afterF code g code.length = some h ∧ e = .returned (.tuple #[.slice (some ⟨rb, 0, none⟩) g.length rc, .bool true]) ∧ RegsF (fun _ => False) w' rb h) ∨ (afterF code g code.length = none ∧ e = .returned (.tuple #[.slice none 0 0, .bool false]))) ∧ Below n0 w w' := by
  obtain ⟨M, hM⟩ := toldF_ex code g
  have hz := hI.free.1
  refine (runQ_c n0 M (fun _ => False) (JA n0 w) (fun _ _ _ => False) (fun k S X Y hj hcl _ => ⟨hj.1, hj.2.trans (hcl.low (Nat.le_trans (by omega) hj.2.size))⟩) (fun k S X h q hq => absurd hq (h.1 q)) (fun q hq => hq.elim) ins regs ca oa cc ol oc code g m rb rc _ #[] w hc hcs hcl hg128 hI hR hm hsg hM (always_fn n0 w _ M _ (by omega)) (ensD Tryz.func97 (by kernel_rfl) rfl) (fun b off e hl => ⟨hne b off e hl, fun h => h⟩) hn0 ⟨fun _ h => h, Below.refl _ _⟩).mono ?_
  rintro e w' (⟨h, S, h1, h2, h3, h4⟩ | ⟨h1, ⟨h2, S, h3⟩ | ⟨k, S, _, h⟩⟩)
  · refine ⟨.inl ⟨h, h1, h2, h4.free, h4.ty, fun k hk => ?_⟩, h3.2⟩
    obtain ⟨u, hu, hx⟩ := h4.cell k hk
    exact ⟨u, hu, hx.1, .inr fun _ _ h => h⟩
  · exact ⟨.inr ⟨h2, h1⟩, h3.2⟩
  · exact h.elim
theorem OwnL.regsF {base : Nat} {w0 w : World} {v : Value} {g : GridF} (h : OwnL 38 (FRow base) w0 w v g) (hg : 0 < g.length) : ∃ rb rc, v = .slice (some ⟨rb, 0, none⟩) g.length rc ∧ w0.heap.size ≤ rb ∧ RegsF (fun _ => False) w rb g := by
  obtain ⟨rb, rc, e, h1, h2, h3, h4, h5, h6⟩ := h.blk hg
  refine ⟨rb, rc, e, h1, h4, h5, fun k hk => ?_⟩
  obtain ⟨u, hu, hp⟩ := h6 k hk
  have : g[k] = g.getD k [] := by simp [hk]
  rw [this] at hp
  exact ⟨u, hu, FrRow.rebase hp (Nat.zero_le _), .inr fun _ _ h => h⟩
def endF (ins regs : Int) (code : List Ins) : Option GridF := afterF code (unitsF ins.toNat regs.toNat) code.length
theorem OwnP.rebase {base base' : Nat} {w0 w1 w : World} {v : Value} {g : GridF} (h : OwnP base w1 w v g) (hb : Below w0.heap.size w0 w1) (hl : base' ≤ base) : OwnP base' w0 w v g := by
  obtain ⟨L, h1, h2, h3⟩ := h
  exact ⟨L, (h1.rebase hb).mono fun u x q => q.rebase hl, h2, h3⟩
def RowsRes (ins regs : Int) (code : List Ins) (outs : List Int) (w w' : World) (v : Value) (q : Int) : Prop :=
  (¬ ProgOk ins regs code outs ∧ q = 80 ∧ v = .slice none 0 0) ∨ (ProgOk ins regs code outs ∧ endF ins regs code = none ∧ q = 3 ∧ v = .slice none 0 0) ∨ (ProgOk ins regs code outs ∧ ∃ h, endF ins regs code = some h ∧ q = 0 ∧ OwnP w.heap.size w w' v (outsF outs h))
def RowsPost (ins regs : Int) (code : List Ins) (outs : List Int) (w : World) (e : Ending) (w' : World) : Prop := (∃ v q, e = .returned (.tuple #[v, .int .i64 q]) ∧ RowsRes ins regs code outs w w' v q) ∧ Below w.heap.size w w'
theorem RowsPost.bad {ins regs : Int} {code : List Ins} {outs : List Int} {w w' : World} (h : ¬ ProgOk ins regs code outs) (hb : Below w.heap.size w w') : RowsPost ins regs code outs w (.returned (.tuple #[.slice none 0 0, .int .i64 80])) w' := ⟨⟨_, _, rfl, .inl ⟨h, rfl, rfl⟩⟩, hb⟩
theorem RowsPost.wide {ins regs : Int} {code : List Ins} {outs : List Int} {w w' : World} (h : ProgOk ins regs code outs) (h2 : endF ins regs code = none) (hb : Below w.heap.size w w') : RowsPost ins regs code outs w (.returned (.tuple #[.slice none 0 0, .int .i64 3])) w' := ⟨⟨_, _, rfl, .inr (.inl ⟨h, h2, rfl, rfl⟩)⟩, hb⟩
theorem RowsPost.yes {ins regs : Int} {code : List Ins} {outs : List Int} {w w' : World} {h : GridF} {v : Value} (ho : ProgOk ins regs code outs) (h2 : endF ins regs code = some h) (hv : OwnP w.heap.size w w' v (outsF outs h)) (hb : Below w.heap.size w w') : RowsPost ins regs code outs w (.returned (.tuple #[v, .int .i64 0])) w' := ⟨⟨_, _, rfl, .inr (.inr ⟨ho, h, h2, rfl, hv⟩)⟩, hb⟩
theorem ins_ofF {ins regs : Int} {code : List Ins} {outs : List Int} (h : ProgOk ins regs code outs) {n : Nat} (hn : n < code.length) : InsOk (code.getD n default) regs.toNat := by
  have h1 := h.i1; have h2 := h.i2
  refine insOk_of ?_ (by omega)
  rw [show ((regs.toNat : Nat) : Int) = regs by omega]; exact h.cs n hn
set_option maxRecDepth 100000 in
set_option maxHeartbeats 16000000 in
theorem rows_c (ins regs : Int) (ca oa : Option Addr) (cc oc : Nat) (code : List Ins) (outs : List Int) (w : World) (hc : InsV w ca cc code) (ho : IntsV w oa oc outs) :
    Calls Tryz.prog 17 #[.agg #[.int .i64 ins, .int .i64 regs, .slice ca code.length cc, .slice oa outs.length oc]] w (RowsPost ins regs code outs w) := by
  have CK := Lib.hid (fun V (h : Below w.heap.size w V) => check_c ins regs ca oa cc oc code outs V (hc.keep h) (ho.keep h))
  have hB := Below.refl w.heap.size w
  have HC := Lib.hid hc
  have HO := Lib.hid ho
  have HCB := Lib.hid (show ∀ b off, ca = some ⟨b, off, none⟩ → 0 < code.length → b < w.heap.size from fun b off e hl => by
    rcases hc with h0 | ⟨b', off', h1, _, h3⟩
    · rw [h0] at hl; simp at hl
    · rw [e] at h1; cases h1
      exact cell_lt (h3 0 hl).c0)
  clear hc ho
  go_enter Tryz.func17, Tryz.ntmps17
  go_wp2_with fail
  (with_reducible refine (CK.out _ ?_).mono ?_); (repeat (first|exact bzR _ _|exact hB|refine bzD ?_|refine bzN ?_|refine bzS ?_|refine bzA ?_))
  rintro e w1 ⟨r, s, rfl, (⟨hok, rfl, rfl⟩ | ⟨hok, rfl⟩), hb1⟩
  rotate_left
  · have hB1 : Below w.heap.size w w1 := bthen (by repeat (first|exact bzR _ _|exact hB|refine bzD ?_|refine bzN ?_|refine bzS ?_|refine bzA ?_)) hb1
    have HNO := Lib.hid hok
    clear CK hb1 hok
    go_wp2
    refine bodyPost_ret (v := .tuple #[.slice none 0 0, .int .i64 80]) (by simp [results, Tryz.results17, go_sem]) rfl (RowsPost.bad HNO.out hB1)
  ·
    have p0 : w1.cell? ⟨w.heap.size, 0, none⟩ = some (.int .i64 ins) := bkc hb1
    have zp0 := cell_lt p0
    have p1 : w1.cell? ⟨w.heap.size, 1, none⟩ = some (.int .i64 regs) := bkc hb1
    have p2 : w1.cell? ⟨w.heap.size, 2, none⟩ = some (.slice ca code.length cc) := bkc hb1
    have p3 : w1.cell? ⟨w.heap.size, 3, none⟩ = some (.slice oa outs.length oc) := bkc hb1
    have hB : Below w.heap.size w w1 := bthen (by repeat (first|exact bzR _ _|exact hB|refine bzD ?_|refine bzN ?_|refine bzS ?_|refine bzA ?_)) hb1
    have hz : w.heap.size ≤ w1.heap.size := hB.size
    have HOK := Lib.hid hok
    obtain ⟨n, rfl⟩ : ∃ n : Nat, ins = n := ⟨ins.toNat, by have := hok.i1; omega⟩
    obtain ⟨R, rfl⟩ : ∃ R : Nat, regs = R := ⟨regs.toNat, by have := hok.i1; have := hok.i2; omega⟩
    have hn1 : 1 ≤ n := by have := hok.i1; omega
    have hnR : n ≤ R := by have := hok.i2; omega
    have hR128 : R ≤ 128 := by have := hok.r1; omega
    have HEND := Lib.hid (show endF (n : Int) (R : Int) code = afterF code (unitsF n R) code.length from rfl)
    have HIN := Lib.hid (fun k (hk : k < code.length) => (show InsOk (code.getD k default) (unitsF n R).length from by rw [unitsF_len]; exact ins_ofF hok hk))
    have hcl := hok.c1
    have UC := Lib.hid (fun V => units_c n R ca oa code.length cc outs.length oc V hnR hn1 hR128)
    have HUL := Lib.hid (unitsF_len n R)
    have HUR := Lib.hid (And.intro (unitsF_rect n R) (unitsF_slim n R))
    obtain ⟨U, hU⟩ : ∃ U, unitsF n R = U := ⟨_, rfl⟩
    rw [hU] at UC HUL HUR HEND HIN
    have hol : outs.length ≤ 128 := hok.o2
    have HOS := Lib.hid (fun (h : GridF) (e : endF (n : Int) (R : Int) code = some h) => (show (∀ k, k < outs.length → 0 ≤ outs.getD k 0 ∧ outs.getD k 0 < (h.length : Int)) ∧ RectF n h ∧ h.length = R from by
      rw [HEND.out] at e
      have hl := afterF_len e
      rw [HUL.out] at hl
      refine ⟨fun k hk => ?_, (afterF_ok HUR.out.1 HUR.out.2 (fun k hk => ⟨(HIN.out k hk).a0, (HIN.out k hk).a1⟩) (Nat.le_refl _) e).1, hl⟩
      rw [hl]; exact hok.os k hk))
    have HB1 := Lib.hid hB
    have HS := Lib.hid (show ∀ V, Below w1.heap.size w1 V → V.cell? ⟨w.heap.size, 0, none⟩ = some (.int .i64 (n : Int)) ∧ V.cell? ⟨w.heap.size, 1, none⟩ = some (.int .i64 (R : Int)) ∧ V.cell? ⟨w.heap.size, 2, none⟩ = some (.slice ca code.length cc) ∧ V.cell? ⟨w.heap.size, 3, none⟩ = some (.slice oa outs.length oc) from fun V q => ⟨bkeep q p0, bkeep q p1, bkeep q p2, bkeep q p3⟩)
    have hBw := Below.refl w1.heap.size w1
    clear CK hb1 hok hU hB
    cases hend : endF (n : Int) (R : Int) code with
    | none =>
      have HEN := Lib.hid hend
      have RC := Lib.hid (fun rb rc V (hq : Below w1.heap.size w1 V) (hr : RegsF (fun _ => False) V rb U) (hn0 : w1.heap.size ≤ rb) => (runA_c w1.heap.size (n : Int) (R : Int) ca oa cc outs.length oc code U n rb rc V (HC.out.keep (HB1.out.trans (hq.mono HB1.out.size))) HIN.out (by omega) (by rw [HUL.out]; exact hR128) hr HUR.out.1 (by omega) HUR.out.2 (fun b off e hl => by have := HCB.out b off e hl; have := HB1.out.size; omega) hn0).mono (R' := fun e w' => e = .returned (.tuple #[.slice none 0 0, .bool false]) ∧ Below w1.heap.size V w') fun e w' ⟨h1, h2⟩ => by
        rcases h1 with ⟨h, h3, _⟩ | ⟨_, h4⟩
        · rw [← HEND.out, HEN.out] at h3; cases h3
        · exact ⟨h4, h2⟩)
      rw [HUL.out] at RC
      have UD := Lib.hid (fun V (h : Below w1.heap.size w1 V) => (UC.out V).mono (R' := fun e w' => ∃ rb rc, e = .returned (.slice (some ⟨rb, 0, none⟩) R rc) ∧ w1.heap.size ≤ rb ∧ RegsF (fun _ => False) w' rb U ∧ Below w1.heap.size V w') fun e w' ⟨⟨v, h1, h2⟩, h3⟩ => by
        obtain ⟨rb, rc, hv, hlo, hr⟩ := h2.regsF (by rw [HUL.out]; omega)
        rw [HUL.out] at hv
        exact ⟨rb, rc, by rw [h1, hv], Nat.le_trans h.size hlo, hr, h3.mono h.size⟩)
      clear UC
      obtain ⟨p0, p1, p2, p3⟩ := HS.out w1 (Below.refl _ _)
      go_wp2
      go_region_held3 (fun w' => w'.cell? ⟨w.heap.size, 0, none⟩ = some (.int .i64 (n : Int)) ∧ w'.cell? ⟨w.heap.size, 1, none⟩ = some (.int .i64 (R : Int)) ∧ w'.cell? ⟨w.heap.size, 2, none⟩ = some (.slice ca code.length cc) ∧ w'.cell? ⟨w.heap.size, 3, none⟩ = some (.slice oa outs.length oc))
        (first | (refine HS.out _ ?_; (repeat (first|exact bzR _ _|exact hBw|refine bzD ?_|refine bzN ?_|refine bzS ?_|refine bzA ?_)); done) | fail)
        (first
          | (go_at_call 96; refine (UD.out _ ?_).mono ?_; (repeat (first|exact bzR _ _|exact hBw|refine bzD ?_|refine bzN ?_|refine bzS ?_|refine bzA ?_)); rintro e w2 ⟨rb, rc, rfl, hrb, hrg, hb2⟩; (have hBd : Below w1.heap.size w1 w2 := Below.trans (by repeat (first|exact bzR _ _|exact hBw|refine bzD ?_|refine bzN ?_|refine bzS ?_|refine bzA ?_)) hb2; clear hBw; have hBw := hBd; clear hBd); have HRG := Lib.hid hrg; have hBu := Below.refl w2.heap.size w2; clear hb2 hrg)
          | (go_at_call 95; refine (RC.out rb rc _ ?_ (HRG.out.keep ?_) hrb).mono ?_; (repeat (first|exact bzR _ _|exact hBw|refine bzD ?_|refine bzN ?_|refine bzS ?_|refine bzA ?_)); (repeat (first|exact bzR _ _|exact hBu|refine bzD ?_|refine bzN ?_|refine bzS ?_|refine bzA ?_)); rintro e w3 ⟨rfl, hb3⟩; (have hBd : Below w1.heap.size w1 w3 := Below.trans (by repeat (first|exact bzR _ _|exact hBw|refine bzD ?_|refine bzN ?_|refine bzS ?_|refine bzA ?_)) hb3; clear hBw; have hBw := hBd; clear hBd))
          | fail)
      all_goals
        have hBf : Below w.heap.size w w3 := HB1.out.trans (hBw.mono HB1.out.size)
        clear RC UD p0 p1 p2 p3 hBw
        go_wp2
        refine bodyPost_ret (v := .tuple #[.slice none 0 0, .int .i64 3]) (by simp [results, Tryz.results17, go_sem]) rfl (RowsPost.wide HOK.out HEN.out ?_)
        repeat (first|exact bzR _ _|exact hBf|refine bzD ?_|refine bzN ?_|refine bzS ?_|refine bzA ?_)
    | some h =>
      have HEN := Lib.hid hend
      have HOS1 := Lib.hid (HOS.out h HEN.out)
      obtain ⟨-, hHR, hHL⟩ := HOS.out h HEN.out
      have RC := Lib.hid (fun rb rc V (hq : Below w1.heap.size w1 V) (hr : RegsF (fun _ => False) V rb U) (hn0 : w1.heap.size ≤ rb) => (runA_c w1.heap.size (n : Int) (R : Int) ca oa cc outs.length oc code U n rb rc V (HC.out.keep (HB1.out.trans (hq.mono HB1.out.size))) HIN.out (by omega) (by rw [HUL.out]; exact hR128) hr HUR.out.1 (by omega) HUR.out.2 (fun b off e hl => by have := HCB.out b off e hl; have := HB1.out.size; omega) hn0).mono (R' := fun e w' => e = .returned (.tuple #[.slice (some ⟨rb, 0, none⟩) R rc, .bool true]) ∧ RegsF (fun _ => False) w' rb h ∧ Below w1.heap.size V w') fun e w' ⟨h1, h2⟩ => by
        rcases h1 with ⟨g, h3, h4, h5⟩ | ⟨h3, _⟩
        · rw [← HEND.out, HEN.out] at h3; cases h3; rw [HUL.out] at h4; exact ⟨h4, h5, h2⟩
        · rw [← HEND.out, HEN.out] at h3; cases h3)
      rw [HUL.out] at RC
      have UD := Lib.hid (fun V (h : Below w1.heap.size w1 V) => (UC.out V).mono (R' := fun e w' => ∃ rb rc, e = .returned (.slice (some ⟨rb, 0, none⟩) R rc) ∧ w1.heap.size ≤ rb ∧ RegsF (fun _ => False) w' rb U ∧ Below w1.heap.size V w') fun e w' ⟨⟨v, h1, h2⟩, h3⟩ => by
        obtain ⟨rb, rc, hv, hlo, hr⟩ := h2.regsF (by rw [HUL.out]; omega)
        rw [HUL.out] at hv
        exact ⟨rb, rc, by rw [h1, hv], Nat.le_trans h.size hlo, hr, h3.mono h.size⟩)
      clear UC
      obtain ⟨p0, p1, p2, p3⟩ := HS.out w1 (Below.refl _ _)
      go_wp2
      go_region_held3 (fun w' => w'.cell? ⟨w.heap.size, 0, none⟩ = some (.int .i64 (n : Int)) ∧ w'.cell? ⟨w.heap.size, 1, none⟩ = some (.int .i64 (R : Int)) ∧ w'.cell? ⟨w.heap.size, 2, none⟩ = some (.slice ca code.length cc) ∧ w'.cell? ⟨w.heap.size, 3, none⟩ = some (.slice oa outs.length oc))
        (first | (refine HS.out _ ?_; (repeat (first|exact bzR _ _|exact hBw|refine bzD ?_|refine bzN ?_|refine bzS ?_|refine bzA ?_)); done) | fail)
        (first
          | (go_at_call 96; refine (UD.out _ ?_).mono ?_; (repeat (first|exact bzR _ _|exact hBw|refine bzD ?_|refine bzN ?_|refine bzS ?_|refine bzA ?_)); rintro e w2 ⟨rb, rc, rfl, hrb, hrg, hb2⟩; (have hBd : Below w1.heap.size w1 w2 := Below.trans (by repeat (first|exact bzR _ _|exact hBw|refine bzD ?_|refine bzN ?_|refine bzS ?_|refine bzA ?_)) hb2; clear hBw; have hBw := hBd; clear hBd); have HRG := Lib.hid hrg; have hBu := Below.refl w2.heap.size w2; clear hb2 hrg)
          | (go_at_call 95; refine (RC.out rb rc _ ?_ (HRG.out.keep ?_) hrb).mono ?_; (repeat (first|exact bzR _ _|exact hBw|refine bzD ?_|refine bzN ?_|refine bzS ?_|refine bzA ?_)); (repeat (first|exact bzR _ _|exact hBu|refine bzD ?_|refine bzN ?_|refine bzS ?_|refine bzA ?_)); rintro e w3 ⟨rfl, hrg3, hb3⟩; have HRG3 := Lib.hid hrg3; clear hrg3; have hBo := Below.refl w3.heap.size w3; (have hBd : Below w1.heap.size w1 w3 := Below.trans (by repeat (first|exact bzR _ _|exact hBw|refine bzD ?_|refine bzN ?_|refine bzS ?_|refine bzA ?_)) hb3; clear hBw; have hBw := hBd; clear hBd))
          | fail)
      all_goals
        have hBf : Below w.heap.size w w3 := HB1.out.trans (hBw.mono HB1.out.size)
        have OC := Lib.hid (fun V (h1 : Below w.heap.size w V) (h2 : RegsF (fun _ => False) V rb h) => outsQ_c (n : Int) (R : Int) ca oa code.length cc oc outs rb rc n h V (HO.out.keep h1) HOS1.out.1 ⟨_, h2⟩ HOS1.out.2.1 hn1 (by omega) hol)
        rw [hHL] at OC
        clear RC UD p0 p1 p2 p3
        obtain ⟨p0, p1, p2, p3⟩ := HS.out w3 hBw
        go_wp2_with fail
        (with_reducible refine (OC.out _ hBf HRG3.out).mono ?_)
        rintro e w4 ⟨⟨v, rfl, hv⟩, hb4⟩
        have hBg := bthen hBf hb4
        have HV := Lib.hid (OwnP.rebase hv hBf hBf.size)
        clear hv hb4 OC HRG3
        go_wp2
        refine bodyPost_ret (v := .tuple #[v, .int .i64 0]) (by simp [results, Tryz.results17, go_sem]) rfl (RowsPost.yes HOK.out HEN.out HV.out hBg)
end Go.Proofs.YtbmaffijncapiaaGreatDoor

/- denote: Steps: what its iterator tells. -/
namespace Go.Proofs.YtbmaffijncapiaaGreatDoor
open Num
open Go.ChangeShapes Go.WideShapes Go.ChangeAt Go.RowKit
set_option linter.unusedVariables false
set_option linter.unusedSimpArgs false
attribute [local go_sem ↓] Go.wp_at_zero Go.wp_at_succ
def AF (n0 : Nat) (T : Nat → List Rat) (k : Nat) (args : Array Value) (X : World) : Prop := ∃ v b base, args = #[.int .i64 (k : Int), v] ∧ n0 ≤ base ∧ PRp base X v (b, T k)
def XsF (args : Array Value) (q : Nat) : Prop := ∃ v, args[1]? = some v ∧ rowBlk v = some q
theorem prp_blk {base b q : Nat} {X : World} {v : Value} {L : List Rat} (h : PRp base X v (b, L)) (hq : rowBlk v = some q) : q = b ∧ base ≤ q ∧ typOf X q = some 79 := by
  obtain ⟨c, rfl, _, hb, hf⟩ := h
  simp [rowBlk] at hq
  subst hq
  exact ⟨rfl, hb, hf.ty⟩
theorem AF.cells {n0 : Nat} {T : Nat → List Rat} {k q : Nat} {args : Array Value} {X : World} (h : AF n0 T k args X) (hq : XsF args q) : ∃ o, X.heap[q]? = some o ∧ o.isCells = true := by
  obtain ⟨v, b, base, rfl, _, hr⟩ := h
  obtain ⟨v', e, hb⟩ := hq
  simp at e
  subst e
  exact typ_cells (prp_blk hr hb).2.2
def YieldsF (l m : Nat) (A : Nat → Array Value → World → Prop) (Xs : Array Value → Nat → Prop) (J Jx : Nat → (Nat → Prop) → World → Prop) : Prop :=
  ∀ k args S X, k < m → J k S X → A k args X → (∀ q, Xs args q → ¬ S q) → YieldAt Fence.wide 3 Tryz.prog l args X fun e Y => (∃ b, e = .returned (.bool b) ∧ ((b = true ∧ ∃ S', GrewX (Xs args) S S' X ∧ J (k + 1) S' Y ∧ OutT (fun q => S q ∨ Xs args q) X Y) ∨ (b = false ∧ ∃ S', Jx (k + 1) S' Y)))
theorem yieldAt_monoF {F : Fence} {m : Nat} {P : Program} {l : Nat} {args : Array Value} {W : World} {R R' : Ending → World → Prop} (h : YieldAt F m P l args W R) (hr : ∀ e w, R e w → R' e w) : YieldAt F m P l args W R' := by
  obtain ⟨fn, tmps, asg, body, hy, hR⟩ := h
  exact ⟨fn, tmps, asg, body, hy, hR.mono hr⟩
theorem OutT.baseF {S X : Nat → Prop} {a b c : World} (k : Below a.heap.size a b) (h : OutT (fun q => S q ∨ X q) b c) (hx : ∀ q, X q → a.heap.size ≤ q) (hS : ∀ q, S q → q < a.heap.size) : OutT S a c := by
  refine ⟨⟨h.1.os.trans k.os, h.1.tape.trans k.tape, h.1.output.trans k.output, Nat.le_trans k.size h.1.size, fun q hq hs => (h.1.block q (Nat.lt_of_lt_of_le hq k.size) fun e => ?_).trans (k.block q hq)⟩, fun q hq hl => ?_⟩
  · rcases e with e | e
    · exact hs e
    · have := hx q e; omega
  · rw [h.2 q (.inl hq) (Nat.lt_of_lt_of_le hl k.size)]
    unfold typOf; rw [k.block q hl]
set_option maxRecDepth 100000 in
set_option maxHeartbeats 8000000 in
theorem stepsFq_c (y yb M : Nat) (T : Nat → List Rat) (J Jx : Nat → (Nat → Prop) → World → Prop) (C : World → Prop) (n0 : Nat) (hJ : ∀ k S X Y, J k S X → Clo n0 S X Y → KeepsOthers X Y → J k S Y) (hJS : ∀ k S X, J k S X → Soil S X) (hT : ∀ k, k < M → 0 < (T k).length ∧ (T k).length ≤ 1099511627776)
    (hC : ∀ W, C W → W.cell? ⟨yb, 0, none⟩ = some (.func (.yield y) #[] #[])) (hCn : ∀ W, C W → n0 ≤ W.heap.size) (hY : YieldsF y M (AF n0 T) XsF J Jx) : FnTQ 104 #[.pointer (some ⟨yb, 0, none⟩)] T M J Jx C := by
  intro k S W v hk hj hc hv
  show Calls Tryz.prog 104 #[.int .i64 (k : Int), v, .pointer (some ⟨yb, 0, none⟩)] W _
  have HJ := Lib.hid hJ
  have HJK := Lib.hid hj
  have HS := Lib.hid (hJS k S W hj)
  have HYY := Lib.hid hY
  obtain ⟨hl0, hl⟩ := hT k hk
  have y0 := hC W hc
  have hnW := hCn W hc
  have zy := cell_lt y0
  have kcl := fun W1 (h : Below W.heap.size W W1) => (cloneQ_c v (T k) W1 (hv.1.keep h) hl).mono (R' := fun e w' => ∃ v' b, e = .returned v' ∧ PRp W.heap.size w' v' (b, T k) ∧ Below W.heap.size W1 w') fun e w' ⟨⟨v', h1, h2⟩, h3⟩ => by
    obtain ⟨b, hb⟩ := h2.prp hl0
    exact ⟨v', b, h1, hb.rebase h.size, h3.mono h.size⟩
  obtain ⟨va, vc, rfl, -⟩ := hv.1
  clear hJ hj hJS hY hT hC hc hCn
  have hB := Below.refl W.heap.size W
  go_enter Tryz.func104, Tryz.ntmps104
  go_wp2
  have hmx : (Tryz.prog).follows .mixedOrders = true := by kernel_rfl
  refine (wpIn_wide (n := 4)).1 ?_
  gi_region_with_o (first
    | (refine ⟨trivial, ?_⟩; refine CallsIn.mono (callsIn_wide.2 (kcl _ ?_)) ?_; (repeat (first|exact bzR _ _|exact hB|refine bzD ?_|refine bzN ?_|refine bzS ?_|refine bzA ?_)); rintro e w5 ⟨v5, b5, rfl, hr5', hb5⟩; have hB5 : Below W.heap.size W w5 := Below.trans (by repeat (first|exact bzR _ _|exact hB|refine bzD ?_|refine bzN ?_|refine bzS ?_|refine bzA ?_)) hb5; have y5 := bkeep hB5 y0; obtain ⟨fn, tmps, asg, body, hy, hRd⟩ := HYY.out k _ S w5 hk (HJ.out _ _ _ _ HJK.out (.of_below hB5) (out_others (Out.of_below (fun _ => False) hB5) fun _ h => h.elim)) ⟨v5, b5, _, rfl, hnW, hr5'⟩ (fun q hq hs => by obtain ⟨v', e, hb⟩ := hq; simp at e; subst e; have h1 := (prp_blk hr5' hb).2.1; have h2 := HS.out.lt hs; omega); have HR5 := Lib.hid hr5'; obtain ⟨c5, rfl, -⟩ := hr5')
    | (refine hRd.mono ?_; rintro e w6 ⟨bb, rfl, hres⟩; have HRES := Lib.hid hres; clear hres)
    | fail)
  all_goals
    gi_wp2
    go_wp2
    go_ret
    refine ⟨bb, rfl, ?_⟩
    rcases HRES.out with ⟨h1, S', hg, hj', ho⟩ | ⟨h1, S', hx⟩
    · exact .inl ⟨h1, S', fun q hq => (by
        rcases hg q hq with h | h | h
        · exact .inl h
        · obtain ⟨v', e, hb⟩ := h; simp at e; subst e; exact .inr (prp_blk HR5.out hb).2.1
        · exact .inr (Nat.le_trans hB5.size h)), hj', OutT.baseF hB5 ho (fun q hq => by obtain ⟨v', e, hb⟩ := hq; simp at e; subst e; exact (prp_blk HR5.out hb).2.1) fun q hq => HS.out.lt hq⟩
    · exact .inr ⟨h1, S', hx⟩
end Go.Proofs.YtbmaffijncapiaaGreatDoor

/- denote: Steps: its iterator. -/
namespace Go.Proofs.YtbmaffijncapiaaGreatDoor
open Num
open Go.ChangeShapes Go.WideShapes Go.ChangeAt Go.RowKit
set_option linter.unusedVariables false
set_option linter.unusedSimpArgs false
attribute [local go_sem ↓] Go.wp_at_zero Go.wp_at_succ
theorem toldQ_len {code : List Ins} {g : GridF} {m M k : Nat} (hr : RectF m g) (hs : SlimG g) (hc : ∀ n, n < code.length → 0 ≤ (code.getD n default).a ∧ (code.getD n default).a < g.length) (t : ToldF code g M) (hk : k < M) : (toldQ code g k).length = m := by
  obtain ⟨s, e⟩ := t.has
  have hl := t.le
  cases e1 : afterF code g k with
  | none => rw [afterF_mono e1 (show k ≤ M by omega)] at e; cases e
  | some g1 =>
    obtain ⟨h1, h2⟩ := hc k (by omega)
    rw [toldQ_eq e1, rowF_len]
    exact (afterF_ok hr hs hc (show k ≤ code.length by omega) e1).1 _ (by rw [afterF_len e1]; omega)
theorem OwnL.regsFS {S : Nat → Prop} {base : Nat} {w0 w : World} {v : Value} {g : GridF} (h : OwnL 38 (FRow base) w0 w v g) (hg : 0 < g.length) (hS : ∀ q, S q → q < base) : ∃ rb rc, v = .slice (some ⟨rb, 0, none⟩) g.length rc ∧ w0.heap.size ≤ rb ∧ RegsF S w rb g := by
  obtain ⟨rb, rc, e, h1, h2, h3, h4, h5, h6⟩ := h.blk hg
  refine ⟨rb, rc, e, h1, h4, h5, fun k hk => ?_⟩
  obtain ⟨u, hu, hp⟩ := h6 k hk
  have : g[k] = g.getD k [] := by simp [hk]
  rw [this] at hp
  exact ⟨u, hu, FRowX.of hp hS⟩
theorem runF_end {code : List Ins} {g : GridF} {M rb R rc : Nat} {J Jx : Nat → (Nat → Prop) → World → Prop} {e : Ending} {w : World} (t : ToldF code g M) (h : RunF code g M rb R rc J Jx e w) : (∃ q, e = .returned q) ∧ ((∃ S, J M S w) ∨ ∃ k S, k ≤ M ∧ Jx k S w) := by
  rcases h with ⟨s, S, h1, h2, h3, _⟩ | ⟨h2, ⟨_, S, h3⟩ | ⟨k, S, h3, h4⟩⟩
  · obtain rfl : M = code.length := by
      rcases Nat.lt_or_ge M code.length with h | h
      · rw [afterF_mono (t.stop h) (show M + 1 ≤ code.length by omega)] at h1; cases h1
      · have := t.le; omega
    exact ⟨⟨_, h2⟩, .inl ⟨S, h3⟩⟩
  · exact ⟨⟨_, h2⟩, .inl ⟨S, h3⟩⟩
  · exact ⟨⟨_, h2⟩, .inr ⟨k, S, h3, h4⟩⟩
structure StepsInF (n0 : Nat) (S0 : Nat → Prop) (pb : Nat) (ins regs : Int) (ca oa : Option Addr) (cc oc : Nat) (code : List Ins) (outs : List Int) (W : World) : Prop where
  p0 : W.cell? ⟨pb, 0, none⟩ = some (.int .i64 ins)
  p1 : W.cell? ⟨pb, 1, none⟩ = some (.int .i64 regs)
  p2 : W.cell? ⟨pb, 2, none⟩ = some (.slice ca code.length cc)
  p3 : W.cell? ⟨pb, 3, none⟩ = some (.slice oa outs.length oc)
  hc : InsV W ca cc code
  ho : IntsV W oa oc outs
  lt : ∀ q, S0 q → q < n0
  le : n0 ≤ W.heap.size
  nc : ∀ b off, ca = some ⟨b, off, none⟩ → 0 < code.length → ¬ S0 b
section
variable {n0 : Nat} {S0 : Nat → Prop} {pb : Nat} {ins regs : Int} {ca oa : Option Addr} {cc oc : Nat} {code : List Ins} {outs : List Int} {W W' : World}
theorem StepsInF.keep (h : StepsInF n0 S0 pb ins regs ca oa cc oc code outs W) (k : Below W.heap.size W W') : StepsInF n0 S0 pb ins regs ca oa cc oc code outs W' :=
  ⟨bkeep k h.p0, bkeep k h.p1, bkeep k h.p2, bkeep k h.p3, h.hc.keep k, h.ho.keep k, h.lt, Nat.le_trans h.le k.size, h.nc⟩
set_option maxRecDepth 100000 in
set_option maxHeartbeats 8000000 in
theorem stepsF_yes {M : Nat} (hok : ProgOk ins regs code outs) (hM : ToldF code (unitsF ins.toNat regs.toNat) M) :
    IterX Tryz.prog 103 #[.pointer (some ⟨pb, 0, none⟩)] (AF n0 (toldQ code (unitsF ins.toNat regs.toNat))) M XsF n0 S0 (StepsInF n0 S0 pb ins regs ca oa cc oc code outs) := by
  intro y J Jx W hG hJ hJx hJS hY h0
  refine callsIn_wide.2 ?_
  show Calls Tryz.prog 103 #[.func (.yield y) #[] #[], .pointer (some ⟨pb, 0, none⟩)] W _
  have CK := Lib.hid (fun V (h : Below W.heap.size W V) => check_c ins regs ca oa cc oc code outs V (hG.hc.keep h) (hG.ho.keep h))
  have HJ := Lib.hid (fun V (h : Below W.heap.size W V) => hJ 0 S0 W V h0 (.of_below h) (others_of_below h))
  have HJJ := Lib.hid hJ
  have HJS := Lib.hid hJS
  have HY := Lib.hid (show YieldsF y M (AF n0 (toldQ code (unitsF ins.toNat regs.toNat))) XsF J Jx from fun k args S X hk hj ha hx => yieldAt_monoF (yieldAt_wide (hY k args S X hk hj ha hx)) fun e w h => by
    rcases h with ⟨rfl, h⟩ | ⟨rfl, h⟩
    · exact ⟨true, rfl, .inl ⟨rfl, h⟩⟩
    · exact ⟨false, rfl, .inr ⟨rfl, h⟩⟩)
  have HG := Lib.hid hG
  have HOK := Lib.hid hok
  have HM := Lib.hid hM
  have HIN0 := Lib.hid (fun k (hk : k < code.length) => (show InsOk (code.getD k default) (unitsF ins.toNat regs.toNat).length from by rw [unitsF_len]; exact ins_ofF hok hk))
  obtain ⟨n, rfl⟩ : ∃ n : Nat, ins = n := ⟨ins.toNat, by have := hok.i1; omega⟩
  obtain ⟨R, rfl⟩ : ∃ R : Nat, regs = R := ⟨regs.toNat, by have := hok.i1; have := hok.i2; omega⟩
  have hn1 : 1 ≤ n := by have := hok.i1; omega
  have hnR : n ≤ R := by have := hok.i2; omega
  have hR128 : R ≤ 128 := by have := hok.r1; omega
  have hcl := hok.c1
  have p0 := hG.p0
  have p1 := hG.p1
  have p2 := hG.p2
  have p3 := hG.p3
  have hn0 := hG.le
  have zp0 := cell_lt p0
  have HNC := Lib.hid (show ∀ b off, ca = some ⟨b, off, none⟩ → 0 < code.length → b < W.heap.size ∧ ¬ S0 b from fun b off e hl => ⟨by
    rcases hG.hc with h0 | ⟨b', off', h1, _, h3⟩
    · rw [h0] at hl; simp at hl
    · rw [e] at h1; cases h1
      exact cell_lt (h3 0 hl).c0, hG.nc b off e hl⟩)
  clear hG hJ hJx hJS hY h0 hok hM
  simp only [Int.toNat_natCast] at HY HM HIN0
  have UC := Lib.hid (fun V => units_c n R ca oa code.length cc outs.length oc V hnR hn1 hR128)
  have HUL := Lib.hid (unitsF_len n R)
  have HUR := Lib.hid (And.intro (unitsF_rect n R) (unitsF_slim n R))
  obtain ⟨U, hU⟩ : ∃ U, unitsF n R = U := ⟨_, rfl⟩
  rw [hU] at UC HUL HUR HM HY HIN0
  clear hU
  have hB := Below.refl W.heap.size W
  have y0 : (W.alloc (.cells #[.func (.yield y) #[] #[]] 155)).cell? ⟨W.heap.size, 0, none⟩ = some (.func (.yield y) #[] #[]) := cell_new rfl rfl
  go_enter Tryz.func103, Tryz.ntmps103
  go_wp2_with fail
  (with_reducible refine (CK.out _ ?_).mono ?_); (repeat (first|exact bzR _ _|exact hB|refine bzD ?_|refine bzN ?_|refine bzS ?_|refine bzA ?_))
  rintro e w1 ⟨r, s, rfl, (⟨hok, rfl, rfl⟩ | ⟨hok, rfl⟩), hb1⟩
  rotate_left
  · exact absurd HOK.out hok
  · have hB1 : Below W.heap.size W w1 := bthen (by repeat (first|exact bzR _ _|exact hB|refine bzD ?_|refine bzN ?_|refine bzS ?_|refine bzA ?_)) hb1
    have y1 : w1.cell? ⟨W.heap.size, 0, none⟩ = some (.func (.yield y) #[] #[]) := bkeep hb1 (by first | exact cell_new rfl rfl | exact cell_drew (cell_new rfl rfl))
    clear CK y0 hok
    have p0 := bkeep hB1 p0
    have p1 := bkeep hB1 p1
    have p2 := bkeep hB1 p2
    have p3 := bkeep hB1 p3
    have zp1 := cell_lt p0
    have zy1 := cell_lt y1
    have hsz : W.heap.size ≤ w1.heap.size := hB1.size
    have HP := Lib.hid (show ∀ V, Below w1.heap.size w1 V → V.cell? ⟨pb, 0, none⟩ = some (.int .i64 (n : Int)) ∧ V.cell? ⟨pb, 1, none⟩ = some (.int .i64 (R : Int)) ∧ V.cell? ⟨pb, 2, none⟩ = some (.slice ca code.length cc) ∧ V.cell? ⟨pb, 3, none⟩ = some (.slice oa outs.length oc) from fun V h => ⟨bkeep h p0, bkeep h p1, bkeep h p2, bkeep h p3⟩)
    have RX := Lib.hid (fun rb rc V (k : Below w1.heap.size w1 V) (hr : RegsF S0 V rb U) (hrb : w1.heap.size ≤ rb) => runQ_c n0 M S0 J Jx HJJ.out HJS.out HG.out.lt (n : Int) (R : Int) ca oa cc outs.length oc code U n rb rc 104 #[.pointer (some ⟨W.heap.size, 0, none⟩)] V (HG.out.hc.keep (bthen hB1 k)) HIN0.out (by omega) (by rw [HUL.out]; exact hR128) hr HUR.out.1 (by omega) HUR.out.2 HM.out
      (stepsFq_c y W.heap.size M (toldQ code U) J Jx _ n0 HJJ.out HJS.out (fun k hk => by
        have := toldQ_len HUR.out.1 HUR.out.2 (fun n hn => ⟨(HIN0.out n hn).a0, (HIN0.out n hn).a1⟩) HM.out hk
        omega) (fun V2 ho => okeep ho (bkeep k y1) (fun h => by
        rcases h with h | h
        · omega
        · have := HG.out.lt _ h; omega)) (fun V2 ho => Nat.le_trans HG.out.le (Nat.le_trans (Nat.le_trans hsz k.size) ho.size)) HY.out) (ensD Tryz.func104 (by kernel_rfl) rfl) (fun b off e hl => ⟨fun e2 => by
      have := (HNC.out b off e hl).1
      omega, (HNC.out b off e hl).2⟩) (by omega) (HJ.out V (bthen hB1 k)))
    rw [HUL.out] at RX
    have UD := Lib.hid (fun V (h : Below w1.heap.size w1 V) => (UC.out V).mono (R' := fun e w' => ∃ rb rc, e = .returned (.slice (some ⟨rb, 0, none⟩) R rc) ∧ w1.heap.size ≤ rb ∧ RegsF S0 w' rb U ∧ Below w1.heap.size V w') fun e w' ⟨⟨v, h1, h2⟩, h3⟩ => by
      obtain ⟨rb, rc, hv, hlo, hr⟩ := h2.regsFS (S := S0) (by rw [HUL.out]; omega) (fun q hq => by have := HG.out.lt q hq; have := h.size; omega)
      rw [HUL.out] at hv
      exact ⟨rb, rc, by rw [h1, hv], Nat.le_trans h.size hlo, hr, h3.mono h.size⟩)
    clear p0 p1 p2 p3 y1 UC HNC
    obtain ⟨p0, p1, p2, p3⟩ := HP.out w1 (Below.refl _ _)
    have zp2 := cell_lt p0
    have hBc := Below.refl w1.heap.size w1
    go_wp2
    go_region_law (go_simp; go_wp2_with (first
      | (go_at_call 96; refine (UD.out _ ?_).mono ?_; (repeat (first|exact bzR _ _|exact hBc|refine bzD ?_|refine bzN ?_|refine bzS ?_|refine bzA ?_)); rintro e w3 ⟨rb, rc, rfl, hrb, hrg, hb3⟩; (have hBd : Below w1.heap.size w1 w3 := Below.trans (by repeat (first|exact bzR _ _|exact hBc|refine bzD ?_|refine bzN ?_|refine bzS ?_|refine bzA ?_)) hb3; clear hBc; have hBc := hBd; clear hBd); have HRG := Lib.hid hrg; have hBu := Below.refl w3.heap.size w3; clear hrg hb3; obtain ⟨p0, p1, p2, p3⟩ := HP.out w3 hBc; have zp3 := cell_lt p0)
      | (go_at_call 95; refine (RX.out rb rc _ ?_ (HRG.out.keep ?_) hrb).mono ?_; (repeat (first|exact bzR _ _|exact hBc|refine bzD ?_|refine bzN ?_|refine bzS ?_|refine bzA ?_)); (repeat (first|exact bzR _ _|exact hBu|refine bzD ?_|refine bzN ?_|refine bzS ?_|refine bzA ?_)); rintro e w4 hres; have HRES := Lib.hid (show (∃ q, e = .returned q) ∧ ((∃ S, J M S w4) ∨ ∃ k S, k ≤ M ∧ Jx k S w4) from runF_end HM.out hres); obtain ⟨⟨q, rfl⟩, -⟩ := HRES.out; clear hres)
      | fail))
    all_goals
      go_wp2
      refine bodyPost_end (results_none rfl _ _ _) rfl ?_
      exact ⟨⟨_, rfl⟩, HRES.out.2⟩
end
end Go.Proofs.YtbmaffijncapiaaGreatDoor

