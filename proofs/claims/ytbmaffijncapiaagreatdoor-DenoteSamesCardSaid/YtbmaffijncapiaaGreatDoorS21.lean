/- Texts of this seat, laid together: DnF, DnG, DnJ, DnO, RpA. What each theorem proves, and under which conditions, its statement says. -/
import Derived.Test.YtbmaffijncapiaaGreatDoorS20
set_option maxRecDepth 100000
set_option maxHeartbeats 32000000
set_option linter.unusedVariables false
set_option linter.unusedSimpArgs false
namespace Go.Proofs.YtbmaffijncapiaaGreatDoor
open Go.ChangeShapes Go.WideShapes Go.ChangeAt Go.RowKit
section
open Num
attribute [local go_sem ↓] Go.wp_at_zero Go.wp_at_succ
def OwnP (base : Nat) (w0 w : World) (v : Value) (g : GridF) : Prop := ∃ L : List (Nat × List Rat), OwnL 38 (PRp base) w0 w v L ∧ L.map Prod.snd = g ∧ (∀ i j, i < j → j < L.length → (L.getD i default).1 < (L.getD j default).1)
theorem OwnP.nil {base : Nat} {w0 w : World} (hb : Below w0.heap.size w0 w) : OwnP base w0 w (.slice none 0 0) [] := ⟨[], OwnL.nil _ _ hb, rfl, fun i j _ hj => by simp at hj⟩
theorem OwnP.below {base : Nat} {w0 w w' : World} {v : Value} {g : GridF} (h : OwnP base w0 w v g) (hb : Below w.heap.size w w') : OwnP base w0 w' v g := by
 obtain ⟨L, h1, h2, h3⟩ := h; exact ⟨L, h1.below (prs_prp _) hb, h2, h3⟩
theorem OwnP.bel {base : Nat} {w0 w : World} {v : Value} {g : GridF} (h : OwnP base w0 w v g) : Below w0.heap.size w0 w := by obtain ⟨L, h1, _⟩ := h; exact h1.bel
theorem OwnP.ex {base : Nat} {w0 w : World} {v : Value} {g : GridF} (h : OwnP base w0 w v g) : ∃ a c, v = .slice a g.length c := by
 obtain ⟨L, h1, rfl, _⟩ := h; rw [List.length_map]; exact h1.ex
theorem OwnP.ltb {base : Nat} {w0 w : World} {v : Value} {L : List (Nat × List Rat)} (h : OwnL 38 (PRp base) w0 w v L) : ∀ i, i < L.length → (L.getD i default).1 < w.heap.size := fun i hi => by
 obtain ⟨xs, _, h2⟩ := h
 obtain ⟨u, hu, c, e, _, _, hI⟩ := h2 i hi
 have : L.getD i default = L[i] := by simp [hi]
 rw [this]; exact typ_lt hI.ty
theorem OwnP.isL {base : Nat} {w0 w : World} {v : Value} {g : GridF} (h : OwnP base w0 w v g) : IsL 38 (FRow base) w0.heap.size w v g := by
 obtain ⟨L, h1, rfl, _⟩ := h
 obtain ⟨a, c, rfl, hc, hm, h2⟩ := h1.isL
 refine ⟨a, c, by rw [List.length_map], by rw [List.length_map]; exact hc, hm, ?_⟩
 rcases h2 with rfl | ⟨b, off, rfl, hb, ht, h3⟩
 · exact .inl rfl
 · refine .inr ⟨b, off, rfl, hb, ht, fun k hk => ?_⟩
   rw [List.length_map] at hk
   obtain ⟨u, hu, hp⟩ := h3 k hk
   exact ⟨u, hu, by simpa using hp.frow⟩
theorem OwnP.snoc {base : Nat} {w0 w : World} {v : Value} {L : List (Nat × List Rat)} {g : GridF} {b : Nat} {r : List Rat} (h : OwnL 38 (PRp base) w0 w v (L ++ [(b, r)])) (hs : L.map Prod.snd = g) (hinc : ∀ i j, i < j → j < L.length → (L.getD i default).1 < (L.getD j default).1) (hlt : ∀ i, i < L.length → (L.getD i default).1 < b) : OwnP base w0 w v (g ++ [r]) := by
 refine ⟨_, h, by rw [List.map_append, hs]; rfl, fun i j hij hj => ?_⟩
 rw [List.length_append, List.length_singleton] at hj
 by_cases e : j < L.length
 · rw [getD_app_lt e, getD_app_lt (by omega)]; exact hinc i j hij e
 · obtain rfl : j = L.length := by omega
   rw [getD_app_lt (by omega), getD_app_eq]
   exact hlt i hij
def OutsPost (outs : List Int) (g : GridF) (w : World) (e : Ending) (w' : World) : Prop := (∃ v, e = .returned v ∧ OwnP w.heap.size w w' v (outsF outs g)) ∧ Below w.heap.size w w'
theorem outsF_take {outs : List Int} {g : GridF} {k : Nat} (h : k < outs.length) : (outsF outs g).take (k + 1) = (outsF outs g).take k ++ [g.getD (outs.getD k 0).toNat []] := by
 rw [take_getDF (by simp [outsF]; exact h)]
 simp [outsF, h]
theorem outsQ_c (ins regs : Int) (ca oa : Option Addr) (cl cc oc : Nat) (outs : List Int) (rb rc m : Nat) (g : GridF) (w : World) (ho : IntsV w oa oc outs) (hos : ∀ k, k < outs.length → 0 ≤ outs.getD k 0 ∧ outs.getD k 0 < (g.length : Int)) (hr : ∃ S, RegsF S w rb g) (hR : RectF m g) (h1 : 1 ≤ m) (hm : m ≤ 1099511627775) (hol : outs.length ≤ 128) :
 Calls Tryz.prog 98 #[.agg #[.int .i64 ins, .int .i64 regs, .slice ca cl cc, .slice oa outs.length oc], .slice (some ⟨rb, 0, none⟩) g.length rc] w (OutsPost outs g w) := by
 have HO := hZ ho
 have HOS := hZ hos
 have HRG := hZ hr
 have HRC := hZ hR
 have HOT := hZ (fun k (hk : k < outs.length) => outsF_take (g := g) hk)
 obtain ⟨n, hn⟩ : ∃ n, outs.length = n := ⟨_, rfl⟩
 have HN := hZ hn
 have HFL := hZ (show (outsF outs g).length = n from by rw [← hn]; simp [outsF])
 obtain ⟨OF, hOF⟩ : ∃ OF, outsF outs g = OF := ⟨_, rfl⟩
 unfold OutsPost
 rw [hOF] at HOT HFL ⊢
 rw [hn] at hol ⊢
 obtain ⟨R, hRR⟩ : ∃ R, g.length = R := ⟨_, rfl⟩
 have HRR := hZ hRR
 rw [hRR]
 clear ho hos hr hR hn hOF hRR
 have hB := Below.refl w.heap.size w
 go_enter Tryz.func98, Tryz.ntmps98
 go_wp2
 refine wp_name fun w1 hW1 => ?_
 have hB1 : Below w.heap.size w w1 := by rw [hW1]; repeat exact bZ
 have hBw1 := Below.refl w1.heap.size w1
 clear hW1 hB
 go_loopw [5, 11] (fun v x wr => ∃ k : Nat, k ≤ n ∧ x = .int .i64 k ∧ Hid (OwnP w.heap.size w1 wr v (OF.take k))) (fun _ x _ => n - (intOf x).toNat)
 case atStart => exact ⟨0, Nat.zero_le _, rfl, hZ (OwnP.nil hBw1)⟩
 case round =>
  obtain ⟨k, hk, rfl, HO5⟩ := hrel
  have hBr := HO5.out.bel
  have hlen : (OF.take k).length = k := by rw [List.length_take, HFL.out]; omega
  obtain ⟨va, vcp, hv⟩ := HO5.out.ex
  rw [hlen] at hv
  subst hv
  have hBW : Below w.heap.size w wr := bthen hB1 hBr
  by_cases hlt : k < n
  · have hltI : (k : Int) < (n : Int) := by omega
    have hko : k < outs.length := by rw [HN.out]; exact hlt
    rcases HO.out with h0 | ⟨ob, oo, rfl, hcap, hcell⟩
    · rw [h0] at hko; simp at hko
    have hoc := bkeep hBW (hcell k hko)
    obtain ⟨hk0, hk1⟩ := HOS.out k hko
    have hot := HOT.out k hko
    obtain ⟨q, hq⟩ : ∃ q : Nat, outs.getD k 0 = q := ⟨(outs.getD k 0).toNat, by omega⟩
    rw [hq] at hoc hk0 hk1 hot
    rw [Int.toNat_natCast] at hot
    have hqR : q < g.length := by omega
    have hqI : (q : Int) < (R : Int) := by rw [← HRR.out]; omega
    obtain ⟨S, hrs⟩ := HRG.out
    obtain ⟨u, hu, hx⟩ := hrs.cell q hqR
    have hlr := HRC.out q hqR
    obtain ⟨r, hr⟩ : ∃ r, g.getD q [] = r := ⟨_, rfl⟩
    rw [hr] at hot hx hlr
    have HOTK := hZ hot
    have CC := hZ (fun V (h : Below w.heap.size w V) => cloneQ_c u r V (hx.1.keep h) (by omega))
    obtain ⟨ua, uc, rfl⟩ := FrRow.ex hx.1
    have hru := bkeep hBW hu
    have zo := cell_lt hoc
    have zu := cell_lt hru
    have HLR := hZ hlr
    have hBw := Below.refl wr.heap.size wr
    clear hot hx hr hq hcell hu hrs hlr
    go_wp2_with fail
    (with_reducible refine (CC.out _ ?_).mono ?_); (repeat exact bZ)
    rintro e w5 ⟨⟨v5, rfl, hv5⟩, hb5⟩
    have hk5 : Below wr.heap.size wr w5 := bthen bZ hb5
    obtain ⟨b, hpb⟩ := hv5.prp (by rw [HLR.out]; omega)
    have hwrb : wr.heap.size ≤ b := by obtain ⟨c, e, hc, hb, _⟩ := hpb; exact Nat.le_trans (show wr.heap.size ≤ _ from (by first | exact Nat.le_refl _ | exact (show Below wr.heap.size wr _ by repeat exact bZ).size)) hb
    have HPB := hZ (hpb.rebase (show w.heap.size ≤ _ from Nat.le_trans hBW.size (by first | exact Nat.le_refl _ | exact (show Below wr.heap.size wr _ by repeat exact bZ).size)))
    obtain ⟨a5, c5, rfl⟩ := hv5.ex
    obtain ⟨L, hL, hLs, hinc⟩ := HO5.out
    have HL := hZ (And.intro hLs (And.intro hinc (OwnP.ltb hL)))
    have HLo := hZ (hL.below (prs_prp _) hk5)
    have hll : L.length = k := by rw [← List.length_map (f := Prod.snd), hLs]; exact hlen
    have hLL : (L.length + 1) * 24 ≤ 140737488355328 := by rw [hll]; omega
    have hLM : L.length + 1 ≤ maxLen := by rw [hll]; unfold maxLen; omega
    clear hll
    clear CC hb5 hpb hL hLs hinc hv5 HO5 hoc hru zo zu hBw
    go_wp2_with (at_builtin; refine appL elRats (prs_prp _) (by decide) (by rfl) (by rfl) (HLo.out.below (prs_prp _) (bal (Below.refl _ _) _)) ((prs_prp _).kp HPB.out (Kp.of_below _ (bal (Below.refl _ _) _))) (by rfl) (by rfl) (cell_new rfl rfl) hLL hLM ?_)
    intro v' w8 hO8 hk8
    have HO8 := hZ (show OwnP w.heap.size w1 w8 v' (OF.take (k + 1)) from by
     rw [HOTK.out]
     exact OwnP.snoc hO8 HL.out.1 HL.out.2.1 (fun i hi => by have := HL.out.2.2 i hi; omega))
    clear hO8 hk8
    go_wp2
    exact ⟨⟨k + 1, hlt, by go_num, HO8⟩, meas hlt (by go_num) rfl⟩
  · obtain rfl : k = n := by omega
    have hltI : ¬ (k : Int) < (k : Int) := by omega
    rw [show OF.take k = OF from by rw [← HFL.out]; exact List.take_length] at HO5
    have HF := hZ (show OwnP w.heap.size w wr _ OF from by
     obtain ⟨L, h1, h2, h3⟩ := HO5.out
     exact ⟨L, h1.rebase hB1, h2, h3⟩)
    clear HO5
    go_wp2
    go_ret
    exact ⟨⟨_, rfl, HF.out⟩, hBW⟩
theorem always_q (k : Int) (v : Value) (w : World) (hv : ∃ a n c, v = .slice a n c) : Calls Tryz.prog 97 #[.int .i64 k, v] w fun e w' => e = .returned (.bool true) ∧ Below w.heap.size w w' := by
 obtain ⟨a, n, c, rfl⟩ := hv
 have hB := Below.refl w.heap.size w
 go_enter Tryz.func97, Tryz.ntmps97
 go_wp2
 go_ret
 exact ⟨rfl, by repeat exact bZ⟩
end
section
open Num
attribute [local go_sem ↓] Go.wp_at_zero Go.wp_at_succ
def JA (n0 : Nat) (w : World) (k : Nat) (S : Nat → Prop) (W : World) : Prop := (∀ q, ¬ S q) ∧ Below n0 w W
theorem always_fn (n0 : Nat) (w : World) (T : Nat → List Rat) (M : Nat) (C : World → Prop) (hn : n0 ≤ w.heap.size) : FnTQ 97 #[] T M (JA n0 w) (fun _ _ _ => False) C := by
 intro k S W v hk hj hc hv
 refine (always_q (k : Int) v W (by obtain ⟨a, c, e, _⟩ := hv.1; exact ⟨a, _, c, e⟩)).mono fun e W' ⟨he, hb⟩ => ⟨true, he, .inl ⟨rfl, S, Grew.same S W, ⟨hj.1, hj.2.trans (hb.mono (Nat.le_trans hn hj.2.size))⟩, Out.of_below _ hb, fun q hq _ => absurd hq (hj.1 q)⟩⟩
theorem runA_c (n0 : Nat) (ins regs : Int) (ca oa : Option Addr) (cc ol oc : Nat) (code : List Ins) (g : GridF) (m rb rc : Nat) (w : World) (hc : InsV w ca cc code) (hcs : ∀ n, n < code.length → InsOk (code.getD n default) g.length) (hcl : code.length ≤ 16384) (hg128 : g.length ≤ 128)
 (hI : RegsF (fun _ => False) w rb g) (hR : RectF m g) (hm : m ≤ 1099511627775) (hsg : SlimG g) (hne : ∀ b off, ca = some ⟨b, off, none⟩ → 0 < code.length → b ≠ rb) (hn0 : n0 ≤ rb) :
 Calls Tryz.prog 95 #[.agg #[.int .i64 ins, .int .i64 regs, .slice ca code.length cc, .slice oa ol oc], .slice (some ⟨rb, 0, none⟩) g.length rc, .func (.func 97) #[] #[]] w
  fun e w' => ((∃ h, afterF code g code.length = some h ∧ e = .returned (.tuple #[.slice (some ⟨rb, 0, none⟩) g.length rc, .bool true]) ∧ RegsF (fun _ => False) w' rb h) ∨ (afterF code g code.length = none ∧ e = .returned (.tuple #[.slice none 0 0, .bool false]))) ∧ Below n0 w w' := by
 obtain ⟨M, hM⟩ := toldF_ex code g
 have hz := hI.free.1
 refine (runQ_c n0 M (fun _ => False) (JA n0 w) (fun _ _ _ => False) (fun k S X Y hj hcl _ => ⟨hj.1, hj.2.trans (hcl.low (Nat.le_trans (by omega) hj.2.size))⟩) (fun k S X h q hq => absurd hq (h.1 q)) (fun q hq => hq.elim) ins regs ca oa cc ol oc code g m rb rc _ #[] w hc hcs hcl hg128 hI hR hm hsg hM (always_fn n0 w _ M _ (by omega)) (ensD Tryz.func97 (by kernel_rfl) rfl) (fun b off e hl => ⟨hne b off e hl, fun h => h⟩) hn0 ⟨fun _ h => h, Below.refl _ _⟩).mono ?_
 rintro e w' (⟨h, S, h1, h2, h3, h4⟩ | ⟨h1, ⟨h2, S, h3⟩ | ⟨k, S, _, h⟩⟩)
 · refine ⟨.inl ⟨h, h1, h2, h4.free, h4.ty, fun k hk => ?_⟩, h3.2⟩
   obtain ⟨u, hu, hx⟩ := h4.cell k hk
   exact ⟨u, hu, hx.1, .inr fun _ _ h => h⟩
 · exact ⟨.inr ⟨h2, h1⟩, h3.2⟩
 · exact h.elim
theorem OwnL.regsF {base : Nat} {w0 w : World} {v : Value} {g : GridF} (h : OwnL 38 (FRow base) w0 w v g) (hg : 0 < g.length) : ∃ rb rc, v = .slice (some ⟨rb, 0, none⟩) g.length rc ∧ w0.heap.size ≤ rb ∧ RegsF (fun _ => False) w rb g := by
 obtain ⟨rb, rc, e, h1, h2, h3, h4, h5, h6⟩ := h.blk hg
 refine ⟨rb, rc, e, h1, h4, h5, fun k hk => ?_⟩
 obtain ⟨u, hu, hp⟩ := h6 k hk
 have : g[k] = g.getD k [] := by simp [hk]
 rw [this] at hp
 exact ⟨u, hu, FrRow.rebase hp (Nat.zero_le _), .inr fun _ _ h => h⟩
def endF (ins regs : Int) (code : List Ins) : Option GridF := afterF code (unitsF ins.toNat regs.toNat) code.length
theorem OwnP.rebase {base base' : Nat} {w0 w1 w : World} {v : Value} {g : GridF} (h : OwnP base w1 w v g) (hb : Below w0.heap.size w0 w1) (hl : base' ≤ base) : OwnP base' w0 w v g := by
 obtain ⟨L, h1, h2, h3⟩ := h
 exact ⟨L, (h1.rebase hb).mono fun u x q => q.rebase hl, h2, h3⟩
def RowsRes (ins regs : Int) (code : List Ins) (outs : List Int) (w w' : World) (v : Value) (q : Int) : Prop :=
 (¬ ProgOk ins regs code outs ∧ q = 80 ∧ v = .slice none 0 0) ∨ (ProgOk ins regs code outs ∧ endF ins regs code = none ∧ q = 3 ∧ v = .slice none 0 0) ∨ (ProgOk ins regs code outs ∧ ∃ h, endF ins regs code = some h ∧ q = 0 ∧ OwnP w.heap.size w w' v (outsF outs h))
def RowsPost (ins regs : Int) (code : List Ins) (outs : List Int) (w : World) (e : Ending) (w' : World) : Prop := (∃ v q, e = .returned (.tuple #[v, .int .i64 q]) ∧ RowsRes ins regs code outs w w' v q) ∧ Below w.heap.size w w'
theorem RowsPost.bad {ins regs : Int} {code : List Ins} {outs : List Int} {w w' : World} (h : ¬ ProgOk ins regs code outs) (hb : Below w.heap.size w w') : RowsPost ins regs code outs w (.returned (.tuple #[.slice none 0 0, .int .i64 80])) w' := ⟨⟨_, _, rfl, .inl ⟨h, rfl, rfl⟩⟩, hb⟩
theorem RowsPost.wide {ins regs : Int} {code : List Ins} {outs : List Int} {w w' : World} (h : ProgOk ins regs code outs) (h2 : endF ins regs code = none) (hb : Below w.heap.size w w') : RowsPost ins regs code outs w (.returned (.tuple #[.slice none 0 0, .int .i64 3])) w' := ⟨⟨_, _, rfl, .inr (.inl ⟨h, h2, rfl, rfl⟩)⟩, hb⟩
theorem RowsPost.yes {ins regs : Int} {code : List Ins} {outs : List Int} {w w' : World} {h : GridF} {v : Value} (ho : ProgOk ins regs code outs) (h2 : endF ins regs code = some h) (hv : OwnP w.heap.size w w' v (outsF outs h)) (hb : Below w.heap.size w w') : RowsPost ins regs code outs w (.returned (.tuple #[v, .int .i64 0])) w' := ⟨⟨_, _, rfl, .inr (.inr ⟨ho, h, h2, rfl, hv⟩)⟩, hb⟩
theorem ins_ofF {ins regs : Int} {code : List Ins} {outs : List Int} (h : ProgOk ins regs code outs) {n : Nat} (hn : n < code.length) : InsOk (code.getD n default) regs.toNat := by
 have h1 := h.i1; have h2 := h.i2
 refine insOk_of ?_ (by omega)
 rw [show ((regs.toNat : Nat) : Int) = regs by omega]; exact h.cs n hn
theorem rows_c (ins regs : Int) (ca oa : Option Addr) (cc oc : Nat) (code : List Ins) (outs : List Int) (w : World) (hc : InsV w ca cc code) (ho : IntsV w oa oc outs) :
 Calls Tryz.prog 17 #[.agg #[.int .i64 ins, .int .i64 regs, .slice ca code.length cc, .slice oa outs.length oc]] w (RowsPost ins regs code outs w) := by
 have CK := hZ (fun V (h : Below w.heap.size w V) => check_c ins regs ca oa cc oc code outs V (hc.keep h) (ho.keep h))
 have hB := Below.refl w.heap.size w
 have HC := hZ hc
 have HO := hZ ho
 have HCB := hZ (show ∀ b off, ca = some ⟨b, off, none⟩ → 0 < code.length → b < w.heap.size from fun b off e hl => by
  rcases hc with h0 | ⟨b', off', h1, _, h3⟩
  · rw [h0] at hl; simp at hl
  · rw [e] at h1; cases h1
    exact cell_lt (h3 0 hl).c0)
 clear hc ho
 go_enter Tryz.func17, Tryz.ntmps17
 go_wp2_with fail
 (with_reducible refine (CK.out _ ?_).mono ?_); (repeat exact bZ)
 rintro e w1 ⟨r, s, rfl, (⟨hok, rfl, rfl⟩ | ⟨hok, rfl⟩), hb1⟩
 rotate_left
 · have hB1 : Below w.heap.size w w1 := bthen bZ hb1
   have HNO := hZ hok
   clear CK hb1 hok
   go_wp2
   refine bodyPost_ret (v := .tuple #[.slice none 0 0, .int .i64 80]) (by simp [results, Tryz.results17, go_sem]) rfl (RowsPost.bad HNO.out hB1)
 ·
  have p0 : w1.cell? ⟨w.heap.size, 0, none⟩ = some (.int .i64 ins) := bkc hb1
  have zp0 := cell_lt p0
  have p1 : w1.cell? ⟨w.heap.size, 1, none⟩ = some (.int .i64 regs) := bkc hb1
  have p2 : w1.cell? ⟨w.heap.size, 2, none⟩ = some (.slice ca code.length cc) := bkc hb1
  have p3 : w1.cell? ⟨w.heap.size, 3, none⟩ = some (.slice oa outs.length oc) := bkc hb1
  have hB : Below w.heap.size w w1 := bthen bZ hb1
  have hz := hB.size
  have HOK := hZ hok
  obtain ⟨n, rfl⟩ : ∃ n : Nat, ins = n := ⟨ins.toNat, by have := hok.i1; omega⟩
  obtain ⟨R, rfl⟩ : ∃ R : Nat, regs = R := ⟨regs.toNat, by have := hok.i1; have := hok.i2; omega⟩
  have hn1 : 1 ≤ n := by have := hok.i1; omega
  have hnR : n ≤ R := by have := hok.i2; omega
  have hR128 : R ≤ 128 := by have := hok.r1; omega
  have HEND := hZ (show endF (n : Int) (R : Int) code = afterF code (unitsF n R) code.length from rfl)
  have HIN := hZ (fun k (hk : k < code.length) => (show InsOk (code.getD k default) (unitsF n R).length from by rw [unitsF_len]; exact ins_ofF hok hk))
  have hcl := hok.c1
  have UC := hZ (fun V => units_c n R ca oa code.length cc outs.length oc V hnR hn1 hR128)
  have HUL := hZ (unitsF_len n R)
  have HUR := hZ (And.intro (unitsF_rect n R) (unitsF_slim n R))
  obtain ⟨U, hU⟩ : ∃ U, unitsF n R = U := ⟨_, rfl⟩
  rw [hU] at UC HUL HUR HEND HIN
  have hol : outs.length ≤ 128 := hok.o2
  have HOS := hZ (fun (h : GridF) (e : endF (n : Int) (R : Int) code = some h) => (show (∀ k, k < outs.length → 0 ≤ outs.getD k 0 ∧ outs.getD k 0 < (h.length : Int)) ∧ RectF n h ∧ h.length = R from by
   rw [HEND.out] at e
   have hl := afterF_len e
   rw [HUL.out] at hl
   refine ⟨fun k hk => ?_, (afterF_ok HUR.out.1 HUR.out.2 (fun k hk => ⟨(HIN.out k hk).a0, (HIN.out k hk).a1⟩) (Nat.le_refl _) e).1, hl⟩
   rw [hl]; exact hok.os k hk))
  have HB1 := hZ hB
  have HS := hZ (show ∀ V, Below w1.heap.size w1 V → V.cell? ⟨w.heap.size, 0, none⟩ = some (.int .i64 (n : Int)) ∧ V.cell? ⟨w.heap.size, 1, none⟩ = some (.int .i64 (R : Int)) ∧ V.cell? ⟨w.heap.size, 2, none⟩ = some (.slice ca code.length cc) ∧ V.cell? ⟨w.heap.size, 3, none⟩ = some (.slice oa outs.length oc) from fun V q => ⟨bkeep q p0, bkeep q p1, bkeep q p2, bkeep q p3⟩)
  have hBw := Below.refl w1.heap.size w1
  clear CK hb1 hok hU hB
  cases hend : endF (n : Int) (R : Int) code with
  | none =>
   have HEN := hZ hend
   have RC := hZ (fun rb rc V (hq : Below w1.heap.size w1 V) (hr : RegsF (fun _ => False) V rb U) (hn0 : w1.heap.size ≤ rb) => (runA_c w1.heap.size (n : Int) (R : Int) ca oa cc outs.length oc code U n rb rc V (HC.out.keep (HB1.out.trans (hq.mono HB1.out.size))) HIN.out (by omega) (by rw [HUL.out]; exact hR128) hr HUR.out.1 (by omega) HUR.out.2 (fun b off e hl => by have := HCB.out b off e hl; have := HB1.out.size; omega) hn0).mono (R' := fun e w' => e = .returned (.tuple #[.slice none 0 0, .bool false]) ∧ Below w1.heap.size V w') fun e w' ⟨h1, h2⟩ => by
    rcases h1 with ⟨h, h3, _⟩ | ⟨_, h4⟩
    · rw [← HEND.out, HEN.out] at h3; cases h3
    · exact ⟨h4, h2⟩)
   rw [HUL.out] at RC
   have UD := hZ (fun V (h : Below w1.heap.size w1 V) => (UC.out V).mono (R' := fun e w' => ∃ rb rc, e = .returned (.slice (some ⟨rb, 0, none⟩) R rc) ∧ w1.heap.size ≤ rb ∧ RegsF (fun _ => False) w' rb U ∧ Below w1.heap.size V w') fun e w' ⟨⟨v, h1, h2⟩, h3⟩ => by
    obtain ⟨rb, rc, hv, hlo, hr⟩ := h2.regsF (by rw [HUL.out]; omega)
    rw [HUL.out] at hv
    exact ⟨rb, rc, by rw [h1, hv], Nat.le_trans h.size hlo, hr, h3.mono h.size⟩)
   clear UC
   obtain ⟨p0, p1, p2, p3⟩ := HS.out w1 (Below.refl _ _)
   go_wp2
   go_region_held3 (fun w' => w'.cell? ⟨w.heap.size, 0, none⟩ = some (.int .i64 (n : Int)) ∧ w'.cell? ⟨w.heap.size, 1, none⟩ = some (.int .i64 (R : Int)) ∧ w'.cell? ⟨w.heap.size, 2, none⟩ = some (.slice ca code.length cc) ∧ w'.cell? ⟨w.heap.size, 3, none⟩ = some (.slice oa outs.length oc))
    (first | (refine HS.out _ ?_; (repeat exact bZ); done) | fail)
    (first
     | (go_at_call 96; refine (UD.out _ ?_).mono ?_; (repeat exact bZ); rintro e w2 ⟨rb, rc, rfl, hrb, hrg, hb2⟩; (have hBd : Below w1.heap.size w1 w2 := Below.trans bZ hb2; clear hBw; have hBw := hBd; clear hBd); have HRG := hZ hrg; have hBu := Below.refl w2.heap.size w2; clear hb2 hrg)
     | (go_at_call 95; refine (RC.out rb rc _ ?_ (HRG.out.keep ?_) hrb).mono ?_; (repeat exact bZ); (repeat exact bZ); rintro e w3 ⟨rfl, hb3⟩; (have hBd : Below w1.heap.size w1 w3 := Below.trans bZ hb3; clear hBw; have hBw := hBd; clear hBd))
     | fail)
   all_goals
    have hBf : Below w.heap.size w w3 := HB1.out.trans (hBw.mono HB1.out.size)
    clear RC UD p0 p1 p2 p3 hBw
    go_wp2
    refine bodyPost_ret (v := .tuple #[.slice none 0 0, .int .i64 3]) (by simp [results, Tryz.results17, go_sem]) rfl (RowsPost.wide HOK.out HEN.out ?_)
    repeat exact bZ
  | some h =>
   have HEN := hZ hend
   have HOS1 := hZ (HOS.out h HEN.out)
   obtain ⟨-, hHR, hHL⟩ := HOS.out h HEN.out
   have RC := hZ (fun rb rc V (hq : Below w1.heap.size w1 V) (hr : RegsF (fun _ => False) V rb U) (hn0 : w1.heap.size ≤ rb) => (runA_c w1.heap.size (n : Int) (R : Int) ca oa cc outs.length oc code U n rb rc V (HC.out.keep (HB1.out.trans (hq.mono HB1.out.size))) HIN.out (by omega) (by rw [HUL.out]; exact hR128) hr HUR.out.1 (by omega) HUR.out.2 (fun b off e hl => by have := HCB.out b off e hl; have := HB1.out.size; omega) hn0).mono (R' := fun e w' => e = .returned (.tuple #[.slice (some ⟨rb, 0, none⟩) R rc, .bool true]) ∧ RegsF (fun _ => False) w' rb h ∧ Below w1.heap.size V w') fun e w' ⟨h1, h2⟩ => by
    rcases h1 with ⟨g, h3, h4, h5⟩ | ⟨h3, _⟩
    · rw [← HEND.out, HEN.out] at h3; cases h3; rw [HUL.out] at h4; exact ⟨h4, h5, h2⟩
    · rw [← HEND.out, HEN.out] at h3; cases h3)
   rw [HUL.out] at RC
   have UD := hZ (fun V (h : Below w1.heap.size w1 V) => (UC.out V).mono (R' := fun e w' => ∃ rb rc, e = .returned (.slice (some ⟨rb, 0, none⟩) R rc) ∧ w1.heap.size ≤ rb ∧ RegsF (fun _ => False) w' rb U ∧ Below w1.heap.size V w') fun e w' ⟨⟨v, h1, h2⟩, h3⟩ => by
    obtain ⟨rb, rc, hv, hlo, hr⟩ := h2.regsF (by rw [HUL.out]; omega)
    rw [HUL.out] at hv
    exact ⟨rb, rc, by rw [h1, hv], Nat.le_trans h.size hlo, hr, h3.mono h.size⟩)
   clear UC
   obtain ⟨p0, p1, p2, p3⟩ := HS.out w1 (Below.refl _ _)
   go_wp2
   go_region_held3 (fun w' => w'.cell? ⟨w.heap.size, 0, none⟩ = some (.int .i64 (n : Int)) ∧ w'.cell? ⟨w.heap.size, 1, none⟩ = some (.int .i64 (R : Int)) ∧ w'.cell? ⟨w.heap.size, 2, none⟩ = some (.slice ca code.length cc) ∧ w'.cell? ⟨w.heap.size, 3, none⟩ = some (.slice oa outs.length oc))
    (first | (refine HS.out _ ?_; (repeat exact bZ); done) | fail)
    (first
     | (go_at_call 96; refine (UD.out _ ?_).mono ?_; (repeat exact bZ); rintro e w2 ⟨rb, rc, rfl, hrb, hrg, hb2⟩; (have hBd : Below w1.heap.size w1 w2 := Below.trans bZ hb2; clear hBw; have hBw := hBd; clear hBd); have HRG := hZ hrg; have hBu := Below.refl w2.heap.size w2; clear hb2 hrg)
     | (go_at_call 95; refine (RC.out rb rc _ ?_ (HRG.out.keep ?_) hrb).mono ?_; (repeat exact bZ); (repeat exact bZ); rintro e w3 ⟨rfl, hrg3, hb3⟩; have HRG3 := hZ hrg3; clear hrg3; have hBo := Below.refl w3.heap.size w3; (have hBd : Below w1.heap.size w1 w3 := Below.trans bZ hb3; clear hBw; have hBw := hBd; clear hBd))
     | fail)
   all_goals
    have hBf : Below w.heap.size w w3 := HB1.out.trans (hBw.mono HB1.out.size)
    have OC := hZ (fun V (h1 : Below w.heap.size w V) (h2 : RegsF (fun _ => False) V rb h) => outsQ_c (n : Int) (R : Int) ca oa code.length cc oc outs rb rc n h V (HO.out.keep h1) HOS1.out.1 ⟨_, h2⟩ HOS1.out.2.1 hn1 (by omega) hol)
    rw [hHL] at OC
    clear RC UD p0 p1 p2 p3
    obtain ⟨p0, p1, p2, p3⟩ := HS.out w3 hBw
    go_wp2_with fail
    (with_reducible refine (OC.out _ hBf HRG3.out).mono ?_)
    rintro e w4 ⟨⟨v, rfl, hv⟩, hb4⟩
    have hBg := bthen hBf hb4
    have HV := hZ (OwnP.rebase hv hBf hBf.size)
    clear hv hb4 OC HRG3
    go_wp2
    refine bodyPost_ret (v := .tuple #[v, .int .i64 0]) (by simp [results, Tryz.results17, go_sem]) rfl (RowsPost.yes HOK.out HEN.out HV.out hBg)
end
section
open Num
attribute [local go_sem ↓] Go.wp_at_zero Go.wp_at_succ
theorem alike1_c (va vb : Value) (x y : Rat) (k m : Nat) (w : World) (hx : IsQP w va x) (hy : IsQP w vb y) (bx : BdQ k x) (by' : BdQ m y) (hk : k + m ≤ 17179869180) : Calls Tryz.prog 209 #[va, vb] w fun e w' => e = .returned (.bool (decide (x = y))) ∧ Below w.heap.size w w' := by
 have OC := hZ (fun V (q : Below w.heap.size w V) => pqCmp_c va vb x y k m V (hx.keep q) (hy.keep q) bx by' hk)
 obtain ⟨n1, a1, l1, c1, n2, a2, l2, c2, rfl, -, -⟩ := hx
 obtain ⟨n3, a3, l3, c3, n4, a4, l4, c4, rfl, -, -⟩ := hy
 have hB := Below.refl w.heap.size w
 have HD := hZ (show (cmpI (x.num * (y.den : Int)) (y.num * (x.den : Int)) == 0) = decide (x = y) from by
  by_cases h : x = y
  · rw [decide_eq_true h]
    have := q_cmp.2 h
    simp [cmpI, this]
  · rw [decide_eq_false h]
    have h2 : ¬ x.num * (y.den : Int) = y.num * (x.den : Int) := fun e => h (q_cmp.1 e)
    unfold cmpI
    (repeat' split) <;> first | omega | rfl | (simp; done))
 obtain ⟨z, hz⟩ : ∃ z, cmpI (x.num * (y.den : Int)) (y.num * (x.den : Int)) = z := ⟨_, rfl⟩
 rw [hz] at OC HD
 obtain ⟨b, hb⟩ : ∃ b, decide (x = y) = b := ⟨_, rfl⟩
 rw [hb] at HD ⊢
 clear hz hb bx by' hk
 go_enter Tryz.func209, Tryz.ntmps209
 go_wp2_with fail
 (with_reducible refine (OC.out _ ?_).mono ?_); (repeat exact bZ)
 rintro e w1 ⟨rfl, hb1⟩
 have hB1 : Below w.heap.size w w1 := bthen bZ hb1
 clear OC hb1
 have hd := HD.out
 go_wp2
 go_ret
 exact ⟨rfl, by repeat exact bZ⟩
def RelRow (R : Rat → Rat → Prop) (A B : List Rat) : Prop := A.length = B.length ∧ ∀ j, j < A.length → R (A.getD j 0) (B.getD j 0)
theorem relRow_eq {A B : List Rat} : RelRow (· = ·) A B ↔ A = B := by
 constructor
 · rintro ⟨h1, h2⟩
   apply List.ext_getElem h1
   intro j ha hb
   have := h2 j ha
   simpa [ha, hb] using this
 · rintro rfl; exact ⟨rfl, fun _ _ => rfl⟩
def BoolPost (R : Prop) (w : World) (e : Ending) (w' : World) : Prop := (∃ b, e = .returned (.bool b) ∧ (b = true ↔ R)) ∧ Below w.heap.size w w'
theorem BoolPost.yes {R : Prop} {w w' : World} (h : R) (hb : Below w.heap.size w w') : BoolPost R w (.returned (.bool true)) w' := ⟨⟨_, rfl, by simp [h]⟩, hb⟩
theorem BoolPost.no {R : Prop} {w w' : World} (h : ¬ R) (hb : Below w.heap.size w w') : BoolPost R w (.returned (.bool false)) w' := ⟨⟨_, rfl, by simp [h]⟩, hb⟩
theorem eqQ_c (va vb : Value) (A B : List Rat) (k : Nat) (w : World) (hx : FrRow IsQP 79 0 w va A) (hy : FrRow IsQP 79 0 w vb B) (bA : ∀ j, j < A.length → BdQ k (A.getD j 0)) (bB : ∀ j, j < B.length → BdQ k (B.getD j 0)) (hk : k ≤ 1000000000) (hl : A.length ≤ 1099511627776) :
 Calls Tryz.prog 208 #[va, vb, .func (.func 209) #[] #[]] w (BoolPost (RelRow Eq A B) w) := by
 have HX := hZ hx
 have HY := hZ hy
 have HA := hZ bA
 have HB := hZ bB
 obtain ⟨a1, c1, rfl⟩ := hx.ex
 obtain ⟨a2, c2, rfl⟩ := hy.ex
 obtain ⟨n, hn⟩ : ∃ n, A.length = n := ⟨_, rfl⟩
 obtain ⟨m, hm⟩ : ∃ m, B.length = m := ⟨_, rfl⟩
 have HN := hZ hn
 have HM := hZ hm
 rw [hn] at hl ⊢
 rw [hm]
 clear hx hy bA bB hn hm
 have hB := Below.refl w.heap.size w
 go_enter Tryz.func208, Tryz.ntmps208
 by_cases hnm : n = m
 · subst hnm
   have hq : ((n : Int) != (n : Int)) = false := by simp
   go_wp2
   go_loopw [17] (fun x wr => ∃ j : Nat, j ≤ n ∧ x = .int .i64 j ∧ Below w.heap.size w wr ∧ Hid (∀ t, t < j → Eq (A.getD t 0) (B.getD t 0))) (fun x _ => n - (intOf x).toNat)
   case atStart => exact ⟨0, Nat.zero_le _, rfl, hB, hZ (fun t ht => by omega)⟩
   case round =>
    obtain ⟨j, hj, rfl, hBr, hE⟩ := hrel
    by_cases hlt : j < n
    · have hltI : (j : Int) < (n : Int) := by omega
      have hvx := HX.out.keep frk_prog hBr
      have hvy := HY.out.keep frk_prog hBr
      rw [HN.out] at hvx
      rw [HM.out] at hvy
      obtain ⟨b, off, rfl, -, g1, y1, s1, t1, g2, y2, s2, t2, q0, q1, q2, q3, qI⟩ := hvx.at hlt
      obtain ⟨b', off', rfl, -, g3, y3, s3, t3, g4, y4, s4, t4, r0, r1, r2, r3, rI⟩ := hvy.at hlt
      have zb := cell_lt q0
      have zr := cell_lt r0
      have WC := hZ (fun V (h : Below wr.heap.size wr V) => alike1_c _ _ (A.getD j 0) (B.getD j 0) k k V (qI.keep h) (rI.keep h) (HA.out j (by rw [HN.out]; exact hlt)) (HB.out j (by rw [HM.out]; exact hlt)) (by omega))
      have hBw := Below.refl wr.heap.size wr
      by_cases hs : Eq (A.getD j 0) (B.getD j 0)
      · rw [decide_eq_true hs] at WC
        have HE2 := hZ (show ∀ t, t < j + 1 → Eq (A.getD t 0) (B.getD t 0) from fun t ht => by
         by_cases e : t = j
         · subst e; exact hs
         · exact hE.out t (by omega))
        clear hvx hvy qI rI hs
        go_wp2_with fail
        (with_reducible refine (WC.out _ ?_).mono ?_); (repeat exact bZ)
        rintro e w5 ⟨rfl, hb5⟩
        have hB5 := bthen hBr (bthen (show Below wr.heap.size wr _ by repeat exact bZ) hb5)
        clear WC hb5
        go_wp2
        exact ⟨⟨j + 1, hlt, by go_num, hB5, HE2⟩, meas hlt (by go_num) rfl⟩
      · rw [decide_eq_false hs] at WC
        have HNS := hZ (show ¬ RelRow Eq A B from fun h => hs (h.2 j (by rw [HN.out]; exact hlt)))
        clear hvx hvy qI rI hs
        go_wp2_with fail
        (with_reducible refine (WC.out _ ?_).mono ?_); (repeat exact bZ)
        rintro e w5 ⟨rfl, hb5⟩
        have hB5 := bthen hBr (bthen (show Below wr.heap.size wr _ by repeat exact bZ) hb5)
        clear WC hb5
        go_wp2
        go_ret
        exact BoolPost.no HNS.out hB5
    · obtain rfl : j = n := by omega
      have hltI : ¬ (j : Int) < (j : Int) := by omega
      have HS := hZ (show RelRow Eq A B from ⟨by rw [HN.out, HM.out], fun t ht => hE.out t (by rw [HN.out] at ht; exact ht)⟩)
      go_wp2
      go_ret
      exact BoolPost.yes HS.out hBr
 · have hq : ((n : Int) != (m : Int)) = true := by simp; omega
   have HS := hZ (show ¬ RelRow Eq A B from fun h => hnm (by have := h.1; rw [HN.out, HM.out] at this; exact this))
   clear hnm
   go_wp2
   go_ret
   exact BoolPost.no HS.out hB
theorem alikeQ_c (va vb : Value) (A B : List Rat) (k : Nat) (w : World) (hx : FRow 0 w va A) (hy : FRow 0 w vb B) (bA : ∀ j, j < A.length → BdQ k (A.getD j 0)) (bB : ∀ j, j < B.length → BdQ k (B.getD j 0)) (hk : k ≤ 1000000000) (hl : A.length ≤ 1099511627776) :
 Calls Tryz.prog 120 #[va, vb] w (BoolPost (A = B) w) := by
 have EC := hZ (fun V (h : Below w.heap.size w V) => (eqQ_c va vb A B k V (hx.keep h) (hy.keep h) bA bB hk hl).mono (R' := fun e w' => ∃ b, e = .returned (.bool b) ∧ (b = true ↔ A = B) ∧ Below V.heap.size V w') fun e w' ⟨⟨b, h1, h2⟩, h3⟩ => ⟨b, h1, h2.trans relRow_eq, h3⟩)
 obtain ⟨a1, c1, rfl⟩ := FrRow.ex hx
 obtain ⟨a2, c2, rfl⟩ := FrRow.ex hy
 clear hx hy bA bB
 have hB := Below.refl w.heap.size w
 go_enter Tryz.func120, Tryz.ntmps120
 go_wp2_with fail
 (with_reducible refine (EC.out _ ?_).mono ?_); (repeat exact bZ)
 rintro e w1 ⟨b, rfl, h2, hb1⟩
 have HH := hZ h2
 clear EC h2
 go_wp2
 go_ret
 exact ⟨⟨b, rfl, HH.out⟩, bthen bZ hb1⟩
end
section
open Num
attribute [local go_sem ↓] Go.wp_at_zero Go.wp_at_succ
attribute [local go_sem] Oper.semAt_some
theorem outOthC {X : Nat → Prop} {a b : World} (h : Out X a b) (hx : ∀ q, X q → q < a.heap.size → ∃ o : Obj, a.heap[q]? = some o ∧ o.isCells = true) : KeepsOthers a b :=
 ⟨h.size, fun k o hk ho => by
  have hl := (Array.getElem?_eq_some_iff.1 hk).1
  rw [h.block k hl (fun hX => by
   obtain ⟨o', ho', hc⟩ := hx k hX hl
   rw [hk] at ho'; cases ho'; rw [ho] at hc; cases hc)]
  exact hk⟩
theorem othersC {W W' : World} (h : Below W.heap.size W W') : KeepsOthers W W' := outOthC (Out.of_below (fun _ => False) h) fun _ h => h.elim
theorem kp_putC {S : TypeId → Prop} {X : World} {l : Nat} {o o' : Obj} (h1 : X.heap[l]? = some o) (h2 : o.isCells = false) : Kp S X (X.putObj l o') := fun q t ht _ => World.putObj_heap_other (fun e => by subst e; rw [typ_none h1 h2] at ht; cases ht)
def PCh (B m : Nat) (_ : World) (u : Value) (k : Nat) : Prop := u = .slice (some ⟨B, k * m * 2, none⟩) m m
theorem pru_pch (B m n0 db : Nat) : PrU 68 (PCh B m) n0 db := ⟨fun h => by rw [h]; rfl, fun h _ => h, fun h _ _ => h⟩
theorem prs_pch (B m : Nat) : Prs (fun _ => False) (PCh B m) := ⟨fun h => by rw [h]; rfl, fun h _ => h⟩
def APc (B m : Nat) (k : Nat) (args : Array Value) (X : World) : Prop := args = #[.slice (some ⟨B, k * m * 2, none⟩) m m]
def ChIn (sb nb B N m c : Nat) (W : World) : Prop := W.cell? ⟨sb, 0, none⟩ = some (.slice (some ⟨B, 0, none⟩) (N * m) c) ∧ W.cell? ⟨nb, 0, none⟩ = some (.int .i64 (m : Nat))
theorem mul_step {k N m : Nat} (h : k < N) : k * m + m ≤ N * m := by
 have := Nat.mul_le_mul_right m (show k + 1 ≤ N from h)
 rw [Nat.add_mul, Nat.one_mul] at this; exact this
theorem chunk_iterD (n0 sb nb B N m c : Nat) (S0 : Nat → Prop) (h1 : ¬ S0 sb) (h2 : ¬ S0 nb) (hm : 1 ≤ m) (hm2 : m ≤ 65536) (hN : N ≤ 65536) (hc : N * m ≤ c) (hcm : c ≤ maxLen) :
 IterD Tryz.prog 199 #[.pointer (some ⟨sb, 0, none⟩), .pointer (some ⟨nb, 0, none⟩)] (APc B m) N (fun _ _ => False) n0 S0 (ChIn sb nb B N m c) := by
 intro l J Jx W hG hJ hJx hJS hY h0
 obtain ⟨hs, hn⟩ := hG
 refine callsIn_wide.2 ?_
 show Calls Tryz.prog 199 #[.func (.yield l) #[] #[], .pointer (some ⟨sb, 0, none⟩), .pointer (some ⟨nb, 0, none⟩)] W _
 have HY := hZ (fun k S X hk hj => yieldAt_wide (m := 3) (hY k #[.slice (some ⟨B, k * m * 2, none⟩) m m] S X hk hj rfl (fun _ h => h.elim)))
 have HJ := hZ (fun k S X V (hj : J k S X) (h : Below X.heap.size X V) => hJ k S X V hj (.of_below h) (othersC h))
 have HK0 := hZ (show ¬ S0 sb ∧ ¬ S0 nb ∧ W.cell? ⟨sb, 0, none⟩ = some (.slice (some ⟨B, 0, none⟩) (N * m) c) ∧ W.cell? ⟨nb, 0, none⟩ = some (.int .i64 (m : Nat)) from ⟨h1, h2, hs, hn⟩)
 have HST := hZ (fun k (h : k < N) => mul_step (m := m) h)
 have HSZ := hZ (show N * m ≤ 65536 * 65536 from Nat.mul_le_mul hN hm2)
 clear hY hJ hJx hJS hs hn h1 h2 hcm
 obtain ⟨T, hT⟩ : ∃ T, N * m = T := ⟨_, rfl⟩
 rw [hT] at HK0 HST HSZ hc
 have HT := hZ hT
 clear hT
 go_enter Tryz.func199, Tryz.ntmps199
 go_wp2
 go_loopw [4] (fun x wr => ∃ k : Nat, k ≤ N ∧ x = .int .i64 (k * m : Nat) ∧ ∃ S, J k S wr ∧ Hid (¬ S sb ∧ ¬ S nb ∧ (wr : World).cell? ⟨sb, 0, none⟩ = some (.slice (some ⟨B, 0, none⟩) T c) ∧ (wr : World).cell? ⟨nb, 0, none⟩ = some (.int .i64 (m : Nat)))) (fun x _ => T - (intOf x).toNat)
 case atStart => exact ⟨0, Nat.zero_le _, by simp, S0, h0, HK0⟩
 case round =>
  obtain ⟨k, hkl, rfl, S, hj, hkp⟩ := hrel
  have hs := hkp.out.2.2.1
  have hn := hkp.out.2.2.2
  have zs := cell_lt hs
  have zn := cell_lt hn
  have hTz := HSZ.out
  by_cases hlt : k < N
  · have hst := HST.out k hlt
    obtain ⟨i, hi⟩ : ∃ i, k * m = i := ⟨_, rfl⟩
    have HY1 := hZ (fun X hj => HY.out k S X hlt hj)
    have HI := hZ (show (k + 1) * m = i + m by rw [Nat.add_mul, Nat.one_mul, hi])
    rw [hi] at hst HY1 ⊢
    clear hi
    have hltI : (i : Int) < (T : Int) := by omega
    have hi0 : (0 : Int) ≤ (i : Int) := by omega
    have hw1 : wrap64 ((i : Int) + (m : Int)) = (i : Int) + (m : Int) := by unfold wrap64; omega
    have hmin : min (m : Int) ((T - i : Nat) : Int) = (m : Int) := by omega
    have hcc : i + m ≤ c := by omega
    go_wp2
    go_region
    obtain ⟨wz, hwz⟩ : ∃ wz, wr.drew = wz := ⟨_, rfl⟩
    have hbz : Below wr.heap.size wr wz := by rw [← hwz]; exact (Below.refl _ _).drew
    rw [hwz]
    have hs := bkeep hbz hs
    have hn := bkeep hbz hn
    have zs := cell_lt hs
    have zn := cell_lt hn
    have hjz := HJ.out k S wr wz hj hbz
    have HKZ := hZ (And.intro hkp.out.1 (And.intro hkp.out.2.1 (And.intro hs hn)))
    obtain ⟨fn, tmps, asg, body, hy, hR⟩ := HY1.out wz hjz
    have hsl : ((i : Int) + (m : Int) - (i : Int)) = (m : Int) := by omega
    clear hwz hbz hj hkp HY HY1 hmin
    go_upto_region 4 with (fail)
    refine (wpIn_wide (n := 4)).1 ?_
    gi_wp2
    refine hR.mono ?_
    rintro e W' (⟨rfl, S', hg', hJ', ho'⟩ | ⟨rfl, S', hJx'⟩)
    · have HN := hZ (show ¬ S' sb ∧ ¬ S' nb ∧ W'.cell? ⟨sb, 0, none⟩ = some (.slice (some ⟨B, 0, none⟩) T c) ∧ W'.cell? ⟨nb, 0, none⟩ = some (.int .i64 (m : Nat)) from by
       obtain ⟨k1, k2, k3, k4⟩ := HKZ.out
       have z1 := cell_lt k3
       have z2 := cell_lt k4
       refine ⟨fun h => ?_, fun h => ?_, ?_, ?_⟩
       · rcases hg' _ h with h | h
         · exact k1 h
         · omega
       · rcases hg' _ h with h | h
         · exact k2 h
         · omega
       · rw [World.cell?_of_block (w := wz) (ho'.1.block sb z1 (fun h => by rcases h with h | h; exact k1 h; exact h))]; exact k3
       · rw [World.cell?_of_block (w := wz) (ho'.1.block nb z2 (fun h => by rcases h with h | h; exact k2 h; exact h))]; exact k4)
      have hn2 := HN.out.2.2.2
      have zn2 := cell_lt hn2
      clear hg' ho' hs hn zs zn hy hR
      gi_wp2
      go_wp2
      exact ⟨⟨k + 1, hlt, by rw [HI.out]; go_num, S', hJ', HN⟩, by simp [intOf]; omega⟩
    · clear hy hR
      gi_wp2
      go_wp2
      refine bodyPost_ret (results_none rfl _ _ _) rfl ?_
      exact ⟨⟨_, rfl⟩, .inr ⟨k + 1, S', hlt, hJx'⟩⟩
  · obtain rfl : k = N := by omega
    have hltI : ¬ ((k * m : Nat) : Int) < (T : Int) := by rw [HT.out]; omega
    go_wp2
    refine bodyPost_end (results_none rfl _ _ _) rfl ?_
    exact ⟨⟨_, rfl⟩, .inl ⟨S, hj⟩⟩
def ChunkPost (B N m c : Nat) (w : World) (e : Ending) (w' : World) : Prop :=
 (∃ sb nb, e = .returned (.func (.func 199) #[] #[.pointer (some ⟨sb, 0, none⟩), .pointer (some ⟨nb, 0, none⟩)]) ∧ w.heap.size ≤ sb ∧ w.heap.size ≤ nb ∧ sb < w'.heap.size ∧ nb < w'.heap.size ∧ ChIn sb nb B N m c w') ∧ Below w.heap.size w w'
theorem chunk_c (B N m c T : Nat) (w : World) (hT : T = N * m) (hm : 1 ≤ m) :
 Calls Tryz.prog 111 #[.slice (some ⟨B, 0, none⟩) T c, .int .i64 (m : Nat)] w (ChunkPost B N m c w) := by
 have hB := Below.refl w.heap.size w
 have hm1 : ¬ ((m : Int) < 1) := by omega
 have HT := hZ hT
 clear hT
 go_enter Tryz.func111, Tryz.ntmps111
 go_wp2
 go_ret
 refine ⟨⟨_, _, rfl, by simp, by simp, by simp; omega, by simp, by rw [← HT.out]; simp [go_sem], by simp [go_sem]⟩, ?_⟩
 repeat exact bZ
def SeqRPost (B m N : Nat) (w : World) (e : Ending) (w' : World) : Prop := (∃ a c, e = .returned (.slice a N c) ∧ IsL 68 (PCh B m) w.heap.size w' (.slice a N c) (List.range N)) ∧ Below w.heap.size w w'
theorem range_take {N k : Nat} (h : k < N) : (List.range N).take (k + 1) = (List.range N).take k ++ [k] := by
 rw [List.take_add_one, List.getElem?_eq_getElem (by simpa using h)]; simp
theorem appendSeqR_c (gf : Nat) (lb : Array Value) (B m N : Nat) (G : World → Prop) (w : World) (eg : ∀ args w, (callFunc gf args).run Tryz.prog w = .ok (.enter gf args) w)
 (hseq : ∀ n0 S0, (∀ q, S0 q → w.heap.size ≤ q) → IterD Tryz.prog gf lb (APc B m) N (fun _ _ => False) n0 S0 G) (hG : ∀ W, Below w.heap.size w W → G W) (hL : N ≤ 1099511627775) :
 Calls Tryz.prog 198 #[.slice none 0 0, .func (.func gf) #[] lb] w (SeqRPost B m N w) := by
 have HG := hZ hG
 have HSQ := hZ hseq
 have HLL := hZ hL
 have hB := Below.refl w.heap.size w
 clear hG hseq hL
 refine calls_of_wp_marks Tryz.func198 rfl ?_
 simp only [Tryz.ntmps198, List.size_toArray, List.length_cons, List.length_nil, Nat.reduceAdd, Nat.reduceSub, Array.replicate_succ, Array.replicate_zero, List.push_toArray, List.append_toArray, List.nil_append, List.cons_append]
 go_wp2
 refine wp_name fun w1 hW1 => ?_
 have hB1 : Below w.heap.size w w1 := by rw [hW1]; repeat exact bZ
 have hz1 : w.heap.size < w1.heap.size := by rw [hW1]; simp
 have H0 := hZ (show LstS 45 68 (PCh B m) w1 w.heap.size ((List.range N).take 0) (fun q => q = w.heap.size ∨ (Value.slice none 0 0).ownBlock = some q) w1 from
  ⟨_, rfl, by rw [hW1]; exact cell_new rfl rfl, by rw [hW1]; simp [go_sem], by rw [hW1]; exact typ_fresh (by simp), ⟨[], by simpa using World.ownsRow_nil _ _ _ _, fun k hk => absurd hk (by simp)⟩, Out.refl _ _⟩)
 clear hW1 hB
 refine wp_rangeD (gf := gf) (lb := lb) (by simp [Act.eval]) eg (HSQ.out w1.heap.size _ (fun q hq => by rcases hq with hq | hq; exact Nat.le_of_eq hq.symm; simp [Value.ownBlock] at hq)) (Nat.le_refl _) (fun W h => HG.out W (bthen hB1 h)) (fun _ _ _ h => by cases h; rfl)
  (fun k S W => LstS 45 68 (PCh B m) w1 w.heap.size ((List.range N).take k) S W) (fun _ _ _ _ => False)
  (fun k S X Y h c => LstS.clo (pru_pch _ _ _ _) h c) (fun _ _ _ _ _ h _ => h.elim)
  (fun k S X h => h.soil (by decide) (by decide)) (fun _ _ _ _ h => h.elim) H0.out
  (fun T k args S a' X => a' = { tmps := (T.setIfInBounds 7 (.slice (some ⟨B, k * m * 2, none⟩) m m)).setIfInBounds 5 (.slice (some ⟨B, k * m * 2, none⟩) m m), defers := [] }) (fun k args S a' X l o o' _ h1 h2 h => h)
  (fun k args X q h hq => hq.elim) ?assignA ?bodyA ?doneA (fun _ _ _ _ _ _ _ h => h.elim)
 case assignA =>
  rintro y k args S X Kk hk hi ha hxs hKk
  cases ha
  generalize k * m * 2 = d at *
  gi_wp2
  exact hKk _ _ (Below.refl _ _) hi (by simp)
 case bodyA =>
  rintro y k args S a' w2 hk ⟨v, rfl, hD⟩ rfl
  have HD := hZ hD
  have HT := hZ (range_take hk)
  have hlk : ((List.range N).take k).length + 1 ≤ 1099511627776 := by rw [List.length_take]; have := HLL.out; omega
  have HPC := hZ (show ∀ W, PCh B m W (.slice (some ⟨B, k * m * 2, none⟩) m m) k from fun _ => rfl)
  obtain ⟨d, hd⟩ : ∃ d, k * m * 2 = d := ⟨_, rfl⟩
  rw [hd] at HPC ⊢
  obtain ⟨M, hM⟩ : ∃ M, (List.range N).take k = M := ⟨_, rfl⟩
  rw [hM] at HD HT hlk hD
  clear hM
  obtain ⟨va, vc, rfl⟩ := hD.ex
  have c0 := hD.c0
  have cf := hD.f0
  have zc := cell_lt c0
  simp only [List.setIfInBounds_toArray, List.set_cons_succ, List.set_cons_zero]
  clear hD hd
  gi_wp2_with (gi_at_builtin; refine app_lstIn elRow (pru_pch _ _ _ _) (by decide) (by decide) (by rfl) (by rfl) HD.out hz1 (bal (Below.refl _ _) _) hlk (cell_new rfl rfl) (HPC.out _) (by rfl) (by rfl) ?_; intro v' w' ⟨sa, sc, hsv⟩ c1 c1f hO hS; subst hsv; have HO := hZ hO; have HS := hZ hS; have zc1 := cell_lt c1; clear hO hS)
  refine ⟨HO.out.orL, ?_⟩
  have hss := HS.out
  rw [← HT.out] at hss
  exact hss
 case doneA =>
  rintro D1 S Y1 hD1 ⟨v, -, hDV⟩ hK1
  rw [List.take_of_length_le (by simp)] at hDV
  obtain ⟨va, vc, rfl⟩ := hDV.ex
  rw [List.length_range] at *
  have c0 := hDV.c0
  have zc := cell_lt c0
  have HI := hZ (show IsL 68 (PCh B m) w.heap.size Y1 (.slice va N vc) (List.range N) from IsL.rebase hDV.isL hB1.size)
  have hBY : Below w.heap.size w Y1 := hB1.trans (hDV.out.to_below (fun q hq _ e => by omega) hB1.size)
  have hD1l := (Array.getElem?_eq_some_iff.1 hK1).1
  clear hDV
  go_wp2
  refine ⟨by simp, .inl ⟨_, _, rfl, run_takeDeferred (b := D1) (ds := []) hK1, ?_⟩⟩
  refine ⟨.slice va N vc, ?_, ⟨_, _, rfl, ?_⟩, b_put hBY (by have := hBY.size; omega) _⟩
  · simp [results, Tryz.results198, go_sem]
  · exact IsL.kp (S' := fun _ => True) (prs_pch B m) HI.out (kp_putC hK1 rfl) (fun _ h => h.elim) trivial
theorem collectR_c (gf : Nat) (lb : Array Value) (B m N : Nat) (G : World → Prop) (w : World) (eg : ∀ args w, (callFunc gf args).run Tryz.prog w = .ok (.enter gf args) w)
 (hseq : ∀ n0 S0, (∀ q, S0 q → w.heap.size ≤ q) → IterD Tryz.prog gf lb (APc B m) N (fun _ _ => False) n0 S0 G) (hG : ∀ W, Below w.heap.size w W → G W) (hL : N ≤ 1099511627775) :
 Calls Tryz.prog 110 #[.func (.func gf) #[] lb] w (SeqRPost B m N w) := by
 have AC := hZ (appendSeqR_c gf lb B m N G w eg hseq hG hL)
 clear eg hseq hG hL
 go_enter Tryz.func110, Tryz.ntmps110
 go_wp2_with fail
 refine AC.out.mono ?_
 rintro e w1 ⟨⟨a, c, rfl, hI⟩, hb1⟩
 clear AC
 go_wp2
 go_ret
 exact ⟨⟨_, _, rfl, hI⟩, hb1⟩
end
theorem mayB_34 {op t a b c regs : Int} (h : op = 3 ∨ op = 4) : mayB op t a b c regs = decide (0 ≤ t ∧ t < regs ∧ c = 0 ∧ 0 ≤ a ∧ a < regs ∧ 0 ≤ b ∧ b < regs) := by
 unfold mayB; rcases h with rfl | rfl <;> (rw [Bool.eq_iff_iff]; simp [twoB, constB] <;> omega)
theorem mayB_12 {op t a b c regs : Int} (h : op = 1 ∨ op = 2) : mayB op t a b c regs = decide (0 ≤ t ∧ t < regs ∧ c = 0 ∧ 0 ≤ a ∧ a < regs ∧ b = 0) := by
 unfold mayB; rcases h with rfl | rfl <;> (rw [Bool.eq_iff_iff]; simp [twoB, constB] <;> omega)
theorem mayB_56 {op t a b c regs : Int} (h : op = 5 ∨ op = 6) : mayB op t a b c regs = decide (0 ≤ t ∧ t < regs ∧ c ≠ 0 ∧ -512 ≤ c ∧ c ≤ 512 ∧ 0 ≤ a ∧ a < regs ∧ b = 0) := by
 unfold mayB; rcases h with rfl | rfl <;> (rw [Bool.eq_iff_iff]; simp [twoB, constB] <;> omega)
theorem mayB_78 {op t a b c regs : Int} (h : op = 7 ∨ op = 8) : mayB op t a b c regs = decide (0 ≤ t ∧ t < regs ∧ 1 ≤ c ∧ c ≤ 64 ∧ 0 ≤ a ∧ a < regs ∧ b = 0) := by
 unfold mayB; rcases h with rfl | rfl <;> (rw [Bool.eq_iff_iff]; simp [twoB, constB] <;> omega)
theorem rmay_c (op t a b c regs : Int) (w : World) : Calls Tryz.prog 253 #[.agg #[.int .i64 op, .int .i64 t, .int .i64 a, .int .i64 b, .int .i64 c], .int .i64 regs] w fun e w' => e = .returned (.bool (mayB op t a b c regs)) ∧ Below w.heap.size w w' := by
 by_cases h1 : op < 1
 · have HM := hZ (show mayB op t a b c regs = false from mayB_no (by omega))
   go_enter Tryz.func253, Tryz.ntmps253
   go_wp2
   go_ret
   exact ⟨bret (by rw [HM.out]), by repeat (first | exact Below.refl _ _ | assumption | refine bset ?_ (by simp) _ | refine bal ?_ _)⟩
 by_cases h2 : 8 < op
 · have HM := hZ (show mayB op t a b c regs = false from mayB_no (by omega))
   go_enter Tryz.func253, Tryz.ntmps253
   go_wp2
   go_ret
   exact ⟨bret (by rw [HM.out]), by repeat (first | exact Below.refl _ _ | assumption | refine bset ?_ (by simp) _ | refine bal ?_ _)⟩
 by_cases h3 : t < 0
 · have HM := hZ (show mayB op t a b c regs = false from mayB_no (by omega))
   go_enter Tryz.func253, Tryz.ntmps253
   go_wp2
   go_ret
   exact ⟨bret (by rw [HM.out]), by repeat (first | exact Below.refl _ _ | assumption | refine bset ?_ (by simp) _ | refine bal ?_ _)⟩
 by_cases h4 : regs ≤ t
 · have HM := hZ (show mayB op t a b c regs = false from mayB_no (by omega))
   go_enter Tryz.func253, Tryz.ntmps253
   go_wp2
   go_ret
   exact ⟨bret (by rw [HM.out]), by repeat (first | exact Below.refl _ _ | assumption | refine bset ?_ (by simp) _ | refine bal ?_ _)⟩
 by_cases h5 : a < 0
 · have HM := hZ (show mayB op t a b c regs = false from mayB_no (by omega))
   go_enter Tryz.func253, Tryz.ntmps253
   go_wp2
   go_ret
   exact ⟨bret (by rw [HM.out]), by repeat (first | exact Below.refl _ _ | assumption | refine bset ?_ (by simp) _ | refine bal ?_ _)⟩
 by_cases h6 : regs ≤ a
 · have HM := hZ (show mayB op t a b c regs = false from mayB_no (by omega))
   go_enter Tryz.func253, Tryz.ntmps253
   go_wp2
   go_ret
   exact ⟨bret (by rw [HM.out]), by repeat (first | exact Below.refl _ _ | assumption | refine bset ?_ (by simp) _ | refine bal ?_ _)⟩
 have hop : op = 1 ∨ op = 2 ∨ op = 3 ∨ op = 4 ∨ op = 5 ∨ op = 6 ∨ op = 7 ∨ op = 8 := by omega
 have h12 : ¬ op < 1 ∧ ¬ 8 < op := ⟨h1, h2⟩
 clear h1 h2 h12
 rcases hop with rfl | rfl | rfl | rfl | rfl | rfl | rfl | rfl
 ·
  rw [mayB_12 (.inl rfl)]
  go_enter Tryz.func253, Tryz.ntmps253
  go_wp2
  all_goals go_ret
  all_goals exact ⟨bret (by first | (rw [Bool.eq_iff_iff]; done) | (rw [Bool.eq_iff_iff]; simp; first | done | omega | (simp_all; done) | (simp_all; omega))), by repeat (first | exact Below.refl _ _ | assumption | refine bset ?_ (by simp) _ | refine bal ?_ _)⟩
 ·
  rw [mayB_12 (.inr rfl)]
  go_enter Tryz.func253, Tryz.ntmps253
  go_wp2
  all_goals go_ret
  all_goals exact ⟨bret (by first | (rw [Bool.eq_iff_iff]; done) | (rw [Bool.eq_iff_iff]; simp; first | done | omega | (simp_all; done) | (simp_all; omega))), by repeat (first | exact Below.refl _ _ | assumption | refine bset ?_ (by simp) _ | refine bal ?_ _)⟩
 ·
  rw [mayB_34 (.inl rfl)]
  go_enter Tryz.func253, Tryz.ntmps253
  go_wp2
  all_goals go_ret
  all_goals exact ⟨bret (by first | (rw [Bool.eq_iff_iff]; done) | (rw [Bool.eq_iff_iff]; simp; first | done | omega | (simp_all; done) | (simp_all; omega))), by repeat (first | exact Below.refl _ _ | assumption | refine bset ?_ (by simp) _ | refine bal ?_ _)⟩
 ·
  rw [mayB_34 (.inr rfl)]
  go_enter Tryz.func253, Tryz.ntmps253
  go_wp2
  all_goals go_ret
  all_goals exact ⟨bret (by first | (rw [Bool.eq_iff_iff]; done) | (rw [Bool.eq_iff_iff]; simp; first | done | omega | (simp_all; done) | (simp_all; omega))), by repeat (first | exact Below.refl _ _ | assumption | refine bset ?_ (by simp) _ | refine bal ?_ _)⟩
 ·
  rw [mayB_56 (.inl rfl)]
  go_enter Tryz.func253, Tryz.ntmps253
  go_wp2
  all_goals go_ret
  all_goals exact ⟨bret (by first | (rw [Bool.eq_iff_iff]; done) | (rw [Bool.eq_iff_iff]; simp; first | done | omega | (simp_all; done) | (simp_all; omega))), by repeat (first | exact Below.refl _ _ | assumption | refine bset ?_ (by simp) _ | refine bal ?_ _)⟩
 ·
  rw [mayB_56 (.inr rfl)]
  go_enter Tryz.func253, Tryz.ntmps253
  go_wp2
  all_goals go_ret
  all_goals exact ⟨bret (by first | (rw [Bool.eq_iff_iff]; done) | (rw [Bool.eq_iff_iff]; simp; first | done | omega | (simp_all; done) | (simp_all; omega))), by repeat (first | exact Below.refl _ _ | assumption | refine bset ?_ (by simp) _ | refine bal ?_ _)⟩
 ·
  rw [mayB_78 (.inl rfl)]
  go_enter Tryz.func253, Tryz.ntmps253
  go_wp2
  all_goals go_ret
  all_goals exact ⟨bret (by first | (rw [Bool.eq_iff_iff]; done) | (rw [Bool.eq_iff_iff]; simp; first | done | omega | (simp_all; done) | (simp_all; omega))), by repeat (first | exact Below.refl _ _ | assumption | refine bset ?_ (by simp) _ | refine bal ?_ _)⟩
 ·
  rw [mayB_78 (.inr rfl)]
  go_enter Tryz.func253, Tryz.ntmps253
  go_wp2
  all_goals go_ret
  all_goals exact ⟨bret (by first | (rw [Bool.eq_iff_iff]; done) | (rw [Bool.eq_iff_iff]; simp; first | done | omega | (simp_all; done) | (simp_all; omega))), by repeat (first | exact Below.refl _ _ | assumption | refine bset ?_ (by simp) _ | refine bal ?_ _)⟩
end Go.Proofs.YtbmaffijncapiaaGreatDoor
