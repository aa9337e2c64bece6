/- Texts of this seat, laid together: DnG, DnJ, DnK, DnM, LsU, DnO. What each theorem proves, and under which conditions, its statement says. -/
import Derived.Test.YtbmaffijncapiaaGreatDoorB20
set_option maxRecDepth 100000
set_option maxHeartbeats 32000000
set_option linter.unusedVariables false
set_option linter.unusedSimpArgs false
namespace Go.Proofs.YtbmaffijncapiaaGreatDoor
open Go.ChangeShapes Go.WideShapes Go.ChangeAt Go.RowKit
section
open Num
attribute [local go_sem ↓] Go.wp_at_zero Go.wp_at_succ
def JA (n0 : Nat) (w : World) (k : Nat) (S : Nat → Prop) (W : World) : Prop := (∀ q, ¬ S q) ∧ Below n0 w W
theorem always_fn (n0 : Nat) (w : World) (T : Nat → List Rat) (M : Nat) (C : World → Prop) (hn : n0 ≤ w.heap.size) : FnTQ 97 #[] T M (JA n0 w) (fun _ _ _ => False) C := by
 intro k S W v hk hj hc hv
 refine (always_q (k : Int) v W (by obtain ⟨a, c, e, _⟩ := hv.1; exact ⟨a, _, c, e⟩)).mono fun e W' ⟨he, hb⟩ => ⟨true, he, .inl ⟨rfl, S, Grew.same S W, ⟨hj.1, hj.2.trans (hb.mono (Nat.le_trans hn hj.2.size))⟩, Out.of_below _ hb, fun q hq _ => absurd hq (hj.1 q)⟩⟩
theorem runA_c (n0 : Nat) (ins regs : Int) (ca oa : Option Addr) (cc ol oc : Nat) (code : List Ins) (g : GridF) (m rb rc : Nat) (w : World) (hc : InsV w ca cc code) (hcs : ∀ n, n < code.length → InsOk (code.getD n default) g.length) (hcl : code.length ≤ 16384) (hg128 : g.length ≤ 128)
 (hI : RegsF (fun _ => False) w rb g) (hR : RectF m g) (hm : m ≤ 1099511627775) (hsg : SlimG g) (hne : ∀ b off, ca = some ⟨b, off, none⟩ → 0 < code.length → b ≠ rb) (hn0 : n0 ≤ rb) :
 Calls Tryz.prog 95 #[.agg #[.int .i64 ins, .int .i64 regs, .slice ca code.length cc, .slice oa ol oc], .slice (some ⟨rb, 0, none⟩) g.length rc, .func (.func 97) #[] #[]] w
  fun e w' => ((∃ h, afterF code g code.length = some h ∧ e = .returned (.tuple #[.slice (some ⟨rb, 0, none⟩) g.length rc, .bool true]) ∧ RegsF (fun _ => False) w' rb h) ∨ (afterF code g code.length = none ∧ e = .returned (.tuple #[.slice none 0 0, .bool false]))) ∧ Below n0 w w' := by
 obtain ⟨M, hM⟩ := toldF_ex code g
 have hz := hI.free.1
 refine (runQ_c n0 M (fun _ => False) (JA n0 w) (fun _ _ _ => False) (fun k S X Y hj hcl _ => ⟨hj.1, hj.2.trans (hcl.low (Nat.le_trans (by omega) hj.2.size))⟩) (fun k S X h q hq => absurd hq (h.1 q)) (fun q hq => hq.elim) ins regs ca oa cc ol oc code g m rb rc _ #[] w hc hcs hcl hg128 hI hR hm hsg hM (always_fn n0 w _ M _ (by omega)) (ensD Tryz.func97 (by kernel_rfl) rfl) (fun b off e hl => ⟨hne b off e hl, fun h => h⟩) hn0 ⟨fun _ h => h, Below.refl _ _⟩).mono ?_
 rintro e w' (⟨h, S, h1, h2, h3, h4⟩ | ⟨h1, ⟨h2, S, h3⟩ | ⟨k, S, _, h⟩⟩)
 · refine ⟨.inl ⟨h, h1, h2, h4.free, h4.ty, fun k hk => ?_⟩, h3.2⟩
   obtain ⟨u, hu, hx⟩ := h4.cell k hk
   exact ⟨u, hu, hx.1, .inr fun _ _ h => h⟩
 · exact ⟨.inr ⟨h2, h1⟩, h3.2⟩
 · exact h.elim
theorem OwnL.regsF {base : Nat} {w0 w : World} {v : Value} {g : GridF} (h : OwnL 38 (FRow base) w0 w v g) (hg : 0 < g.length) : ∃ rb rc, v = .slice (some ⟨rb, 0, none⟩) g.length rc ∧ w0.heap.size ≤ rb ∧ RegsF (fun _ => False) w rb g := by
 obtain ⟨rb, rc, e, h1, h2, h3, h4, h5, h6⟩ := h.blk hg
 refine ⟨rb, rc, e, h1, h4, h5, fun k hk => ?_⟩
 obtain ⟨u, hu, hp⟩ := h6 k hk
 have : g[k] = g.getD k [] := by simp [hk]
 rw [this] at hp
 exact ⟨u, hu, FrRow.rebase hp (Nat.zero_le _), .inr fun _ _ h => h⟩
def endF (ins regs : Int) (code : List Ins) : Option GridF := afterF code (unitsF ins.toNat regs.toNat) code.length
theorem OwnP.rebase {base base' : Nat} {w0 w1 w : World} {v : Value} {g : GridF} (h : OwnP base w1 w v g) (hb : Below w0.heap.size w0 w1) (hl : base' ≤ base) : OwnP base' w0 w v g := by
 obtain ⟨L, h1, h2, h3⟩ := h
 exact ⟨L, (h1.rebase hb).mono fun u x q => q.rebase hl, h2, h3⟩
def RowsRes (ins regs : Int) (code : List Ins) (outs : List Int) (w w' : World) (v : Value) (q : Int) : Prop :=
 (¬ ProgOk ins regs code outs ∧ q = 80 ∧ v = .slice none 0 0) ∨ (ProgOk ins regs code outs ∧ endF ins regs code = none ∧ q = 3 ∧ v = .slice none 0 0) ∨ (ProgOk ins regs code outs ∧ ∃ h, endF ins regs code = some h ∧ q = 0 ∧ OwnP w.heap.size w w' v (outsF outs h))
def RowsPost (ins regs : Int) (code : List Ins) (outs : List Int) (w : World) (e : Ending) (w' : World) : Prop := (∃ v q, e = .returned (.tuple #[v, .int .i64 q]) ∧ RowsRes ins regs code outs w w' v q) ∧ Below w.heap.size w w'
theorem RowsPost.bad {ins regs : Int} {code : List Ins} {outs : List Int} {w w' : World} (h : ¬ ProgOk ins regs code outs) (hb : Below w.heap.size w w') : RowsPost ins regs code outs w (.returned (.tuple #[.slice none 0 0, .int .i64 80])) w' := ⟨⟨_, _, rfl, .inl ⟨h, rfl, rfl⟩⟩, hb⟩
theorem RowsPost.wide {ins regs : Int} {code : List Ins} {outs : List Int} {w w' : World} (h : ProgOk ins regs code outs) (h2 : endF ins regs code = none) (hb : Below w.heap.size w w') : RowsPost ins regs code outs w (.returned (.tuple #[.slice none 0 0, .int .i64 3])) w' := ⟨⟨_, _, rfl, .inr (.inl ⟨h, h2, rfl, rfl⟩)⟩, hb⟩
theorem RowsPost.yes {ins regs : Int} {code : List Ins} {outs : List Int} {w w' : World} {h : GridF} {v : Value} (ho : ProgOk ins regs code outs) (h2 : endF ins regs code = some h) (hv : OwnP w.heap.size w w' v (outsF outs h)) (hb : Below w.heap.size w w') : RowsPost ins regs code outs w (.returned (.tuple #[v, .int .i64 0])) w' := ⟨⟨_, _, rfl, .inr (.inr ⟨ho, h, h2, rfl, hv⟩)⟩, hb⟩
theorem ins_ofF {ins regs : Int} {code : List Ins} {outs : List Int} (h : ProgOk ins regs code outs) {n : Nat} (hn : n < code.length) : InsOk (code.getD n default) regs.toNat := by
 have h1 := h.i1; have h2 := h.i2
 refine insOk_of ?_ (by omega)
 rw [show ((regs.toNat : Nat) : Int) = regs by omega]; exact h.cs n hn
theorem rows_c (ins regs : Int) (ca oa : Option Addr) (cc oc : Nat) (code : List Ins) (outs : List Int) (w : World) (hc : InsV w ca cc code) (ho : IntsV w oa oc outs) :
 Calls Tryz.prog 17 #[.agg #[.int .i64 ins, .int .i64 regs, .slice ca code.length cc, .slice oa outs.length oc]] w (RowsPost ins regs code outs w) := by
 have CK := hZ (fun V (h : Below w.heap.size w V) => check_c ins regs ca oa cc oc code outs V (hc.keep h) (ho.keep h))
 have hB := Below.refl w.heap.size w
 have HC := hZ hc
 have HO := hZ ho
 have HCB := hZ (show ∀ b off, ca = some ⟨b, off, none⟩ → 0 < code.length → b < w.heap.size from fun b off e hl => by
  rcases hc with h0 | ⟨b', off', h1, _, h3⟩
  · rw [h0] at hl; simp at hl
  · rw [e] at h1; cases h1
    exact cell_lt (h3 0 hl).c0)
 clear hc ho
 go_enter Tryz.func17, Tryz.ntmps17
 go_wp2_with fail
 (with_reducible refine (CK.out _ ?_).mono ?_); (repeat (first|exact bzR _ _|exact hB|refine bzD ?_|refine bzN ?_|refine bzS ?_|refine bzA ?_))
 rintro e w1 ⟨r, s, rfl, (⟨hok, rfl, rfl⟩ | ⟨hok, rfl⟩), hb1⟩
 rotate_left
 · have hB1 : Below w.heap.size w w1 := bthen bZ hb1
   have HNO := hZ hok
   clear CK hb1 hok
   go_wp2
   refine bodyPost_ret (v := .tuple #[.slice none 0 0, .int .i64 80]) (by simp [results, Tryz.results17, go_sem]) rfl (RowsPost.bad HNO.out hB1)
 ·
  have p0 : w1.cell? ⟨w.heap.size, 0, none⟩ = some (.int .i64 ins) := bkc hb1
  have zp0 := cell_lt p0
  have p1 : w1.cell? ⟨w.heap.size, 1, none⟩ = some (.int .i64 regs) := bkc hb1
  have p2 : w1.cell? ⟨w.heap.size, 2, none⟩ = some (.slice ca code.length cc) := bkc hb1
  have p3 : w1.cell? ⟨w.heap.size, 3, none⟩ = some (.slice oa outs.length oc) := bkc hb1
  have hB : Below w.heap.size w w1 := bthen bZ hb1
  have hz := hB.size
  have HOK := hZ hok
  obtain ⟨n, rfl⟩ : ∃ n : Nat, ins = n := ⟨ins.toNat, by have := hok.i1; omega⟩
  obtain ⟨R, rfl⟩ : ∃ R : Nat, regs = R := ⟨regs.toNat, by have := hok.i1; have := hok.i2; omega⟩
  have hn1 : 1 ≤ n := by have := hok.i1; omega
  have hnR : n ≤ R := by have := hok.i2; omega
  have hR128 : R ≤ 128 := by have := hok.r1; omega
  have HEND := hZ (show endF (n : Int) (R : Int) code = afterF code (unitsF n R) code.length from rfl)
  have HIN := hZ (fun k (hk : k < code.length) => (show InsOk (code.getD k default) (unitsF n R).length from by rw [unitsF_len]; exact ins_ofF hok hk))
  have hcl := hok.c1
  have UC := hZ (fun V => units_c n R ca oa code.length cc outs.length oc V hnR hn1 hR128)
  have HUL := hZ (unitsF_len n R)
  have HUR := hZ (And.intro (unitsF_rect n R) (unitsF_slim n R))
  obtain ⟨U, hU⟩ : ∃ U, unitsF n R = U := ⟨_, rfl⟩
  rw [hU] at UC HUL HUR HEND HIN
  have hol : outs.length ≤ 128 := hok.o2
  have HOS := hZ (fun (h : GridF) (e : endF (n : Int) (R : Int) code = some h) => (show (∀ k, k < outs.length → 0 ≤ outs.getD k 0 ∧ outs.getD k 0 < (h.length : Int)) ∧ RectF n h ∧ h.length = R from by
   rw [HEND.out] at e
   have hl := afterF_len e
   rw [HUL.out] at hl
   refine ⟨fun k hk => ?_, (afterF_ok HUR.out.1 HUR.out.2 (fun k hk => ⟨(HIN.out k hk).a0, (HIN.out k hk).a1⟩) (Nat.le_refl _) e).1, hl⟩
   rw [hl]; exact hok.os k hk))
  have HB1 := hZ hB
  have HS := hZ (show ∀ V, Below w1.heap.size w1 V → V.cell? ⟨w.heap.size, 0, none⟩ = some (.int .i64 (n : Int)) ∧ V.cell? ⟨w.heap.size, 1, none⟩ = some (.int .i64 (R : Int)) ∧ V.cell? ⟨w.heap.size, 2, none⟩ = some (.slice ca code.length cc) ∧ V.cell? ⟨w.heap.size, 3, none⟩ = some (.slice oa outs.length oc) from fun V q => ⟨bkeep q p0, bkeep q p1, bkeep q p2, bkeep q p3⟩)
  have hBw := Below.refl w1.heap.size w1
  clear CK hb1 hok hU hB
  cases hend : endF (n : Int) (R : Int) code with
  | none =>
   have HEN := hZ hend
   have RC := hZ (fun rb rc V (hq : Below w1.heap.size w1 V) (hr : RegsF (fun _ => False) V rb U) (hn0 : w1.heap.size ≤ rb) => (runA_c w1.heap.size (n : Int) (R : Int) ca oa cc outs.length oc code U n rb rc V (HC.out.keep (HB1.out.trans (hq.mono HB1.out.size))) HIN.out (by omega) (by rw [HUL.out]; exact hR128) hr HUR.out.1 (by omega) HUR.out.2 (fun b off e hl => by have := HCB.out b off e hl; have := HB1.out.size; omega) hn0).mono (R' := fun e w' => e = .returned (.tuple #[.slice none 0 0, .bool false]) ∧ Below w1.heap.size V w') fun e w' ⟨h1, h2⟩ => by
    rcases h1 with ⟨h, h3, _⟩ | ⟨_, h4⟩
    · rw [← HEND.out, HEN.out] at h3; cases h3
    · exact ⟨h4, h2⟩)
   rw [HUL.out] at RC
   have UD := hZ (fun V (h : Below w1.heap.size w1 V) => (UC.out V).mono (R' := fun e w' => ∃ rb rc, e = .returned (.slice (some ⟨rb, 0, none⟩) R rc) ∧ w1.heap.size ≤ rb ∧ RegsF (fun _ => False) w' rb U ∧ Below w1.heap.size V w') fun e w' ⟨⟨v, h1, h2⟩, h3⟩ => by
    obtain ⟨rb, rc, hv, hlo, hr⟩ := h2.regsF (by rw [HUL.out]; omega)
    rw [HUL.out] at hv
    exact ⟨rb, rc, by rw [h1, hv], Nat.le_trans h.size hlo, hr, h3.mono h.size⟩)
   clear UC
   obtain ⟨p0, p1, p2, p3⟩ := HS.out w1 (Below.refl _ _)
   go_wp2
   go_region_held3 (fun w' => w'.cell? ⟨w.heap.size, 0, none⟩ = some (.int .i64 (n : Int)) ∧ w'.cell? ⟨w.heap.size, 1, none⟩ = some (.int .i64 (R : Int)) ∧ w'.cell? ⟨w.heap.size, 2, none⟩ = some (.slice ca code.length cc) ∧ w'.cell? ⟨w.heap.size, 3, none⟩ = some (.slice oa outs.length oc))
    (first | (refine HS.out _ ?_; (repeat (first|exact bzR _ _|exact hBw|refine bzD ?_|refine bzN ?_|refine bzS ?_|refine bzA ?_)); done) | fail)
    (first
     | (go_at_call 96; refine (UD.out _ ?_).mono ?_; (repeat (first|exact bzR _ _|exact hBw|refine bzD ?_|refine bzN ?_|refine bzS ?_|refine bzA ?_)); rintro e w2 ⟨rb, rc, rfl, hrb, hrg, hb2⟩; (have hBd : Below w1.heap.size w1 w2 := Below.trans bZ hb2; clear hBw; have hBw := hBd; clear hBd); have HRG := hZ hrg; have hBu := Below.refl w2.heap.size w2; clear hb2 hrg)
     | (go_at_call 95; refine (RC.out rb rc _ ?_ (HRG.out.keep ?_) hrb).mono ?_; (repeat (first|exact bzR _ _|exact hBw|refine bzD ?_|refine bzN ?_|refine bzS ?_|refine bzA ?_)); (repeat (first|exact bzR _ _|exact hBu|refine bzD ?_|refine bzN ?_|refine bzS ?_|refine bzA ?_)); rintro e w3 ⟨rfl, hb3⟩; (have hBd : Below w1.heap.size w1 w3 := Below.trans bZ hb3; clear hBw; have hBw := hBd; clear hBd))
     | fail)
   all_goals
    have hBf : Below w.heap.size w w3 := HB1.out.trans (hBw.mono HB1.out.size)
    clear RC UD p0 p1 p2 p3 hBw
    go_wp2
    refine bodyPost_ret (v := .tuple #[.slice none 0 0, .int .i64 3]) (by simp [results, Tryz.results17, go_sem]) rfl (RowsPost.wide HOK.out HEN.out ?_)
    repeat exact bZ
  | some h =>
   have HEN := hZ hend
   have HOS1 := hZ (HOS.out h HEN.out)
   obtain ⟨-, hHR, hHL⟩ := HOS.out h HEN.out
   have RC := hZ (fun rb rc V (hq : Below w1.heap.size w1 V) (hr : RegsF (fun _ => False) V rb U) (hn0 : w1.heap.size ≤ rb) => (runA_c w1.heap.size (n : Int) (R : Int) ca oa cc outs.length oc code U n rb rc V (HC.out.keep (HB1.out.trans (hq.mono HB1.out.size))) HIN.out (by omega) (by rw [HUL.out]; exact hR128) hr HUR.out.1 (by omega) HUR.out.2 (fun b off e hl => by have := HCB.out b off e hl; have := HB1.out.size; omega) hn0).mono (R' := fun e w' => e = .returned (.tuple #[.slice (some ⟨rb, 0, none⟩) R rc, .bool true]) ∧ RegsF (fun _ => False) w' rb h ∧ Below w1.heap.size V w') fun e w' ⟨h1, h2⟩ => by
    rcases h1 with ⟨g, h3, h4, h5⟩ | ⟨h3, _⟩
    · rw [← HEND.out, HEN.out] at h3; cases h3; rw [HUL.out] at h4; exact ⟨h4, h5, h2⟩
    · rw [← HEND.out, HEN.out] at h3; cases h3)
   rw [HUL.out] at RC
   have UD := hZ (fun V (h : Below w1.heap.size w1 V) => (UC.out V).mono (R' := fun e w' => ∃ rb rc, e = .returned (.slice (some ⟨rb, 0, none⟩) R rc) ∧ w1.heap.size ≤ rb ∧ RegsF (fun _ => False) w' rb U ∧ Below w1.heap.size V w') fun e w' ⟨⟨v, h1, h2⟩, h3⟩ => by
    obtain ⟨rb, rc, hv, hlo, hr⟩ := h2.regsF (by rw [HUL.out]; omega)
    rw [HUL.out] at hv
    exact ⟨rb, rc, by rw [h1, hv], Nat.le_trans h.size hlo, hr, h3.mono h.size⟩)
   clear UC
   obtain ⟨p0, p1, p2, p3⟩ := HS.out w1 (Below.refl _ _)
   go_wp2
   go_region_held3 (fun w' => w'.cell? ⟨w.heap.size, 0, none⟩ = some (.int .i64 (n : Int)) ∧ w'.cell? ⟨w.heap.size, 1, none⟩ = some (.int .i64 (R : Int)) ∧ w'.cell? ⟨w.heap.size, 2, none⟩ = some (.slice ca code.length cc) ∧ w'.cell? ⟨w.heap.size, 3, none⟩ = some (.slice oa outs.length oc))
    (first | (refine HS.out _ ?_; (repeat (first|exact bzR _ _|exact hBw|refine bzD ?_|refine bzN ?_|refine bzS ?_|refine bzA ?_)); done) | fail)
    (first
     | (go_at_call 96; refine (UD.out _ ?_).mono ?_; (repeat (first|exact bzR _ _|exact hBw|refine bzD ?_|refine bzN ?_|refine bzS ?_|refine bzA ?_)); rintro e w2 ⟨rb, rc, rfl, hrb, hrg, hb2⟩; (have hBd : Below w1.heap.size w1 w2 := Below.trans bZ hb2; clear hBw; have hBw := hBd; clear hBd); have HRG := hZ hrg; have hBu := Below.refl w2.heap.size w2; clear hb2 hrg)
     | (go_at_call 95; refine (RC.out rb rc _ ?_ (HRG.out.keep ?_) hrb).mono ?_; (repeat (first|exact bzR _ _|exact hBw|refine bzD ?_|refine bzN ?_|refine bzS ?_|refine bzA ?_)); (repeat (first|exact bzR _ _|exact hBu|refine bzD ?_|refine bzN ?_|refine bzS ?_|refine bzA ?_)); rintro e w3 ⟨rfl, hrg3, hb3⟩; have HRG3 := hZ hrg3; clear hrg3; have hBo := Below.refl w3.heap.size w3; (have hBd : Below w1.heap.size w1 w3 := Below.trans bZ hb3; clear hBw; have hBw := hBd; clear hBd))
     | fail)
   all_goals
    have hBf : Below w.heap.size w w3 := HB1.out.trans (hBw.mono HB1.out.size)
    have OC := hZ (fun V (h1 : Below w.heap.size w V) (h2 : RegsF (fun _ => False) V rb h) => outsQ_c (n : Int) (R : Int) ca oa code.length cc oc outs rb rc n h V (HO.out.keep h1) HOS1.out.1 ⟨_, h2⟩ HOS1.out.2.1 hn1 (by omega) hol)
    rw [hHL] at OC
    clear RC UD p0 p1 p2 p3
    obtain ⟨p0, p1, p2, p3⟩ := HS.out w3 hBw
    go_wp2_with fail
    (with_reducible refine (OC.out _ hBf HRG3.out).mono ?_)
    rintro e w4 ⟨⟨v, rfl, hv⟩, hb4⟩
    have hBg := bthen hBf hb4
    have HV := hZ (OwnP.rebase hv hBf hBf.size)
    clear hv hb4 OC HRG3
    go_wp2
    refine bodyPost_ret (v := .tuple #[v, .int .i64 0]) (by simp [results, Tryz.results17, go_sem]) rfl (RowsPost.yes HOK.out HEN.out HV.out hBg)
end
section
open Num
attribute [local go_sem ↓] Go.wp_at_zero Go.wp_at_succ
def BdF (k : Nat) (g : GridF) : Prop := ∀ i, i < g.length → ∀ j, j < (g.getD i []).length → BdQ k ((g.getD i []).getD j 0)
theorem outsF_len (outs : List Int) (h : GridF) : (outsF outs h).length = outs.length := by simp [outsF]
theorem outsF_get {outs : List Int} {h : GridF} {i : Nat} (hi : i < outs.length) : (outsF outs h).getD i [] = h.getD (outs.getD i 0).toNat [] := by simp [outsF, hi]
theorem endF_ok {ins regs : Int} {code : List Ins} {outs : List Int} {h : GridF} (hok : ProgOk ins regs code outs) (e : endF ins regs code = some h) : RectF ins.toNat (outsF outs h) ∧ SlimG (outsF outs h) := by
 have hl := afterF_len e
 rw [unitsF_len] at hl
 obtain ⟨h1, h2⟩ := afterF_ok (unitsF_rect ins.toNat regs.toNat) (unitsF_slim _ _) (fun n hn => by rw [unitsF_len]; exact ⟨(ins_ofF hok hn).a0, (ins_ofF hok hn).a1⟩) (Nat.le_refl _) e
 have key : ∀ i, i < outs.length → (outs.getD i 0).toNat < h.length := fun i hi => by
  obtain ⟨q1, q2⟩ := hok.os i hi
  rw [hl]; omega
 constructor
 · intro i hi
   rw [outsF_len] at hi
   rw [outsF_get hi]; exact h1 _ (key i hi)
 · intro i hi
   rw [outsF_len] at hi
   rw [outsF_get hi]; exact h2 _ (key i hi)
theorem slimG_bd {g : GridF} (h : SlimG g) : BdF 65536 g := fun i hi j hj => h i hi j hj
theorem ownP_isL0 {base : Nat} {w0 w : World} {v : Value} {g : GridF} (h : OwnP base w0 w v g) : IsL 38 (FRow 0) 0 w v g := (h.isL.rebase (Nat.zero_le _)).mono fun u x q => FrRow.rebase q (Nat.zero_le _)
theorem rows_yes {ins regs : Int} {ca oa : Option Addr} {cc oc : Nat} {code : List Ins} {outs : List Int} {w : World} {h : GridF} (hc : InsV w ca cc code) (ho : IntsV w oa oc outs) (hok : ProgOk ins regs code outs) (he : endF ins regs code = some h) : Calls Tryz.prog 17 #[.agg #[.int .i64 ins, .int .i64 regs, .slice ca code.length cc, .slice oa outs.length oc]] w fun e w' => (∃ v, e = .returned (.tuple #[v, .int .i64 0]) ∧ OwnP w.heap.size w w' v (outsF outs h)) ∧ Below w.heap.size w w' :=
 (rows_c ins regs ca oa cc oc code outs w hc ho).mono fun e w' ⟨⟨v, q, h1, h2⟩, h3⟩ => by
  rcases h2 with ⟨h4, _⟩ | ⟨_, h4, _⟩ | ⟨_, h', h4, rfl, h5⟩
  · exact absurd hok h4
  · rw [he] at h4; cases h4
  · rw [he] at h4; cases h4; exact ⟨⟨v, h1, h5⟩, h3⟩
theorem rows_wide {ins regs : Int} {ca oa : Option Addr} {cc oc : Nat} {code : List Ins} {outs : List Int} {w : World} (hc : InsV w ca cc code) (ho : IntsV w oa oc outs) (hok : ProgOk ins regs code outs) (he : endF ins regs code = none) : Calls Tryz.prog 17 #[.agg #[.int .i64 ins, .int .i64 regs, .slice ca code.length cc, .slice oa outs.length oc]] w fun e w' => e = .returned (.tuple #[.slice none 0 0, .int .i64 3]) ∧ Below w.heap.size w w' :=
 (rows_c ins regs ca oa cc oc code outs w hc ho).mono fun e w' ⟨⟨v, q, h1, h2⟩, h3⟩ => by
  rcases h2 with ⟨h4, _⟩ | ⟨_, h4, rfl, rfl⟩ | ⟨_, h', h4, _⟩
  · exact absurd hok h4
  · exact ⟨h1, h3⟩
  · rw [he] at h4; cases h4
theorem rows_no {ins regs : Int} {ca oa : Option Addr} {cc oc : Nat} {code : List Ins} {outs : List Int} {w : World} (hc : InsV w ca cc code) (ho : IntsV w oa oc outs) (hok : ¬ ProgOk ins regs code outs) : Calls Tryz.prog 17 #[.agg #[.int .i64 ins, .int .i64 regs, .slice ca code.length cc, .slice oa outs.length oc]] w fun e w' => e = .returned (.tuple #[.slice none 0 0, .int .i64 80]) ∧ Below w.heap.size w w' :=
 (rows_c ins regs ca oa cc oc code outs w hc ho).mono fun e w' ⟨⟨v, q, h1, h2⟩, h3⟩ => by
  rcases h2 with ⟨_, rfl, rfl⟩ | ⟨h4, _⟩ | ⟨h4, _⟩
  · exact ⟨h1, h3⟩
  · exact absurd h4 hok
  · exact absurd h4 hok
end
section
open Num
attribute [local go_sem ↓] Go.wp_at_zero Go.wp_at_succ
theorem appq_lt {L l : List Rat} {k : Nat} (h : k < L.length) : (L ++ l).getD k 0 = L.getD k 0 := by simp [List.getD_eq_getElem?_getD, List.getElem?_append, h]
theorem appq_ge {L l : List Rat} {k : Nat} (h : L.length ≤ k) : (L ++ l).getD k 0 = l.getD (k - L.length) 0 := by
 simp [List.getD_eq_getElem?_getD, List.getElem?_append_right h]
theorem app_catQ {ops : Array Oper} {rest : List Oper} {o : Oper} {a : Act} {Q : Exit → Act → World → Prop} {w0 wr : World} {v : Value} {L l : List Rat} {b off c : Nat} {s x : Operand} (hgd : o.guard = none)
 (ho : o.op = .call { callee := .builtin .append, args := #[s, x], argTypes := #[38, 38] })
 (hO : FrOwn IsQP 79 w0 wr v L) (hl : ∀ k, k < l.length → FrC IsQP wr b (off + k * 4) (l.getD k 0)) (hs : a.eval s = v) (hx : a.eval x = .slice (some ⟨b, off, none⟩) l.length c) (hn : L.length + l.length ≤ 1099511627776)
 (h : ∀ v' w', Hid (FrOwn IsQP 79 w0 w' v' (L ++ l)) → wpList Tryz.prog ops Q rest (a.put o.dst v') w') : wpList Tryz.prog ops Q (o :: rest) a wr := by
 obtain ⟨i0, z0, hi, hz0, hz1, hz2, hz3⟩ := elRat.info
 obtain ⟨xs, hO1, hO2⟩ := hO
 refine wpList_append_own _ hgd s x 38 ho w0.heap.size 79 i0 z0 4 64 Tryz.underlying38 hi hz0 hz1 hz2 hz3 (by decide) v L.length xs hs hO1.1 ⟨b, off, none⟩ l.length c (cellsAt wr b off (l.length * 4)) hx (cellsAt_len _ _ _ _)
  (cellsAt_at (Below.refl _ _) fun j hj => by obtain ⟨v, hv, _⟩ := frc_cells hl j hj; exact ⟨v, hv⟩) (cellsAt_all (frc_cells hl)) (by unfold maxLen; omega) (by omega) hO1.2.size ?_
 intro v' w' hown hg _
 have hbel := below_append (wr := wr) hO1.2 hO1.1 hg
 have hlim : Lim wr w' := (Lim.refl wr).grown hg fun g hg' ht => by
  rw [own_typ hO1 hg'] at ht
  exact absurd (Option.some.inj ht) (by decide)
 refine h v' w' (hZ ⟨_, ⟨by rw [List.length_append]; exact hown, hbel⟩, fun k hk => ?_⟩)
 have hxl : xs.length = L.length * 4 := hO1.1.1
 rw [List.length_append] at hk
 by_cases e : k < L.length
 · obtain ⟨n1, a1, l1, c1, n2, a2, l2, c2, e0, e1, e2, e3, e4⟩ := hO2 k e
   exact ⟨n1, a1, l1, c1, n2, a2, l2, c2, by rw [List.getElem?_append_left (by omega)]; exact e0, by rw [List.getElem?_append_left (by omega)]; exact e1, by rw [List.getElem?_append_left (by omega)]; exact e2, by rw [List.getElem?_append_left (by omega)]; exact e3, by rw [appq_lt e]; exact frk_prog.lim hlim e4⟩
 · obtain ⟨n1, a1, l1, c1, n2, a2, l2, c2, e0, e1, e2, e3, e4⟩ := hl (k - L.length) (by omega)
   refine ⟨n1, a1, l1, c1, n2, a2, l2, c2, ?_, ?_, ?_, ?_, by rw [appq_ge (by omega)]; exact frk_prog.lim hlim e4⟩
   · rw [List.getElem?_append_right (by omega), hxl, show k * 4 - L.length * 4 = (k - L.length) * 4 by omega]; exact cellsAt_get (by omega) e0
   · rw [List.getElem?_append_right (by omega), hxl, show k * 4 + 1 - L.length * 4 = (k - L.length) * 4 + 1 by omega]; exact cellsAt_get (by omega) e1
   · rw [List.getElem?_append_right (by omega), hxl, show k * 4 + 2 - L.length * 4 = (k - L.length) * 4 + 2 by omega]; exact cellsAt_get (by omega) e2
   · rw [List.getElem?_append_right (by omega), hxl, show k * 4 + 3 - L.length * 4 = (k - L.length) * 4 + 3 by omega]; exact cellsAt_get (by omega) e3
theorem growQ_c (n : Nat) (w : World) (h0 : 0 < n) (hn : n ≤ 1099511627776) :
 Calls Tryz.prog 197 #[.slice none 0 0, .int .i64 (n : Nat)] w fun e w' => (∃ v, e = .returned v ∧ ∀ base, base ≤ w.heap.size → w'.ownsRow base 79 4 v 0 []) ∧ Below w.heap.size w w' := by
 obtain ⟨i0, z0, hi, hz0, hz1, hz2, hz3⟩ := elRat.info
 have hB := Below.refl w.heap.size w
 have hr := fun ty => Lib.run_append_nil_zeros w 38 3 ty 79 i0 z0 .i64 .i64 Tryz.underlying38 Tryz.underlying3 hi hz0 n h0 (by omega) (by omega) (by rw [hz2]; omega)
 have h1 : ¬ ((n : Int) < 0) := by omega
 have h2 : (0 : Int) < (n : Int) := by omega
 have hcap : n ≤ grownCap w n 0 79 := grownCap_ge _ _ _ _
 have hcm : grownCap w n 0 79 ≤ maxLen := grownCap_le_maxLen _ _ _ _ (by unfold maxLen; omega)
 obtain ⟨G, hG⟩ : ∃ G, grownCap w n 0 79 = G := ⟨_, rfl⟩
 rw [hG] at hcap hcm hr
 have HO := hZ (show ∀ base, base ≤ w.heap.size → (w.drew.alloc (.cells (Builtin.zeroCells z0.cells n ++ Builtin.zeroCells z0.cells (G - n)) 79)).ownsRow base 79 4 (.slice (some ⟨w.heap.size, 0, none⟩) 0 G) 0 [] from fun base hb =>
  ⟨rfl, .inr ⟨w.heap.size, G, _, rfl, hb, (MapKept.heap_alloc w.drew _).1, Nat.zero_le _, hcm, by rw [Array.size_append, size_zeroCells, size_zeroCells, hz3, ← Nat.add_mul]; congr 1; omega, rfl⟩⟩)
 have hBa : Below w.heap.size w (w.drew.alloc (.cells (Builtin.zeroCells z0.cells n ++ Builtin.zeroCells z0.cells (G - n)) 79)) := bal (Below.refl _ _).drew _
 obtain ⟨wz, hwz⟩ : ∃ wz, (w.drew.alloc (.cells (Builtin.zeroCells z0.cells n ++ Builtin.zeroCells z0.cells (G - n)) 79)) = wz := ⟨_, rfl⟩
 rw [hwz] at HO hBa hr
 have hG0 : (0 : Int) ≤ (G : Int) := by omega
 have HR := hZ hr
 clear hr hwz hG hi hz0 hz1 hz2 hz3
 go_enter Tryz.func197, Tryz.ntmps197
 go_wp2_with (at_builtin; refine Lib.wpList_append_run _ (by rfl) _ _ 38 3 rfl _ _ rfl rfl _ _ (HR.out _) ?_)
 try go_wp2
 go_ret
 exact ⟨⟨_, rfl, HO.out⟩, hBa⟩
def PSq (w : World) (u : Value) (l : List Rat) : Prop := ∃ b off c, u = .slice (some ⟨b, off, none⟩) l.length c ∧ typOf w b = some 79 ∧ ∀ k, k < l.length → FrC IsQP w b (off + k * 4) (l.getD k 0)
theorem prs_psq : Prs (fun t => t = 177 ∨ t = 79) PSq where
 one := fun ⟨b, off, c, e, _⟩ => by rw [e]; rfl
 kp := fun {w w' u x} ⟨b, off, c, e, ht, hi⟩ k => ⟨b, off, c, e, k.typ ht (.inr rfl), fun j hj => (hi j hj).stay frk_prog (k _ _ ht (.inr rfl)) (k.lim (.inl rfl))⟩
theorem IsL.psq {w : World} {v : Value} {g : GridF} (h : IsL 38 PSq 0 w v g) {i : Nat} (hi : i < g.length) :
 ∃ c gb go rb ro rc, v = .slice (some ⟨gb, go, none⟩) g.length c ∧ w.cell? ⟨gb, go + i, none⟩ = some (.slice (some ⟨rb, ro, none⟩) (g.getD i []).length rc) ∧ ∀ k, k < (g.getD i []).length → FrC IsQP w rb (ro + k * 4) ((g.getD i []).getD k 0) := by
 obtain ⟨a, c, e, _, hv⟩ := h.view
 obtain ⟨gb, go, u, rfl, hu, hr⟩ := hv i hi
 have e2 : g[i] = g.getD i [] := by simp [hi]
 rw [e2] at hr
 obtain ⟨rb, ro, rc, rfl, _, h3⟩ := hr
 exact ⟨c, gb, go, rb, ro, rc, e, hu, h3⟩
theorem flatq_take {g : GridF} {i : Nat} (hi : i < g.length) : (g.take (i + 1)).flatten = (g.take i).flatten ++ g.getD i [] := by
 rw [take_getDF hi, List.flatten_append]; simp
theorem flatq_le (g : GridF) (i : Nat) : (g.take i).flatten.length ≤ g.flatten.length := by
 conv => rhs; rw [← List.take_append_drop i g, List.flatten_append, List.length_append]
 omega
theorem concatQ_c (v : Value) (g : GridF) (w : World) (hv : IsL 38 PSq 0 w v g) (h0 : 0 < g.flatten.length) (hn : g.flatten.length ≤ 1099511627776) (hg : g.length ≤ 1099511627776) :
 Calls Tryz.prog 109 #[v] w fun e w' => (∃ v', e = .returned v' ∧ FrOwn IsQP 79 w w' v' g.flatten) ∧ Below w.heap.size w w' := by
 have HV := hZ hv
 obtain ⟨va, vc, rfl, -⟩ : ∃ a c, v = .slice a g.length c ∧ True := by obtain ⟨a, c, e, _⟩ := hv.view; exact ⟨a, c, e, trivial⟩
 have HF := hZ (fun i => flatq_le g i)
 have hB := Below.refl w.heap.size w
 clear hv
 go_enter Tryz.func109, Tryz.ntmps109
 go_wp2
 go_loopw [3, 11] (fun s x wr => ∃ i : Nat, i ≤ g.length ∧ x = .int .i64 i ∧ s = .int .i64 ((g.take i).flatten.length : Nat) ∧ Below w.heap.size w wr) (fun _ x _ => g.length - (intOf x).toNat)
 case atStart => exact ⟨0, Nat.zero_le _, rfl, by simp, hB⟩
 case round =>
  obtain ⟨i, hi, rfl, rfl, hBr⟩ := hrel
  by_cases hlt : i < g.length
  · have hltI : (i : Int) < (g.length : Int) := by omega
    obtain ⟨c', gb, go, rb, ro, rc, e2, hu, -⟩ := (HV.out.keep prs_psq hBr).psq hlt
    obtain ⟨rfl, -, rfl⟩ := Value.slice.inj e2
    have HS := hZ (flatq_take hlt)
    have hS1 := HF.out (i + 1)
    rw [HS.out, List.length_append] at hS1
    obtain ⟨S, hSE⟩ : ∃ S, (g.take i).flatten.length = S := ⟨_, rfl⟩
    obtain ⟨m, hm⟩ : ∃ m, (g.getD i []).length = m := ⟨_, rfl⟩
    have HT := hZ (show (g.take (i + 1)).flatten.length = S + m by rw [HS.out, List.length_append, hSE, hm])
    rw [hSE, hm] at hS1
    rw [hSE]
    rw [hm] at hu
    have hw : wrap64 ((S : Int) + (m : Int)) = (S : Int) + (m : Int) := by unfold wrap64; omega
    have hnn : ¬ ((S : Int) + (m : Int) < 0) := by omega
    have zu := cell_lt hu
    clear hSE hm e2 HS
    go_wp2
    exact ⟨⟨i + 1, by omega, by go_num, by rw [HT.out]; go_num, hBr⟩, by simp [intOf]; omega⟩
  · obtain rfl : i = g.length := by omega
    have hltI : ¬ (g.length : Int) < (g.length : Int) := by omega
    rw [List.take_length]
    obtain ⟨N, hN⟩ : ∃ N, g.flatten.length = N := ⟨_, rfl⟩
    rw [hN] at h0 hn ⊢
    have HN := hZ hN
    have gc := fun W => growQ_c N W h0 hn
    clear hN
    have hBw := Below.refl wr.heap.size wr
    go_wp2_with fail
    refine (gc _).mono ?_
    rintro e w2 ⟨⟨v2, rfl, ho2⟩, hb2⟩
    have hb2' := bthen hBr (bthen bZ hb2)
    have HO2 := hZ (show FrOwn IsQP 79 w w2 v2 [] from ⟨[], ⟨ho2 _ hBr.size, hb2'⟩, fun k hk => absurd hk (by simp)⟩)
    clear ho2 gc hb2 hBw
    go_wp2
    go_loopw [6, 27] (fun v x wr => ∃ i : Nat, i ≤ g.length ∧ x = .int .i64 i ∧ Hid (FrOwn IsQP 79 w wr v (g.take i).flatten)) (fun _ x _ => g.length - (intOf x).toNat)
    case atStart => exact ⟨0, Nat.zero_le _, rfl, HO2⟩
    case round =>
     rename World => wq
     obtain ⟨i, hi, rfl, hO⟩ := hrel
     by_cases hlt : i < g.length
     · have hltI : (i : Int) < (g.length : Int) := by omega
       have hBq := hO.out.bel
       obtain ⟨c', gb, go, rb, ro, rc, e2, hu, hI⟩ := (HV.out.keep prs_psq hBq).psq hlt
       obtain ⟨rfl, -, rfl⟩ := Value.slice.inj e2
       have hS1 := HF.out (i + 1)
       have HS := hZ (flatq_take hlt)
       rw [HS.out, List.length_append, HN.out] at hS1
       obtain ⟨L, hL⟩ : ∃ L, (g.take i).flatten = L := ⟨_, rfl⟩
       obtain ⟨l, hl⟩ : ∃ l, g.getD i [] = l := ⟨_, rfl⟩
       rw [hL] at hO HS hS1
       rw [hl] at HS hS1 hu hI
       have HI := hZ hI
       have zu := cell_lt hu
       obtain ⟨oa, oc, hov⟩ := hO.out.ex
       subst hov
       clear hL hl e2 hI
       go_wp2_with (at_builtin; refine app_catQ (by rfl) (by rfl) hO.out HI.out (by rfl) (by rfl) (by omega) ?_)
       intro v' w8 HO8
       rw [← HS.out] at HO8
       go_wp2
       exact ⟨⟨i + 1, by omega, by go_num, HO8⟩, by simp [intOf]; omega⟩
     · obtain rfl : i = g.length := by omega
       rw [List.take_length] at hO
       have hBq := hO.out.bel
       obtain ⟨oa, oc, hov⟩ := hO.out.ex
       subst hov
       go_wp2
       go_ret
       exact ⟨⟨_, rfl, hO.out⟩, hBq⟩
end
section
open Num
section
variable {TT T : TypeId} {bytes : Nat}
theorem appU_blk (el : Elt Tryz.prog TT T 1 bytes) (ty : TypeId) {W : World} {v : Value} {n base : Nat} {xs : List Value} (h : W.ownsRow base T 1 v n xs) (hm : n + 1 ≤ 1099511627776) {gb cc : Nat} {y : Value} (hy : W.cell? ⟨gb, 0, none⟩ = some y) (oy : y.oneCell' = true) :
 ∃ v' w', (Builtin.append_ #[TT, TT] ty #[v, .slice (some ⟨gb, 0, none⟩) 1 cc]).run Tryz.prog W = .ok v' w' ∧ (∀ q, q < W.heap.size → typOf w' q = typOf W q) ∧ ∀ q, v'.ownBlock = some q → v.ownBlock = some q ∨ W.heap.size ≤ q := by
 have tyb : ∀ {b : World}, Below W.heap.size W b → ∀ q, q < W.heap.size → typOf b q = typOf W q := fun h q hq => by unfold typOf; rw [h.block q hq]
 obtain ⟨i0, z0, hi, hz0, hz1, hz2, hz3⟩ := el.info
 have hb : (n + 1) * bytes ≤ 1099511627776 * 128 := Nat.mul_le_mul hm el.small
 have hl : ([y] : List Value).length = 1 * i0.size := by rw [hz1]; rfl
 have hnews : ∀ j u, ([y] : List Value)[j]? = some u → W.cell? ((⟨gb, 0, none⟩ : Addr).add j) = some u := by
  intro j u hj
  have hj2 : j < 1 := (List.getElem?_eq_some_iff.1 hj).1
  obtain rfl : j = 0 := by omega
  simp at hj; subst hj; simpa [Addr.add] using hy
 rcases h.2 with ⟨rfl, rfl⟩ | ⟨g, cap, cs, rfl, hg, hh, h1, h2, h3, h4⟩
 · refine ⟨_, _, run_append_nil W _ _ _ i0 z0 el.ht hi hz0 ⟨gb, 0, none⟩ 1 cc [y] hl hnews (by omega) (by omega) (by rw [hz2]; omega), tyb (bal (Below.refl W.heap.size W).drew _), fun q hq => ?_⟩
   simp [Value.ownBlock] at hq
   right; omega
 · by_cases hroom : n + 1 ≤ cap
   · refine ⟨_, _, run_append_room W _ _ _ i0 el.ht hi g n cap cs hh ⟨gb, 0, none⟩ 1 cc [y] hl hnews (fun u hu => by simp at hu; subst hu; assumption) hroom (by rw [hz1, h3]; simp; omega), fun q hq => ?_, fun q hq => ?_⟩
     · by_cases e : q = g
       · subst e; unfold typOf; rw [setRow_heap W q cs _ _ _ hh, hh]
       · unfold typOf; rw [setRow_other W g q _ e]
     · simp [Value.ownBlock] at hq ⊢
       left; exact hq
   · have holds : ∀ j u, (cs.toList.take (n * 1))[j]? = some u → W.cell? ((⟨g, 0, none⟩ : Addr).add j) = some u := by
      intro j u hj
      have hj2 : j < n * 1 := by have := (List.getElem?_eq_some_iff.1 hj).1; rw [List.length_take] at this; omega
      rw [List.getElem?_take_of_lt hj2] at hj
      have e : (⟨g, 0, none⟩ : Addr).add j = ⟨g, j, none⟩ := by unfold Addr.add; split <;> simp_all
      rw [e, cell_of_row W g j cs _ _ hh]
      simpa using hj
     refine ⟨_, _, run_append_grow W _ _ _ i0 z0 el.ht hi hz0 ⟨g, 0, none⟩ n cap (cs.toList.take (n * 1)) (by rw [List.length_take, Array.length_toList, h3, hz1]; omega) holds ⟨gb, 0, none⟩ 1 cc [y] hl hnews (by omega) (by omega) (by rw [hz2]; exact growslice_fits (by omega) (by omega)), tyb (bal (Below.refl W.heap.size W).drew _), fun q hq => ?_⟩
     simp [Value.ownBlock] at hq
     right; omega
end
theorem OutT.orL {S X : Nat → Prop} {a b : World} (h : OutT S a b) : OutT (fun q => S q ∨ X q) a b :=
 ⟨h.1.mono fun _ _ h => .inl h, fun q _ hl => by
  by_cases e : S q
  · exact h.2 q e hl
  · unfold typOf; rw [h.1.block q hl e]⟩
structure LstV {α : Type} (TT T : TypeId) (Pr : World → Value → α → Prop) (w0 : World) (db : Nat) (L : List α) (v : Value) (W : World) : Prop where
 c0 : W.cell? ⟨db, 0, none⟩ = some v
 f0 : W.frozen? ⟨db, 0, none⟩ = false
 ty : typOf W db = some TT
 own : ∃ xs, W.ownsRow w0.heap.size T 1 v L.length xs ∧ ∀ k (hk : k < L.length), ∃ u, xs[k]? = some u ∧ Pr W u L[k]
 out : Out (fun q => q = db) w0 W
structure PrU {α : Type} (T : TypeId) (Pr : World → Value → α → Prop) (n0 db : Nat) : Prop where
 one : ∀ {w v x}, Pr w v x → v.oneCell' = true
 clo : ∀ {S : Nat → Prop} {X Y u x}, Pr X u x → Clo n0 S X Y → Pr Y u x
 own : ∀ {X Y u x}, Pr X u x → Out (fun q => q = db ∨ (n0 ≤ q ∧ typOf X q = some T)) X Y → Lim X Y → Pr Y u x
def LstS {α : Type} (TT T : TypeId) (Pr : World → Value → α → Prop) (w0 : World) (db : Nat) (L : List α) (S : Nat → Prop) (W : World) : Prop := ∃ v, S = (fun q => q = db ∨ v.ownBlock = some q) ∧ LstV TT T Pr w0 db L v W
section
variable {α : Type} {TT T : TypeId} {bytes : Nat} {Pr : World → Value → α → Prop} {w0 W W' : World} {db : Nat} {L : List α} {v : Value} {S : Nat → Prop}
theorem LstV.ex (h : LstV TT T Pr w0 db L v W) : ∃ a c, v = .slice a L.length c := by
 obtain ⟨xs, ⟨_, h1⟩, _⟩ := h.own
 rcases h1 with ⟨rfl, h0⟩ | ⟨g, cap, cur, rfl, _⟩
 · exact ⟨none, 0, by rw [h0]⟩
 · exact ⟨_, _, rfl⟩
theorem LstV.keep (hP : PrU T Pr w0.heap.size db) (h : LstV TT T Pr w0 db L v W) (b : Below W.heap.size W W') : LstV TT T Pr w0 db L v W' := by
 obtain ⟨xs, h1, h2⟩ := h.own
 refine ⟨bkeep b h.c0, bkeepf b h.c0 h.f0, typ_keep h.ty b, ⟨xs, own_below (w0 := w0) h1 b, fun k hk => ?_⟩, h.out.below b⟩
 obtain ⟨u, hu, hp⟩ := h2 k hk
 exact ⟨u, hu, hP.clo (S := fun _ => False) hp (.of_below b)⟩
theorem LstS.soil (h : LstS TT T Pr w0 db L S W) (h1 : TT ≠ 177) (h2 : T ≠ 177) : Soil S W := by
 obtain ⟨v, rfl, h⟩ := h
 rintro q (rfl | hq)
 · exact ⟨_, h.ty, h1⟩
 · obtain ⟨xs, h3, _⟩ := h.own
   exact ⟨_, own_typ' h3 hq, h2⟩
theorem LstS.clo (hP : PrU T Pr w0.heap.size db) (h : LstS TT T Pr w0 db L S W) (c : Clo w0.heap.size S W W') : LstS TT T Pr w0 db L S W' := by
 obtain ⟨v, rfl, h⟩ := h
 obtain ⟨xs, h1, h2⟩ := h.own
 refine ⟨v, rfl, c.cell (.inr (.inl rfl)) h.c0, c.frz (.inr (.inl rfl)) h.c0 h.f0, c.typ (.inr (.inl rfl)) h.ty, ⟨xs, ⟨h1.1, ?_⟩, fun k hk => ?_⟩, ?_⟩
 · rcases h1.2 with h3 | ⟨g, cap, cur, rfl, hg, hh, r⟩
   · exact .inl h3
   · exact .inr ⟨g, cap, cur, rfl, hg, by rw [c.block g (Array.getElem?_eq_some_iff.1 hh).1 (.inr (.inl (.inr (by simp [Value.ownBlock]))))]; exact hh, r⟩
 · obtain ⟨u, hu, hp⟩ := h2 k hk
   exact ⟨u, hu, hP.clo hp c⟩
 · have hl := c.low h.out.size
   exact ⟨hl.os.trans h.out.os, hl.tape.trans h.out.tape, hl.output.trans h.out.output, Nat.le_trans h.out.size hl.size, fun i hi hx => (hl.block i hi).trans (h.out.block i hi hx)⟩
theorem LstV.next (el : Elt Tryz.prog TT T 1 bytes) (hP : PrU T Pr w0.heap.size db) (hTT : TT ≠ 177) (hT : T ≠ 177) (ty : TypeId) {gb cc : Nat} {y : Value} {x : α} {W4 : World} (h : LstV TT T Pr w0 db L v W) (hdb : db < w0.heap.size) (hb : Below W.heap.size W W4) (hm : L.length + 1 ≤ 1099511627776) (hy : W4.cell? ⟨gb, 0, none⟩ = some y) (hp : Pr W4 y x) :
 ∃ v' w', (Builtin.append_ #[TT, TT] ty #[v, .slice (some ⟨gb, 0, none⟩) 1 cc]).run Tryz.prog W4 = .ok v' w' ∧ (∃ a c, v' = .slice a (L.length + 1) c) ∧ w'.cell? ⟨db, 0, none⟩ = some v ∧ w'.frozen? ⟨db, 0, none⟩ = false ∧ OutT (fun q => q = db ∨ v.ownBlock = some q) W (w'.setCell ⟨db, 0, none⟩ v') ∧ ∃ S', Grew (fun q => q = db ∨ v.ownBlock = some q) S' W ∧ LstS TT T Pr w0 db (L ++ [x]) S' (w'.setCell ⟨db, 0, none⟩ v') := by
 have h4 := h.keep hP hb
 obtain ⟨xs, k1, k2⟩ := h4.own
 obtain ⟨i0, z0, hi, hz0, hsize, hby, hzs⟩ := el.info
 have oy := hP.one hp
 have hbb : (L.length + 1) * bytes ≤ 1099511627776 * 128 := Nat.mul_le_mul hm el.small
 have hnews : ∀ j u, ([y] : List Value)[j]? = some u → W4.cell? ((⟨gb, 0, none⟩ : Addr).add j) = some u := by
  intro j u hj
  have hj2 : j < 1 := (List.getElem?_eq_some_iff.1 hj).1
  obtain rfl : j = 0 := by omega
  simp at hj; subst hj; simpa [Addr.add] using hy
 obtain ⟨v', w', hrun, r1, r2, r3⟩ := run_append_own (P := Tryz.prog) W4 w0.heap.size TT ty T i0 z0 1 bytes el.ht hi hz0 hsize hby hzs el.pos v L.length xs k1 ⟨gb, 0, none⟩ 1 cc [y] rfl hnews (fun u hu => by simp at hu; subst hu; exact oy) (by unfold maxLen; omega) (by omega) (Nat.le_trans h.out.size hb.size)
 obtain ⟨v2, w2, hrun2, hty, hq⟩ := appU_blk el ty k1 (by omega) (cc := cc) hy oy
 rw [hrun] at hrun2
 cases hrun2
 have hl : Lim W4 w' := (Lim.refl W4).grown r2 fun g hg' ht => by
  rw [own_typ' k1 hg'] at ht
  exact hT (Option.some.inj ht)
 have hne : some db ≠ v.ownBlock := fun e => by
  rcases k1.2 with ⟨h0, _⟩ | ⟨g, cap, cur, rfl, hg', _⟩
  · rw [h0] at e; simp [Value.ownBlock] at e
  · simp [Value.ownBlock] at e; omega
 have hs := r2.size
 have c0 : w'.cell? ⟨db, 0, none⟩ = some v := r2.cell h4.c0 hne
 have cf : w'.frozen? ⟨db, 0, none⟩ = false := by
  rw [World.frozen?_of_block (r2.block db (cell_lt h4.c0) hne)]; exact h4.f0
 have ht : typOf w' db = some TT := by
  rw [typ_of_block (w := W4) (r2.block db (cell_lt h4.c0) hne)]; exact h4.ty
 have ho4 : Out (fun q => v.ownBlock = some q) W4 w' := ⟨r2.os, r2.tape, r2.output, r2.size, fun q hq' hx => r2.block q hq' fun e => hx e.symm⟩
 have hno : ∀ q, v.ownBlock = some q → w0.heap.size ≤ q := fun q e => by
  rcases k1.2 with ⟨h0, _⟩ | ⟨g, cap, cur, rfl, hg', _⟩
  · rw [h0] at e; simp [Value.ownBlock] at e
  · simp [Value.ownBlock] at e; omega
 have hl2 : Lim w' (w'.setCell ⟨db, 0, none⟩ v') := ((Kp.refl (· ≠ TT) w').set (fun t ht' => by rw [ht] at ht'; cases ht'; exact fun k => k rfl) _).lim (fun e => hTT e.symm)
 have hoX : Out (fun q => q = db ∨ (w0.heap.size ≤ q ∧ typOf W4 q = some T)) W4 (w'.setCell ⟨db, 0, none⟩ v') := (ho4.mono fun q _ hq' => .inr ⟨hno q hq', own_typ' k1 hq'⟩).set (fun _ => .inl rfl) _
 have hPr : ∀ {u : Value} {z : α}, Pr W4 u z → Pr (w'.setCell ⟨db, 0, none⟩ v') u z := fun h => hP.own h hoX (hl.trans hl2)
 have hsh : ∃ a c, v' = .slice a (L.length + 1) c := by
  rcases r1.2 with ⟨h0, h1⟩ | ⟨g, cap, cur, h0, _⟩
  · omega
  · exact ⟨_, _, h0⟩
 refine ⟨v', w', hrun, hsh, c0, cf, ⟨?_, fun q hq' hl' => ?_⟩, _, ?_, ⟨v', rfl, cell_here c0 _, by rw [World.frozen?_setCell]; exact cf, by rw [typ_set]; exact ht, ⟨xs ++ [y], ?_, ?_⟩, ?_⟩⟩
 · exact ((Out.of_below _ hb).trans (ho4.mono fun _ _ h => .inr h)).set (fun _ => .inl rfl) _
 · rw [typ_set]
   rw [hty q (Nat.lt_of_lt_of_le hl' hb.size)]
   unfold typOf; rw [hb.block q hl']
 · intro q hq'
   rcases hq' with hq' | hq'
   · exact .inl (.inl hq')
   · rcases hq q hq' with h5 | h5
     · exact .inl (.inr h5)
     · exact .inr (Nat.le_trans hb.size h5)
 · rw [List.length_append]
   refine ⟨r1.1, ?_⟩
   rcases r1.2 with h3 | ⟨g, cap, cur, rfl, hg', hh, r⟩
   · exact .inl h3
   · exact .inr ⟨g, cap, cur, rfl, hg', (Below.heap_setCell _ _ _ _ (by show g ≠ db; omega)).trans hh, r⟩
 · intro k hk
   have hxl : xs.length = L.length := by simpa using k1.1
   by_cases e : k < L.length
   · obtain ⟨u, hu, hp'⟩ := k2 k e
     refine ⟨u, by rw [List.getElem?_append_left (by omega)]; exact hu, ?_⟩
     rw [List.getElem_append_left e]; exact hPr hp'
   · obtain rfl : k = L.length := by simp at hk; omega
     refine ⟨y, by rw [List.getElem?_append_right (by omega), hxl]; simp, ?_⟩
     simpa using hPr hp
 · exact ((h4.out.then ho4 fun i hi h5 => by have := hno i h5; omega)).set (fun _ => rfl) _
theorem LstV.isL (h : LstV TT T Pr w0 db L v W) : IsL T Pr w0.heap.size W v L := by
 obtain ⟨xs, ⟨hl, h1⟩, h2⟩ := h.own
 rcases h1 with ⟨rfl, h0⟩ | ⟨g, cap, cur, rfl, hg, hh, hc, hm, hs, ht⟩
 · exact ⟨none, 0, by rw [h0], by omega, by unfold maxLen; omega, .inl (List.length_eq_zero_iff.1 h0)⟩
 · refine ⟨_, cap, rfl, hc, hm, .inr ⟨g, 0, rfl, hg, by unfold typOf; rw [hh], fun k hk => ?_⟩⟩
   obtain ⟨u, hu, hr⟩ := h2 k hk
   refine ⟨u, ?_, hr⟩
   rw [← ht, List.getElem?_take_of_lt (by omega)] at hu
   rw [Nat.zero_add]
   simpa [World.cell?, hh] using hu
theorem app_lstIn {F : Fence} {n' : Nat} {ops : Array Oper} {o : Oper} {rest : List Oper} {a : Act} {Q : Exit → Act → World → Prop} {s x : Operand} {gb cc : Nat} {y : Value} {z : α} {W4 : World} (el : Elt Tryz.prog TT T 1 bytes) (hP : PrU T Pr w0.heap.size db) (hTT : TT ≠ 177) (hT : T ≠ 177)
 (hgd : o.guard = none) (ho : o.op = .call { callee := .builtin .append, args := #[s, x], argTypes := #[TT, TT] }) (h : LstV TT T Pr w0 db L v W) (hdb : db < w0.heap.size) (hb : Below W.heap.size W W4) (hm : L.length + 1 ≤ 1099511627776) (hy : W4.cell? ⟨gb, 0, none⟩ = some y) (hp : Pr W4 y z) (hs : a.eval s = v) (hx : a.eval x = .slice (some ⟨gb, 0, none⟩) 1 cc)
 (k : ∀ v' w', (∃ a c, v' = .slice a (L.length + 1) c) → w'.cell? ⟨db, 0, none⟩ = some v → w'.frozen? ⟨db, 0, none⟩ = false → OutT (fun q => q = db ∨ v.ownBlock = some q) W (w'.setCell ⟨db, 0, none⟩ v') → (∃ S', Grew (fun q => q = db ∨ v.ownBlock = some q) S' W ∧ LstS TT T Pr w0 db (L ++ [z]) S' (w'.setCell ⟨db, 0, none⟩ v')) → wpListIn F n' Tryz.prog ops Q rest (a.put o.dst v') w') : wpListIn F n' Tryz.prog ops Q (o :: rest) a W4 := by
 obtain ⟨v', w', hrun, h0, h1, h2, h3, h4⟩ := LstV.next el hP hTT hT o.type (cc := cc) h hdb hb hm hy hp
 refine wpListIn_plain hgd fun K hK' => ?_
 unfold Oper.wpIn
 refine ⟨?_, ?_⟩
 · simp [Oper.about, ho, resolve, Target.leads, Sem.run_pure]
 · rw [Oper.semAt_plain F _ _ (by rw [ho]; intro c hc'; cases hc')]
   simp [execOp, ho, resolve, invoke, builtin, hs, hx, hrun, Result.andThen]
   exact hK' _ _ (k v' w' h0 h1 h2 h3 h4)
end
end
section
open Num
attribute [local go_sem ↓] Go.wp_at_zero Go.wp_at_succ
attribute [local go_sem] Oper.semAt_some
theorem outOthC {X : Nat → Prop} {a b : World} (h : Out X a b) (hx : ∀ q, X q → q < a.heap.size → ∃ o : Obj, a.heap[q]? = some o ∧ o.isCells = true) : KeepsOthers a b :=
 ⟨h.size, fun k o hk ho => by
  have hl := (Array.getElem?_eq_some_iff.1 hk).1
  rw [h.block k hl (fun hX => by
   obtain ⟨o', ho', hc⟩ := hx k hX hl
   rw [hk] at ho'; cases ho'; rw [ho] at hc; cases hc)]
  exact hk⟩
theorem othersC {W W' : World} (h : Below W.heap.size W W') : KeepsOthers W W' := outOthC (Out.of_below (fun _ => False) h) fun _ h => h.elim
theorem kp_putC {S : TypeId → Prop} {X : World} {l : Nat} {o o' : Obj} (h1 : X.heap[l]? = some o) (h2 : o.isCells = false) : Kp S X (X.putObj l o') := fun q t ht _ => World.putObj_heap_other (fun e => by subst e; rw [typ_none h1 h2] at ht; cases ht)
def PCh (B m : Nat) (_ : World) (u : Value) (k : Nat) : Prop := u = .slice (some ⟨B, k * m * 2, none⟩) m m
theorem pru_pch (B m n0 db : Nat) : PrU 68 (PCh B m) n0 db := ⟨fun h => by rw [h]; rfl, fun h _ => h, fun h _ _ => h⟩
theorem prs_pch (B m : Nat) : Prs (fun _ => False) (PCh B m) := ⟨fun h => by rw [h]; rfl, fun h _ => h⟩
def APc (B m : Nat) (k : Nat) (args : Array Value) (X : World) : Prop := args = #[.slice (some ⟨B, k * m * 2, none⟩) m m]
def ChIn (sb nb B N m c : Nat) (W : World) : Prop := W.cell? ⟨sb, 0, none⟩ = some (.slice (some ⟨B, 0, none⟩) (N * m) c) ∧ W.cell? ⟨nb, 0, none⟩ = some (.int .i64 (m : Nat))
theorem mul_step {k N m : Nat} (h : k < N) : k * m + m ≤ N * m := by
 have := Nat.mul_le_mul_right m (show k + 1 ≤ N from h)
 rw [Nat.add_mul, Nat.one_mul] at this; exact this
theorem chunk_iterD (n0 sb nb B N m c : Nat) (S0 : Nat → Prop) (h1 : ¬ S0 sb) (h2 : ¬ S0 nb) (hm : 1 ≤ m) (hm2 : m ≤ 65536) (hN : N ≤ 65536) (hc : N * m ≤ c) (hcm : c ≤ maxLen) :
 IterD Tryz.prog 199 #[.pointer (some ⟨sb, 0, none⟩), .pointer (some ⟨nb, 0, none⟩)] (APc B m) N (fun _ _ => False) n0 S0 (ChIn sb nb B N m c) := by
 intro l J Jx W hG hJ hJx hJS hY h0
 obtain ⟨hs, hn⟩ := hG
 refine callsIn_wide.2 ?_
 show Calls Tryz.prog 199 #[.func (.yield l) #[] #[], .pointer (some ⟨sb, 0, none⟩), .pointer (some ⟨nb, 0, none⟩)] W _
 have HY := hZ (fun k S X hk hj => yieldAt_wide (m := 3) (hY k #[.slice (some ⟨B, k * m * 2, none⟩) m m] S X hk hj rfl (fun _ h => h.elim)))
 have HJ := hZ (fun k S X V (hj : J k S X) (h : Below X.heap.size X V) => hJ k S X V hj (.of_below h) (othersC h))
 have HK0 := hZ (show ¬ S0 sb ∧ ¬ S0 nb ∧ W.cell? ⟨sb, 0, none⟩ = some (.slice (some ⟨B, 0, none⟩) (N * m) c) ∧ W.cell? ⟨nb, 0, none⟩ = some (.int .i64 (m : Nat)) from ⟨h1, h2, hs, hn⟩)
 have HST := hZ (fun k (h : k < N) => mul_step (m := m) h)
 have HSZ := hZ (show N * m ≤ 65536 * 65536 from Nat.mul_le_mul hN hm2)
 clear hY hJ hJx hJS hs hn h1 h2 hcm
 obtain ⟨T, hT⟩ : ∃ T, N * m = T := ⟨_, rfl⟩
 rw [hT] at HK0 HST HSZ hc
 have HT := hZ hT
 clear hT
 go_enter Tryz.func199, Tryz.ntmps199
 go_wp2
 go_loopw [4] (fun x wr => ∃ k : Nat, k ≤ N ∧ x = .int .i64 (k * m : Nat) ∧ ∃ S, J k S wr ∧ Hid (¬ S sb ∧ ¬ S nb ∧ (wr : World).cell? ⟨sb, 0, none⟩ = some (.slice (some ⟨B, 0, none⟩) T c) ∧ (wr : World).cell? ⟨nb, 0, none⟩ = some (.int .i64 (m : Nat)))) (fun x _ => T - (intOf x).toNat)
 case atStart => exact ⟨0, Nat.zero_le _, by simp, S0, h0, HK0⟩
 case round =>
  obtain ⟨k, hkl, rfl, S, hj, hkp⟩ := hrel
  have hs := hkp.out.2.2.1
  have hn := hkp.out.2.2.2
  have zs := cell_lt hs
  have zn := cell_lt hn
  have hTz := HSZ.out
  by_cases hlt : k < N
  · have hst := HST.out k hlt
    obtain ⟨i, hi⟩ : ∃ i, k * m = i := ⟨_, rfl⟩
    have HY1 := hZ (fun X hj => HY.out k S X hlt hj)
    have HI := hZ (show (k + 1) * m = i + m by rw [Nat.add_mul, Nat.one_mul, hi])
    rw [hi] at hst HY1 ⊢
    clear hi
    have hltI : (i : Int) < (T : Int) := by omega
    have hi0 : (0 : Int) ≤ (i : Int) := by omega
    have hw1 : wrap64 ((i : Int) + (m : Int)) = (i : Int) + (m : Int) := by unfold wrap64; omega
    have hmin : min (m : Int) ((T - i : Nat) : Int) = (m : Int) := by omega
    have hcc : i + m ≤ c := by omega
    go_wp2
    go_region
    obtain ⟨wz, hwz⟩ : ∃ wz, wr.drew = wz := ⟨_, rfl⟩
    have hbz : Below wr.heap.size wr wz := by rw [← hwz]; exact (Below.refl _ _).drew
    rw [hwz]
    have hs := bkeep hbz hs
    have hn := bkeep hbz hn
    have zs := cell_lt hs
    have zn := cell_lt hn
    have hjz := HJ.out k S wr wz hj hbz
    have HKZ := hZ (And.intro hkp.out.1 (And.intro hkp.out.2.1 (And.intro hs hn)))
    obtain ⟨fn, tmps, asg, body, hy, hR⟩ := HY1.out wz hjz
    have hsl : ((i : Int) + (m : Int) - (i : Int)) = (m : Int) := by omega
    clear hwz hbz hj hkp HY HY1 hmin
    go_upto_region 4 with (fail)
    refine (wpIn_wide (n := 4)).1 ?_
    gi_wp2
    refine hR.mono ?_
    rintro e W' (⟨rfl, S', hg', hJ', ho'⟩ | ⟨rfl, S', hJx'⟩)
    · have HN := hZ (show ¬ S' sb ∧ ¬ S' nb ∧ W'.cell? ⟨sb, 0, none⟩ = some (.slice (some ⟨B, 0, none⟩) T c) ∧ W'.cell? ⟨nb, 0, none⟩ = some (.int .i64 (m : Nat)) from by
       obtain ⟨k1, k2, k3, k4⟩ := HKZ.out
       have z1 := cell_lt k3
       have z2 := cell_lt k4
       refine ⟨fun h => ?_, fun h => ?_, ?_, ?_⟩
       · rcases hg' _ h with h | h
         · exact k1 h
         · omega
       · rcases hg' _ h with h | h
         · exact k2 h
         · omega
       · rw [World.cell?_of_block (w := wz) (ho'.1.block sb z1 (fun h => by rcases h with h | h; exact k1 h; exact h))]; exact k3
       · rw [World.cell?_of_block (w := wz) (ho'.1.block nb z2 (fun h => by rcases h with h | h; exact k2 h; exact h))]; exact k4)
      have hn2 := HN.out.2.2.2
      have zn2 := cell_lt hn2
      clear hg' ho' hs hn zs zn hy hR
      gi_wp2
      go_wp2
      exact ⟨⟨k + 1, hlt, by rw [HI.out]; go_num, S', hJ', HN⟩, by simp [intOf]; omega⟩
    · clear hy hR
      gi_wp2
      go_wp2
      refine bodyPost_ret (results_none rfl _ _ _) rfl ?_
      exact ⟨⟨_, rfl⟩, .inr ⟨k + 1, S', hlt, hJx'⟩⟩
  · obtain rfl : k = N := by omega
    have hltI : ¬ ((k * m : Nat) : Int) < (T : Int) := by rw [HT.out]; omega
    go_wp2
    refine bodyPost_end (results_none rfl _ _ _) rfl ?_
    exact ⟨⟨_, rfl⟩, .inl ⟨S, hj⟩⟩
def ChunkPost (B N m c : Nat) (w : World) (e : Ending) (w' : World) : Prop :=
 (∃ sb nb, e = .returned (.func (.func 199) #[] #[.pointer (some ⟨sb, 0, none⟩), .pointer (some ⟨nb, 0, none⟩)]) ∧ w.heap.size ≤ sb ∧ w.heap.size ≤ nb ∧ sb < w'.heap.size ∧ nb < w'.heap.size ∧ ChIn sb nb B N m c w') ∧ Below w.heap.size w w'
theorem chunk_c (B N m c T : Nat) (w : World) (hT : T = N * m) (hm : 1 ≤ m) :
 Calls Tryz.prog 111 #[.slice (some ⟨B, 0, none⟩) T c, .int .i64 (m : Nat)] w (ChunkPost B N m c w) := by
 have hB := Below.refl w.heap.size w
 have hm1 : ¬ ((m : Int) < 1) := by omega
 have HT := hZ hT
 clear hT
 go_enter Tryz.func111, Tryz.ntmps111
 go_wp2
 go_ret
 refine ⟨⟨_, _, rfl, by simp, by simp, by simp; omega, by simp, by rw [← HT.out]; simp [go_sem], by simp [go_sem]⟩, ?_⟩
 repeat exact bZ
def SeqRPost (B m N : Nat) (w : World) (e : Ending) (w' : World) : Prop := (∃ a c, e = .returned (.slice a N c) ∧ IsL 68 (PCh B m) w.heap.size w' (.slice a N c) (List.range N)) ∧ Below w.heap.size w w'
theorem range_take {N k : Nat} (h : k < N) : (List.range N).take (k + 1) = (List.range N).take k ++ [k] := by
 rw [List.take_add_one, List.getElem?_eq_getElem (by simpa using h)]; simp
theorem appendSeqR_c (gf : Nat) (lb : Array Value) (B m N : Nat) (G : World → Prop) (w : World) (eg : ∀ args w, (callFunc gf args).run Tryz.prog w = .ok (.enter gf args) w)
 (hseq : ∀ n0 S0, (∀ q, S0 q → w.heap.size ≤ q) → IterD Tryz.prog gf lb (APc B m) N (fun _ _ => False) n0 S0 G) (hG : ∀ W, Below w.heap.size w W → G W) (hL : N ≤ 1099511627775) :
 Calls Tryz.prog 198 #[.slice none 0 0, .func (.func gf) #[] lb] w (SeqRPost B m N w) := by
 have HG := hZ hG
 have HSQ := hZ hseq
 have HLL := hZ hL
 have hB := Below.refl w.heap.size w
 clear hG hseq hL
 refine calls_of_wp_marks Tryz.func198 rfl ?_
 simp only [Tryz.ntmps198, List.size_toArray, List.length_cons, List.length_nil, Nat.reduceAdd, Nat.reduceSub, Array.replicate_succ, Array.replicate_zero, List.push_toArray, List.append_toArray, List.nil_append, List.cons_append]
 go_wp2
 refine wp_name fun w1 hW1 => ?_
 have hB1 : Below w.heap.size w w1 := by rw [hW1]; repeat (first|exact bzR _ _|exact hB|refine bzD ?_|refine bzN ?_|refine bzS ?_|refine bzA ?_)
 have hz1 : w.heap.size < w1.heap.size := by rw [hW1]; simp
 have H0 := hZ (show LstS 45 68 (PCh B m) w1 w.heap.size ((List.range N).take 0) (fun q => q = w.heap.size ∨ (Value.slice none 0 0).ownBlock = some q) w1 from
  ⟨_, rfl, by rw [hW1]; exact cell_new rfl rfl, by rw [hW1]; simp [go_sem], by rw [hW1]; exact typ_fresh (by simp), ⟨[], by simpa using World.ownsRow_nil _ _ _ _, fun k hk => absurd hk (by simp)⟩, Out.refl _ _⟩)
 clear hW1 hB
 refine wp_rangeD (gf := gf) (lb := lb) (by simp [Act.eval]) eg (HSQ.out w1.heap.size _ (fun q hq => by rcases hq with hq | hq; exact Nat.le_of_eq hq.symm; simp [Value.ownBlock] at hq)) (Nat.le_refl _) (fun W h => HG.out W (bthen hB1 h)) (fun _ _ _ h => by cases h; rfl)
  (fun k S W => LstS 45 68 (PCh B m) w1 w.heap.size ((List.range N).take k) S W) (fun _ _ _ _ => False)
  (fun k S X Y h c => LstS.clo (pru_pch _ _ _ _) h c) (fun _ _ _ _ _ h _ => h.elim)
  (fun k S X h => h.soil (by decide) (by decide)) (fun _ _ _ _ h => h.elim) H0.out
  (fun T k args S a' X => a' = { tmps := (T.setIfInBounds 7 (.slice (some ⟨B, k * m * 2, none⟩) m m)).setIfInBounds 5 (.slice (some ⟨B, k * m * 2, none⟩) m m), defers := [] }) (fun k args S a' X l o o' _ h1 h2 h => h)
  (fun k args X q h hq => hq.elim) ?assignA ?bodyA ?doneA (fun _ _ _ _ _ _ _ h => h.elim)
 case assignA =>
  rintro y k args S X Kk hk hi ha hxs hKk
  cases ha
  generalize k * m * 2 = d at *
  gi_wp2
  exact hKk _ _ (Below.refl _ _) hi (by simp)
 case bodyA =>
  rintro y k args S a' w2 hk ⟨v, rfl, hD⟩ rfl
  have HD := hZ hD
  have HT := hZ (range_take hk)
  have hlk : ((List.range N).take k).length + 1 ≤ 1099511627776 := by rw [List.length_take]; have := HLL.out; omega
  have HPC := hZ (show ∀ W, PCh B m W (.slice (some ⟨B, k * m * 2, none⟩) m m) k from fun _ => rfl)
  obtain ⟨d, hd⟩ : ∃ d, k * m * 2 = d := ⟨_, rfl⟩
  rw [hd] at HPC ⊢
  obtain ⟨M, hM⟩ : ∃ M, (List.range N).take k = M := ⟨_, rfl⟩
  rw [hM] at HD HT hlk hD
  clear hM
  obtain ⟨va, vc, rfl⟩ := hD.ex
  have c0 := hD.c0
  have cf := hD.f0
  have zc := cell_lt c0
  simp only [List.setIfInBounds_toArray, List.set_cons_succ, List.set_cons_zero]
  clear hD hd
  gi_wp2_with (gi_at_builtin; refine app_lstIn elRow (pru_pch _ _ _ _) (by decide) (by decide) (by rfl) (by rfl) HD.out hz1 (bal (Below.refl _ _) _) hlk (cell_new rfl rfl) (HPC.out _) (by rfl) (by rfl) ?_; intro v' w' ⟨sa, sc, hsv⟩ c1 c1f hO hS; subst hsv; have HO := hZ hO; have HS := hZ hS; have zc1 := cell_lt c1; clear hO hS)
  refine ⟨HO.out.orL, ?_⟩
  have hss := HS.out
  rw [← HT.out] at hss
  exact hss
 case doneA =>
  rintro D1 S Y1 hD1 ⟨v, -, hDV⟩ hK1
  rw [List.take_of_length_le (by simp)] at hDV
  obtain ⟨va, vc, rfl⟩ := hDV.ex
  rw [List.length_range] at *
  have c0 := hDV.c0
  have zc := cell_lt c0
  have HI := hZ (show IsL 68 (PCh B m) w.heap.size Y1 (.slice va N vc) (List.range N) from IsL.rebase hDV.isL hB1.size)
  have hBY : Below w.heap.size w Y1 := hB1.trans (hDV.out.to_below (fun q hq _ e => by omega) hB1.size)
  have hD1l := (Array.getElem?_eq_some_iff.1 hK1).1
  clear hDV
  go_wp2
  refine ⟨by simp, .inl ⟨_, _, rfl, run_takeDeferred (b := D1) (ds := []) hK1, ?_⟩⟩
  refine ⟨.slice va N vc, ?_, ⟨_, _, rfl, ?_⟩, b_put hBY (by have := hBY.size; omega) _⟩
  · simp [results, Tryz.results198, go_sem]
  · exact IsL.kp (S' := fun _ => True) (prs_pch B m) HI.out (kp_putC hK1 rfl) (fun _ h => h.elim) trivial
theorem collectR_c (gf : Nat) (lb : Array Value) (B m N : Nat) (G : World → Prop) (w : World) (eg : ∀ args w, (callFunc gf args).run Tryz.prog w = .ok (.enter gf args) w)
 (hseq : ∀ n0 S0, (∀ q, S0 q → w.heap.size ≤ q) → IterD Tryz.prog gf lb (APc B m) N (fun _ _ => False) n0 S0 G) (hG : ∀ W, Below w.heap.size w W → G W) (hL : N ≤ 1099511627775) :
 Calls Tryz.prog 110 #[.func (.func gf) #[] lb] w (SeqRPost B m N w) := by
 have AC := hZ (appendSeqR_c gf lb B m N G w eg hseq hG hL)
 clear eg hseq hG hL
 go_enter Tryz.func110, Tryz.ntmps110
 go_wp2_with fail
 refine AC.out.mono ?_
 rintro e w1 ⟨⟨a, c, rfl, hI⟩, hb1⟩
 clear AC
 go_wp2
 go_ret
 exact ⟨⟨_, _, rfl, hI⟩, hb1⟩
end
end Go.Proofs.YtbmaffijncapiaaGreatDoor
