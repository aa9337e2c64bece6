/- Texts of this seat, laid together: DnR, DwB, DwV, DwW, DwWu, DwWRa. What each theorem proves, and under which conditions, its statement says. -/
import Derived.Test.YtbmaffijncapiaaGreatDoorB24
import Derived.Test.YtbmaffijncapiaaGreatDoorCards
import Derived.Test.YtbmaffijncapiaaGreatDoorTie
import Derived.Lay
import Derived.SevenTiedAt
import Derived.Deep.DeepHandedRow
import Derived.Lib.LaidTab
set_option maxRecDepth 100000
set_option maxHeartbeats 32000000
set_option linter.unusedVariables false
set_option linter.unusedSimpArgs false
namespace Go.Proofs.YtbmaffijncapiaaGreatDoor
open Go.ChangeShapes Go.WideShapes Go.ChangeAt Go.RowKit
section
open Num
attribute [local go_sem ↓] Go.wp_at_zero Go.wp_at_succ
theorem matrix_c (ins regs : Int) (ca oa : Option Addr) (cc oc : Nat) (code : List Ins) (outs : List Int) (w : World) (hc : InsV w ca cc code) (ho : IntsV w oa oc outs) :
 Calls Tryz.prog 23 #[.agg #[.int .i64 ins, .int .i64 regs, .slice ca code.length cc, .slice oa outs.length oc]] w (MatPost ins regs code outs w) := by
 have HC := hZ (And.intro hc ho)
 clear hc ho
 have hB := Below.refl w.heap.size w
 by_cases hp : ProgOk ins regs code outs
 · have HP := hZ hp
   cases he : endF ins regs code with
   | none =>
    have HR := hZ (show MatNo ins regs code outs 3 from .inr (.inl ⟨hp, he, rfl⟩))
    have RC := hZ (fun V (q : Below w.heap.size w V) => rows_wide (HC.out.1.keep q) (HC.out.2.keep q) hp he)
    clear hp he
    go_enter Tryz.func23, Tryz.ntmps23
    go_wp2_with fail
    (with_reducible refine (RC.out _ ?_).mono ?_); (repeat (first|exact bzR _ _|exact hB|refine bzD ?_|refine bzN ?_|refine bzS ?_|refine bzA ?_))
    rintro e w1 ⟨rfl, hb1⟩
    have p0 : w1.cell? ⟨w.heap.size, 0, none⟩ = some (.int .i64 ins) := bkc hb1
    have zp0 := cell_lt p0
    have m0 : w1.cell? ⟨w.heap.size + 1, 0, none⟩ = some (.slice none 0 0) := bkc hb1
    have zm0 := cell_lt m0
    have m0f : w1.frozen? ⟨w.heap.size + 1, 0, none⟩ = false := bkcf (v := .slice none 0 0) hb1
    have d0 : w1.cell? ⟨w.heap.size + 1 + 1, 0, none⟩ = some (.bool false) := bkc hb1
    have zd0 := cell_lt d0
    have d0f : w1.frozen? ⟨w.heap.size + 1 + 1, 0, none⟩ = false := bkcf (v := .bool false) hb1
    have d1 : w1.cell? ⟨w.heap.size + 1 + 1, 1, none⟩ = some (.slice none 0 0) := bkc hb1
    have d1f : w1.frozen? ⟨w.heap.size + 1 + 1, 1, none⟩ = false := bkcf (v := .slice none 0 0) hb1
    have hB : Below w.heap.size w w1 := bthen bZ hb1
    have hz := hB.size
    clear RC
    go_wp2
    refine bodyPost_ret (v := .tuple #[.agg #[.slice none 0 0], .agg #[.bool false, .slice none 0 0], .int .i64 3]) (by simp [results, Tryz.results23, go_sem, *]) rfl (MatPost.no HR.out ?_)
    repeat exact bZ
   | some h =>
    have RC := hZ (fun V (q : Below w.heap.size w V) => rows_yes (HC.out.1.keep q) (HC.out.2.keep q) hp he)
    have HE := hZ he
    have HPR := hZ hp
    have HF := hZ (fun h16 o16 => mat_facts hp he h16 o16)
    have HPY := hZ (fun w' v u h16 o16 h5 h6 hb => MatPost.yes (w := w) (w' := w') (v := v) (u := u) hp h16 o16 he h5 h6 hb)
    have HFL := hZ (outsF_len outs h)
    obtain ⟨F, hF⟩ : ∃ F, outsF outs h = F := ⟨_, rfl⟩
    rw [hF] at RC HF HPY HFL
    obtain ⟨O, hO⟩ : ∃ O, outs.length = O := ⟨_, rfl⟩
    have HO := hZ hO
    have hO1 := hp.o1
    have hO2 := hp.o2
    have hi1 := hp.i1
    rw [hO] at hO1 hO2
    clear hp he hF hO
    go_enter Tryz.func23, Tryz.ntmps23
    go_wp2_with fail
    (with_reducible refine (RC.out _ ?_).mono ?_); (repeat (first|exact bzR _ _|exact hB|refine bzD ?_|refine bzN ?_|refine bzS ?_|refine bzA ?_))
    rintro e w1 ⟨⟨v1, rfl, hv1⟩, hb1⟩
    have p0 : w1.cell? ⟨w.heap.size, 0, none⟩ = some (.int .i64 ins) := bkc hb1
    have zp0 := cell_lt p0
    have m0 : w1.cell? ⟨w.heap.size + 1, 0, none⟩ = some (.slice none 0 0) := bkc hb1
    have zm0 := cell_lt m0
    have m0f : w1.frozen? ⟨w.heap.size + 1, 0, none⟩ = false := bkcf (v := .slice none 0 0) hb1
    have d0 : w1.cell? ⟨w.heap.size + 1 + 1, 0, none⟩ = some (.bool false) := bkc hb1
    have zd0 := cell_lt d0
    have d0f : w1.frozen? ⟨w.heap.size + 1 + 1, 0, none⟩ = false := bkcf (v := .bool false) hb1
    have d1 : w1.cell? ⟨w.heap.size + 1 + 1, 1, none⟩ = some (.slice none 0 0) := bkc hb1
    have d1f : w1.frozen? ⟨w.heap.size + 1 + 1, 1, none⟩ = false := bkcf (v := .slice none 0 0) hb1
    have hB : Below w.heap.size w w1 := bthen bZ hb1
    have hz := hB.size
    have HV1 := hZ (ownP_isL0 hv1)
    obtain ⟨a1, c1, rfl⟩ := hv1.ex
    rw [HFL.out, HO.out] at HV1 ⊢
    clear RC hv1
    by_cases h16 : ins ≤ 16
    · have h16d : decide (ins > 16) = false := by simpa using h16
      by_cases o16 : O ≤ 16
      · have o16d : decide ((O : Int) > 16) = false := by simp; omega
        obtain ⟨m, rfl⟩ : ∃ m : Nat, ins = m := ⟨ins.toNat, by omega⟩
        have HFF := hZ (HF.out h16 (by rw [HO.out]; exact o16))
        have HY := hZ (fun w' v u => HPY.out w' v u h16 (by rw [HO.out]; exact o16))
        rw [Int.toNat_natCast, HO.out] at HFF
        have hm1 : 1 ≤ m := by omega
        have hm16 : m ≤ 16 := by omega
        have hT := HFF.out.2.2.2.2.1
        have hT0 := HFF.out.2.2.2.2.2
        have CQ := hZ (fun V (q : Below w1.heap.size w1 V) => concatQ_c (.slice a1 O c1) F V ((HV1.out.psqs HFF.out.1 hm1).keep prs_psq q) (by rw [HFF.out.2.2.2.1]; exact hT0) (by rw [HFF.out.2.2.2.1]; omega) (by rw [HFF.out.2.2.1]; omega))
        obtain ⟨T, hTE⟩ : ∃ T, O * m = T := ⟨_, rfl⟩
        have HT := hZ hTE
        rw [hTE] at hT hT0
        have hBw := Below.refl w1.heap.size w1
        clear HF HPY hTE
        go_wp2_with fail
        (with_reducible refine (CQ.out _ ?_).mono ?_); (repeat (first|exact bzR _ _|exact hBw|refine bzD ?_|refine bzN ?_|refine bzS ?_|refine bzA ?_))
        rintro e w2 ⟨⟨v2, rfl, hv2⟩, hb2⟩
        have p0 : w2.cell? ⟨w.heap.size, 0, none⟩ = some (.int .i64 (m : Int)) := bkc hb2
        have zp0 := cell_lt p0
        have m0 : w2.cell? ⟨w.heap.size + 1, 0, none⟩ = some (.slice none 0 0) := bkc hb2
        have zm0 := cell_lt m0
        have m0f : w2.frozen? ⟨w.heap.size + 1, 0, none⟩ = false := bkcf (v := .slice none 0 0) hb2
        have d0 : w2.cell? ⟨w.heap.size + 1 + 1, 0, none⟩ = some (.bool false) := bkc hb2
        have zd0 := cell_lt d0
        have d0f : w2.frozen? ⟨w.heap.size + 1 + 1, 0, none⟩ = false := bkcf (v := .bool false) hb2
        have d1 : w2.cell? ⟨w.heap.size + 1 + 1, 1, none⟩ = some (.slice none 0 0) := bkc hb2
        have d1f : w2.frozen? ⟨w.heap.size + 1 + 1, 1, none⟩ = false := bkcf (v := .slice none 0 0) hb2
        have hB : Below w.heap.size w w2 := bthen bZ hb2
        have hz := hB.size
        have HV2 := hZ hv2
        have CC := hZ (fun V (q : Below w2.heap.size w2 V) => common_c v2 F.flatten 65536 V ((FRow.keep hv2.row q).rebase (Nat.zero_le _)) (flatF_bd HFF.out.1 HFF.out.2.1) (by rw [HFF.out.2.2.2.1, HT.out]; exact hT0) (by rw [HFF.out.2.2.2.1, HT.out]; omega) (by rw [HFF.out.2.2.2.1, HT.out]; omega))
        obtain ⟨a2, c2, hv2e⟩ := hv2.ex
        rw [HFF.out.2.2.2.1, HT.out] at hv2e CC
        subst hv2e
        have hBx := Below.refl w2.heap.size w2
        clear CQ hv2 hBw
        go_wp2_with fail
        (with_reducible refine (CC.out _ ?_).mono ?_); (repeat (first|exact bzR _ _|exact hBx|refine bzD ?_|refine bzN ?_|refine bzS ?_|refine bzA ?_))
        rintro e w3 ⟨⟨u3, x3, rfl, hx3, hu3⟩, hb3⟩
        have p0 : w3.cell? ⟨w.heap.size, 0, none⟩ = some (.int .i64 (m : Int)) := bkc hb3
        have zp0 := cell_lt p0
        have m0 : w3.cell? ⟨w.heap.size + 1, 0, none⟩ = some (.slice none 0 0) := bkc hb3
        have zm0 := cell_lt m0
        have m0f : w3.frozen? ⟨w.heap.size + 1, 0, none⟩ = false := bkcf (v := .slice none 0 0) hb3
        have d0 : w3.cell? ⟨w.heap.size + 1 + 1, 0, none⟩ = some (.bool false) := bkc hb3
        have zd0 := cell_lt d0
        have d0f : w3.frozen? ⟨w.heap.size + 1 + 1, 0, none⟩ = false := bkcf (v := .bool false) hb3
        have d1 : w3.cell? ⟨w.heap.size + 1 + 1, 1, none⟩ = some (.slice none 0 0) := bkc hb3
        have d1f : w3.frozen? ⟨w.heap.size + 1 + 1, 1, none⟩ = false := bkcf (v := .slice none 0 0) hb3
        have hB : Below w.heap.size w w3 := bthen bZ hb3
        have hz := hB.size
        have HX3 := hZ hx3
        obtain ⟨nb3, na3, nl3, nc3, rfl⟩ := hx3.lit
        obtain ⟨B, c3, rfl, hc3, hcm3, hB3, ht3, hi3⟩ := hu3
        have HI3 := hZ hi3
        have HCH := hZ (fun V => chunk_c B O m c3 T V HT.out.symm hm1)
        have hBy := Below.refl w3.heap.size w3
        clear CC hx3 hi3 hBx
        go_wp2_with fail
        (with_reducible refine (HCH.out _).mono ?_)
        rintro e w4 ⟨⟨sb, nb, rfl, hsb0, hnb0, hsb, hnb, hch⟩, hb4⟩
        have h34 : Below w3.heap.size w3 w4 := bthen bZ hb4
        have x0 : w4.cell? ⟨w3.heap.size, 0, none⟩ = some (.bool nb3) := bkeep hb4 (cell_new rfl rfl)
        have x1 : w4.cell? ⟨w3.heap.size, 1, none⟩ = some (.slice na3 nl3 nc3) := bkeep hb4 (cell_new rfl rfl)
        have p0 : w4.cell? ⟨w.heap.size, 0, none⟩ = some (.int .i64 (m : Int)) := bkc hb4
        have zp0 := cell_lt p0
        have m0 : w4.cell? ⟨w.heap.size + 1, 0, none⟩ = some (.slice none 0 0) := bkc hb4
        have zm0 := cell_lt m0
        have m0f : w4.frozen? ⟨w.heap.size + 1, 0, none⟩ = false := bkcf (v := .slice none 0 0) hb4
        have d0 : w4.cell? ⟨w.heap.size + 1 + 1, 0, none⟩ = some (.bool false) := bkc hb4
        have zd0 := cell_lt d0
        have d0f : w4.frozen? ⟨w.heap.size + 1 + 1, 0, none⟩ = false := bkcf (v := .bool false) hb4
        have d1 : w4.cell? ⟨w.heap.size + 1 + 1, 1, none⟩ = some (.slice none 0 0) := bkc hb4
        have d1f : w4.frozen? ⟨w.heap.size + 1 + 1, 1, none⟩ = false := bkcf (v := .slice none 0 0) hb4
        have hB : Below w.heap.size w w4 := bthen bZ hb4
        have hz := hB.size
        have CL := hZ (fun V (q : Below w4.heap.size w4 V) => collectR_c 199 #[.pointer (some ⟨sb, 0, none⟩), .pointer (some ⟨nb, 0, none⟩)] B m O (ChIn sb nb B O m c3) V (enters_of Tryz.func199 (by kernel_rfl) rfl)
         (fun n0 S0 hs => chunk_iterD n0 sb nb B O m c3 S0 (fun h => by have := hs sb h; have := q.size; omega) (fun h => by have := hs nb h; have := q.size; omega) hm1 (by omega) (by omega) (by rw [HT.out]; exact hc3) hcm3) (fun W k => ⟨bkeep k (bkeep q hch.1), bkeep k (bkeep q hch.2)⟩) (by omega))
        have hBz := Below.refl w4.heap.size w4
        clear HCH hBy hb4 hsb0 hnb0
        go_wp2_with fail
        (with_reducible refine (CL.out _ ?_).mono ?_); (repeat (first|exact bzR _ _|exact hBz|refine bzD ?_|refine bzN ?_|refine bzS ?_|refine bzA ?_))
        rintro e w5 ⟨⟨a5, c5, rfl, hI5⟩, hb5⟩
        have h45 : Below w4.heap.size w4 w5 := bthen bZ hb5
        have x0 := bkeep h45 x0
        have x1 := bkeep h45 x1
        have p0 : w5.cell? ⟨w.heap.size, 0, none⟩ = some (.int .i64 (m : Int)) := bkc hb5
        have zp0 := cell_lt p0
        have m0 : w5.cell? ⟨w.heap.size + 1, 0, none⟩ = some (.slice none 0 0) := bkc hb5
        have zm0 := cell_lt m0
        have m0f : w5.frozen? ⟨w.heap.size + 1, 0, none⟩ = false := bkcf (v := .slice none 0 0) hb5
        have d0 : w5.cell? ⟨w.heap.size + 1 + 1, 0, none⟩ = some (.bool false) := bkc hb5
        have zd0 := cell_lt d0
        have d0f : w5.frozen? ⟨w.heap.size + 1 + 1, 0, none⟩ = false := bkcf (v := .bool false) hb5
        have d1 : w5.cell? ⟨w.heap.size + 1 + 1, 1, none⟩ = some (.slice none 0 0) := bkc hb5
        have d1f : w5.frozen? ⟨w.heap.size + 1 + 1, 1, none⟩ = false := bkcf (v := .slice none 0 0) hb5
        have hB : Below w.heap.size w w5 := bthen bZ hb5
        have hz := hB.size
        have hGL := matG_len F
        rw [HFF.out.2.2.1] at hGL
        have NC := hZ (fun V (q : Below w5.heap.size w5 V) => newM_c (.slice a5 O c5) (matG F) V (IsL.keep (prs_prow 0) (chunk_rows (f := fun i => (F.flatten.getD i 0).num * (comD F.flatten / ((F.flatten.getD i 0).den : Int))) hI5 (by
         rw [HT.out]
         exact fun k hk => (HI3.out.keep lims_int (h34.trans (h45.mono h34.size))) k hk) (typ_keep ht3 (h34.trans (h45.mono h34.size))) hGL (matG_rct HFF.out.1) (by omega) (fun i j hi hj => by
         rw [matG_at HFF.out.1 (by rw [HFF.out.2.2.1]; exact hi) hj]
         show _ = (F.flatten.getD (i * m + j) 0).num * (comD F.flatten / ((F.flatten.getD (i * m + j) 0).den : Int))
         rw [flatF_get HFF.out.1 (by rw [HFF.out.2.2.1]; exact hi) hj]; rfl)) q) (fun i hi => by rw [matG_rct HFF.out.1 i hi]; omega))
        have hBq := Below.refl w5.heap.size w5
        have hfit := matG_fits HFF.out.1 hm1 hm16 (by rw [HFF.out.2.2.1]; exact hO1) (by rw [HFF.out.2.2.1]; exact o16)
        clear CL hb5 hBz hsb hnb hch
        go_wp2_with fail
        (with_reducible refine (NC.out _ ?_).mono ?_); (repeat (first|exact bzR _ _|exact hBq|refine bzD ?_|refine bzN ?_|refine bzS ?_|refine bzA ?_))
        rintro e w6 ⟨(⟨-, v6, rfl, hv6⟩ | ⟨h, -⟩), hb6⟩
        rotate_left
        · exact absurd hfit h
        have h56 : Below w5.heap.size w5 w6 := bthen bZ hb6
        have x0 := bkeep h56 x0
        have x1 := bkeep h56 x1
        have zx0 := cell_lt x0
        have p0 : w6.cell? ⟨w.heap.size, 0, none⟩ = some (.int .i64 (m : Int)) := bkc hb6
        have zp0 := cell_lt p0
        have m0 : w6.cell? ⟨w.heap.size + 1, 0, none⟩ = some (.slice none 0 0) := bkc hb6
        have zm0 := cell_lt m0
        have m0f : w6.frozen? ⟨w.heap.size + 1, 0, none⟩ = false := bkcf (v := .slice none 0 0) hb6
        have d0 : w6.cell? ⟨w.heap.size + 1 + 1, 0, none⟩ = some (.bool false) := bkc hb6
        have zd0 := cell_lt d0
        have d0f : w6.frozen? ⟨w.heap.size + 1 + 1, 0, none⟩ = false := bkcf (v := .bool false) hb6
        have d1 : w6.cell? ⟨w.heap.size + 1 + 1, 1, none⟩ = some (.slice none 0 0) := bkc hb6
        have d1f : w6.frozen? ⟨w.heap.size + 1 + 1, 1, none⟩ = false := bkcf (v := .slice none 0 0) hb6
        have hB : Below w.heap.size w w6 := bthen bZ hb6
        have hz := hB.size
        have hMT := matG_mt HFF.out.1 HFF.out.2.1 hm1 hm16 (by rw [HFF.out.2.2.1]; exact hO1) (by rw [HFF.out.2.2.1]; exact o16) (hv6.rebase (Nat.zero_le _))
        have HMT := hZ hMT
        have HM6 := hZ (hv6.rebase (show w5.heap.size ≤ _ from by first | exact Nat.le_refl _ | (simp; done)))
        obtain ⟨a6, c6, hv6e⟩ := hv6.lit
        rw [hGL] at hv6e
        subst hv6e
        have HX6 := hZ (HX3.out.keep (h34.trans ((h45.trans (h56.mono h45.size)).mono h34.size)))
        clear NC hb6 hBq hfit hv6 hMT hI5 hGL
        go_upto_region 10 with (fail)
        refine wp_name fun w7 hW7 => ?_
        have hBr := Below.refl w6.heap.size w6
        have h67 : Below w6.heap.size w6 w7 := by rw [hW7]; repeat (first|exact bzR _ _|exact hBr|refine bzD ?_|refine bzN ?_|refine bzS ?_|refine bzA ?_)
        have y0 : w7.cell? ⟨w6.heap.size, 0, none⟩ = some (.slice a6 O c6) := by rw [hW7]; simp [go_sem]
        have x0 := bkeep h67 x0
        have x1 := bkeep h67 x1
        have m0f := bkeepf h67 m0 m0f
        have m0 := bkeep h67 m0
        have d0f := bkeepf h67 d0 d0f
        have d0 := bkeep h67 d0
        have d1f := bkeepf h67 d1 d1f
        have d1 := bkeep h67 d1
        have zm0 := cell_lt m0
        have zd0 := cell_lt d0
        have zy0 := cell_lt y0
        have zx0 := cell_lt x0
        have hB7 : Below w.heap.size w w7 := bthen hB h67
        have HLM := hZ (show Lim w7 (((w7.setCell ⟨w.heap.size + 1, 0, none⟩ (.slice a6 O c6)).setCell ⟨w.heap.size + 1 + 1, 0, none⟩ (.bool nb3)).setCell ⟨w.heap.size + 1 + 1, 1, none⟩ (.slice na3 nl3 nc3)) from (((Lim.refl w7).slice m0 _).bool (cell_far d0 (by simp) _) _).slice (cell_far (cell_far d1 (by simp) _) (by simp) _) _)
        have HOM := hZ (show Out (fun k => k < w5.heap.size) w7 (((w7.setCell ⟨w.heap.size + 1, 0, none⟩ (.slice a6 O c6)).setCell ⟨w.heap.size + 1 + 1, 0, none⟩ (.bool nb3)).setCell ⟨w.heap.size + 1 + 1, 1, none⟩ (.slice na3 nl3 nc3)) from (((Out.refl _ w7).set (fun _ => (by show w.heap.size + 1 < w5.heap.size; omega)) _).set (fun _ => (by show w.heap.size + 1 + 1 < w5.heap.size; omega)) _).set (fun _ => (by show w.heap.size + 1 + 1 < w5.heap.size; omega)) _)
        have HM9 := hZ (IsM.rebase (IsM.out (IsM.keep HM6.out h67) HOM.out (fun k hk h => absurd h (by omega)) HLM.out) (Nat.zero_le _))
        have HX9 := hZ ((HX6.out.keep h67).lim HLM.out)
        have hb9 := bset (bset (bset hB7 (p := ⟨w.heap.size + 1, 0, none⟩) (by simp) (.slice a6 O c6)) (p := ⟨w.heap.size + 1 + 1, 0, none⟩) (by simp; omega) (.bool nb3)) (p := ⟨w.heap.size + 1 + 1, 1, none⟩) (by simp; omega) (.slice na3 nl3 nc3)
        have n1 : ¬ w3.heap.size = w.heap.size + 1 := by omega
        have n2 : ¬ w3.heap.size = w.heap.size + 1 + 1 := by omega
        clear hW7
        go_region
        go_wp2
        refine bodyPost_ret (v := .tuple #[.agg #[.slice a6 O c6], .agg #[.bool nb3, .slice na3 nl3 nc3], .int .i64 0]) (by simp [results, Tryz.results23, go_sem, *]) rfl (HY.out _ _ _ ⟨HM9.out.keep (Below.refl _ _).drew, HMT.out.rc, HMT.out.sz, HMT.out.bd⟩ (HX9.out.keep (Below.refl _ _).drew) hb9.drew)
      · have HR := hZ (show MatNo ins regs code outs 5 from .inr (.inr ⟨HPR.out, ⟨h, HE.out⟩, .inr (by rw [HO.out]; omega), rfl⟩))
        have o16d : decide ((O : Int) > 16) = true := by simp; omega
        go_wp2
        refine bodyPost_ret (v := .tuple #[.agg #[.slice none 0 0], .agg #[.bool false, .slice none 0 0], .int .i64 5]) (by simp [results, Tryz.results23, go_sem, *]) rfl (MatPost.no HR.out ?_)
        repeat exact bZ
    · have HR := hZ (show MatNo ins regs code outs 5 from .inr (.inr ⟨HPR.out, ⟨h, HE.out⟩, .inl (by omega), rfl⟩))
      have h16d : decide (ins > 16) = true := by simpa using h16
      go_wp2
      refine bodyPost_ret (v := .tuple #[.agg #[.slice none 0 0], .agg #[.bool false, .slice none 0 0], .int .i64 5]) (by simp [results, Tryz.results23, go_sem, *]) rfl (MatPost.no HR.out ?_)
      repeat exact bZ
 · have HR := hZ (show MatNo ins regs code outs 80 from .inl ⟨hp, rfl⟩)
   have RC := hZ (fun V (q : Below w.heap.size w V) => rows_no (HC.out.1.keep q) (HC.out.2.keep q) hp)
   clear hp
   go_enter Tryz.func23, Tryz.ntmps23
   go_wp2_with fail
   (with_reducible refine (RC.out _ ?_).mono ?_); (repeat (first|exact bzR _ _|exact hB|refine bzD ?_|refine bzN ?_|refine bzS ?_|refine bzA ?_))
   rintro e w1 ⟨rfl, hb1⟩
   have p0 : w1.cell? ⟨w.heap.size, 0, none⟩ = some (.int .i64 ins) := bkc hb1
   have zp0 := cell_lt p0
   have m0 : w1.cell? ⟨w.heap.size + 1, 0, none⟩ = some (.slice none 0 0) := bkc hb1
   have zm0 := cell_lt m0
   have m0f : w1.frozen? ⟨w.heap.size + 1, 0, none⟩ = false := bkcf (v := .slice none 0 0) hb1
   have d0 : w1.cell? ⟨w.heap.size + 1 + 1, 0, none⟩ = some (.bool false) := bkc hb1
   have zd0 := cell_lt d0
   have d0f : w1.frozen? ⟨w.heap.size + 1 + 1, 0, none⟩ = false := bkcf (v := .bool false) hb1
   have d1 : w1.cell? ⟨w.heap.size + 1 + 1, 1, none⟩ = some (.slice none 0 0) := bkc hb1
   have d1f : w1.frozen? ⟨w.heap.size + 1 + 1, 1, none⟩ = false := bkcf (v := .slice none 0 0) hb1
   have hB : Below w.heap.size w w1 := bthen bZ hb1
   have hz := hB.size
   clear RC
   go_wp2
   refine bodyPost_ret (v := .tuple #[.agg #[.slice none 0 0], .agg #[.bool false, .slice none 0 0], .int .i64 80]) (by simp [results, Tryz.results23, go_sem, *]) rfl (MatPost.no HR.out ?_)
   repeat exact bZ
end
section
open Num
attribute [local go_sem ↓] Go.wp_at_zero Go.wp_at_succ
attribute [local go_sem] Oper.semAt_some
def dR : GridF := [[Rat.divInt 1 2, Rat.divInt (-1) 2], [1, 0]]
theorem d_mat : matG dR = [[1, -1], [2, 0]] := by kernel_rfl
theorem d_den : matD dR = 2 := by kernel_rfl
theorem bd_h : BdQ 8 (Rat.divInt 1 2) := ⟨Nat.le_of_ble_eq_true (by kernel_rfl), Nat.le_of_ble_eq_true (by kernel_rfl)⟩
theorem bd_mh : BdQ 8 (Rat.divInt (-1) 2) := ⟨Nat.le_of_ble_eq_true (by kernel_rfl), Nat.le_of_ble_eq_true (by kernel_rfl)⟩
theorem bd_1 : BdQ 8 1 := ⟨Nat.le_of_ble_eq_true (by kernel_rfl), Nat.le_of_ble_eq_true (by kernel_rfl)⟩
theorem dm_txt : (matTxt [[1, -1], [2, 0]]).toArray = #[91, 91, 49, 32, 45, 49, 93, 32, 91, 50, 32, 48, 93, 93] := by kernel_rfl
theorem dm_2 : (intTxt 2).toArray = #[50] := by kernel_rfl
theorem dm_r : ∀ i, i < ([[1, -1], [2, 0]] : Grid).length → (Lib.join ((([[1, -1], [2, 0]] : Grid).getD i []).map intTxt) [32]).length ≤ 140737488355328 := by
 intro i hi
 rcases (show i = 0 ∨ i = 1 by have : i < 2 := hi; omega) with rfl | rfl
 · exact Nat.le_of_ble_eq_true (by kernel_rfl)
 · exact Nat.le_of_ble_eq_true (by kernel_rfl)
theorem dm_m : (Lib.join (([[1, -1], [2, 0]] : Grid).map rowTxt) [32]).length ≤ 140737488355328 := Nat.le_of_ble_eq_true (by kernel_rfl)
theorem out_low9 {X0 : Nat → Prop} {a b c : World} (h : Out X0 a b) (k : Below a.heap.size b c) : Out X0 a c :=
 ⟨k.os.trans h.os, k.tape.trans h.tape, k.output.trans h.output, Nat.le_trans h.size k.size, fun i hi hx => (k.block i hi).trans (h.block i hi hx)⟩
structure Cnt (nb : Nat) (w0 : World) (k : Nat) (W : World) : Prop where
 c0 : W.cell? ⟨nb, 0, none⟩ = some (.int .i64 (k : Nat))
 f0 : W.frozen? ⟨nb, 0, none⟩ = false
 ty : typOf W nb = some 3
 out : Out (fun q => q = nb) w0 W
theorem Cnt.clo {nb n0 k : Nat} {S : Nat → Prop} {w0 W V : World} (h : Cnt nb w0 k W) (c : Clo n0 S W V) (hn : n0 = w0.heap.size) (hs : S nb) : Cnt nb w0 k V :=
 ⟨c.cell (.inr hs) h.c0, c.frz (.inr hs) h.c0 h.f0, c.typ (.inr hs) h.ty, out_low9 h.out (by subst hn; exact c.low h.out.size)⟩
theorem Cnt.next {nb k : Nat} {w0 W : World} (h : Cnt nb w0 k W) : Cnt nb w0 (k + 1) (W.setCell ⟨nb, 0, none⟩ (.int .i64 ((k : Int) + 1))) ∧ OutT (fun q => q = nb) W (W.setCell ⟨nb, 0, none⟩ (.int .i64 ((k : Int) + 1))) := by
 have ho : Out (fun q => q = nb) W (W.setCell ⟨nb, 0, none⟩ (.int .i64 ((k : Int) + 1))) := Out.set (Out.refl (fun q => q = nb) W) (p := ⟨nb, 0, none⟩) (fun _ => rfl) _
 refine ⟨⟨by rw [cell_here h.c0]; congr 2, by rw [World.frozen?_setCell]; exact h.f0, by rw [typ_set]; exact h.ty, h.out.trans ho⟩, ho, fun q hq hl => by rw [typ_set]⟩
def AtW (T : Array Value) (k : Nat) (a' : Act) : Prop := ∃ a c, a' = { tmps := (((T.setIfInBounds 63 (.int .i64 (k : Int))).setIfInBounds 64 (.slice a 2 c)).setIfInBounds 5 (.int .i64 (k : Int))).setIfInBounds 6 (.slice a 2 c), defers := [] }
theorem d_len (k : Nat) (hk : k < 2) : (toldQ dC (unitsF (2 : Int).toNat (3 : Int).toNat) k).length = 2 := by
 rcases (show k = 0 ∨ k = 1 by omega) with rfl | rfl <;> kernel_rfl
theorem matEx_c {ca oa : Option Addr} {w : World} (hc : InsV w ca 2 dC) (ho : IntsV w oa 2 dO) : Calls Tryz.prog 23 #[.agg #[.int .i64 2, .int .i64 3, .slice ca 2 2, .slice oa 2 2]] w fun e w' => (∃ v u, e = .returned (.tuple #[v, u, .int .i64 0]) ∧ Mt 17000000 [[1, -1], [2, 0]] v w' ∧ IsInt w' u 2) ∧ Below w.heap.size w w' :=
 (show Calls Tryz.prog 23 #[.agg #[.int .i64 2, .int .i64 3, .slice ca 2 2, .slice oa 2 2]] w _ from matrix_c 2 3 ca oa 2 2 dC dO w hc ho).mono fun e w' ⟨⟨v, u, q, h1, h2⟩, hb⟩ => by
  rcases h2 with ⟨h2, -⟩ | ⟨-, -, -, rfl, h, he, hm, hu⟩
  · rcases h2 with ⟨h2, -⟩ | ⟨-, h2, -⟩ | ⟨-, -, h2, -⟩
    · exact absurd d_ok h2
    · rw [d_end] at h2; cases h2
    · rcases h2 with h2 | h2
      · exact absurd h2 (by decide)
      · exact absurd h2 (by decide)
  · rw [d_end] at he
    cases he
    rw [d_outs] at hm hu
    exact ⟨⟨v, u, h1, d_mat ▸ hm, d_den ▸ hu⟩, hb⟩
theorem works9_c (w : World) : Calls Tryz.prog 14 #[] w fun e w' => e = .returned (.bool true) ∧ Below w.heap.size w w' := by
 have hB := Below.refl w.heap.size w
 refine calls_of_wp_marks Tryz.func14 rfl ?_
 simp only [Tryz.ntmps14, List.size_toArray, List.length_cons, List.length_nil, Nat.reduceAdd, Nat.reduceSub, Array.replicate_succ, Array.replicate_zero, List.push_toArray, List.append_toArray, List.nil_append, List.cons_append]
 go_wp2_with fail
 (with_reducible refine (example9_c _).mono ?_)
 rintro e w1 ⟨⟨ca, oa, rfl, hc1, ho1⟩, hb1⟩
 have r0 : w1.cell? ⟨w.heap.size, 0, none⟩ = some (.bool false) := bkc hb1
 have zr0 := cell_lt r0
 have r0f : w1.frozen? ⟨w.heap.size, 0, none⟩ = false := bkcf (v := .bool false) hb1
 have hB : Below w.heap.size w w1 := bthen bZ hb1
 have hz := hB.size
 have HC1 := hZ (And.intro hc1 ho1)
 have hBw := Below.refl w1.heap.size w1
 have RC := hZ (fun V (q : Below w1.heap.size w1 V) => (show Calls Tryz.prog 17 #[.agg #[.int .i64 2, .int .i64 3, .slice (some ca) 2 2, .slice (some oa) 2 2]] V fun e w' => (∃ v, e = .returned (.tuple #[v, .int .i64 0]) ∧ OwnP V.heap.size V w' v dR) ∧ Below V.heap.size V w' from by
  have h := rows_yes (HC1.out.1.keep q) (HC1.out.2.keep q) d_ok d_end
  rw [d_outs] at h
  exact h))
 clear hb1 hc1 ho1
 go_wp2_with fail
 (with_reducible refine (RC.out _ ?_).mono ?_); (repeat (first|exact bzR _ _|exact hBw|refine bzD ?_|refine bzN ?_|refine bzS ?_|refine bzA ?_))
 rintro e w2 ⟨⟨v2, rfl, hv2⟩, hb2⟩
 have h12 : Below w1.heap.size w1 w2 := bthen bZ hb2
 have r0 : w2.cell? ⟨w.heap.size, 0, none⟩ = some (.bool false) := bkc hb2
 have zr0 := cell_lt r0
 have r0f : w2.frozen? ⟨w.heap.size, 0, none⟩ = false := bkcf (v := .bool false) hb2
 have p0 : w2.cell? ⟨w1.heap.size, 0, none⟩ = some (.int .i64 2) := bkc hb2
 have zp0 := cell_lt p0
 have p1 : w2.cell? ⟨w1.heap.size, 1, none⟩ = some (.int .i64 3) := bkc hb2
 have p2 : w2.cell? ⟨w1.heap.size, 2, none⟩ = some (.slice (some ca) 2 2) := bkc hb2
 have p3 : w2.cell? ⟨w1.heap.size, 3, none⟩ = some (.slice (some oa) 2 2) := bkc hb2
 have hB : Below w.heap.size w w2 := bthen bZ hb2
 have hz := hB.size
 have hv := ownP_isL0 hv2
 obtain ⟨a2, c2, hv2e, -, hvw⟩ := hv.view
 replace hv2e : v2 = .slice a2 2 c2 := hv2e
 subst hv2e
 obtain ⟨gb, go, u0, rfl, hu0, hr0⟩ := hvw 0 (by decide)
 obtain ⟨gb', go', u1, e1, hu1, hr1⟩ := hvw 1 (by decide)
 cases e1
 replace hr0 : FRow 0 w2 u0 [Rat.divInt 1 2, Rat.divInt (-1) 2] := hr0
 replace hr1 : FRow 0 w2 u1 [1, 0] := hr1
 obtain ⟨ra, rc, hue⟩ := FrRow.ex hr0
 replace hue : u0 = .slice ra 2 rc := hue
 subst hue
 obtain ⟨sa, sc, hue⟩ := FrRow.ex hr1
 replace hue : u1 = .slice sa 2 sc := hue
 subst hue
 obtain ⟨b, off, rfl, -, m1, f1, l1, k1, m2, f2, l2, k2, x0, x1, x2, x3, xI⟩ := FrRow.at hr0 (show 0 < 2 by decide)
 obtain ⟨b', off', e1, -, n1, g1, i1, j1, n2, g2, i2, j2, y0, y1, y2, y3, yI⟩ := FrRow.at hr0 (show 1 < 2 by decide)
 cases e1
 obtain ⟨q, qo, rfl, -, o1, t1, s1, d1, o2, t2, s2, d2, z0, z1, z2, z3, zI⟩ := FrRow.at hr1 (show 0 < 2 by decide)
 replace xI : IsQP w2 _ (Rat.divInt 1 2) := xI
 replace yI : IsQP w2 _ (Rat.divInt (-1) 2) := yI
 replace zI : IsQP w2 _ 1 := zI
 simp only [Nat.zero_mul, Nat.one_mul, Nat.add_zero] at x0 x1 x2 x3 y0 y1 y2 y3 z0 z1 z2 z3 hu0 hu1
 have HT1 := hZ (fun V (q : Below w2.heap.size w2 V) => (show Calls Tryz.prog 53 #[.agg #[.bool m1, .slice f1 l1 k1, .bool m2, .slice f2 l2 k2]] V fun e w' => e = .returned (.string ⟨#[49, 47, 50]⟩) ∧ Below V.heap.size V w' from by
  have h := pqText_c _ _ 8 V (xI.keep q) bd_h (by decide)
  rw [txt_h] at h; exact h))
 have HT2 := hZ (fun V (q : Below w2.heap.size w2 V) => (show Calls Tryz.prog 53 #[.agg #[.bool n1, .slice g1 i1 j1, .bool n2, .slice g2 i2 j2]] V fun e w' => e = .returned (.string ⟨#[45, 49, 47, 50]⟩) ∧ Below V.heap.size V w' from by
  have h := pqText_c _ _ 8 V (yI.keep q) bd_mh (by decide)
  rw [txt_mh] at h; exact h))
 have HT3 := hZ (fun V (k : Below w2.heap.size w2 V) => (show Calls Tryz.prog 53 #[.agg #[.bool o1, .slice t1 s1 d1, .bool o2, .slice t2 s2 d2]] V fun e w' => e = .returned (.string ⟨#[49]⟩) ∧ Below V.heap.size V w' from by
  have h := pqText_c _ _ 8 V (zI.keep k) bd_1 (by decide)
  rw [txt_1] at h; exact h))
 have HST := hZ (fun V => steps9_c 2 3 (some ca) (some oa) 2 2 2 2 V)
 have HS := hZ (show ∀ V, Below w2.heap.size w2 V → V.cell? ⟨w.heap.size, 0, none⟩ = some (.bool false) ∧ V.frozen? ⟨w.heap.size, 0, none⟩ = false ∧ V.cell? ⟨w1.heap.size, 0, none⟩ = some (.int .i64 2) ∧ V.cell? ⟨w1.heap.size, 1, none⟩ = some (.int .i64 3) ∧ V.cell? ⟨w1.heap.size, 2, none⟩ = some (.slice (some ca) 2 2) ∧ V.cell? ⟨w1.heap.size, 3, none⟩ = some (.slice (some oa) 2 2) ∧
  V.cell? ⟨gb, go, none⟩ = some (.slice (some ⟨b, off, none⟩) 2 rc) ∧ V.cell? ⟨gb, go + 1, none⟩ = some (.slice (some ⟨q, qo, none⟩) 2 sc) ∧
  V.cell? ⟨b, off, none⟩ = some (.bool m1) ∧ V.cell? ⟨b, off + 1, none⟩ = some (.slice f1 l1 k1) ∧ V.cell? ⟨b, off + 2, none⟩ = some (.bool m2) ∧ V.cell? ⟨b, off + 3, none⟩ = some (.slice f2 l2 k2) ∧
  V.cell? ⟨b, off + 4, none⟩ = some (.bool n1) ∧ V.cell? ⟨b, off + 4 + 1, none⟩ = some (.slice g1 i1 j1) ∧ V.cell? ⟨b, off + 4 + 2, none⟩ = some (.bool n2) ∧ V.cell? ⟨b, off + 4 + 3, none⟩ = some (.slice g2 i2 j2) ∧
  V.cell? ⟨q, qo, none⟩ = some (.bool o1) ∧ V.cell? ⟨q, qo + 1, none⟩ = some (.slice t1 s1 d1) ∧ V.cell? ⟨q, qo + 2, none⟩ = some (.bool o2) ∧ V.cell? ⟨q, qo + 3, none⟩ = some (.slice t2 s2 d2) from
  fun V k => ⟨bkeep k r0, bkeepf k r0 r0f, bkeep k p0, bkeep k p1, bkeep k p2, bkeep k p3, bkeep k hu0, bkeep k hu1, bkeep k x0, bkeep k x1, bkeep k x2, bkeep k x3, bkeep k y0, bkeep k y1, bkeep k y2, bkeep k y3, bkeep k z0, bkeep k z1, bkeep k z2, bkeep k z3⟩)
 have HB2 := hZ hB
 clear RC hb2 hv2 hv hvw hu0 hu1 hr0 hr1 xI yI zI x0 x1 x2 x3 y0 y1 y2 y3 z0 z1 z2 z3 hBw hB p0 p1 p2 p3 r0 r0f
 obtain ⟨r0, r0f, p0, p1, p2, p3, c0, c1, x0, x1, x2, x3, y0, y1, y2, y3, z0, z1, z2, z3⟩ := HS.out w2 (Below.refl _ _)
 have hBw := Below.refl w2.heap.size w2
 have zr0 := cell_lt r0
 have hfn := fun W f bs cs => eqlF9 (P := Tryz.prog) W 40 f bs cs Tryz.underlying40
 go_wp2_with fail
 (with_reducible refine (HT1.out _ ?_).mono ?_); (repeat (first|exact bzR _ _|exact hBw|refine bzD ?_|refine bzN ?_|refine bzS ?_|refine bzA ?_))
 rintro e w3 ⟨rfl, hb3⟩
 have hk3 : Below w2.heap.size w2 w3 := bthen bZ hb3
 obtain ⟨r0, r0f, p0, p1, p2, p3, c0, c1, x0, x1, x2, x3, y0, y1, y2, y3, z0, z1, z2, z3⟩ := HS.out w3 hk3
 clear hBw hb3
 have hBw := hk3
 go_wp2_with fail
 (with_reducible refine (HT2.out _ ?_).mono ?_); (repeat (first|exact bzR _ _|exact hBw|refine bzD ?_|refine bzN ?_|refine bzS ?_|refine bzA ?_))
 rintro e w4 ⟨rfl, hb4⟩
 have hk4 : Below w2.heap.size w2 w4 := bthen bZ hb4
 obtain ⟨r0, r0f, p0, p1, p2, p3, c0, c1, x0, x1, x2, x3, y0, y1, y2, y3, z0, z1, z2, z3⟩ := HS.out w4 hk4
 clear hBw hb4
 have hBw := hk4
 go_wp2_with fail
 (with_reducible refine (HT3.out _ ?_).mono ?_); (repeat (first|exact bzR _ _|exact hBw|refine bzD ?_|refine bzN ?_|refine bzS ?_|refine bzA ?_))
 rintro e w5 ⟨rfl, hb5⟩
 have hk5 : Below w2.heap.size w2 w5 := bthen bZ hb5
 obtain ⟨r0, r0f, p0, p1, p2, p3, c0, c1, x0, x1, x2, x3, y0, y1, y2, y3, z0, z1, z2, z3⟩ := HS.out w5 hk5
 clear hBw hb5
 have hBw := hk5
 go_wp2_with fail
 (with_reducible refine (HST.out _).mono ?_)
 rintro e w6 ⟨⟨pb0, rfl, -⟩, hb6⟩
 have hk6 : Below w2.heap.size w2 w6 := bthen bZ hb6
 obtain ⟨r0, r0f, p0, p1, p2, p3, -⟩ := HS.out w6 hk6
 have zp0 := cell_lt p0
 have hBv := Below.refl w6.heap.size w6
 clear hBw hb6 c0 c1 x0 x1 x2 x3 y0 y1 y2 y3 z0 z1 z2 z3
 go_wp2_with fail
 (with_reducible refine (HST.out _).mono ?_)
 rintro e w7 ⟨⟨pb, rfl, s0, s1, s2, s3⟩, hb7⟩
 have h67 : Below w6.heap.size w6 w7 := bthen bZ hb7
 have hk7 : Below w2.heap.size w2 w7 := bthen hk6 h67
 have n0 : w7.cell? ⟨w6.heap.size, 0, none⟩ = some (.int .i64 ((0 : Nat) : Int)) := bkeep hb7 (cell_new rfl rfl)
 have nf : w7.frozen? ⟨w6.heap.size, 0, none⟩ = false := bkeepf hb7 (cell_new rfl rfl) (by simp [go_sem])
 have nt : typOf w7 w6.heap.size = some 3 := typ_keep (typ_fresh rfl) hb7
 have zn := cell_lt n0
 have hzc : w1.heap.size ≤ w6.heap.size := Nat.le_trans h12.size hk6.size
 have HCB := hZ (show ∀ b off, some ca = some ⟨b, off, none⟩ → 0 < dC.length → ¬ b = w6.heap.size from fun b off e hl => by
  rcases HC1.out.1 with h0 | ⟨b', off', h1, _, h3⟩
  · exact absurd h0 (by decide)
  · rw [e] at h1; cases h1
    have := cell_lt (h3 0 hl).c0
    omega)
 obtain ⟨nb, hnb⟩ : ∃ nb, w6.heap.size = nb := ⟨_, rfl⟩
 have hnb2 : w2.heap.size ≤ nb := by rw [← hnb]; exact hk6.size
 rw [hnb] at n0 nf nt zn HCB ⊢
 have HC7 := hZ (show Cnt nb w7 0 w7 from ⟨n0, nf, nt, Out.refl _ _⟩)
 have HST7 := hZ (show StepsInF w7.heap.size (fun q => q = nb) pb 2 3 (some ca) (some oa) 2 2 dC dO w7 from ⟨s0, s1, s2, s3, HC1.out.1.keep (bthen h12 hk7), HC1.out.2.keep (bthen h12 hk7), (fun q hq => by subst hq; exact zn), Nat.le_refl _, fun b off e hl hq => HCB.out b off e hl hq⟩)
 clear hnb hb7 s0 s1 s2 s3 n0 nf nt h67 hBv hfn
 go_wp2
 refine wp_rangeX (gf := 103) (lb := #[.pointer (some ⟨pb, 0, none⟩)]) (by simp [Act.eval]) (enters_of Tryz.func103 (by kernel_rfl) rfl)
  (stepsF_yes (n0 := w7.heap.size) (S0 := fun q => q = nb) (M := 2) d_ok d_told) (Nat.le_refl _)
  (fun W h => HST7.out.keep h) (fun _ _ _ h => by obtain ⟨v, b, base, rfl, _⟩ := h; rfl)
  (fun k S W => S = (fun q => q = nb) ∧ Cnt nb w7 k W) (fun _ _ _ _ => False)
  (fun k S X Y h c => ⟨h.1, h.2.clo c rfl (by rw [h.1])⟩) (fun _ _ _ _ _ h _ => h.elim)
  (fun k S X h q hq => by obtain ⟨rfl, hc⟩ := h; subst hq; exact ⟨_, hc.ty, by decide⟩) (fun _ _ _ _ h => h.elim) ⟨rfl, HC7.out⟩
  (fun T k args S a' X => AtW T k a') (fun k args S a' X l o o' _ h1 h2 h => h)
  (fun k args X q h hq => h.cells hq) ?assign ?body ?done ?stop
 case stop => intro D c k S Y _ _ h _; exact h.elim
 case assign =>
  rintro y k args S X Kk hk hi ⟨v, b, base, rfl, -, hv⟩ hxs hKk
  obtain ⟨c9, hv9, -⟩ := hv
  have hl2 : (toldQ dC (unitsF (2 : Int).toNat (3 : Int).toNat) k).length = 2 := d_len k hk
  replace hv9 : v = .slice (some ⟨b, 0, none⟩) 2 c9 := by rw [hv9]; show Value.slice _ (toldQ dC (unitsF (2 : Int).toNat (3 : Int).toNat) k).length _ = _; rw [hl2]
  subst hv9
  clear hl2
  gi_wp2
  exact hKk _ _ (Below.refl _ _) hi ⟨some ⟨b, 0, none⟩, c9, by simp⟩
 case body =>
  rintro y k args S a' w8 hk ⟨rfl, hC⟩ ⟨va, vc, rfl⟩
  have c0 := hC.c0
  have cf := hC.f0
  have zc := cell_lt c0
  have hw1 : wrap64 ((k : Int) + 1) = (k : Int) + 1 := by unfold wrap64; omega
  have HN := hZ hC.next
  simp only [List.setIfInBounds_toArray, List.set_cons_succ, List.set_cons_zero]
  clear hC
  gi_wp2
  exact ⟨⟨HN.out.2.1.mono fun _ _ h => .inl h, fun q hq hl => by rw [typ_set]⟩, _, GrewX.same _ _ _, rfl, HN.out.1⟩
 case done =>
  rintro D S Y hD ⟨-, hC⟩ hK
  have c0 := hC.c0
  have hkY : Below w2.heap.size w2 Y := hk7.trans (hC.out.to_below (fun q hq _ e => by omega) hk7.size)
  obtain ⟨r0, r0f, p0, p1, p2, p3, -⟩ := HS.out Y hkY
  have zr := cell_lt r0
  have zp := cell_lt p0
  have zc := cell_lt c0
  have hDl := (Array.getElem?_eq_some_iff.1 hK).1
  have HK := hZ hK
  have hbY := Below.refl Y.heap.size Y
  have MX := hZ (fun V (q : Below Y.heap.size Y V) => matEx_c (HC1.out.1.keep (bthen h12 (bthen hkY q))) (HC1.out.2.keep (bthen h12 (bthen hkY q))))
  clear hK hC
  go_wp2_with fail
  (with_reducible refine (MX.out _ ?_).mono ?_); (repeat (first|exact bzR _ _|exact hbY|refine bzD ?_|refine bzN ?_|refine bzS ?_|refine bzA ?_))
  rintro e w8 ⟨⟨v8, u8, rfl, hv8, hu8⟩, hb8⟩
  have h8 : Below Y.heap.size Y w8 := bthen bZ hb8
  have HM8 := hZ hv8
  have HU8 := hZ hu8
  obtain ⟨a8, c8, hv8e⟩ := hv8.m.lit
  replace hv8e : v8 = .agg #[.slice a8 2 c8] := hv8e
  subst hv8e
  obtain ⟨n8, i8, l8, k8, rfl⟩ := hu8.lit
  have c0 := bkeep h8 c0
  have zc := cell_lt c0
  have MT := hZ (fun V (q : Below w8.heap.size w8 V) => (show Calls Tryz.prog 93 #[.agg #[.slice a8 2 c8]] V fun e w' => e = .returned (.string ⟨#[91, 91, 49, 32, 45, 49, 93, 32, 91, 50, 32, 48, 93, 93]⟩) ∧ Below V.heap.size V w' from by
   have h := matText_c _ [[1, -1], [2, 0]] 17000000 V ((HM8.out.keep q).m) (by decide) (by decide) HM8.out.bd (by decide) dm_r dm_m
   rw [dm_txt] at h; exact h))
  have hbv8 := Below.refl w8.heap.size w8
  clear MX hb8 hbY hu8 hv8
  go_wp2_with fail
  (with_reducible refine (MT.out _ ?_).mono ?_); (repeat (first|exact bzR _ _|exact hbv8|refine bzD ?_|refine bzN ?_|refine bzS ?_|refine bzA ?_))
  rintro e w9 ⟨rfl, hb9⟩
  have h89 : Below w8.heap.size w8 w9 := bthen bZ hb9
  have u0 : w9.cell? ⟨w8.heap.size + 1, 0, none⟩ = some (.bool n8) := bkeep hb9 (by simp [go_sem])
  have u1 : w9.cell? ⟨w8.heap.size + 1, 1, none⟩ = some (.slice i8 l8 k8) := bkeep hb9 (by simp [go_sem])
  have zu := cell_lt u0
  have IT := hZ (fun V (q : Below w9.heap.size w9 V) => (show Calls Tryz.prog 28 #[.agg #[.bool n8, .slice i8 l8 k8]] V fun e w' => e = .returned (.string ⟨#[50]⟩) ∧ Below V.heap.size V w' from by
   have h := intText_c _ 2 8 V (HU8.out.keep (bthen h89 q)) (by unfold Bd; decide) (by decide)
   rw [dm_2] at h; exact h))
  have hbv9 := Below.refl w9.heap.size w9
  clear MT hb9 hbv8
  go_wp2_with fail
  (with_reducible refine (IT.out _ ?_).mono ?_); (repeat (first|exact bzR _ _|exact hbv9|refine bzD ?_|refine bzN ?_|refine bzS ?_|refine bzA ?_))
  rintro e w10 ⟨rfl, hb10⟩
  have h910 : Below w9.heap.size w9 w10 := bthen bZ hb10
  have hY10 : Below Y.heap.size Y w10 := bthen h8 (bthen h89 h910)
  have h210 := bthen hkY hY10
  obtain ⟨r0, r0f, -⟩ := HS.out w10 h210
  have zr := cell_lt r0
  have hB10 := bthen HB2.out h210
  have hs10 := hY10.size
  have hrD : w.heap.size < D := by have := cell_lt (HS.out w2 (Below.refl _ _)).1; have := hk7.size; omega
  clear IT hb10 hbv9 u0 u1 c0 zc p0 p1 p2 p3 zp
  go_wp2
  refine ⟨by simp, .inl ⟨_, _, rfl, run_takeDeferred (b := D) (ds := []) ?_, ?_⟩⟩
  · exact (Below.heap_setCell _ _ _ D (by simp; omega)).trans ((hY10.block D hDl).trans HK.out)
  · have hfin := cell_put (D := D) (cell_here r0 (.bool true)) (by simp; omega) (.deferred none)
    refine ⟨.bool true, ?_, rfl, b_put (bset hB10 (by show w.heap.size ≤ w.heap.size; omega) _) (by omega) _⟩
    simp [results, Tryz.results14, go_sem, hfin]
end
end Go.Proofs.YtbmaffijncapiaaGreatDoor
namespace Go.Proofs.YtbmaffijncapiaaGreatDoor.denoteHoldsRow
open Go.ChangeShapes Go.WideShapes Go.ChangeAt Go.RowKit
theorem own : ownKnob Tryz.prog.godebug = none := by kernel_rfl
end Go.Proofs.YtbmaffijncapiaaGreatDoor.denoteHoldsRow
