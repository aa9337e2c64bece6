/- Texts of this seat, laid together: DwW, DwWu, DwWRa. What each theorem proves, and under which conditions, its statement says. -/
import Derived.Test.YtbmaffijncapiaaGreatDoorH02
import Derived.Test.YtbmaffijncapiaaGreatDoorCards
import Derived.Test.YtbmaffijncapiaaGreatDoorTie
import Derived.ProofKit
import Derived.OpenShut
import Derived.Lay
import Derived.SevenTiedAt
import Derived.Deep.DeepHandedRow
import Derived.Lib.LaidTab
set_option maxRecDepth 100000
set_option maxHeartbeats 32000000
set_option linter.unusedVariables false
set_option linter.unusedSimpArgs false
namespace Go.Proofs.YtbmaffijncapiaaGreatDoor
open Go.ChangeShapes Go.WideShapes Go.ChangeAt Go.RowKit
section
open Num
attribute [local go_sem ↓] Go.wp_at_zero Go.wp_at_succ
theorem gridI_bd {w : World} {v : Value} {g : Grid} (h : GridI w v g) : BdM 64 g := fun i j => by
 obtain ⟨a, c, -, h⟩ := h
 unfold gat
 by_cases hi : i < g.length
 · obtain ⟨b, off, u, -, -, a', c', -, h5⟩ := h i hi
   by_cases hj : j < (g.getD i []).length
   · obtain ⟨b', off', -, -, h6⟩ := h5 j hj
     unfold I64 at h6; unfold Bd; omega
   · rw [List.getD_eq_getElem?_getD (l := g.getD i []), List.getElem?_eq_none (by omega)]; exact bd_zero
 · rw [List.getD_eq_getElem?_getD (l := g), List.getElem?_eq_none (by omega)]; exact bd_zero
theorem denoteHolds_h (ins regs : Int) (ca oa : Option Addr) (cc oc : Nat) (code : List Ins) (outs : List Int) (vg : Value) (g : Grid) (den : Int) (w : World) (hc : InsV w ca cc code) (ho : IntsV w oa oc outs) (hg : GridI w vg g) (hl : ∀ k, k < g.length → (g.getD k []).length ≤ 1048576) (hd : I64 den) :
 Calls Tryz.prog 7 #[.agg #[.int .i64 ins, .int .i64 regs, .slice ca code.length cc, .slice oa outs.length oc], vg, .int .i64 den] w fun e w' => e = .returned (.bool true) ∧ Below w.heap.size w w' := by
 have HC := hZ (And.intro hc ho)
 have HG := hZ hg
 have HL := hZ hl
 have HD := hZ hd
 have HBM := hZ (gridI_bd hg)
 have LP := hZ (fun V => long9_c ins regs ca oa code.length cc outs.length oc V)
 obtain ⟨ga, gc, rfl, hgv⟩ := hg
 have HV := hZ hgv
 have hB := Below.refl w.heap.size w
 clear hc ho hgv hl hd
 go_enter Tryz.func7, Tryz.ntmps7
 go_wp2_with fail
 refine (works9_c _).mono ?_
 rintro e w1 ⟨rfl, hb1⟩
 have p0 : w1.cell? ⟨w.heap.size, 0, none⟩ = some (.int .i64 ins) := bkc hb1
 have zp0 := cell_lt p0
 have p1 : w1.cell? ⟨w.heap.size, 1, none⟩ = some (.int .i64 regs) := bkc hb1
 have p2 : w1.cell? ⟨w.heap.size, 2, none⟩ = some (.slice ca code.length cc) := bkc hb1
 have p3 : w1.cell? ⟨w.heap.size, 3, none⟩ = some (.slice oa outs.length oc) := bkc hb1
 have hB : Below w.heap.size w w1 := bthen bZ hb1
 have hz := hB.size
 clear hb1
 go_wp2_with fail
 (with_reducible refine (LP.out _).mono ?_)
 rintro e w2 ⟨⟨b2, rfl⟩, hb2⟩
 have p0 : w2.cell? ⟨w.heap.size, 0, none⟩ = some (.int .i64 ins) := bkc hb2
 have zp0 := cell_lt p0
 have p1 : w2.cell? ⟨w.heap.size, 1, none⟩ = some (.int .i64 regs) := bkc hb2
 have p2 : w2.cell? ⟨w.heap.size, 2, none⟩ = some (.slice ca code.length cc) := bkc hb2
 have p3 : w2.cell? ⟨w.heap.size, 3, none⟩ = some (.slice oa outs.length oc) := bkc hb2
 have hB : Below w.heap.size w w2 := bthen bZ hb2
 have hz := hB.size
 clear LP hb2
 cases b2 with
 | true =>
  go_wp2
  go_ret
  exact ⟨rfl, bZ⟩
 | false =>
 by_cases h16 : (16 : Int) < (g.length : Int)
 · go_wp2
   go_ret
   exact ⟨rfl, bZ⟩
 have hn16 : g.length ≤ 16 := by omega
 have HB2 := hZ hB
 have h22 := Below.refl w2.heap.size w2
 have HP := hZ (show ∀ W, Below w2.heap.size w2 W → W.cell? ⟨w.heap.size, 0, none⟩ = some (.int .i64 ins) ∧ W.cell? ⟨w.heap.size, 1, none⟩ = some (.int .i64 regs) ∧ W.cell? ⟨w.heap.size, 2, none⟩ = some (.slice ca code.length cc) ∧ W.cell? ⟨w.heap.size, 3, none⟩ = some (.slice oa outs.length oc) from fun W q => ⟨bkeep q p0, bkeep q p1, bkeep q p2, bkeep q p3⟩)
 go_wp2
 go_loopw [7, 31] (fun v x wr => ∃ k : Nat, k ≤ g.length ∧ x = .int .i64 k ∧ Hid (OwnL 68 (RowO IsInt 50 w2.heap.size) w2 wr v (g.take k))) (fun _ x _ => g.length - (intOf x).toNat)
 case atStart => exact ⟨0, Nat.zero_le _, rfl, hZ (OwnL.nil _ _ h22)⟩
 case round =>
  obtain ⟨k, hk, rfl, hO⟩ := hrel
  have hBr := hO.out.bel
  have hlen : (g.take k).length = k := by rw [List.length_take]; omega
  have HLEN := hZ hlen
  obtain ⟨va, vc, hvv⟩ := hO.out.ex
  rw [hlen] at hvv
  subst hvv
  clear hlen
  by_cases hlt : k < g.length
  · have hltI : (k : Int) < (g.length : Int) := by omega
    obtain ⟨gb, go, u, rfl, hu, hrow⟩ := HV.out k hlt
    have hr2 := hrow.keep (bthen HB2.out hBr)
    obtain ⟨ra, rc, rfl, -⟩ := hrow
    have hl3 := HL.out k hlt
    have HT := hZ (take_getD [] hlt)
    have hu2 := bkeep (bthen HB2.out hBr) hu
    obtain ⟨l, hle⟩ : ∃ l, g.getD k [] = l := ⟨_, rfl⟩
    rw [hle] at hr2 hu2 hl3 HT
    have zu := cell_lt hu2
    have LC := hZ (fun W (q : Below wr.heap.size wr W) => list9_c (.slice ra l.length rc) l W (hr2.keep q) (by omega))
    have hLL : ((g.take k).length + 1) * 24 ≤ 140737488355328 := by rw [HLEN.out]; omega
    have hLM : (g.take k).length + 1 ≤ maxLen := by rw [HLEN.out]; unfold maxLen; omega
    have hBw := Below.refl wr.heap.size wr
    clear hu hr2 hle
    go_wp2_with fail
    (with_reducible refine (LC.out _ ?_).mono ?_); (repeat (first|exact bzR _ _|exact hBw|refine bzD ?_|refine bzN ?_|refine bzS ?_|refine bzA ?_))
    rintro e w5 ⟨⟨v5, rfl, hr5⟩, hb5⟩
    have hb5' : Below wr.heap.size wr w5 := bthen bZ hb5
    have HR5 := hZ (show RowO IsInt 50 w2.heap.size w5 v5 l from hr5.rebase (show w2.heap.size ≤ _ from Nat.le_trans hBr.size (show Below wr.heap.size wr _ by repeat (first|exact bzR _ _|exact hBw|refine bzD ?_|refine bzN ?_|refine bzS ?_|refine bzA ?_)).size))
    have HO5 := hZ (hO.out.below (prs_rowO lims_int _ _) hb5')
    obtain ⟨a5, c5, rfl⟩ := hr5.ex
    clear LC hr5 hb5 hO
    go_wp2_with (at_builtin; refine appL elRow (prs_rowO lims_int _ _) (by decide) (by rfl) (by rfl) (HO5.out.below (prs_rowO lims_int _ _) (bal (Below.refl _ _) _)) (HR5.out.keep lims_int (bal (Below.refl _ _) _)) (by rfl) (by rfl) (cell_new (by simp) rfl) hLL hLM ?_)
    intro v' w8 hO8 hk8
    have HO8 := hZ hO8
    rw [← HT.out] at HO8
    clear hO8 hk8
    go_wp2
    exact ⟨⟨k + 1, hlt, by go_num, HO8⟩, meas hlt (by go_num) rfl⟩
  · obtain rfl : k = g.length := by omega
    have hltJ : ¬ (g.length : Int) < (g.length : Int) := by omega
    rw [List.take_length] at hO
    have HU1 := hZ (show IsL 68 (PRow 0) 0 wr (.slice va g.length vc) g from (hO.out.isL.mono fun u x h => h.row.rebase (Nat.zero_le _)).rebase (Nat.zero_le _))
    obtain ⟨p0, p1, p2, p3⟩ := HP.out wr hBr
    have hB := bthen HB2.out hBr
    have zp := cell_lt p0
    have nc := hZ (fun W (q : Below wr.heap.size wr W) => newM_c (.slice va g.length vc) g W (HU1.out.keep (prs_prow 0) q) (fun i hi => Nat.le_trans (HL.out i hi) (by decide)))
    have hBw1 := Below.refl wr.heap.size wr
    clear hO HP
    go_wp2_with fail
    (with_reducible refine (nc.out _ ?_).mono ?_); (repeat (first|exact bzR _ _|exact hBw1|refine bzD ?_|refine bzN ?_|refine bzS ?_|refine bzA ?_))
    rintro e w3 ⟨(⟨hf, v3, rfl, hv3⟩ | ⟨hf, rfl⟩), hb3⟩
    ·
     have p0 : w3.cell? ⟨w.heap.size, 0, none⟩ = some (.int .i64 ins) := bkc hb3
     have zp0 := cell_lt p0
     have p1 : w3.cell? ⟨w.heap.size, 1, none⟩ = some (.int .i64 regs) := bkc hb3
     have p2 : w3.cell? ⟨w.heap.size, 2, none⟩ = some (.slice ca code.length cc) := bkc hb3
     have p3 : w3.cell? ⟨w.heap.size, 3, none⟩ = some (.slice oa outs.length oc) := bkc hb3
     have hB : Below w.heap.size w w3 := bthen bZ hb3
     have hz := hB.size
     have HM := hZ (fits_mt hf (hv3.rebase (Nat.zero_le _)) HBM.out)
     obtain ⟨ma, mc, rfl⟩ := hv3.lit
     have HF := hZ hf
     clear nc hv3 hf hb3
     go_upto_region 14 with (fail)
     refine wp_name fun w6 hW6 => ?_
     have h36 : Below w3.heap.size w3 w6 := by rw [hW6]; repeat (first | exact Below.refl _ _ | refine Below.drew ?_ | refine below_drewN ?_ _ | refine bset ?_ (by simp <;> omega) _ | refine bal ?_ _)
     have m0 : w6.cell? ⟨w3.heap.size, 0, none⟩ = some (.slice ma g.length mc) := by rw [hW6]; repeat (first | (refine cell_new ?_ rfl; first | (with_reducible rfl) | (simp only [World.size_alloc]; done)) | (with_reducible refine cell_drew ?_) | (with_reducible refine cell_far ?_ (addr_ne (by omega)) _))
     clear hW6
     have hB6 := bthen hB h36
     have HM6 := hZ (HM.out.keep h36)
     have q0 := bkeep h36 p0
     have q1 := bkeep h36 p1
     have q2 := bkeep h36 p2
     have q3 := bkeep h36 p3
     clear p0 p1 p2 p3 hB HM
     have OC := hZ (fun V => of_c den V HD.out.1 HD.out.2)
     have IC := hZ (fun vd V (b : World) (hv : IsInt b vd den) (qb : Below b.heap.size b V) (q : Below w6.heap.size w6 V) => is_cQ ins regs ca oa cc oc code outs (.agg #[.slice ma g.length mc]) vd g den 64 V (HC.out.1.keep (bthen hB6 q)) (HC.out.2.keep (bthen hB6 q)) (HM6.out.keep q) (hv.keep qb) (by have := HD.out; unfold I64 at this; unfold Bd; omega) (by decide))
     have HST := hZ (show ∀ V, Below w6.heap.size w6 V → V.cell? ⟨w.heap.size, 0, none⟩ = some (.int .i64 ins) ∧ V.cell? ⟨w.heap.size, 1, none⟩ = some (.int .i64 regs) ∧ V.cell? ⟨w.heap.size, 2, none⟩ = some (.slice ca code.length cc) ∧ V.cell? ⟨w.heap.size, 3, none⟩ = some (.slice oa outs.length oc) ∧ V.cell? ⟨w3.heap.size, 0, none⟩ = some (.slice ma g.length mc) from fun V q => ⟨bkeep q q0, bkeep q q1, bkeep q q2, bkeep q q3, bkeep q m0⟩)
     have hBw := Below.refl w6.heap.size w6
     go_region_held3 (fun V => V.cell? ⟨w.heap.size, 0, none⟩ = some (.int .i64 ins) ∧ V.cell? ⟨w.heap.size, 1, none⟩ = some (.int .i64 regs) ∧ V.cell? ⟨w.heap.size, 2, none⟩ = some (.slice ca code.length cc) ∧ V.cell? ⟨w.heap.size, 3, none⟩ = some (.slice oa outs.length oc) ∧ V.cell? ⟨w3.heap.size, 0, none⟩ = some (.slice ma g.length mc))
      (first | (refine HST.out _ ?_; (repeat (first|exact bzR _ _|exact hBw|refine bzD ?_|refine bzN ?_|refine bzS ?_|refine bzA ?_)); done) | fail)
      (first
      | (go_at_call 45; (with_reducible refine (OC.out _).mono ?_); rintro e w7 ⟨⟨vd, rfl, hx⟩, hb7⟩; (replace hBw : Below w6.heap.size w6 w7 := bthen bZ hb7); have HX := hZ hx; have hy7 := Below.refl w7.heap.size w7)
      | (go_at_call 44; (with_reducible refine (IC.out _ _ _ HX.out ?_ ?_).mono ?_); (repeat (first|exact bzR _ _|exact hy7|refine bzD ?_|refine bzN ?_|refine bzS ?_|refine bzA ?_)); (repeat (first|exact bzR _ _|exact hBw|refine bzD ?_|refine bzN ?_|refine bzS ?_|refine bzA ?_)); rintro e w8 ⟨⟨b8, q8, rfl, hr⟩, hb8⟩; (replace hBw : Below w6.heap.size w6 w8 := bthen bZ hb8); have HR8 := hZ hr)
      | fail)
     all_goals
      obtain ⟨p0, p1, p2, p3, m0⟩ := HST.out w8 hBw
      have zp := cell_lt p0
      have hB8 := bthen hB6 hBw
      clear OC IC HX HST hr hb8 hb7
      by_cases hdz : den = 0
      · subst hdz
        obtain ⟨rfl, rfl⟩ := holds_zero HR8.out
        go_wp2
        go_ret
        exact ⟨rfl, bZ⟩
      · have hdI : (den == 0) = false := beq_eq_false_iff_ne.2 hdz
        have HDZ := hZ hdz
        have RC := hZ (fun V (q : Below w8.heap.size w8 V) => rRows_c ins regs ca oa cc oc code outs V (HC.out.1.keep (bthen hB8 q)) (HC.out.2.keep (bthen hB8 q)))
        have hy8 := Below.refl w8.heap.size w8
        clear hdz
        go_wp2_with fail
        (with_reducible refine (RC.out _ ?_).mono ?_); (repeat (first|exact bzR _ _|exact hy8|refine bzD ?_|refine bzN ?_|refine bzS ?_|refine bzA ?_))
        rintro e w9 ⟨⟨vs, vo, q9, rfl, hrr⟩, hb9⟩
        have h89 : Below w8.heap.size w8 w9 := bthen bZ hb9
        have hB9 := bthen hB8 h89
        obtain ⟨rfl, hh⟩ := holds_det HDZ.out HR8.out hrr
        rcases hh with ⟨hq0, rfl⟩ | ⟨rfl, h, he, hp, hs, hiff⟩
        · have hqI : (q8 == 0) = false := beq_eq_false_iff_ne.2 hq0
          have hqq : (q8 == q8) = true := by simp
          clear hq0 hrr hb9 RC HR8
          go_wp2
          go_ret
          exact ⟨rfl, bZ⟩
        · have hs1 := hs
          obtain ⟨va2, vc2, rfl⟩ := hs.ex
          have HS := hZ hs1
          have HF := hZ (endF_ok hp he)
          have hFL := outsF_len outs h
          obtain ⟨F, hF⟩ : ∃ F, outsF outs h = F := ⟨_, rfl⟩
          obtain ⟨O, hO⟩ : ∃ O, outs.length = O := ⟨_, rfl⟩
          rw [hF] at HS HF hFL hiff ⊢
          rw [hO] at hFL hiff
          rw [hFL] at HS ⊢
          have HFL := hZ hFL
          have HI := hZ hiff
          have HM9 := hZ (HM6.out.keep (bthen (show Below w6.heap.size w6 w8 from hBw) h89))
          have hc0 : (g.getD 0 []).length = cols g := rfl
          have hg0 := HM9.out.sz.1
          obtain ⟨gb, go, u0, rfl, hu0, hrow0⟩ := HV.out 0 hg0
          obtain ⟨ra0, rc0, rfl, -⟩ := hrow0
          have q00 : w9.cell? ⟨gb, go, none⟩ = some (.slice ra0 (g.getD 0 []).length rc0) := by simpa using bkeep hB9 hu0
          rw [hc0] at q00
          have p0 := bkeep h89 p0
          have zp := cell_lt p0
          have zq := cell_lt q00
          have hgI : ((g.length : Nat) : Int) = g.length := rfl
          have hg0I : (0 : Int) < (g.length : Int) := by omega
          obtain ⟨cg, hcg⟩ : ∃ cg, cols g = cg := ⟨_, rfl⟩
          have HCG := hZ hcg
          have hcg16 : cg ≤ 16 := by have := HM9.out.sz.2.2.2; omega
          have hFR := (endF_ok hp he).1
          rw [hF] at hFR
          rw [hcg] at q00
          have h99 := Below.refl w9.heap.size w9
          clear hs hs1 hp he hF hO hFL hiff hrr hb9 RC HR8 hu0 hc0 hcg hgI hg0 m0 p1 p2 p3 hn16 HF
          by_cases hOg : O = g.length
          · by_cases hic : ins = (cg : Int)
            · have d1 : ((O : Int) == (g.length : Int)) = true := by simp [hOg]
              have d2 : (ins == (cg : Int)) = true := by simp [hic]
              have HX := hZ (And.intro hOg hic)
              have HFR := hZ (show ∀ i, i < g.length → (F.getD i []).length = cg from fun i hi => by have := hFR i (by rw [HFL.out, hOg]; exact hi); omega)
              clear hOg hic
              go_wp2
              go_quiet (fail)
              go_wp2
              go_loopw [16, 17] (fun v x wr => ∃ (i : Nat) (b : Bool), i ≤ g.length ∧ v = .bool b ∧ x = .int .i64 i ∧ Below w9.heap.size w9 wr ∧ Hid (b = true ↔ AllEq F g den i)) (fun _ x _ => g.length - (intOf x).toNat)
              case atStart => exact ⟨0, true, Nat.zero_le _, rfl, rfl, bZ, hZ (by simp [AllEq.zero])⟩
              case round =>
               rename World => wr
               obtain ⟨i, b, hi, rfl, rfl, hBr, hE⟩ := hrel
               have hBR := bthen hB9 hBr
               cases b with
               | false =>
                have hb8 : b8 = false := by
                 cases b8
                 · rfl
                 · exact absurd (hE.out.2 fun s t hs ht => (HI.out.1 rfl).2.2 s t (by omega) ht) (by simp)
                subst hb8
                clear HI hE
                go_wp2
                go_ret
                exact ⟨rfl, bZ⟩
               | true =>
                by_cases hlt : i < g.length
                · have hltI : (i : Int) < (g.length : Int) := by omega
                  obtain ⟨gb', go', u1, e1, hu1, hrow1⟩ := HV.out i hlt
                  cases e1
                  have hR1 := hZ (hrow1.keep hBR)
                  obtain ⟨ra1, rc1, rfl, -⟩ := hrow1
                  have hrl := HM9.out.rc i hlt
                  rw [HCG.out] at hrl
                  have h1 := bkeep hBR hu1
                  obtain ⟨rb, vc3, e2, -, -, -, -, hcw⟩ := (HS.out.keep hBr).view (by rw [HFL.out, HX.out.1]; omega)
                  obtain ⟨rfl, -, rfl⟩ := Value.slice.inj e2
                  obtain ⟨uw, hw1, hrw⟩ := hcw i (by rw [HFL.out, HX.out.1]; exact hlt)
                  have hfl := HFR.out i hlt
                  obtain ⟨fa, fc, rfl⟩ := FrRow.ex hrw
                  obtain ⟨L, hL⟩ : ∃ L, g.getD i [] = L := ⟨_, rfl⟩
                  obtain ⟨Q, hQ⟩ : ∃ Q, F.getD i [] = Q := ⟨_, rfl⟩
                  have HAT := hZ (show ∀ j, AtEq F g den i j ↔ Rat.divInt (L.getD j 0) den = Q.getD j 0 from fun j => by
                   unfold AtEq gat; rw [hL, hQ]; exact eq_comm)
                  rw [hL] at hR1 hrl h1
                  rw [hQ] at hrw hw1 hfl
                  rw [hrl] at h1
                  rw [hfl] at hw1
                  have HRL := hZ hrl
                  have HQL := hZ hfl
                  have HRW := hZ hrw
                  have z1 := cell_lt h1
                  have zw1 := cell_lt hw1
                  have HES := hZ (fun (b2 : Bool) (hb : b2 = true ↔ ∀ t, t < cg → AtEq F g den i t) => (show b2 = true ↔ AllEq F g den (i + 1) from ⟨fun h => (hE.out.1 rfl).succ (fun j hj => hb.1 h j (by rw [← HCG.out]; exact hj)), fun h => hb.2 fun t ht => h i t (by omega) (by rw [HCG.out]; exact ht)⟩))
                  have hltO : (i : Int) < (O : Int) := by have := HX.out.1; omega
                  have hrr := Below.refl wr.heap.size wr
                  clear hcw e2 hrw hQ hL hfl hrl hu1
                  go_wp2
                  go_loopw [16, 107] (fun v x wq => ∃ (j : Nat) (b2 : Bool), j ≤ cg ∧ v = .bool b2 ∧ x = .int .i64 j ∧ Below wr.heap.size wr wq ∧ Hid (b2 = true ↔ ∀ t, t < j → AtEq F g den i t)) (fun _ x _ => cg - (intOf x).toNat)
                  case atStart => exact ⟨0, true, Nat.zero_le _, rfl, rfl, bZ, hZ ⟨fun _ t ht => absurd ht (by omega), fun _ => rfl⟩⟩
                  case round =>
                   rename World => wq
                   obtain ⟨j, b2, hj, rfl, rfl, hBq, hE2⟩ := hrel
                   have hBQ := bthen hBR hBq
                   by_cases hlt2 : j < cg
                   · have hltJ : (j : Int) < (cg : Int) := by omega
                     have hk1 := bkeep hBq h1
                     have hkw := bkeep hBq hw1
                     obtain ⟨a', c', e3, hint⟩ := hR1.out.keep hBq
                     obtain ⟨rfl, -, rfl⟩ := Value.slice.inj e3
                     obtain ⟨ib, io, rfl, hx, hx64⟩ := hint j (by rw [HRL.out]; exact hlt2)
                     have HATj := HAT.out j
                     obtain ⟨x, hxx⟩ : ∃ x, L.getD j 0 = x := ⟨_, rfl⟩
                     rw [hxx] at hx hx64 HATj
                     obtain ⟨fb, fo, rfl, -, e1, ey1, es1, et1, e2, ey2, es2, et2, y0, y1, y2, y3, yI⟩ := FrRow.at (HRW.out.keep hBq) (by rw [HQL.out]; exact hlt2)
                     obtain ⟨y, hyy⟩ : ∃ y, Q.getD j 0 = y := ⟨_, rfl⟩
                     rw [hyy] at yI HATj
                     have HATJ := hZ HATj
                     have HYI := hZ yI
                     have OF1 := hZ (fun V => rof_c x V hx64.1 hx64.2)
                     have OF2 := hZ (fun V => rof_c den V HD.out.1 HD.out.2)
                     have HBX := hZ (And.intro (show Bd 64 x from by unfold I64 at hx64; unfold Bd; omega) (show Bd 64 den from by have := HD.out; unfold I64 at this; unfold Bd; omega))
                     have zx := cell_lt hx
                     have zy := cell_lt y0
                     have zk := cell_lt hk1
                     have zkw := cell_lt hkw
                     have hqq := Below.refl wq.heap.size wq
                     clear e3 hint hx64 hxx yI hyy HATj
                     go_wp2_with fail
                     (with_reducible refine (OF1.out _).mono ?_)
                     rintro e w10 ⟨⟨v1, rfl, hv1⟩, hb10⟩
                     have h10 : Below wq.heap.size wq w10 := bthen bZ hb10
                     have hy10 := Below.refl w10.heap.size w10
                     clear hb10 OF1
                     go_wp2_with fail
                     (with_reducible refine (OF2.out _).mono ?_)
                     rintro e w11 ⟨⟨v2, rfl, hv2⟩, hb11⟩
                     have h1011 : Below w10.heap.size w10 w11 := bthen bZ hb11
                     have h11 := bthen h10 h1011
                     have MK := hZ (fun V (q : Below w11.heap.size w11 V) => rqMake_c v1 v2 x den 64 V (hv1.keep (bthen h1011 q)) (hv2.keep q) HBX.out.1 HBX.out.2 (by decide) HDZ.out)
                     have hy11 := Below.refl w11.heap.size w11
                     clear hb11 OF2 hv1 hv2 h1011 hy10
                     go_wp2_with fail
                     (with_reducible refine (MK.out _ ?_).mono ?_); (repeat (first|exact bzR _ _|exact hy11|refine bzD ?_|refine bzN ?_|refine bzS ?_|refine bzA ?_))
                     rintro e w12 ⟨⟨v3, rfl, hv3⟩, hb12⟩
                     have h12 : Below wq.heap.size wq w12 := bthen h11 (bthen bZ hb12)
                     have HV3 := hZ hv3
                     obtain ⟨m1, ma1, ml1, mc1, m2, ma2, ml2, mc2, rfl, -, -⟩ := hv3
                     have hy12 := Below.refl w12.heap.size w12
                     clear hb12 MK hy11
                     go_upto_region 28 with (fail)
                     refine wp_name fun w13 hW13 => ?_
                     have h1213 : Below w12.heap.size w12 w13 := by rw [hW13]; repeat (first|exact bzR _ _|exact hy12|refine bzD ?_|refine bzN ?_|refine bzS ?_|refine bzA ?_)
                     have h13 := bthen h12 h1213
                     have X0 : w13.cell? ⟨w12.heap.size, 0, none⟩ = some (.bool m1) ∧ w13.cell? ⟨w12.heap.size, 1, none⟩ = some (.slice ma1 ml1 mc1) ∧ w13.cell? ⟨w12.heap.size, 2, none⟩ = some (.bool m2) ∧ w13.cell? ⟨w12.heap.size, 3, none⟩ = some (.slice ma2 ml2 mc2) := by rw [hW13]; simp [go_sem]
                     obtain ⟨x0, x1, x2, x3⟩ := X0
                     have zx := cell_lt x0
                     have HV13 := hZ (HV3.out.keep h1213)
                     have HY13 := hZ (HYI.out.keep h13)
                     have hkw := bkeep h13 hkw
                     have y0 := bkeep h13 y0
                     have y1 := bkeep h13 y1
                     have y2 := bkeep h13 y2
                     have y3 := bkeep h13 y3
                     have zy := cell_lt y0
                     have zkw := cell_lt hkw
                     have hBN := bthen hBq h13
                     have hB := bthen hBR hBN
                     clear hW13 hx hk1 zk HV3 HYI h1213 h12 h11 h10 hqq hy12 HBX
                     cases b2 with
                     | false =>
                      have HNX := hZ (show false = true ↔ ∀ t, t < j + 1 → AtEq F g den i t from ⟨fun h => by simp at h, fun h => hE2.out.2 fun t ht => h t (by omega)⟩)
                      clear hE2 HATJ
                      go_quiet (fail)
                      go_wp2
                      exact ⟨⟨j + 1, false, hlt2, rfl, by go_num, bZ, HNX⟩, meas hlt2 (by go_num) rfl⟩
                     | true =>
                      have HNX := hZ (show decide (Rat.divInt x den = y) = true ↔ ∀ t, t < j + 1 → AtEq F g den i t from ⟨fun h t ht => by
                       by_cases e : t = j
                       · rw [e]; exact HATJ.out.2 (of_decide_eq_true h)
                       · exact hE2.out.1 rfl t (by omega), fun h => decide_eq_true (HATJ.out.1 (h j (by omega)))⟩)
                      have SM := hZ (fun V (k : Below w13.heap.size w13 V) => rqSame_c (.agg #[.bool m1, .slice ma1 ml1 mc1, .bool m2, .slice ma2 ml2 mc2]) (.agg #[.bool e1, .slice ey1 es1 et1, .bool e2, .slice ey2 es2 et2]) (Rat.divInt x den) y V (HV13.out.keep k) (HY13.out.keep k))
                      obtain ⟨b3, hb3⟩ : ∃ b3, decide (Rat.divInt x den = y) = b3 := ⟨_, rfl⟩
                      rw [hb3] at SM HNX
                      clear hE2 HATJ hb3 HV13 HY13
                      refine wp_region_grow (w := w13) (by kernel_rfl) (by kernel_rfl) ?_
                      have x0g : ∀ gs, (grow w13 gs).cell? ⟨w12.heap.size, 0, none⟩ = some (.bool m1) := fun gs => bkeep gs.below x0
                      have x1g : ∀ gs, (grow w13 gs).cell? ⟨w12.heap.size, 1, none⟩ = some (.slice ma1 ml1 mc1) := fun gs => bkeep gs.below x1
                      have x2g : ∀ gs, (grow w13 gs).cell? ⟨w12.heap.size, 2, none⟩ = some (.bool m2) := fun gs => bkeep gs.below x2
                      have x3g : ∀ gs, (grow w13 gs).cell? ⟨w12.heap.size, 3, none⟩ = some (.slice ma2 ml2 mc2) := fun gs => bkeep gs.below x3
                      have hkwg : ∀ gs, (grow w13 gs).cell? ⟨rb, i, none⟩ = some (.slice (some ⟨fb, fo, none⟩) cg fc) := fun gs => bkeep gs.below hkw
                      have y0g : ∀ gs, (grow w13 gs).cell? ⟨fb, fo + j * 4, none⟩ = some (.bool e1) := fun gs => bkeep gs.below y0
                      have y1g : ∀ gs, (grow w13 gs).cell? ⟨fb, fo + j * 4 + 1, none⟩ = some (.slice ey1 es1 et1) := fun gs => bkeep gs.below y1
                      have y2g : ∀ gs, (grow w13 gs).cell? ⟨fb, fo + j * 4 + 2, none⟩ = some (.bool e2) := fun gs => bkeep gs.below y2
                      have y3g : ∀ gs, (grow w13 gs).cell? ⟨fb, fo + j * 4 + 3, none⟩ = some (.slice ey2 es2 et2) := fun gs => bkeep gs.below y3
                      repeat (go_big_quiet_step ((first | (go_at_call 47; with_reducible exact grow_of (SM.out _ (Grows.below _))) | fail)))
                      refine wpQuiet_nil ?_
                      intro w14 hb14
                      clear x0g
                      clear x1g
                      clear x2g
                      clear x3g
                      clear hkwg
                      clear y0g
                      clear y1g
                      clear y2g
                      clear y3g
                      have x0 : w14.cell? ⟨w12.heap.size, 0, none⟩ = some (.bool m1) := bkc hb14
                      have zx0 := cell_lt x0
                      have x1 : w14.cell? ⟨w12.heap.size, 1, none⟩ = some (.slice ma1 ml1 mc1) := bkc hb14
                      have x2 : w14.cell? ⟨w12.heap.size, 2, none⟩ = some (.bool m2) := bkc hb14
                      have x3 : w14.cell? ⟨w12.heap.size, 3, none⟩ = some (.slice ma2 ml2 mc2) := bkc hb14
                      have hkw : w14.cell? ⟨rb, i, none⟩ = some (.slice (some ⟨fb, fo, none⟩) cg fc) := bkc hb14
                      have zhkw := cell_lt hkw
                      have y0 : w14.cell? ⟨fb, fo + j * 4, none⟩ = some (.bool e1) := bkc hb14
                      have zy0 := cell_lt y0
                      have y1 : w14.cell? ⟨fb, fo + j * 4 + 1, none⟩ = some (.slice ey1 es1 et1) := bkc hb14
                      have y2 : w14.cell? ⟨fb, fo + j * 4 + 2, none⟩ = some (.bool e2) := bkc hb14
                      have y3 : w14.cell? ⟨fb, fo + j * 4 + 3, none⟩ = some (.slice ey2 es2 et2) := bkc hb14
                      have hB : Below w.heap.size w w14 := bthen bZ hb14
                      have hz := hB.size
                      have hBn := bthen hBN hb14
                      go_wp2
                      exact ⟨⟨j + 1, b3, hlt2, rfl, by go_num, hBn, HNX⟩, meas hlt2 (by go_num) rfl⟩
                   · obtain rfl : j = cg := by omega
                     have hltJ : ¬ (j : Int) < (j : Int) := by omega
                     have HNX := hZ (HES.out b2 hE2.out)
                     have hBn := bthen hBr hBq
                     go_wp2
                     exact ⟨⟨i + 1, b2, hlt, rfl, by go_num, hBn, HNX⟩, meas hlt (by go_num) rfl⟩
                · obtain rfl : i = g.length := by omega
                  have hltI : ¬ (g.length : Int) < (g.length : Int) := by omega
                  have hb8 : b8 = true := HI.out.2 ⟨HX.out.2.trans (by rw [HCG.out]), HX.out.1, hE.out.1 rfl⟩
                  subst hb8
                  clear HI hE
                  go_wp2
                  go_ret
                  exact ⟨rfl, bZ⟩
            · have d1 : ((O : Int) == (g.length : Int)) = true := by simp [hOg]
              have d2 : (ins == (cg : Int)) = false := by simp [hic]
              have hb8 : b8 = false := by
               cases b8
               · rfl
               · exact absurd ((HI.out.1 rfl).1.trans (by rw [HCG.out])) hic
              subst hb8
              clear hOg hic HI
              go_wp2
              go_quiet (fail)
              go_wp2
              go_loopw [16, 17] (fun v x wr => v = .bool false ∧ x = .int .i64 0 ∧ Below w9.heap.size w9 wr) (fun _ x _ => 0)
              case atStart => exact ⟨rfl, rfl, bZ⟩
              case round =>
               obtain ⟨rfl, rfl, hBr⟩ := hrel
               have hBe := bthen hB9 hBr
               go_wp2
               go_ret
               exact ⟨rfl, bZ⟩
          · have d1 : ((O : Int) == (g.length : Int)) = false := by simp; omega
            have hb8 : b8 = false := by
             cases b8
             · rfl
             · exact absurd (HI.out.1 rfl).2.1 hOg
            subst hb8
            clear hOg HI
            go_wp2
            go_quiet (fail)
            go_wp2
            go_loopw [16, 17] (fun v x wr => v = .bool false ∧ x = .int .i64 0 ∧ Below w9.heap.size w9 wr) (fun _ x _ => 0)
            case atStart => exact ⟨rfl, rfl, bZ⟩
            case round =>
             obtain ⟨rfl, rfl, hBr⟩ := hrel
             have hBe := bthen hB9 hBr
             go_wp2
             go_ret
             exact ⟨rfl, bZ⟩
    ·
     have p0 : w3.cell? ⟨w.heap.size, 0, none⟩ = some (.int .i64 ins) := bkc hb3
     have zp0 := cell_lt p0
     have p1 : w3.cell? ⟨w.heap.size, 1, none⟩ = some (.int .i64 regs) := bkc hb3
     have p2 : w3.cell? ⟨w.heap.size, 2, none⟩ = some (.slice ca code.length cc) := bkc hb3
     have p3 : w3.cell? ⟨w.heap.size, 3, none⟩ = some (.slice oa outs.length oc) := bkc hb3
     have hB : Below w.heap.size w w3 := bthen bZ hb3
     have hz := hB.size
     have hne : (fitsE g == 0) = false := by simpa using hf
     clear nc hf
     go_wp2
     go_ret
     exact ⟨rfl, bZ⟩
end
theorem wf_I64 {x : Int} (h : (Lit.int .i64 x).wf = true) : I64 x := by
 simp only [Lit.wf, Bool.and_eq_true, decide_eq_true_eq] at h
 exact h
theorem denoteHolds_u (ins regs : Int) (ca oa : Option Addr) (cc oc : Nat) (code : List Ins) (outs : List Int) (vg : Value) (g : Grid) (den : Int) (w : World)
 (hp : InsV w ca cc code ∧ IntsV w oa oc outs ∧ (ca = none → code = []) ∧ (oa = none → outs = []) ∧ code.length ≤ 1048576 ∧ outs.length ≤ 1048576)
 (hg : GridI w vg g ∧ sumG g ≤ 1048576 ∧ g.length ≤ 1048576) (hd : (Lit.int .i64 den).wf = true) :
 Calls Tryz.prog 7 #[.agg #[.int .i64 ins, .int .i64 regs, .slice ca code.length cc, .slice oa outs.length oc], vg, .int .i64 den] w fun e w' => e = .returned (.bool true) ∧ Below w.heap.size w w' :=
 denoteHolds_h ins regs ca oa cc oc code outs vg g den w hp.1 hp.2.1 hg.1 (fun k hk => Nat.le_trans (sumG_le hk) hg.2.1) (wf_I64 hd)
end Go.Proofs.YtbmaffijncapiaaGreatDoor
namespace Go.Proofs.YtbmaffijncapiaaGreatDoor.denoteHoldsRow
open Go.ChangeShapes Go.WideShapes Go.ChangeAt Go.RowKit
theorem laidOut : laidOutB Tryz.prog = true := by kernel_rfl
theorem contract (H : Type) (enc : TypeId × Value → H) (W : World) (base : Nat) (args : Array Value) (ds gs : List (DataW H)) (before : List MemPlace)
 (hval0 : ∀ (j : Nat) t v, Tryz.f7.params[j]? = some t → args[j]? = some v → Value.okWide Tryz.prog W .any base t v)
 (hW : DataW.Whole enc Tryz.prog Tryz.f7.params.toList Rows.denoteHoldsSpec.vars false W args.toList ds gs before) (hk : Rows.uptoSmall H (ds ++ gs) = true) (hL : laidMetH Tryz.prog Rows.denoteHoldsUptoRow.laid W) :
 Calls Tryz.prog 7 args W fun e W' => ∃ v, e = .returned v ∧ Rows.denoteHoldsSpec.post enc Tryz.prog Tryz.f7 false true false false W args v W' := by
 have hval := hval0
 have hW' := hW
 obtain ⟨p, q, hA0, hV, rfl, hfz, hnd⟩ := hW
 have hA : DataW.TrodAll enc Tryz.prog W 0 (fun _ => true) true Tryz.f7.params.toList args.toList ds p := hA0
 rw [Tryz.params7] at hA hval
 obtain ⟨v0, vs0, d0, ds0, p0, q0, hargs, rfl, rfl, h0, r0⟩ := trodAll_cons hA
 obtain ⟨v1, vs1, d1, ds1, p1, q1, rfl, rfl, rfl, h1, r1⟩ := trodAll_cons r0
 obtain ⟨v2, vs2, d2, ds2, p2, q2, rfl, rfl, rfl, h2, r2⟩ := trodAll_cons r1
 obtain ⟨rfl, rfl, rfl⟩ := trodAll_nil r2
 obtain rfl : args = #[v0, v1, v2] := by cases args; simp_all
 obtain ⟨rfl, rfl⟩ := trodVars_none hV
 have hbulk := of_decide_eq_true hk
 simp only [List.append_nil, Rows.uptoBulkAll] at hbulk
 have k0 := h0
 have lt0 : ∀ x ∈ p0, x.block < W.heap.size := by obtain ⟨m, hm⟩ := k0; exact DataW.trod_lt m _ _ _ hm
 obtain ⟨ins0, regs0, ca0, oa0, cc0, oc0, code0, outs0, e0, hc0, ho0, hcn0, hon0, hb0⟩ := open_prog (hval 0 25 v0 rfl rfl) h0
 subst e0
 have k1 := h1
 have lt1 : ∀ x ∈ p1, x.block < W.heap.size := by obtain ⟨m, hm⟩ := k1; exact DataW.trod_lt m _ _ _ hm
 obtain ⟨g1, hg1, hb1⟩ := open_i64rows (hval 1 85 v1 rfl rfl) h1
 have k2 := h2
 have lt2 : ∀ x ∈ p2, x.block < W.heap.size := by obtain ⟨m, hm⟩ := k2; exact DataW.trod_lt m _ _ _ hm
 obtain ⟨a2, e2, wa2⟩ := open_i64k (hval 2 2 v2 rfl rfl) h2
 subst e2
 clear hA0 hval0
 refine (denoteHolds_u ins0 regs0 ca0 oa0 cc0 oc0 code0 outs0 v1 g1 a2 W ⟨hc0, ho0, hcn0, hon0, by omega, by omega⟩ ⟨hg1, by omega, by omega⟩ wa2).mono fun e W' ⟨he, bel⟩ => ?_
 subst he
 exact ⟨_, rfl, _, _, _, [], _, [], hW', trodAll_mk1 (shut_bool Tryz.underlying4 _), (trodAll_cons_mk (Below.trod laidOut (by kernel_rfl) (of_decide_eq_true (by kernel_rfl)) k0 bel lt0) (trodAll_cons_mk (Below.trod laidOut (by kernel_rfl) (of_decide_eq_true (by kernel_rfl)) k1 bel lt1) (trodAll_cons_mk (Below.trod laidOut (by kernel_rfl) (of_decide_eq_true (by kernel_rfl)) k2 bel lt2) trodAll_mk0))), rfl, bel.frame _, fun h => by cases h⟩

noncomputable def laidWorld (os : Os) : World := World.laidAll Tryz.prog os Rows.denoteHoldsUptoRow.laid
theorem reads (os : Os) {H : Type} (enc : TypeId × Value → H) : ∃ places, DataW.whole enc Tryz.prog ((laidWorld os).forCall (fun _ _ => 0) ⟨#[], #[(.agg #[.int .i64 0, .int .i64 0, .slice none 0 0, .slice none 0 0] : Value), (.slice none 0 0 : Value), (.int .i64 0 : Value)], []⟩).memory Tryz.f7.params.toList Rows.denoteHoldsSpec.vars false (#[(.agg #[.int .i64 0, .int .i64 0, .slice none 0 0, .slice none 0 0] : Value), (.slice none 0 0 : Value), (.int .i64 0 : Value)] : Array Value).toList 8 = some ([.agg [.lit (.int .i64 0), .lit (.int .i64 0), .nil, .nil], .nil, .lit (.int .i64 0)], [], places) :=
 ⟨[], by kernel_rfl⟩
theorem lifted (os : Os) (started : os.Started) (H : Type) (enc : TypeId × Value → H) (F : Stop.Interp) :
 ReturnsInHanded {} Tryz.checked os 7 .any ((Rows.OpenSpec.upto Rows.denoteHoldsSpec).preRow enc Tryz.prog Tryz.f7 Rows.denoteHoldsUptoRow.domain false Rows.denoteHoldsUptoRow.laid) (((Rows.OpenSpec.upto Rows.denoteHoldsSpec).at F).post enc Tryz.prog Tryz.f7 false true false false) := by
 obtain ⟨places, hx⟩ := reads os enc
 refine returnsInHanded_of_row (C := Tryz.checked) (s := Rows.OpenSpec.upto Rows.denoteHoldsSpec) own started (by kernel_rfl) Tryz.func7
  ⟨laidWorld os, fun _ _ => 0, ⟨#[], #[(.agg #[.int .i64 0, .int .i64 0, .slice none 0 0, .slice none 0 0] : Value), (.slice none 0 0 : Value), (.int .i64 0 : Value)], []⟩, World.laidAll_os _ _ _, World.shaped_of_ZipB (by kernel_rfl) (by kernel_rfl), rfl, (Input.okWide_of_okWideB (by kernel_rfl)).2,
   OpenSpec.preRow_of_cond 8 hx (by kernel_rfl) (fun k hk => by cases hk; kernel_rfl) (by kernel_rfl) (by rw [MakeChecks.laidMetH_plain _ _ _ (by kernel_rfl)]; exact laidMet_laidAll _ (by kernel_rfl) (by kernel_rfl)), by
    simp only [Assume.holds]
    exact ⟨by simp, by simp, fun _ => Modest.zero, by simp, by simp⟩⟩ ?_
 intro W base args ds gs before hval hW _ hcond _ hL _ _
 exact contract H enc W base args ds gs before hval hW (hcond _ rfl) hL
end Go.Proofs.YtbmaffijncapiaaGreatDoor.denoteHoldsRow
