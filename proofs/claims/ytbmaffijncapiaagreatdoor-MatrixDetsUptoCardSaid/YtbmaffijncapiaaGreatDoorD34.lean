/- MatrixDets: any matrix (eight rows and columns at most): its determinant, its pivot columns, its rank. -/
import Derived.Test.YtbmaffijncapiaaGreatDoorD27
import Derived.Test.YtbmaffijncapiaaGreatDoorD33
import Derived.Test.YtbmaffijncapiaaGreatDoorD29
import Derived.Test.YtbmaffijncapiaaGreatDoorD26
import Derived.Test.YtbmaffijncapiaaGreatDoorD16
import Derived.Deep.DeepCutAuto
import Derived.BigQuiet
set_option linter.unusedVariables false
set_option linter.unusedSimpArgs false
namespace Go.Proofs.YtbmaffijncapiaaGreatDoor
open Num
open Go.ChangeShapes Go.WideShapes Go.ChangeAt Go.RowKit
set_option linter.unusedVariables false
set_option linter.unusedSimpArgs false
attribute [local go_sem ↓] Go.wp_at_zero Go.wp_at_succ
attribute [local go_sem] Oper.semAt_some
set_option maxRecDepth 100000 in
set_option maxHeartbeats 4000000 in
theorem rsquare_c (va : Value) (g : Grid) (w : World) (ha : RefM w va g) (h0 : 0 < g.length) :
    Calls Tryz.prog 61 #[va] w fun e w' => e = .returned (.bool (decide (g.length = cols g))) ∧ Below w.heap.size w w' := by
  have CC := Lib.hid (fun V (q : Below w.heap.size w V) => rcols_c va g V (ha.keep q))
  obtain ⟨aa, ca, rfl, -⟩ : ∃ a c, va = .slice a g.length c ∧ True := by obtain ⟨a, c, e, _⟩ := (show IsL 110 (RRow 0) 0 w va g from ha).view; exact ⟨a, c, e, trivial⟩
  obtain ⟨n, hn⟩ : ∃ n, g.length = n := ⟨_, rfl⟩
  obtain ⟨m, hm⟩ : ∃ m, cols g = m := ⟨_, rfl⟩
  rw [hn] at CC h0 ⊢
  rw [hm] at CC ⊢
  clear ha hn hm
  have hB := Below.refl w.heap.size w
  have h0I : (0 : Int) < (n : Int) := by omega
  have dI : ((n : Int) == (m : Int)) = decide (n = m) := by
    by_cases e : n = m
    · simp [e]
    · rw [decide_eq_false e]; simpa using (show ¬ (n : Int) = (m : Int) by omega)
  obtain ⟨b, hb⟩ : ∃ b, decide (n = m) = b := ⟨_, rfl⟩
  rw [hb] at dI ⊢
  clear hb
  go_enter Tryz.func61, Tryz.ntmps61
  go_wp2_with fail
  (with_reducible refine (CC.out _ ?_).mono ?_); (repeat (first|exact bzR _ _|exact hB|refine bzD ?_|refine bzN ?_|refine bzS ?_|refine bzA ?_))
  rintro e w1 ⟨rfl, hb1⟩
  have hB1 : Below w.heap.size w w1 := bthen (by repeat (first|exact bzR _ _|exact hB|refine bzD ?_|refine bzN ?_|refine bzS ?_|refine bzA ?_)) hb1
  clear CC hb1
  go_wp2
  go_ret
  exact ⟨rfl, hB1⟩
theorem IsInt.lit5 {w : World} {v : Value} {z : Int} (h : IsInt w v z) : ∃ n a l c, v = .agg #[.bool n, .slice a l c] := by
  obtain ⟨n, a, c, l, rfl, -⟩ := h
  exact ⟨n, a, l.length, c, rfl⟩
structure CntV (w0 : World) (nb : Nat) (k : Nat) (W : World) : Prop where
  c0 : W.cell? ⟨nb, 0, none⟩ = some (.int .i64 (k : Nat))
  f0 : W.frozen? ⟨nb, 0, none⟩ = false
  ty : typOf W nb = some 3
  out : Out (fun q => q = nb) w0 W
theorem CntV.clo {w0 : World} {nb k : Nat} {X Y : World} (h : CntV w0 nb k X) (c : Clo w0.heap.size (fun q => q = nb) X Y) : CntV w0 nb k Y := by
  have hl := c.low h.out.size
  exact ⟨c.cell (.inr rfl) h.c0, c.frz (.inr rfl) h.c0 h.f0, c.typ (.inr rfl) h.ty, ⟨hl.os.trans h.out.os, hl.tape.trans h.out.tape, hl.output.trans h.out.output, Nat.le_trans h.out.size hl.size, fun i hi hx => (hl.block i hi).trans (h.out.block i hi hx)⟩⟩
theorem CntV.put {w0 : World} {nb k : Nat} {X : World} (h : CntV w0 nb k X) : CntV w0 nb (k + 1) (X.setCell ⟨nb, 0, none⟩ (.int .i64 ((k + 1 : Nat) : Int))) ∧ OutT (fun q => q = nb) X (X.setCell ⟨nb, 0, none⟩ (.int .i64 ((k + 1 : Nat) : Int))) :=
  ⟨⟨cell_here h.c0 _, by rw [World.frozen?_setCell]; exact h.f0, by rw [typ_set]; exact h.ty, h.out.set (fun _ => rfl) _⟩, (Out.refl (fun q => q = nb) X).set (p := ⟨nb, 0, none⟩) (fun _ => rfl) _, fun q _ _ => by rw [typ_set]⟩
set_option maxRecDepth 100000 in
set_option maxHeartbeats 16000000 in
theorem matrixDets_h (va : Value) (a : Grid) (early : Int) (w : World) (ha : GridI w va a) (la : a.length ≤ 1048576) (hla : ∀ k, k < a.length → (a.getD k []).length ≤ 1048576) :
    Calls Tryz.prog 11 #[va, .int .i64 early] w fun e w' => e = .returned (.bool true) ∧ Below w.heap.size w w' := by
  have BA := Lib.hid (fun W (q : Below w.heap.size w W) => both5_c va a W (ha.keep q) la hla)
  have HBD := Lib.hid (i64_bdM ha)
  obtain ⟨aa, ca, rfl, -⟩ := ha
  clear hla la
  have hB := Below.refl w.heap.size w
  obtain ⟨n, hn⟩ : ∃ n, a.length = n := ⟨_, rfl⟩
  have HN := Lib.hid hn
  rw [hn] at BA ⊢
  clear hn
  refine calls_of_wp_marks Tryz.func11 rfl ?_
  simp only [Tryz.ntmps11, List.size_toArray, List.length_cons, List.length_nil, Nat.reduceAdd, Nat.reduceSub, Array.replicate_succ, Array.replicate_zero, List.push_toArray, List.append_toArray, List.nil_append, List.cons_append]
  go_wp2_with fail
  (with_reducible refine (works_c _).mono ?_)
  rintro e w1 ⟨rfl, hb1⟩
  have e0 : w1.cell? ⟨w.heap.size, 0, none⟩ = some (.int .i64 early) := bkc hb1
  have ze0 := cell_lt e0
  have hB : Below w.heap.size w w1 := bthen (by repeat (first|exact bzR _ _|exact hB|refine bzD ?_|refine bzN ?_|refine bzS ?_|refine bzA ?_)) hb1
  have hz : w.heap.size ≤ w1.heap.size := hB.size
  clear hb1
  go_wp2_with fail
  (with_reducible refine (BA.out _ ?_).mono ?_); (repeat (first|exact bzR _ _|exact hB|refine bzD ?_|refine bzN ?_|refine bzS ?_|refine bzA ?_))
  unfold BothPost
  rintro e w2 ⟨(⟨-, hfa, x, r, rfl, hx, hr⟩ | ⟨-, rfl⟩), hb2⟩
  rotate_left
  · have hB2 : Below w.heap.size w w2 := bthen (by repeat (first|exact bzR _ _|exact hB|refine bzD ?_|refine bzN ?_|refine bzS ?_|refine bzA ?_)) hb2
    clear BA hb2
    go_wp2
    refine ⟨.bool true, ?_, rfl, ?_⟩
    · simp [results, Tryz.results11, go_sem]
    ·
      repeat (first|exact bzR _ _|exact hB2|refine bzD ?_|refine bzN ?_|refine bzS ?_|refine bzA ?_)
  ·
    have e0 : w2.cell? ⟨w.heap.size, 0, none⟩ = some (.int .i64 early) := bkc hb2
    have ze0 := cell_lt e0
    have hB : Below w.heap.size w w2 := bthen (by repeat (first|exact bzR _ _|exact hB|refine bzD ?_|refine bzN ?_|refine bzS ?_|refine bzA ?_)) hb2
    have hz : w.heap.size ≤ w2.heap.size := hB.size
    obtain ⟨sz, rgA⟩ := fits_yes2 hfa
    have HX := Lib.hid (show Mt 64 a x w2 from ⟨hx, rgA, sz, HBD.out⟩)
    have HR := Lib.hid (show RefM w2 r a from hr)
    obtain ⟨xa, xc, rfl⟩ := hx.lit
    obtain ⟨ra, rc, rfl, -⟩ : ∃ a' c', r = .slice a' a.length c' ∧ True := by obtain ⟨a', c', e, _⟩ := (show IsL 110 (RRow 0) 0 w2 r a from hr).view; exact ⟨a', c', e, trivial⟩
    obtain ⟨c2, gb, go, ya, yc, e2, hu, -⟩ := IsL.rrow HR.out sz.1
    obtain ⟨rfl, -, rfl⟩ := Value.slice.inj e2
    have hn2 := HN.out
    rw [hn2] at HX HR sz ⊢
    have hu : w2.cell? ⟨gb, go, none⟩ = some (.slice ya (cols a) yc) := hu
    have HSZ0 := Lib.hid (And.intro sz rgA)
    have sz0 := sz.1
    obtain ⟨m, hm⟩ : ∃ m, cols a = m := ⟨_, rfl⟩
    rw [hm] at hu
    have zu := cell_lt hu
    clear BA hb2 hx hr hfa hn2 sz rgA e2
    by_cases h8 : n ≤ 8
    rotate_left
    · have h8I : decide ((8 : Int) < (n : Int)) = true := decide_eq_true (by omega)
      clear h8 hm
      go_wp2
      refine ⟨.bool true, ?_, rfl, ?_⟩
      · simp [results, Tryz.results11, go_sem]
      ·
        repeat (first|exact bzR _ _|exact hB|refine bzD ?_|refine bzN ?_|refine bzS ?_|refine bzA ?_)
    have h8I : decide ((8 : Int) < (n : Int)) = false := decide_eq_false (by omega)
    have n0I : (0 : Int) < (n : Int) := by have := sz0; omega
    by_cases m8 : m ≤ 8
    rotate_left
    · have m8I : decide ((8 : Int) < (m : Int)) = true := decide_eq_true (by omega)
      clear m8 hm
      go_wp2
      refine ⟨.bool true, ?_, rfl, ?_⟩
      · simp [results, Tryz.results11, go_sem]
      ·
        repeat (first|exact bzR _ _|exact hB|refine bzD ?_|refine bzN ?_|refine bzS ?_|refine bzA ?_)
    have m8I : decide ((8 : Int) < (m : Int)) = false := decide_eq_false (by omega)
    go_upto_region 6 with (fail)
    refine wp_name fun w3 hW3 => ?_
    have hBw2 := Below.refl w2.heap.size w2
    have hb3 : Below w2.heap.size w2 w3 := by rw [hW3]; repeat (first|exact bzR _ _|exact hBw2|refine bzD ?_|refine bzN ?_|refine bzS ?_|refine bzA ?_)
    have m0 : w3.cell? ⟨w2.heap.size, 0, none⟩ = some (.slice xa n xc) := by rw [hW3]; simp [go_sem]
    have hB3 := bthen hB hb3
    have HSZ := Lib.hid (show (0 < a.length ∧ 0 < cols a ∧ a.length ≤ 8 ∧ cols a ≤ 8) ∧ BdM 64 a ∧ Rct a (cols a) from ⟨⟨by rw [HN.out]; exact HSZ0.out.1.1, HSZ0.out.1.2.1, by rw [HN.out]; exact h8, by rw [hm]; exact m8⟩, HBD.out, HSZ0.out.2⟩)
    have HX3 := Lib.hid (HX.out.keep hb3)
    have HR3 := Lib.hid (HR.out.keep hb3)
    replace e0 := bkeep hb3 e0
    have hbm : w.heap.size < w2.heap.size := by omega
    obtain ⟨mb, hmb⟩ : ∃ b, w2.heap.size = b := ⟨_, rfl⟩
    rw [hmb] at m0 hbm ⊢
    have DC := Lib.hid (fun V (q : Below w3.heap.size w3 V) => detM_c _ a 64 V (HX3.out.keep q).m HSZ.out.2.2 (by have := HSZ.out.1; omega) (by omega) HSZ.out.2.1 (Nat.le_trans (kb_mono 64 (show a.length ≤ 8 from HSZ.out.1.2.2.1)) (by decide)))
    unfold DetPost at DC
    have zm := cell_lt m0
    have ze := cell_lt e0
    have hBw3 := Below.refl w3.heap.size w3
    clear hW3 HSZ0 HX HR hb3 hB hu zu hm h8 m8 h8I m8I hmb hBw2
    go_wp2_with fail
    (with_reducible refine (DC.out _ ?_).mono ?_); (repeat (first|exact bzR _ _|exact hBw3|refine bzD ?_|refine bzN ?_|refine bzS ?_|refine bzA ?_))
    rintro e w4 ⟨hd, hb4⟩
    have hk4 : Below w3.heap.size w3 w4 := bthen (by repeat (first|exact bzR _ _|exact hBw3|refine bzD ?_|refine bzN ?_|refine bzS ?_|refine bzA ?_)) hb4
    have HX4 := Lib.hid (HX3.out.keep hk4)
    have HR4 := Lib.hid (HR3.out.keep hk4)
    have SC := Lib.hid (fun V (q : Below w4.heap.size w4 V) => rsquare_c (.slice (some ⟨gb, go, none⟩) n rc) a V (HR4.out.keep q) HSZ.out.1.1)
    have hB4 := bthen hB3 hk4
    replace m0 := bkeep hk4 m0
    replace e0 := bkeep hk4 e0
    have zm4 := cell_lt m0
    have ze4 := cell_lt e0
    have hBw4 := Below.refl w4.heap.size w4
    clear DC hb4 hk4 HX3 HR3 hB3 hBw3
    by_cases hs : a.length = cols a
    · have hsq : sqB a = true := by unfold sqB; simp; exact ⟨HSZ.out.1.1, hs⟩
      rcases hd with ⟨-, u, rfl, hu⟩ | ⟨h2, -⟩
      rotate_left
      · rw [hsq] at h2; cases h2
      rw [decide_eq_true hs] at SC
      have HU4 := Lib.hid hu
      obtain ⟨un, ua, ul, uc, rfl⟩ := hu.lit5
      have RDC := Lib.hid (fun V (q : Below w4.heap.size w4 V) => rdet_c (.slice (some ⟨gb, go, none⟩) n rc) a 64 V (HR4.out.keep q) (by rw [hs]; exact HSZ.out.2.2) (by have := HSZ.out.1; omega) HSZ.out.1.1 (by omega) HSZ.out.2.1 (Nat.le_trans (kq_mono 64 (show a.length ≤ 8 from HSZ.out.1.2.2.1)) (by decide)))
      have HDB := Lib.hid (detE_bd (K := 64) (by omega) HSZ.out.2.1 rfl : Bd (kb 64 a.length) (Det.detE a.length (gat a)))
      have hkb : kb 64 a.length ≤ 1073741824 := Nat.le_trans (kb_mono 64 (show a.length ≤ 8 from HSZ.out.1.2.2.1)) (by decide)
      obtain ⟨D, hD⟩ : ∃ D, Det.detE a.length (gat a) = D := ⟨_, rfl⟩
      rw [hD] at RDC HU4 HDB
      have EC := Lib.hid (fun v V (q : Below w4.heap.size w4 V) (hv : IsRef V v D) => mSame_c (.agg #[.bool un, .slice ua ul uc]) v D (kb 64 a.length) V (HU4.out.keep q) hv HDB.out hkb)
      clear hu hs hsq hD
      go_wp2_with fail
      (with_reducible refine (SC.out _ ?_).mono ?_); (repeat (first|exact bzR _ _|exact hBw4|refine bzD ?_|refine bzN ?_|refine bzS ?_|refine bzA ?_))
      rintro e w5 ⟨rfl, hb5⟩
      have hk5 : Below w4.heap.size w4 w5 := bthen (by repeat (first|exact bzR _ _|exact hBw4|refine bzD ?_|refine bzN ?_|refine bzS ?_|refine bzA ?_)) hb5
      have d0 : w5.cell? ⟨w4.heap.size, 0, none⟩ = some (.bool un) := bkeep hb5 (by first | exact cell_new rfl rfl | exact cell_drew (cell_new rfl rfl))
      have d1 : w5.cell? ⟨w4.heap.size, 1, none⟩ = some (.slice ua ul uc) := bkeep hb5 (by first | exact cell_new rfl rfl | exact cell_drew (cell_new rfl rfl))
      have HS := Lib.hid (show ∀ V, Below w5.heap.size w5 V → V.cell? ⟨w4.heap.size, 0, none⟩ = some (.bool un) ∧ V.cell? ⟨w4.heap.size, 1, none⟩ = some (.slice ua ul uc) from fun V q => ⟨bkeep q d0, bkeep q d1⟩)
      have hBw := Below.refl w5.heap.size w5
      have zd := cell_lt d0
      clear SC hb5 hBw4
      go_upto_region 8 with (fail)
      go_region_held3 (fun V => V.cell? ⟨w4.heap.size, 0, none⟩ = some (.bool un) ∧ V.cell? ⟨w4.heap.size, 1, none⟩ = some (.slice ua ul uc))
        (first | (refine HS.out _ ?_; (repeat (first|exact bzR _ _|exact hBw|refine bzD ?_|refine bzN ?_|refine bzS ?_|refine bzA ?_)); done) | fail)
        (first
          | (go_at_call 63; (with_reducible refine (RDC.out _ (bthen hk5 ?_)).mono ?_); (repeat (first|exact bzR _ _|exact hBw|refine bzD ?_|refine bzN ?_|refine bzS ?_|refine bzA ?_)); rintro e w51 ⟨⟨u51, rfl, hu51⟩, hb51⟩; (have hBd : Below w5.heap.size w5 w51 := bthen (by repeat (first|exact bzR _ _|exact hBw|refine bzD ?_|refine bzN ?_|refine bzS ?_|refine bzA ?_)) hb51; clear hBw; have hBw := hBd; clear hBd); have HU51 := Lib.hid hu51; have hy51 := Below.refl w51.heap.size w51; obtain ⟨fn, fa, fl, fc, rfl⟩ := hu51.litR)
          | (go_at_call 62; (with_reducible refine (EC.out _ _ (bthen hk5 ?_) (HU51.out.keep ?_)).mono ?_); (repeat (first|exact bzR _ _|exact hBw|refine bzD ?_|refine bzN ?_|refine bzS ?_|refine bzA ?_)); (repeat (first|exact bzR _ _|exact hy51|refine bzD ?_|refine bzN ?_|refine bzS ?_|refine bzA ?_)); rintro e w52 ⟨rfl, hb52⟩; (have hBd : Below w5.heap.size w5 w52 := bthen (by repeat (first|exact bzR _ _|exact hBw|refine bzD ?_|refine bzN ?_|refine bzS ?_|refine bzA ?_)) hb52; clear hBw; have hBw := hBd; clear hBd))
          | fail)
      all_goals
        have hk52 := bthen hk5 hBw
        have HM5 := Lib.hid (HX4.out.keep hk52)
        have HR5 := Lib.hid (HR4.out.keep hk52)
        have hB5 := bthen hB4 hk52
        replace m0 := bkeep hk52 m0
        replace e0 := bkeep hk52 e0
        clear d0 d1 HS RDC EC HU4 HU51 HDB hBw hk5 hk52 HX4 HR4 hB4 zm zm4 ze ze4 zd
        obtain ⟨w5, hw5⟩ : ∃ w5, w52 = w5 := ⟨_, rfl⟩
        rw [hw5] at HM5 HR5 hB5 m0 e0 ⊢
        clear hw5
        have PC := Lib.hid (fun V (q : Below w5.heap.size w5 V) => rpivs_c (.slice (some ⟨gb, go, none⟩) n rc) a 64 V (HR5.out.keep q) (HSZ.out.2.2) (by have := HSZ.out.1; omega) (by have := HSZ.out.1; omega) HSZ.out.1.1 HSZ.out.1.2.1 (by omega) HSZ.out.2.1 (Nat.le_trans (kq_mono 64 (show cols a ≤ 8 from HSZ.out.1.2.2.2)) (by decide)))
        have hBw5 := Below.refl w5.heap.size w5
        go_wp2_with fail
        (with_reducible refine (PC.out _ ?_).mono ?_); (repeat (first|exact bzR _ _|exact hBw5|refine bzD ?_|refine bzN ?_|refine bzS ?_|refine bzA ?_))
        rintro e w6 ⟨⟨pa, pc, rfl, hP⟩, hb6⟩
        have hk6 : Below w5.heap.size w5 w6 := bthen (by repeat (first|exact bzR _ _|exact hBw5|refine bzD ?_|refine bzN ?_|refine bzS ?_|refine bzA ?_)) hb6
        have HP6 := Lib.hid (show IsL 3 PInt 0 w6 (.slice pa (pivL a).length pc) (pivL a) from hP.rebase (Nat.zero_le _))
        have HM6 := Lib.hid (HM5.out.keep hk6)
        have m0 := bkeep hk6 m0
        have e0 := bkeep hk6 e0
        have hB6 := bthen hB5 hk6
        have zm := cell_lt m0
        have ze := cell_lt e0
        have hBw6 := Below.refl w6.heap.size w6
        have HPL := Lib.hid (show (pivL a).length ≤ 8 from Nat.le_trans (piv_le a) HSZ.out.1.2.2.1)
        have HITER := Lib.hid (fun n0 B S0 => pivs_iterD n0 B 64 S0 a xa xc)
        have HGG := Lib.hid (fun V B (q : Below w6.heap.size w6 V) (hc : V.cell? ⟨B, 0, none⟩ = some (.slice xa n xc)) => (show PivIn B 64 a xa xc V from by
          have hs := HSZ.out.1
          exact ⟨by rw [HN.out]; exact (HM6.out.keep q).m, by rw [HN.out]; exact hc, HSZ.out.2.2, by omega, by omega, fun _ => hs.2.1, by omega, HSZ.out.2.1, Nat.le_trans (kb_mono 64 (show cols a ≤ 8 from hs.2.2.2)) (by decide)⟩))
        obtain ⟨L, hL⟩ : ∃ L, pivL a = L := ⟨_, rfl⟩
        have HL := Lib.hid hL
        rw [hL] at HP6 HPL HITER ⊢
        clear PC hP hb6 hL hBw5 HM5 HR5 hB5 hk6
        go_wp2_with fail
        (with_reducible refine (pivots_b _ _ _ _).mono ?_)
        rintro e w7 ⟨⟨rfl, hq⟩, hb7⟩
        have hk7 : Below w6.heap.size w6 w7 := bthen (by repeat (first|exact bzR _ _|exact hBw6|refine bzD ?_|refine bzN ?_|refine bzS ?_|refine bzA ?_)) hb7
        have hs7 := hb7.size
        simp only [World.size_alloc, World.size_drew] at hq hs7
        have HCN := Lib.hid (show CntV w7 w6.heap.size 0 w7 from ⟨bkeep hb7 (by first | exact cell_new rfl rfl | exact cell_drew (cell_new rfl rfl)), bkeepf hb7 (v := .int .i64 ((0 : Nat) : Int)) (by first | exact cell_new rfl rfl | exact cell_drew (cell_new rfl rfl)) (by simp [go_sem]), typ_keep (typ_fresh (by simp)) hb7, Out.refl _ _⟩)
        have e7 := bkeep hk7 e0
        have HCL := Lib.hid (And.intro m0 (And.intro e0 hB6))
        have hnw : w.heap.size < w6.heap.size := by omega
        have hHQ := Lib.hid hq
        clear hq hb7 m0 e0 hBw6 hB6
        go_wp2
        refine wp_rangeD1 (gf := 155) (lb := #[.pointer (some ⟨w6.heap.size + 1, 0, none⟩)]) (by simp [Act.eval]) (enters_of Tryz.func155 (by kernel_rfl) rfl)
          (HITER.out w7.heap.size (w6.heap.size + 1) (fun q => q = w6.heap.size)) (Nat.le_refl _) (fun W h => HGG.out W _ (bthen hk7 h) (bkeep h hHQ.out)) (fun _ _ _ h => by cases h; rfl)
          (fun k S W => S = (fun q => q = w6.heap.size) ∧ CntV w7 w6.heap.size k W) (fun c k S W => c = .exit 0 ∧ S = (fun q => q = w6.heap.size) ∧ ∃ j, CntV w7 w6.heap.size j W)
          (fun k S X Y h c => ⟨h.1, by obtain ⟨rfl, h⟩ := h; exact h.clo c⟩) (fun c k S X Y h d => ⟨h.1, h.2.1, by obtain ⟨-, rfl, j, h⟩ := h; exact ⟨j, h.clo d⟩⟩)
          (fun k S X h q hq => by obtain ⟨rfl, h⟩ := h; subst hq; exact ⟨_, h.ty, by decide⟩) (fun c k S X h q hq => by obtain ⟨-, rfl, j, h⟩ := h; subst hq; exact ⟨_, h.ty, by decide⟩) ⟨rfl, HCN.out⟩
          (fun T k args S a' X => a' = { tmps := T.setIfInBounds 61 (.int .i64 (L.getD k 0 : Nat)), defers := [] }) (fun k args S a' X l o o' _ h1 h2 h => h) (fun k args X q h hq => hq.elim) ?assignD ?bodyD 0 (fun Y => ∃ j, CntV w7 w6.heap.size j Y) (fun S Y h => ⟨_, h.2⟩) (fun c k S Y h => ⟨h.1, h.2.2⟩) (fun act Y h => by simpa [Exit.inBlock] using h) ?endsD
        case assignD =>
          rintro y k args S X Kk hk hi ha hxs hKk
          cases ha
          generalize L.getD k 0 = d at *
          gi_wp2
          exact hKk _ _ (Below.refl _ _) hi (by simp)
        case bodyD =>
          rintro y k args S a' w8 hk ⟨rfl, hC⟩ rfl
          have c0 := hC.c0
          have cf := hC.f0
          have e8 := okeep hC.out e7 (show ¬ w.heap.size = w6.heap.size by omega)
          have zc := cell_lt c0
          have ze8 := cell_lt e8
          have HPU := Lib.hid hC.put
          have HC8 := Lib.hid hC
          have hkk : k < 65536 := by have := HPL.out; omega
          generalize L.getD k 0 = d at *
          simp only [List.setIfInBounds_toArray, List.set_cons_succ, List.set_cons_zero]
          clear hC
          by_cases hke : (k : Int) = early
          · have dI : ((k : Int) == early) = true := by simp [hke]
            clear hke
            gi_wp2
            exact ⟨⟨Out.refl _ _, fun _ _ _ => rfl⟩, _, rfl, rfl, _, HC8.out⟩
          · have dI : ((k : Int) == early) = false := by simpa using hke
            clear hke
            gi_wp2
            exact ⟨OutT.orL HPU.out.2, _, Grew.same _ _, rfl, HPU.out.1⟩
        case endsD =>
          rintro D2 Y2 hD2 ⟨j, hI⟩ hK2
          have hs67 := hk7.size
          have hkY : Below w6.heap.size w6 Y2 := hk7.trans (hI.out.to_below (fun q hq _ e => by omega) hk7.size)
          have HMY := Lib.hid (HM6.out.keep hkY)
          have HPY := Lib.hid (IsL.keep prs_pint HP6.out hkY)
          have m0 := bkeep hkY HCL.out.1
          have hBY := bthen HCL.out.2.2 hkY
          have zm := cell_lt m0
          have hD2l := (Array.getElem?_eq_some_iff.1 hK2).1
          have HK2 := Lib.hid hK2
          have RK := Lib.hid (fun V (q : Below Y2.heap.size Y2 V) => (HMY.out.keep q).rank (by omega) (by decide))
          rw [HL.out] at RK
          have hBw := Below.refl Y2.heap.size Y2
          clear hI hK2 HCN e7 hHQ
          go_wp2_with fail
          (with_reducible refine (RK.out _ ?_).mono ?_); (repeat (first|exact bzR _ _|exact hBw|refine bzD ?_|refine bzN ?_|refine bzS ?_|refine bzA ?_))
          rintro e w9 ⟨rfl, hb9⟩
          have hk9 : Below Y2.heap.size Y2 w9 := bthen (by repeat (first|exact bzR _ _|exact hBw|refine bzD ?_|refine bzN ?_|refine bzS ?_|refine bzA ?_)) hb9
          replace m0 := bkeep hk9 m0
          have zm9 := cell_lt m0
          have hBw9 := Below.refl w9.heap.size w9
          clear RK hb9 hBw zm
          go_wp2_with fail
          (with_reducible refine (pivots_b _ _ _ _).mono ?_)
          rintro e w10 ⟨⟨rfl, hq⟩, hb10⟩
          have hk10 : Below w9.heap.size w9 w10 := bthen (by repeat (first|exact bzR _ _|exact hBw9|refine bzD ?_|refine bzN ?_|refine bzS ?_|refine bzA ?_)) hb10
          have hkY10 := bthen hk9 hk10
          have hBw10 := Below.refl w10.heap.size w10
          clear hb10 hBw9
          go_wp2_with fail
          (refine (collectI_c _ _ L _ _ (enters_of Tryz.func155 (by kernel_rfl) rfl) (fun n0 S0 => HITER.out n0 _ S0) (fun W h => HGG.out W _ (bthen (bthen hkY hkY10) h) (bkeep h hq)) (by have := HPL.out; omega)).mono ?_)
          rintro e w11 ⟨⟨ca, cc, rfl, hC⟩, hb11⟩
          have hk11 : Below w10.heap.size w10 w11 := bthen (by repeat (first|exact bzR _ _|exact hBw10|refine bzD ?_|refine bzN ?_|refine bzS ?_|refine bzA ?_)) hb11
          have hkY11 := bthen hkY10 hk11
          have EQ := Lib.hid (fun V (q : Below w11.heap.size w11 V) => equalI_c _ _ L _ _ V (IsL.keep prs_pint hC q) (IsL.keep prs_pint HPY.out (bthen hkY11 q)) (by have := HPL.out; omega))
          have hBw11 := Below.refl w11.heap.size w11
          clear hb11 hq hC hBw10
          go_wp2_with fail
          (with_reducible refine (EQ.out _ ?_).mono ?_); (repeat (first|exact bzR _ _|exact hBw11|refine bzD ?_|refine bzN ?_|refine bzS ?_|refine bzA ?_))
          rintro e w12 ⟨rfl, hb12⟩
          have hk12 : Below w11.heap.size w11 w12 := bthen (by repeat (first|exact bzR _ _|exact hBw11|refine bzD ?_|refine bzN ?_|refine bzS ?_|refine bzA ?_)) hb12
          have hkYf := bthen hkY11 hk12
          have hK12 := (hkYf.block D2 hD2l).trans HK2.out
          have hBf := bthen hBY hkYf
          have hDw : w.heap.size ≤ D2 := by omega
          clear EQ hb12 hBw11
          go_wp2
          refine ⟨by simp, .inl ⟨_, _, rfl, run_takeDeferred (b := D2) (ds := []) hK12, ?_⟩⟩
          refine ⟨.bool true, ?_, rfl, b_put hBf hDw _⟩
          simp [results, Tryz.results11, go_sem]
    · have hsq : sqB a = false := by
        have h0 := HSZ.out.1.1
        unfold sqB
        simp [hs]
      rcases hd with ⟨h2, -⟩ | ⟨-, rfl⟩
      · rw [hsq] at h2; cases h2
      rw [decide_eq_false hs] at SC
      have NC := Lib.hid (fun V => sign_c (.agg #[.bool false, .slice none 0 0]) 0 V (isInt_zero V))
      rw [show (0 : Int).sign = 0 from rfl] at NC
      clear hs hsq
      go_wp2_with fail
      (with_reducible refine (SC.out _ ?_).mono ?_); (repeat (first|exact bzR _ _|exact hBw4|refine bzD ?_|refine bzN ?_|refine bzS ?_|refine bzA ?_))
      rintro e w5 ⟨rfl, hb5⟩
      have hk5 : Below w4.heap.size w4 w5 := bthen (by repeat (first|exact bzR _ _|exact hBw4|refine bzD ?_|refine bzN ?_|refine bzS ?_|refine bzA ?_)) hb5
      have d0 : w5.cell? ⟨w4.heap.size, 0, none⟩ = some (.bool false) := bkeep hb5 (by first | exact cell_new rfl rfl | exact cell_drew (cell_new rfl rfl))
      have d1 : w5.cell? ⟨w4.heap.size, 1, none⟩ = some (.slice none 0 0) := bkeep hb5 (by first | exact cell_new rfl rfl | exact cell_drew (cell_new rfl rfl))
      have hBw := Below.refl w5.heap.size w5
      have zd := cell_lt d0
      clear SC hb5 hBw4
      go_wp2_with fail
      (with_reducible refine (NC.out _).mono ?_)
      rintro e w51 ⟨rfl, hb51⟩
      have hk51 : Below w5.heap.size w5 w51 := bthen (by repeat (first|exact bzR _ _|exact hBw|refine bzD ?_|refine bzN ?_|refine bzS ?_|refine bzA ?_)) hb51
      have hk52 := bthen hk5 hk51
      have HM5 := Lib.hid (HX4.out.keep hk52)
      have HR5 := Lib.hid (HR4.out.keep hk52)
      have hB5 := bthen hB4 hk52
      replace m0 := bkeep hk52 m0
      replace e0 := bkeep hk52 e0
      clear d0 d1 NC hBw hk5 hk51 hb51 hk52 HX4 HR4 hB4 zm zm4 ze ze4 zd
      obtain ⟨w5, hw5⟩ : ∃ w5, w51 = w5 := ⟨_, rfl⟩
      rw [hw5] at HM5 HR5 hB5 m0 e0 ⊢
      clear hw5
      have PC := Lib.hid (fun V (q : Below w5.heap.size w5 V) => rpivs_c (.slice (some ⟨gb, go, none⟩) n rc) a 64 V (HR5.out.keep q) (HSZ.out.2.2) (by have := HSZ.out.1; omega) (by have := HSZ.out.1; omega) HSZ.out.1.1 HSZ.out.1.2.1 (by omega) HSZ.out.2.1 (Nat.le_trans (kq_mono 64 (show cols a ≤ 8 from HSZ.out.1.2.2.2)) (by decide)))
      have hBw5 := Below.refl w5.heap.size w5
      go_wp2_with fail
      (with_reducible refine (PC.out _ ?_).mono ?_); (repeat (first|exact bzR _ _|exact hBw5|refine bzD ?_|refine bzN ?_|refine bzS ?_|refine bzA ?_))
      rintro e w6 ⟨⟨pa, pc, rfl, hP⟩, hb6⟩
      have hk6 : Below w5.heap.size w5 w6 := bthen (by repeat (first|exact bzR _ _|exact hBw5|refine bzD ?_|refine bzN ?_|refine bzS ?_|refine bzA ?_)) hb6
      have HP6 := Lib.hid (show IsL 3 PInt 0 w6 (.slice pa (pivL a).length pc) (pivL a) from hP.rebase (Nat.zero_le _))
      have HM6 := Lib.hid (HM5.out.keep hk6)
      have m0 := bkeep hk6 m0
      have e0 := bkeep hk6 e0
      have hB6 := bthen hB5 hk6
      have zm := cell_lt m0
      have ze := cell_lt e0
      have hBw6 := Below.refl w6.heap.size w6
      have HPL := Lib.hid (show (pivL a).length ≤ 8 from Nat.le_trans (piv_le a) HSZ.out.1.2.2.1)
      have HITER := Lib.hid (fun n0 B S0 => pivs_iterD n0 B 64 S0 a xa xc)
      have HGG := Lib.hid (fun V B (q : Below w6.heap.size w6 V) (hc : V.cell? ⟨B, 0, none⟩ = some (.slice xa n xc)) => (show PivIn B 64 a xa xc V from by
        have hs := HSZ.out.1
        exact ⟨by rw [HN.out]; exact (HM6.out.keep q).m, by rw [HN.out]; exact hc, HSZ.out.2.2, by omega, by omega, fun _ => hs.2.1, by omega, HSZ.out.2.1, Nat.le_trans (kb_mono 64 (show cols a ≤ 8 from hs.2.2.2)) (by decide)⟩))
      obtain ⟨L, hL⟩ : ∃ L, pivL a = L := ⟨_, rfl⟩
      have HL := Lib.hid hL
      rw [hL] at HP6 HPL HITER ⊢
      clear PC hP hb6 hL hBw5 HM5 HR5 hB5 hk6
      go_wp2_with fail
      (with_reducible refine (pivots_b _ _ _ _).mono ?_)
      rintro e w7 ⟨⟨rfl, hq⟩, hb7⟩
      have hk7 : Below w6.heap.size w6 w7 := bthen (by repeat (first|exact bzR _ _|exact hBw6|refine bzD ?_|refine bzN ?_|refine bzS ?_|refine bzA ?_)) hb7
      have hs7 := hb7.size
      simp only [World.size_alloc, World.size_drew] at hq hs7
      have HCN := Lib.hid (show CntV w7 w6.heap.size 0 w7 from ⟨bkeep hb7 (by first | exact cell_new rfl rfl | exact cell_drew (cell_new rfl rfl)), bkeepf hb7 (v := .int .i64 ((0 : Nat) : Int)) (by first | exact cell_new rfl rfl | exact cell_drew (cell_new rfl rfl)) (by simp [go_sem]), typ_keep (typ_fresh (by simp)) hb7, Out.refl _ _⟩)
      have e7 := bkeep hk7 e0
      have HCL := Lib.hid (And.intro m0 (And.intro e0 hB6))
      have hnw : w.heap.size < w6.heap.size := by omega
      have hHQ := Lib.hid hq
      clear hq hb7 m0 e0 hBw6 hB6
      go_wp2
      refine wp_rangeD1 (gf := 155) (lb := #[.pointer (some ⟨w6.heap.size + 1, 0, none⟩)]) (by simp [Act.eval]) (enters_of Tryz.func155 (by kernel_rfl) rfl)
        (HITER.out w7.heap.size (w6.heap.size + 1) (fun q => q = w6.heap.size)) (Nat.le_refl _) (fun W h => HGG.out W _ (bthen hk7 h) (bkeep h hHQ.out)) (fun _ _ _ h => by cases h; rfl)
        (fun k S W => S = (fun q => q = w6.heap.size) ∧ CntV w7 w6.heap.size k W) (fun c k S W => c = .exit 0 ∧ S = (fun q => q = w6.heap.size) ∧ ∃ j, CntV w7 w6.heap.size j W)
        (fun k S X Y h c => ⟨h.1, by obtain ⟨rfl, h⟩ := h; exact h.clo c⟩) (fun c k S X Y h d => ⟨h.1, h.2.1, by obtain ⟨-, rfl, j, h⟩ := h; exact ⟨j, h.clo d⟩⟩)
        (fun k S X h q hq => by obtain ⟨rfl, h⟩ := h; subst hq; exact ⟨_, h.ty, by decide⟩) (fun c k S X h q hq => by obtain ⟨-, rfl, j, h⟩ := h; subst hq; exact ⟨_, h.ty, by decide⟩) ⟨rfl, HCN.out⟩
        (fun T k args S a' X => a' = { tmps := T.setIfInBounds 61 (.int .i64 (L.getD k 0 : Nat)), defers := [] }) (fun k args S a' X l o o' _ h1 h2 h => h) (fun k args X q h hq => hq.elim) ?assignD ?bodyD 0 (fun Y => ∃ j, CntV w7 w6.heap.size j Y) (fun S Y h => ⟨_, h.2⟩) (fun c k S Y h => ⟨h.1, h.2.2⟩) (fun act Y h => by simpa [Exit.inBlock] using h) ?endsD
      case assignD =>
        rintro y k args S X Kk hk hi ha hxs hKk
        cases ha
        generalize L.getD k 0 = d at *
        gi_wp2
        exact hKk _ _ (Below.refl _ _) hi (by simp)
      case bodyD =>
        rintro y k args S a' w8 hk ⟨rfl, hC⟩ rfl
        have c0 := hC.c0
        have cf := hC.f0
        have e8 := okeep hC.out e7 (show ¬ w.heap.size = w6.heap.size by omega)
        have zc := cell_lt c0
        have ze8 := cell_lt e8
        have HPU := Lib.hid hC.put
        have HC8 := Lib.hid hC
        have hkk : k < 65536 := by have := HPL.out; omega
        generalize L.getD k 0 = d at *
        simp only [List.setIfInBounds_toArray, List.set_cons_succ, List.set_cons_zero]
        clear hC
        by_cases hke : (k : Int) = early
        · have dI : ((k : Int) == early) = true := by simp [hke]
          clear hke
          gi_wp2
          exact ⟨⟨Out.refl _ _, fun _ _ _ => rfl⟩, _, rfl, rfl, _, HC8.out⟩
        · have dI : ((k : Int) == early) = false := by simpa using hke
          clear hke
          gi_wp2
          exact ⟨OutT.orL HPU.out.2, _, Grew.same _ _, rfl, HPU.out.1⟩
      case endsD =>
        rintro D2 Y2 hD2 ⟨j, hI⟩ hK2
        have hs67 := hk7.size
        have hkY : Below w6.heap.size w6 Y2 := hk7.trans (hI.out.to_below (fun q hq _ e => by omega) hk7.size)
        have HMY := Lib.hid (HM6.out.keep hkY)
        have HPY := Lib.hid (IsL.keep prs_pint HP6.out hkY)
        have m0 := bkeep hkY HCL.out.1
        have hBY := bthen HCL.out.2.2 hkY
        have zm := cell_lt m0
        have hD2l := (Array.getElem?_eq_some_iff.1 hK2).1
        have HK2 := Lib.hid hK2
        have RK := Lib.hid (fun V (q : Below Y2.heap.size Y2 V) => (HMY.out.keep q).rank (by omega) (by decide))
        rw [HL.out] at RK
        have hBw := Below.refl Y2.heap.size Y2
        clear hI hK2 HCN e7 hHQ
        go_wp2_with fail
        (with_reducible refine (RK.out _ ?_).mono ?_); (repeat (first|exact bzR _ _|exact hBw|refine bzD ?_|refine bzN ?_|refine bzS ?_|refine bzA ?_))
        rintro e w9 ⟨rfl, hb9⟩
        have hk9 : Below Y2.heap.size Y2 w9 := bthen (by repeat (first|exact bzR _ _|exact hBw|refine bzD ?_|refine bzN ?_|refine bzS ?_|refine bzA ?_)) hb9
        replace m0 := bkeep hk9 m0
        have zm9 := cell_lt m0
        have hBw9 := Below.refl w9.heap.size w9
        clear RK hb9 hBw zm
        go_wp2_with fail
        (with_reducible refine (pivots_b _ _ _ _).mono ?_)
        rintro e w10 ⟨⟨rfl, hq⟩, hb10⟩
        have hk10 : Below w9.heap.size w9 w10 := bthen (by repeat (first|exact bzR _ _|exact hBw9|refine bzD ?_|refine bzN ?_|refine bzS ?_|refine bzA ?_)) hb10
        have hkY10 := bthen hk9 hk10
        have hBw10 := Below.refl w10.heap.size w10
        clear hb10 hBw9
        go_wp2_with fail
        (refine (collectI_c _ _ L _ _ (enters_of Tryz.func155 (by kernel_rfl) rfl) (fun n0 S0 => HITER.out n0 _ S0) (fun W h => HGG.out W _ (bthen (bthen hkY hkY10) h) (bkeep h hq)) (by have := HPL.out; omega)).mono ?_)
        rintro e w11 ⟨⟨ca, cc, rfl, hC⟩, hb11⟩
        have hk11 : Below w10.heap.size w10 w11 := bthen (by repeat (first|exact bzR _ _|exact hBw10|refine bzD ?_|refine bzN ?_|refine bzS ?_|refine bzA ?_)) hb11
        have hkY11 := bthen hkY10 hk11
        have EQ := Lib.hid (fun V (q : Below w11.heap.size w11 V) => equalI_c _ _ L _ _ V (IsL.keep prs_pint hC q) (IsL.keep prs_pint HPY.out (bthen hkY11 q)) (by have := HPL.out; omega))
        have hBw11 := Below.refl w11.heap.size w11
        clear hb11 hq hC hBw10
        go_wp2_with fail
        (with_reducible refine (EQ.out _ ?_).mono ?_); (repeat (first|exact bzR _ _|exact hBw11|refine bzD ?_|refine bzN ?_|refine bzS ?_|refine bzA ?_))
        rintro e w12 ⟨rfl, hb12⟩
        have hk12 : Below w11.heap.size w11 w12 := bthen (by repeat (first|exact bzR _ _|exact hBw11|refine bzD ?_|refine bzN ?_|refine bzS ?_|refine bzA ?_)) hb12
        have hkYf := bthen hkY11 hk12
        have hK12 := (hkYf.block D2 hD2l).trans HK2.out
        have hBf := bthen hBY hkYf
        have hDw : w.heap.size ≤ D2 := by omega
        clear EQ hb12 hBw11
        go_wp2
        refine ⟨by simp, .inl ⟨_, _, rfl, run_takeDeferred (b := D2) (ds := []) hK12, ?_⟩⟩
        refine ⟨.bool true, ?_, rfl, b_put hBf hDw _⟩
        simp [results, Tryz.results11, go_sem]
theorem matrixDets_u (va : Value) (a : Grid) (x : Int) (w : World) (ha : GridI w va a ∧ sumG a ≤ 1048576 ∧ a.length ≤ 1048576) (hx : (Lit.int .i64 x).wf = true) :
    Calls Tryz.prog 11 #[va, .int .i64 x] w fun e w' => e = .returned (.bool true) ∧ Below w.heap.size w w' :=
  matrixDets_h va a x w ha.1 ha.2.2 fun k hk => Nat.le_trans (sumG_le hk) ha.2.1
end Go.Proofs.YtbmaffijncapiaaGreatDoor

