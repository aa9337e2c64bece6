/- eval: Program answers the program that evaluates. -/
import Derived.Test.YtdllbdfchloijaaDoorK21
set_option linter.unusedVariables false
set_option linter.unusedSimpArgs false
namespace Go.Proofs.YtdllbdfchloijaaDoor
open Pt
open Num
open Go.ChangeShapes Go.WideShapes Go.ChangeAt Go.RowKit
set_option linter.unusedVariables false
set_option linter.unusedSimpArgs false
attribute [local go_sem ↓] Go.wp_at_zero Go.wp_at_succ
set_option maxRecDepth 100000 in
set_option maxHeartbeats 16000000 in
theorem program_c (k : Nat) (a : Option Addr) (n cap : Nat) (f : Nat → Int × Int) (w : World) (h : PtsV w a n cap f) (hk : 1 ≤ k) (hk8 : k ≤ 8) (hp : PtsOk n f) (hT : Tz64 w) :
    Calls Tryd.prog 18 #[.int .i64 (k : Int), .slice a n cap] w (ProgPost k n f w) := by
  have hB := Below.refl w.heap.size w
  have HP := Lib.hid h
  have HK := Lib.hid hp
  have HT := Lib.hid hT
  have hn15 : n ≤ 15 := hp.2.1
  have d1 : decide ((k : Int) < 1) = false := decide_eq_false (by omega)
  have d2 : decide (8 < (k : Int)) = false := decide_eq_false (by omega)
  have PC := Lib.hid (fun V (q : Below w.heap.size w V) => evPoints_c a n cap f V (HP.out.keep q) (by omega))
  rw [(ptsB_iff n f).2 hp] at PC
  clear h hp hT
  go_enter Tryd.func18, Tryd.ntmps18
  go_wp2
  go_step3
  go_wp2_with fail
  (with_reducible refine (PC.out _ ?_).mono ?_); (repeat (first | exact Below.refl _ _ | exact hB | refine Below.drew ?_ | refine below_drewN ?_ _ | refine bset ?_ (by simp <;> omega) _ | refine bal ?_ _))
  rintro e w1 ⟨rfl, hb1⟩
  have rf : ∀ j, w1.frozen? ⟨w.heap.size, j, none⟩ = false := ((Free.new rfl).keep hb1).2
  have r0 : w1.cell? ⟨w.heap.size, 0, none⟩ = some (.int .i64 0) := bkc hb1
  have zr0 := cell_lt r0
  have r1 : w1.cell? ⟨w.heap.size, 1, none⟩ = some (.int .i64 0) := bkc hb1
  have r2 : w1.cell? ⟨w.heap.size, 2, none⟩ = some (.slice none 0 0) := bkc hb1
  have r3 : w1.cell? ⟨w.heap.size, 3, none⟩ = some (.slice none 0 0) := bkc hb1
  have hB : Below w.heap.size w w1 := bthen (by repeat (first | exact Below.refl _ _ | exact hB | refine Below.drew ?_ | refine below_drewN ?_ _ | refine bset ?_ (by simp <;> omega) _ | refine bal ?_ _)) hb1
  have hz : w.heap.size ≤ w1.heap.size := hB.size
  have HS := Lib.hid (evS_new (k := k) (n := n) (f := f) hB (cell_lt r0) HT.out r0 r1 r2 r3 rf)
  simp only [Int.natCast_add, Int.natCast_one] at HS
  clear PC hb1 r0 r1 r2 r3 rf hB hz
  unfold addV at HS
  go_wp2
  go_step3
  go_wp2
  go_loopw [43] (fun x wr => ∃ i : Nat, i ≤ n ∧ x = .int .i64 i ∧ Hid (EvS w w1.heap.size (w1.heap.size + 1) k n f i wr)) (fun x _ => n - (intOf x).toNat)
  case atStart => exact ⟨0, Nat.zero_le _, rfl, HS⟩
  case round =>
    obtain ⟨i, hi, rfl, hS⟩ := hrel
    clear HS
    generalize w1.heap.size = pb at *
    by_cases hlt : i < n
    · have hltI : (i : Int) < (n : Int) := by omega
      obtain ⟨b, off, e, hcap, c0, c1⟩ := (HP.out.keep hS.out.bel).atE hlt
      subst e
      obtain ⟨q, hq⟩ : ∃ q, f i = q := ⟨_, rfl⟩
      rw [hq] at c0 c1
      obtain ⟨q1, q2⟩ := q
      have HQ := Lib.hid hq
      have hpin : PIn q1 q2 := by have h := HK.out.2.2 i hlt; rw [hq] at h; exact h
      have HPI := Lib.hid hpin
      have p3 : ∃ oa oc, wr.cell? ⟨pb, 3, none⟩ = some (.slice oa i oc) ∧ wr.ownsRow (pb + 1) 3 1 (.slice oa i oc) i (icel (outsL k i)) := by
        obtain ⟨v, h1, h2⟩ := hS.out.ev.outs
        obtain ⟨oa, oc, rfl⟩ := owns_ex h2
        rw [outsL_len] at h1 h2
        exact ⟨oa, oc, h1, h2⟩
      obtain ⟨oa, oc, p3, ho⟩ := p3
      have HO := Lib.hid ho
      have p3f := hS.out.ev.fr.2 3
      have zb := cell_lt c0
      have zp := cell_lt p3
      have HZ := Lib.hid (show pb + 1 ≤ wr.heap.size from zp)
      have hHT : i + 1 ≤ 1099511627776 := by omega
      have HOP := Lib.hid (show ∀ v' w', w'.ownsRow (pb + 1) 3 1 v' (i + 1) (icel (outsL k i) ++ [.int .i64 ((k : Int) + (i : Int))]) → Kp (· ≠ 3) (wr.alloc (.cells #[.int .i64 q1, .int .i64 q2] 24)) w' → Below (pb + 1) (wr.alloc (.cells #[.int .i64 q1, .int .i64 q2] 24)) w' →
          EvB pb k ((k + n + 1 : Nat) : Int) (codeL k n f i) (outsL k i ++ [((k : Int) + (i : Int))]) (w'.setCell ⟨pb, 3, none⟩ v') ∧ Fr2 pb wr (w'.setCell ⟨pb, 3, none⟩ v') ∧ w'.cell? ⟨wr.heap.size, 0, none⟩ = some (.int .i64 q1) ∧ w'.cell? ⟨wr.heap.size, 1, none⟩ = some (.int .i64 q2) ∧ typOf w' wr.heap.size = some 24 ∧ w'.cell? ⟨pb + 1, 0, none⟩ = some (.func (.func 35) #[] #[.pointer (some ⟨pb, 0, none⟩)]) ∧ typOf w' (pb + 1) = some 79 ∧ w'.cell? ⟨pb, 3, none⟩ = some (.slice oa i oc) ∧ w'.frozen? ⟨pb, 3, none⟩ = false ∧ w'.heap.size > wr.heap.size from fun v' w' h1 h2 h3 => by
        have hba : Below wr.heap.size wr (wr.alloc (.cells #[.int .i64 q1, .int .i64 q2] 24)) := bal (Below.refl _ _) _
        have hev := hS.out.ev
        have h4 := (hev.below hba).putO (N := outsL k i ++ [((k : Int) + (i : Int))]) (v := v') (by rw [icel_app, List.length_append, outsL_len]; exact h1) h2 h3
        have hty : typOf (wr.alloc (.cells #[.int .i64 q1, .int .i64 q2] 24)) wr.heap.size = some 24 := typ_fresh rfl
        have hft := typ_keep hS.out.ft hba
        refine ⟨h4.1, ⟨((Kp.of_below _ hba).trans (h4.2.1.weak fun t ht => ⟨ht.1, ht.2.1⟩)), (hba.mono (Nat.le_of_succ_le HZ.out)).trans h4.2.2⟩, h2.cell hty (by decide) (cell_new rfl rfl), h2.cell hty (by decide) (cell_new rfl rfl), h2.typ hty (by decide), h2.cell hft (by decide) (bkeep hba hS.out.fn), h2.typ hft (by decide), ?_, ?_, ?_⟩
        · exact bkeepN h3 (bkeep hba p3) (Nat.lt_succ_self _)
        · rw [World.frozen?_of_block (w := wr.alloc _) (h3.block pb (Nat.lt_succ_self _))]
          exact bkeepf hba p3 p3f
        · have := h3.size; simp at this; omega)
      have HSI := Lib.hid hS.out
      clear hq hpin ho hcap hS
      go_wp2_with (at_builtin; refine app_litB (base := pb + 1) (v := .slice oa i oc) (n := i) (xs := icel (outsL k i)) (g := wr.heap.size + 1) (m := 1) (c := 1) (C := [.int .i64 ((k : Int) + (i : Int))]) elI (by rfl) (by rfl) ?_ ?_ (by rfl) (by rfl) ?_ rfl (icel_one [((k : Int) + (i : Int))]) hHT ?_; (exact owns_kp (S := fun _ => True) HO.out (Kp.of_below _ (bal (Below.refl _ _) _)) trivial); (simp; omega); (simp))
      intro v' w8 hO hK hBe
      obtain ⟨oa2, oc2, rfl⟩ := owns_ex hO
      have HO8 := Lib.hid hO
      obtain ⟨he9, hf9, g0, g1, gt, f0, ft, p3, p3f, hgz⟩ := HOP.out _ w8 hO hK hBe
      clear hO hK hBe HOP HO c0 c1 zb
      have zp := cell_lt p3
      have zg := cell_lt g0
      have hn1 : ¬ pb = wr.heap.size := by have := HZ.out; omega
      have hn2 : ¬ wr.heap.size = pb := fun e => hn1 e.symm
      obtain ⟨w9, hw9⟩ : ∃ W, w8.setCell ⟨pb, 3, none⟩ (.slice oa2 (i + 1) oc2) = W := ⟨_, rfl⟩
      have HW9 := Lib.hid hw9
      rw [hw9] at he9 hf9
      have HE9 := Lib.hid he9
      have HF9 := Lib.hid hf9
      have HG := Lib.hid (show w9.cell? ⟨wr.heap.size, 0, none⟩ = some (.int .i64 q1) ∧ w9.cell? ⟨wr.heap.size, 1, none⟩ = some (.int .i64 q2) ∧ typOf w9 wr.heap.size = some 24 ∧ w9.cell? ⟨pb + 1, 0, none⟩ = some (.func (.func 35) #[] #[.pointer (some ⟨pb, 0, none⟩)]) ∧ typOf w9 (pb + 1) = some 79 from by
        rw [← hw9]
        refine ⟨cell_far g0 (by simp) _, cell_far g1 (by simp) _, by rw [typ_set]; exact gt, cell_far f0 (by simp) _, by rw [typ_set]; exact ft⟩)
      have HTZ := Lib.hid (show TzAt pb w9 from ⟨fun j hj => bkeepN HF9.out.bel (HSI.out.tz.1 j hj) HSI.out.tz.2, HSI.out.tz.2⟩)
      have HLE := Lib.hid (codeL_le (k := k) (n := n) f hk hk8 (i := i) (by omega))
      clear he9 hf9 hw9 gt ft
      have hl1 := hlt
      have hBc := Below.refl w9.heap.size w9
      by_cases hk1 : k = 1
      · subst hk1
        obtain ⟨ob, rfl, x0, x0f⟩ : ∃ ob, oa2 = some ⟨ob, 0, none⟩ ∧ w8.cell? ⟨ob, i, none⟩ = some (.int .i64 (((1 : Nat) : Int) + (i : Int))) ∧ w8.frozen? ⟨ob, i, none⟩ = false := by
          have h := HO8.out
          rcases h.2 with ⟨_, h0⟩ | ⟨g', cap', cur, hv, hg, hh, h1, h2, h3, h4⟩
          · omega
          · cases hv
            refine ⟨g', rfl, ?_, by simp [World.frozen?, hh]⟩
            have hc := World.ownsRow.cellAt h i (by rw [Nat.mul_one]; omega)
            rw [hc, List.getElem?_append_right (by rw [icel_len, outsL_len]; omega), icel_len, outsL_len, Nat.sub_self]; rfl
        have HX := Lib.hid (show EvB pb (1 : Nat) ((1 + n + 1 : Nat) : Int) (codeL 1 n f (i + 1)) (outsL 1 (i + 1)) (w9.setCell ⟨ob, i, none⟩ (.int .i64 0)) ∧ Fr2 pb w9 (w9.setCell ⟨ob, i, none⟩ (.int .i64 0)) ∧ pb < ob from by
          have hc3 : w9.cell? ⟨pb, 3, none⟩ = some (.slice (some ⟨ob, 0, none⟩) (i + 1) oc2) := by rw [← HW9.out]; exact cell_here p3 _
          have h := HE9.out.setO (i := i) (g := ob) (cap := oc2) (x := 0) (by rw [List.length_append, outsL_len]; exact hc3)
          refine ⟨?_, ⟨h.2.1.weak fun t ht => ⟨ht.1, ht.2.1⟩, h.2.2.1⟩, h.2.2.2.2⟩
          have h1 := h.1
          rw [show (((1 : Nat) : Int) + (i : Int)) = ((1 + i : Nat) : Int) by rw [Int.natCast_add], outsL_one] at h1
          rw [codeL_succ, show pointL 1 ((1 + i : Nat) : Int) ((1 + n : Nat) : Int) (f i) = [] from if_pos rfl, List.append_nil]
          exact h1)
        have HN := Lib.hid (HSI.out.next (HF9.out.trans HX.out.2.1) HX.out.1)
        have zo := cell_lt x0
        have ho1 : ¬ ob = pb := by have := HX.out.2.2; omega
        have ho2 : ¬ pb = ob := fun e => ho1 e.symm
        rw [← HW9.out] at HN
        clear HX HE9 HF9 HSI HO8 HG HTZ
        go_wp2
        exact ⟨⟨i + 1, hl1, by go_num, HN⟩, measE hl1 (by go_num) rfl⟩
      · have hkI : ((k : Int) == 1) = false := by simpa using (show ¬ (k : Int) = 1 by omega)
        have hk2 : 2 ≤ k := by omega
        by_cases hq0 : q1 = 0
        · by_cases hq3 : q2 = 0
          · subst hq0 hq3
            have HPL := Lib.hid (show codeL k n f (i + 1) = codeL k n f i ++ addI ⟨4, (k : Int) + (i : Int), 0, 0, 0⟩ from by
              rw [codeL_succ, HQ.out]; unfold pointL; rw [if_neg hk1, if_pos ⟨rfl, rfl⟩]; rfl)
            have AC := Lib.hid (fun V (q : Below w9.heap.size w9 V) => add_l pb k ((k + n + 1 : Nat) : Int) _ _ 4 ((k : Int) + (i : Int)) 0 0 0 V (HE9.out.below q) (Nat.le_trans HLE.out (by decide)))
            go_wp2_with fail
            (with_reducible refine (AC.out _ ?_).mono ?_); (rw [HW9.out]; repeat (first | exact Below.refl _ _ | exact hBc | refine Below.drew ?_ | refine below_drewN ?_ _ | refine bset ?_ (by simp <;> omega) _ | refine bal ?_ _))
            rintro e w10 ⟨rfl, hE, hF⟩
            rw [HW9.out] at hF
            have HN := Lib.hid (HSI.out.next (HF9.out.trans hF.fr2) (by rw [HPL.out, outsL_succ, show outL k i = (k : Int) + (i : Int) by unfold outL; rw [if_neg hk1, Int.natCast_add]]; exact hE))
            clear hE hF HE9 HF9 HSI HO8 HG HTZ AC HPL
            go_wp2
            exact ⟨⟨i + 1, hl1, by go_num, HN⟩, measE hl1 (by go_num) rfl⟩
          · subst hq0
            have hqI : (q2 == 0) = false := by simpa using hq3
            have HPL := Lib.hid (show codeL k n f (i + 1) = codeL k n f i ++ scaledL ((k : Int) + (i : Int)) (k - 1) 0 q2 from by
              rw [codeL_succ, HQ.out]; unfold pointL; rw [if_neg hk1, if_neg (fun h => hq3 h.2), if_pos rfl, Int.natCast_add])
            have AC := Lib.hid (fun V (q : Below w9.heap.size w9 V) => scaled_z pb (pb + 1) k ((k + n + 1 : Nat) : Int) _ _ ((k : Int) + (i : Int)) 0 q2 ((k : Int) - 1) (k - 1) V (HE9.out.below q) (bkeep q HG.out.2.2.2.1) (typ_keep HG.out.2.2.2.2 q) ⟨hq3, HPI.out.2.2⟩ (HTZ.out.keep q) (by omega) (Nat.le_trans HLE.out (by decide)) (by omega))
            go_wp2_with fail
            (with_reducible refine (AC.out _ ?_).mono ?_); (rw [HW9.out]; repeat (first | exact Below.refl _ _ | exact hBc | refine Below.drew ?_ | refine below_drewN ?_ _ | refine bset ?_ (by simp <;> omega) _ | refine bal ?_ _))
            rintro e w10 ⟨rfl, hE, hF⟩
            rw [HW9.out] at hF
            have HN := Lib.hid (HSI.out.next (HF9.out.trans hF.fr2) (by rw [HPL.out, outsL_succ, show outL k i = (k : Int) + (i : Int) by unfold outL; rw [if_neg hk1, Int.natCast_add]]; exact hE))
            clear hE hF HE9 HF9 HSI HO8 HG HTZ AC HPL
            go_wp2
            exact ⟨⟨i + 1, hl1, by go_num, HN⟩, measE hl1 (by go_num) rfl⟩
        · have hqA : (q1 == 0) = false := by simpa using hq0
          by_cases hq3 : q2 = 0
          · subst hq3
            have HPL := Lib.hid (show codeL k n f (i + 1) = codeL k n f i ++ scaledL ((k : Int) + (i : Int)) (k - 1) ((k : Int) - 1) q1 from by
              rw [codeL_succ, HQ.out]; unfold pointL; rw [if_neg hk1, if_neg (fun h => hq0 h.1), if_neg hq0, if_pos rfl, Int.natCast_add, show ((k - 1 : Nat) : Int) = (k : Int) - 1 by omega])
            have AC := Lib.hid (fun V (q : Below w9.heap.size w9 V) => scaled_z pb (pb + 1) k ((k + n + 1 : Nat) : Int) _ _ ((k : Int) + (i : Int)) ((k : Int) - 1) q1 ((k : Int) - 1) (k - 1) V (HE9.out.below q) (bkeep q HG.out.2.2.2.1) (typ_keep HG.out.2.2.2.2 q) ⟨hq0, HPI.out.1, HPI.out.2.1⟩ (HTZ.out.keep q) (by omega) (Nat.le_trans HLE.out (by decide)) (by omega))
            go_wp2_with fail
            (with_reducible refine (AC.out _ ?_).mono ?_); (rw [HW9.out]; repeat (first | exact Below.refl _ _ | exact hBc | refine Below.drew ?_ | refine below_drewN ?_ _ | refine bset ?_ (by simp <;> omega) _ | refine bal ?_ _))
            rintro e w10 ⟨rfl, hE, hF⟩
            rw [HW9.out] at hF
            have HN := Lib.hid (HSI.out.next (HF9.out.trans hF.fr2) (by rw [HPL.out, outsL_succ, show outL k i = (k : Int) + (i : Int) by unfold outL; rw [if_neg hk1, Int.natCast_add]]; exact hE))
            clear hE hF HE9 HF9 HSI HO8 HG HTZ AC HPL
            go_wp2
            exact ⟨⟨i + 1, hl1, by go_num, HN⟩, measE hl1 (by go_num) rfl⟩
          · have hqB : (q2 == 0) = false := by simpa using hq3
            by_cases hb1 : q2 = 1
            · subst hb1
              have H0 := Lib.hid (show EvB pb k ((k + n + 1 : Nat) : Int) (codeL k n f i ++ hornL k ((k : Int) + (i : Int)) ((k : Int) + (n : Int)) q1 1 0) (outsL k i ++ [(k : Int) + (i : Int)]) w9 ∧ Fr pb w9 w9 from ⟨by show EvB pb k _ (codeL k n f i ++ []) _ _; rw [List.append_nil]; exact HE9.out, Fr.refl _ _⟩)
              rw [← HW9.out] at H0
              clear HE9 HO8
              go_wp2
              go_loopw [13, 14] (fun fr jj wq => ∃ (s : Nat) (z y : Int), s + 1 ≤ k ∧ fr = .int .i64 z ∧ jj = .int .i64 y ∧ y = (k : Int) - 2 - s ∧ Hid (z = if s = 0 then ((k - 1 : Nat) : Int) else (k : Int) + (i : Int)) ∧ Hid (EvB pb k ((k + n + 1 : Nat) : Int) (codeL k n f i ++ hornL k ((k : Int) + (i : Int)) ((k : Int) + (n : Int)) q1 1 s) (outsL k i ++ [(k : Int) + (i : Int)]) wq ∧ Fr pb w9 wq)) (fun _ jj _ => (intOf jj + 1).toNat)
              case atStart => exact ⟨0, _, _, by omega, rfl, rfl, by omega, Lib.hid (by rw [if_pos rfl]; omega), by rw [← HW9.out]; exact H0⟩
              case round =>
                rename World => wq
                obtain ⟨s, z, y, hs, rfl, rfl, hy, hz, hH⟩ := hrel
                by_cases hlt2 : s + 2 ≤ k
                ·
                  obtain ⟨j, rfl⟩ := Int.eq_ofNat_of_zero_le (show 0 ≤ y by omega)
                  have HJ := Lib.hid (show k = s + 2 + j from by omega)
                  have hjI : (0 : Int) ≤ (j : Int) := by omega
                  have hj8 : j ≤ 8 := by omega
                  have HFq := Lib.hid hH.out.2
                  have g0 := HFq.out.kp.cell HG.out.2.2.1 (by decide) HG.out.1
                  have f0 := HFq.out.kp.cell HG.out.2.2.2.2 (by decide) HG.out.2.2.2.1
                  have HS := Lib.hid (show ∀ V, Below wq.heap.size wq V → V.cell? ⟨pb + 1, 0, none⟩ = some (.func (.func 35) #[] #[.pointer (some ⟨pb, 0, none⟩)]) ∧ V.cell? ⟨wr.heap.size, 0, none⟩ = some (.int .i64 q1) from fun V q => ⟨bkeep q f0, bkeep q g0⟩)
                  have TC := Lib.hid (fun V (q : Below wq.heap.size wq V) => timesI_c ((k : Int) + (i : Int)) z q1 V ⟨hq0, HPI.out.1, HPI.out.2.1⟩ ((HTZ.out.fr HFq.out).keep q).1)
                  have HLH := Lib.hid (show (codeL k n f i ++ hornL k ((k : Int) + (i : Int)) ((k : Int) + (n : Int)) q1 1 s).length ≤ 720 from by rw [List.length_append]; have h1 := HLE.out; have h2 := horn_le8 (k := k) ((k : Int) + (i : Int)) ((k : Int) + (n : Int)) q1 1 (s := s) (by omega); omega)
                  have AC := Lib.hid (fun V (q : Below wq.heap.size wq V) => add_c pb k ((k + n + 1 : Nat) : Int) _ _ (timesI ((k : Int) + (i : Int)) z q1) V (hH.out.1.below q) (Nat.le_trans HLH.out (by decide)))
                  have HPB := Lib.hid (show pb ≤ wq.heap.size from Nat.le_of_lt hH.out.1.fr.1)
                  obtain ⟨iv, hiv⟩ : ∃ x, (timesI ((k : Int) + (i : Int)) z q1).v = x := ⟨_, rfl⟩
                  rw [hiv] at TC AC
                  have zf := cell_lt f0
                  have zg := cell_lt g0
                  have hBc := Below.refl wq.heap.size wq
                  clear hiv hy hs hlt2 hH H0
                  go_wp2
                  go_region_held3 (fun V => V.cell? ⟨pb + 1, 0, none⟩ = some (.func (.func 35) #[] #[.pointer (some ⟨pb, 0, none⟩)]) ∧ V.cell? ⟨wr.heap.size, 0, none⟩ = some (.int .i64 q1))
                    (first | (refine HS.out _ ?_; (repeat (first | exact Below.refl _ _ | exact hBc | refine Below.drew ?_ | refine below_drewN ?_ _ | refine bset ?_ (by simp <;> omega) _ | refine bal ?_ _)); done) | exact hfc | fail)
                    (first
                      | (go_at_call 37; refine (TC.out _ ?_).mono ?_; (repeat (first | exact Below.refl _ _ | exact hBc | refine Below.drew ?_ | refine below_drewN ?_ _ | refine bset ?_ (by simp <;> omega) _ | refine bal ?_ _)); rintro e w10 ⟨rfl, hb10⟩; (have hBd : Below wq.heap.size wq w10 := bthen (by repeat (first | exact Below.refl _ _ | exact hBc | refine Below.drew ?_ | refine below_drewN ?_ _ | refine bset ?_ (by simp <;> omega) _ | refine bal ?_ _)) hb10; clear hBc; have hBc := hBd; clear hBd))
                      | (go_at_call 35; refine (AC.out _ ?_).mono ?_; (repeat (first | exact Below.refl _ _ | exact hBc | refine Below.drew ?_ | refine below_drewN ?_ _ | refine bset ?_ (by simp <;> omega) _ | refine bal ?_ _)); rintro e w11 ⟨rfl, hE11, hF11⟩; have HE11 := Lib.hid hE11; have HF11 := Lib.hid ((HFq.out.below (show Below wq.heap.size wq _ by repeat (first | exact Below.refl _ _ | exact hBc | refine Below.drew ?_ | refine below_drewN ?_ _ | refine bset ?_ (by simp <;> omega) _ | refine bal ?_ _)) HPB.out).trans hF11); have hfc := And.intro (HF11.out.kp.cell HG.out.2.2.2.2 (by decide) HG.out.2.2.2.1) (HF11.out.kp.cell HG.out.2.2.1 (by decide) HG.out.1); clear hE11 hF11)
                      | fail)
                  all_goals
                    have g1 := HF11.out.kp.cell HG.out.2.2.1 (by decide) HG.out.2.1
                    have hc0 := hfc.1
                    have hL2 := Lib.hid (addI_le (timesI ((k : Int) + (i : Int)) z q1))
                    have HLC := Lib.hid (show (codeL k n f i ++ hornL k ((k : Int) + (i : Int)) ((k : Int) + (n : Int)) q1 1 s ++ addI (timesI ((k : Int) + (i : Int)) z q1)).length ≤ 721 from by rw [List.length_append]; have h1 := HLH.out; have h2 := hL2.out; omega)
                    have HH := Lib.hid (show ∀ M, addN ((k : Int) + (i : Int)) (j : Int) 1 ((k : Int) + (n : Int)) (s + 1) = M → codeL k n f i ++ hornL k ((k : Int) + (i : Int)) ((k : Int) + (n : Int)) q1 1 s ++ addI (timesI ((k : Int) + (i : Int)) z q1) ++ M = codeL k n f i ++ hornL k ((k : Int) + (i : Int)) ((k : Int) + (n : Int)) q1 1 (s + 1) from fun M hM => by
                      have hj : k - 2 - s = j := by have := HJ.out; omega
                      show _ = codeL k n f i ++ (hornL k ((k : Int) + (i : Int)) ((k : Int) + (n : Int)) q1 1 s ++ (addI (timesI ((k : Int) + (i : Int)) (if s = 0 then ((k - 1 : Nat) : Int) else (k : Int) + (i : Int)) q1) ++ addN ((k : Int) + (i : Int)) ((k - 2 - s : Nat) : Int) 1 ((k : Int) + (n : Int)) (s + 1)))
                      rw [← hz.out, hj, hM]
                      simp only [List.append_assoc])
                    have hBq := Below.refl w11.heap.size w11
                    have zg1 := cell_lt g1
                    have zc1 := cell_lt hc0
                    have HZ1 := Lib.hid (show (k : Int) + (i : Int) = if s + 1 = 0 then ((k - 1 : Nat) : Int) else (k : Int) + (i : Int) from by rw [if_neg (by omega)])
                    have HK2 := Lib.hid (show s + 1 + 1 ≤ k ∧ (j : Int) - 1 = (k : Int) - 2 - ((s + 1 : Nat) : Int) from by have := HJ.out; omega)
                    clear hfc hz HS TC AC hBc g0 f0 zg zf
                    have AC := Lib.hid (fun V (q : Below w11.heap.size w11 V) => add_l pb k ((k + n + 1 : Nat) : Int) _ _ 3 ((k : Int) + (i : Int)) ((k : Int) + (i : Int)) (j : Int) 0 V (HE11.out.below q) (Nat.le_trans HLC.out (by decide)))
                    go_wp2_with fail
                    (with_reducible refine (AC.out _ ?_).mono ?_); (repeat (first | exact Below.refl _ _ | exact hBq | refine Below.drew ?_ | refine below_drewN ?_ _ | refine bset ?_ (by simp <;> omega) _ | refine bal ?_ _))
                    rintro e w12 ⟨rfl, hE, hF⟩
                    have HN := Lib.hid (show EvB pb k ((k + n + 1 : Nat) : Int) (codeL k n f i ++ hornL k ((k : Int) + (i : Int)) ((k : Int) + (n : Int)) q1 1 (s + 1)) (outsL k i ++ [(k : Int) + (i : Int)]) w12 ∧ Fr pb w9 w12 from ⟨by rw [← HH.out _ (if_pos (.inl rfl))]; exact hE, HF11.out.trans hF⟩)
                    clear hE hF AC HH
                    go_wp2
                    exact ⟨⟨s + 1, _, _, HK2.out.1, rfl, rfl, HK2.out.2, HZ1, HN⟩, by show (intOf (.int .i64 ((j : Int) - 1)) + 1).toNat < (intOf (.int .i64 (j : Int)) + 1).toNat; simp only [intOf]; omega⟩
                ·
                  have hyI : ¬ (0 : Int) ≤ y := by omega
                  have HN := Lib.hid (HSI.out.next (HF9.out.trans hH.out.2.fr2) (by
                    rw [codeL_succ, HQ.out, outsL_succ, show outL k i = (k : Int) + (i : Int) by unfold outL; rw [if_neg hk1, Int.natCast_add]]
                    unfold pointL
                    rw [if_neg hk1, if_neg (fun h => hq0 h.1), if_neg hq0, if_neg hq3, Int.natCast_add, Int.natCast_add, show k - 1 = s by omega]
                    exact hH.out.1))
                  clear hH hy hs hlt2 hz H0
                  go_wp2
                  exact ⟨⟨i + 1, hl1, by go_num, HN⟩, measE hl1 (by go_num) rfl⟩
            · have hb1I : (q2 == 1) = false := by simpa using hb1
              by_cases hb2 : q2 = -1
              · subst hb2
                have H0 := Lib.hid (show EvB pb k ((k + n + 1 : Nat) : Int) (codeL k n f i ++ hornL k ((k : Int) + (i : Int)) ((k : Int) + (n : Int)) q1 (-1) 0) (outsL k i ++ [(k : Int) + (i : Int)]) w9 ∧ Fr pb w9 w9 from ⟨by show EvB pb k _ (codeL k n f i ++ []) _ _; rw [List.append_nil]; exact HE9.out, Fr.refl _ _⟩)
                rw [← HW9.out] at H0
                clear HE9 HO8
                go_wp2
                go_loopw [13, 14] (fun fr jj wq => ∃ (s : Nat) (z y : Int), s + 1 ≤ k ∧ fr = .int .i64 z ∧ jj = .int .i64 y ∧ y = (k : Int) - 2 - s ∧ Hid (z = if s = 0 then ((k - 1 : Nat) : Int) else (k : Int) + (i : Int)) ∧ Hid (EvB pb k ((k + n + 1 : Nat) : Int) (codeL k n f i ++ hornL k ((k : Int) + (i : Int)) ((k : Int) + (n : Int)) q1 (-1) s) (outsL k i ++ [(k : Int) + (i : Int)]) wq ∧ Fr pb w9 wq)) (fun _ jj _ => (intOf jj + 1).toNat)
                case atStart => exact ⟨0, _, _, by omega, rfl, rfl, by omega, Lib.hid (by rw [if_pos rfl]; omega), by rw [← HW9.out]; exact H0⟩
                case round =>
                  rename World => wq
                  obtain ⟨s, z, y, hs, rfl, rfl, hy, hz, hH⟩ := hrel
                  by_cases hlt2 : s + 2 ≤ k
                  ·
                    obtain ⟨j, rfl⟩ := Int.eq_ofNat_of_zero_le (show 0 ≤ y by omega)
                    have HJ := Lib.hid (show k = s + 2 + j from by omega)
                    have hjI : (0 : Int) ≤ (j : Int) := by omega
                    have hj8 : j ≤ 8 := by omega
                    have HFq := Lib.hid hH.out.2
                    have g0 := HFq.out.kp.cell HG.out.2.2.1 (by decide) HG.out.1
                    have f0 := HFq.out.kp.cell HG.out.2.2.2.2 (by decide) HG.out.2.2.2.1
                    have HS := Lib.hid (show ∀ V, Below wq.heap.size wq V → V.cell? ⟨pb + 1, 0, none⟩ = some (.func (.func 35) #[] #[.pointer (some ⟨pb, 0, none⟩)]) ∧ V.cell? ⟨wr.heap.size, 0, none⟩ = some (.int .i64 q1) from fun V q => ⟨bkeep q f0, bkeep q g0⟩)
                    have TC := Lib.hid (fun V (q : Below wq.heap.size wq V) => timesI_c ((k : Int) + (i : Int)) z q1 V ⟨hq0, HPI.out.1, HPI.out.2.1⟩ ((HTZ.out.fr HFq.out).keep q).1)
                    have HLH := Lib.hid (show (codeL k n f i ++ hornL k ((k : Int) + (i : Int)) ((k : Int) + (n : Int)) q1 (-1) s).length ≤ 720 from by rw [List.length_append]; have h1 := HLE.out; have h2 := horn_le8 (k := k) ((k : Int) + (i : Int)) ((k : Int) + (n : Int)) q1 (-1) (s := s) (by omega); omega)
                    have AC := Lib.hid (fun V (q : Below wq.heap.size wq V) => add_c pb k ((k + n + 1 : Nat) : Int) _ _ (timesI ((k : Int) + (i : Int)) z q1) V (hH.out.1.below q) (Nat.le_trans HLH.out (by decide)))
                    have HPB := Lib.hid (show pb ≤ wq.heap.size from Nat.le_of_lt hH.out.1.fr.1)
                    obtain ⟨iv, hiv⟩ : ∃ x, (timesI ((k : Int) + (i : Int)) z q1).v = x := ⟨_, rfl⟩
                    rw [hiv] at TC AC
                    have zf := cell_lt f0
                    have zg := cell_lt g0
                    have hBc := Below.refl wq.heap.size wq
                    clear hiv hy hs hlt2 hH H0
                    go_wp2
                    go_region_held3 (fun V => V.cell? ⟨pb + 1, 0, none⟩ = some (.func (.func 35) #[] #[.pointer (some ⟨pb, 0, none⟩)]) ∧ V.cell? ⟨wr.heap.size, 0, none⟩ = some (.int .i64 q1))
                      (first | (refine HS.out _ ?_; (repeat (first | exact Below.refl _ _ | exact hBc | refine Below.drew ?_ | refine below_drewN ?_ _ | refine bset ?_ (by simp <;> omega) _ | refine bal ?_ _)); done) | exact hfc | fail)
                      (first
                        | (go_at_call 37; refine (TC.out _ ?_).mono ?_; (repeat (first | exact Below.refl _ _ | exact hBc | refine Below.drew ?_ | refine below_drewN ?_ _ | refine bset ?_ (by simp <;> omega) _ | refine bal ?_ _)); rintro e w10 ⟨rfl, hb10⟩; (have hBd : Below wq.heap.size wq w10 := bthen (by repeat (first | exact Below.refl _ _ | exact hBc | refine Below.drew ?_ | refine below_drewN ?_ _ | refine bset ?_ (by simp <;> omega) _ | refine bal ?_ _)) hb10; clear hBc; have hBc := hBd; clear hBd))
                        | (go_at_call 35; refine (AC.out _ ?_).mono ?_; (repeat (first | exact Below.refl _ _ | exact hBc | refine Below.drew ?_ | refine below_drewN ?_ _ | refine bset ?_ (by simp <;> omega) _ | refine bal ?_ _)); rintro e w11 ⟨rfl, hE11, hF11⟩; have HE11 := Lib.hid hE11; have HF11 := Lib.hid ((HFq.out.below (show Below wq.heap.size wq _ by repeat (first | exact Below.refl _ _ | exact hBc | refine Below.drew ?_ | refine below_drewN ?_ _ | refine bset ?_ (by simp <;> omega) _ | refine bal ?_ _)) HPB.out).trans hF11); have hfc := And.intro (HF11.out.kp.cell HG.out.2.2.2.2 (by decide) HG.out.2.2.2.1) (HF11.out.kp.cell HG.out.2.2.1 (by decide) HG.out.1); clear hE11 hF11)
                        | fail)
                    all_goals
                      have g1 := HF11.out.kp.cell HG.out.2.2.1 (by decide) HG.out.2.1
                      have hc0 := hfc.1
                      have hL2 := Lib.hid (addI_le (timesI ((k : Int) + (i : Int)) z q1))
                      have HLC := Lib.hid (show (codeL k n f i ++ hornL k ((k : Int) + (i : Int)) ((k : Int) + (n : Int)) q1 (-1) s ++ addI (timesI ((k : Int) + (i : Int)) z q1)).length ≤ 721 from by rw [List.length_append]; have h1 := HLH.out; have h2 := hL2.out; omega)
                      have HH := Lib.hid (show ∀ M, addN ((k : Int) + (i : Int)) (j : Int) (-1) ((k : Int) + (n : Int)) (s + 1) = M → codeL k n f i ++ hornL k ((k : Int) + (i : Int)) ((k : Int) + (n : Int)) q1 (-1) s ++ addI (timesI ((k : Int) + (i : Int)) z q1) ++ M = codeL k n f i ++ hornL k ((k : Int) + (i : Int)) ((k : Int) + (n : Int)) q1 (-1) (s + 1) from fun M hM => by
                        have hj : k - 2 - s = j := by have := HJ.out; omega
                        show _ = codeL k n f i ++ (hornL k ((k : Int) + (i : Int)) ((k : Int) + (n : Int)) q1 (-1) s ++ (addI (timesI ((k : Int) + (i : Int)) (if s = 0 then ((k - 1 : Nat) : Int) else (k : Int) + (i : Int)) q1) ++ addN ((k : Int) + (i : Int)) ((k - 2 - s : Nat) : Int) (-1) ((k : Int) + (n : Int)) (s + 1)))
                        rw [← hz.out, hj, hM]
                        simp only [List.append_assoc])
                      have hBq := Below.refl w11.heap.size w11
                      have zg1 := cell_lt g1
                      have zc1 := cell_lt hc0
                      have HZ1 := Lib.hid (show (k : Int) + (i : Int) = if s + 1 = 0 then ((k - 1 : Nat) : Int) else (k : Int) + (i : Int) from by rw [if_neg (by omega)])
                      have HK2 := Lib.hid (show s + 1 + 1 ≤ k ∧ (j : Int) - 1 = (k : Int) - 2 - ((s + 1 : Nat) : Int) from by have := HJ.out; omega)
                      clear hfc hz HS TC AC hBc g0 f0 zg zf
                      by_cases hp : (s + 1) % 2 = 0
                      · have hrem : Int.tmod ((k : Int) - 1 - (j : Int)) 2 = 0 := by have := HJ.out; rw [Int.tmod_eq_emod_of_nonneg (by omega)]; omega
                        have hpn := Lib.hid hp
                        clear hp
                        have AC := Lib.hid (fun V (q : Below w11.heap.size w11 V) => add_l pb k ((k + n + 1 : Nat) : Int) _ _ 3 ((k : Int) + (i : Int)) ((k : Int) + (i : Int)) (j : Int) 0 V (HE11.out.below q) (Nat.le_trans HLC.out (by decide)))
                        go_wp2_with fail
                        (with_reducible refine (AC.out _ ?_).mono ?_); (repeat (first | exact Below.refl _ _ | exact hBq | refine Below.drew ?_ | refine below_drewN ?_ _ | refine bset ?_ (by simp <;> omega) _ | refine bal ?_ _))
                        rintro e w12 ⟨rfl, hE, hF⟩
                        have HN := Lib.hid (show EvB pb k ((k + n + 1 : Nat) : Int) (codeL k n f i ++ hornL k ((k : Int) + (i : Int)) ((k : Int) + (n : Int)) q1 (-1) (s + 1)) (outsL k i ++ [(k : Int) + (i : Int)]) w12 ∧ Fr pb w9 w12 from ⟨by rw [← HH.out _ (if_pos (.inr ⟨rfl, hpn.out⟩))]; exact hE, HF11.out.trans hF⟩)
                        clear hE hF AC HH
                        go_wp2
                        exact ⟨⟨s + 1, _, _, HK2.out.1, rfl, rfl, HK2.out.2, HZ1, HN⟩, by show (intOf (.int .i64 ((j : Int) - 1)) + 1).toNat < (intOf (.int .i64 (j : Int)) + 1).toNat; simp only [intOf]; omega⟩
                      · have hrem : Int.tmod ((k : Int) - 1 - (j : Int)) 2 = 1 := by have := HJ.out; rw [Int.tmod_eq_emod_of_nonneg (by omega)]; omega
                        have hpn := Lib.hid (show addN ((k : Int) + (i : Int)) (j : Int) (-1) ((k : Int) + (n : Int)) (s + 1) = [⟨4, (k : Int) + (i : Int), (k : Int) + (i : Int), (j : Int), 0⟩] from by
                          unfold addN
                          rw [if_neg (fun h => h.elim (fun h => by omega) (fun h => hp h.2)), if_pos rfl])
                        clear hp
                        have AC := Lib.hid (fun V (q : Below w11.heap.size w11 V) => add_l pb k ((k + n + 1 : Nat) : Int) _ _ 4 ((k : Int) + (i : Int)) ((k : Int) + (i : Int)) (j : Int) 0 V (HE11.out.below q) (Nat.le_trans HLC.out (by decide)))
                        go_wp2_with fail
                        (with_reducible refine (AC.out _ ?_).mono ?_); (repeat (first | exact Below.refl _ _ | exact hBq | refine Below.drew ?_ | refine below_drewN ?_ _ | refine bset ?_ (by simp <;> omega) _ | refine bal ?_ _))
                        rintro e w12 ⟨rfl, hE, hF⟩
                        have HN := Lib.hid (show EvB pb k ((k + n + 1 : Nat) : Int) (codeL k n f i ++ hornL k ((k : Int) + (i : Int)) ((k : Int) + (n : Int)) q1 (-1) (s + 1)) (outsL k i ++ [(k : Int) + (i : Int)]) w12 ∧ Fr pb w9 w12 from ⟨by rw [← HH.out _ hpn.out]; exact hE, HF11.out.trans hF⟩)
                        clear hE hF AC HH
                        go_wp2
                        exact ⟨⟨s + 1, _, _, HK2.out.1, rfl, rfl, HK2.out.2, HZ1, HN⟩, by show (intOf (.int .i64 ((j : Int) - 1)) + 1).toNat < (intOf (.int .i64 (j : Int)) + 1).toNat; simp only [intOf]; omega⟩
                  ·
                    have hyI : ¬ (0 : Int) ≤ y := by omega
                    have HN := Lib.hid (HSI.out.next (HF9.out.trans hH.out.2.fr2) (by
                      rw [codeL_succ, HQ.out, outsL_succ, show outL k i = (k : Int) + (i : Int) by unfold outL; rw [if_neg hk1, Int.natCast_add]]
                      unfold pointL
                      rw [if_neg hk1, if_neg (fun h => hq0 h.1), if_neg hq0, if_neg hq3, Int.natCast_add, Int.natCast_add, show k - 1 = s by omega]
                      exact hH.out.1))
                    clear hH hy hs hlt2 hz H0
                    go_wp2
                    exact ⟨⟨i + 1, hl1, by go_num, HN⟩, measE hl1 (by go_num) rfl⟩
              · have hb2I : (q2 == -1) = false := by simpa using hb2
                have H0 := Lib.hid (show EvB pb k ((k + n + 1 : Nat) : Int) (codeL k n f i ++ hornL k ((k : Int) + (i : Int)) ((k : Int) + (n : Int)) q1 q2 0) (outsL k i ++ [(k : Int) + (i : Int)]) w9 ∧ Fr pb w9 w9 from ⟨by show EvB pb k _ (codeL k n f i ++ []) _ _; rw [List.append_nil]; exact HE9.out, Fr.refl _ _⟩)
                rw [← HW9.out] at H0
                clear HE9 HO8
                go_wp2
                go_loopw [13, 14] (fun fr jj wq => ∃ (s : Nat) (z y : Int), s + 1 ≤ k ∧ fr = .int .i64 z ∧ jj = .int .i64 y ∧ y = (k : Int) - 2 - s ∧ Hid (z = if s = 0 then ((k - 1 : Nat) : Int) else (k : Int) + (i : Int)) ∧ Hid (EvB pb k ((k + n + 1 : Nat) : Int) (codeL k n f i ++ hornL k ((k : Int) + (i : Int)) ((k : Int) + (n : Int)) q1 q2 s) (outsL k i ++ [(k : Int) + (i : Int)]) wq ∧ Fr pb w9 wq)) (fun _ jj _ => (intOf jj + 1).toNat)
                case atStart => exact ⟨0, _, _, by omega, rfl, rfl, by omega, Lib.hid (by rw [if_pos rfl]; omega), by rw [← HW9.out]; exact H0⟩
                case round =>
                  rename World => wq
                  obtain ⟨s, z, y, hs, rfl, rfl, hy, hz, hH⟩ := hrel
                  by_cases hlt2 : s + 2 ≤ k
                  ·
                    obtain ⟨j, rfl⟩ := Int.eq_ofNat_of_zero_le (show 0 ≤ y by omega)
                    have HJ := Lib.hid (show k = s + 2 + j from by omega)
                    have hjI : (0 : Int) ≤ (j : Int) := by omega
                    have hj8 : j ≤ 8 := by omega
                    have HFq := Lib.hid hH.out.2
                    have g0 := HFq.out.kp.cell HG.out.2.2.1 (by decide) HG.out.1
                    have f0 := HFq.out.kp.cell HG.out.2.2.2.2 (by decide) HG.out.2.2.2.1
                    have HS := Lib.hid (show ∀ V, Below wq.heap.size wq V → V.cell? ⟨pb + 1, 0, none⟩ = some (.func (.func 35) #[] #[.pointer (some ⟨pb, 0, none⟩)]) ∧ V.cell? ⟨wr.heap.size, 0, none⟩ = some (.int .i64 q1) from fun V q => ⟨bkeep q f0, bkeep q g0⟩)
                    have TC := Lib.hid (fun V (q : Below wq.heap.size wq V) => timesI_c ((k : Int) + (i : Int)) z q1 V ⟨hq0, HPI.out.1, HPI.out.2.1⟩ ((HTZ.out.fr HFq.out).keep q).1)
                    have HLH := Lib.hid (show (codeL k n f i ++ hornL k ((k : Int) + (i : Int)) ((k : Int) + (n : Int)) q1 q2 s).length ≤ 720 from by rw [List.length_append]; have h1 := HLE.out; have h2 := horn_le8 (k := k) ((k : Int) + (i : Int)) ((k : Int) + (n : Int)) q1 q2 (s := s) (by omega); omega)
                    have AC := Lib.hid (fun V (q : Below wq.heap.size wq V) => add_c pb k ((k + n + 1 : Nat) : Int) _ _ (timesI ((k : Int) + (i : Int)) z q1) V (hH.out.1.below q) (Nat.le_trans HLH.out (by decide)))
                    have HPB := Lib.hid (show pb ≤ wq.heap.size from Nat.le_of_lt hH.out.1.fr.1)
                    obtain ⟨iv, hiv⟩ : ∃ x, (timesI ((k : Int) + (i : Int)) z q1).v = x := ⟨_, rfl⟩
                    rw [hiv] at TC AC
                    have zf := cell_lt f0
                    have zg := cell_lt g0
                    have hBc := Below.refl wq.heap.size wq
                    clear hiv hy hs hlt2 hH H0
                    go_wp2
                    go_region_held3 (fun V => V.cell? ⟨pb + 1, 0, none⟩ = some (.func (.func 35) #[] #[.pointer (some ⟨pb, 0, none⟩)]) ∧ V.cell? ⟨wr.heap.size, 0, none⟩ = some (.int .i64 q1))
                      (first | (refine HS.out _ ?_; (repeat (first | exact Below.refl _ _ | exact hBc | refine Below.drew ?_ | refine below_drewN ?_ _ | refine bset ?_ (by simp <;> omega) _ | refine bal ?_ _)); done) | exact hfc | fail)
                      (first
                        | (go_at_call 37; refine (TC.out _ ?_).mono ?_; (repeat (first | exact Below.refl _ _ | exact hBc | refine Below.drew ?_ | refine below_drewN ?_ _ | refine bset ?_ (by simp <;> omega) _ | refine bal ?_ _)); rintro e w10 ⟨rfl, hb10⟩; (have hBd : Below wq.heap.size wq w10 := bthen (by repeat (first | exact Below.refl _ _ | exact hBc | refine Below.drew ?_ | refine below_drewN ?_ _ | refine bset ?_ (by simp <;> omega) _ | refine bal ?_ _)) hb10; clear hBc; have hBc := hBd; clear hBd))
                        | (go_at_call 35; refine (AC.out _ ?_).mono ?_; (repeat (first | exact Below.refl _ _ | exact hBc | refine Below.drew ?_ | refine below_drewN ?_ _ | refine bset ?_ (by simp <;> omega) _ | refine bal ?_ _)); rintro e w11 ⟨rfl, hE11, hF11⟩; have HE11 := Lib.hid hE11; have HF11 := Lib.hid ((HFq.out.below (show Below wq.heap.size wq _ by repeat (first | exact Below.refl _ _ | exact hBc | refine Below.drew ?_ | refine below_drewN ?_ _ | refine bset ?_ (by simp <;> omega) _ | refine bal ?_ _)) HPB.out).trans hF11); have hfc := And.intro (HF11.out.kp.cell HG.out.2.2.2.2 (by decide) HG.out.2.2.2.1) (HF11.out.kp.cell HG.out.2.2.1 (by decide) HG.out.1); clear hE11 hF11)
                        | fail)
                    all_goals
                      have g1 := HF11.out.kp.cell HG.out.2.2.1 (by decide) HG.out.2.1
                      have hc0 := hfc.1
                      have hL2 := Lib.hid (addI_le (timesI ((k : Int) + (i : Int)) z q1))
                      have HLC := Lib.hid (show (codeL k n f i ++ hornL k ((k : Int) + (i : Int)) ((k : Int) + (n : Int)) q1 q2 s ++ addI (timesI ((k : Int) + (i : Int)) z q1)).length ≤ 721 from by rw [List.length_append]; have h1 := HLH.out; have h2 := hL2.out; omega)
                      have HH := Lib.hid (show ∀ M, addN ((k : Int) + (i : Int)) (j : Int) q2 ((k : Int) + (n : Int)) (s + 1) = M → codeL k n f i ++ hornL k ((k : Int) + (i : Int)) ((k : Int) + (n : Int)) q1 q2 s ++ addI (timesI ((k : Int) + (i : Int)) z q1) ++ M = codeL k n f i ++ hornL k ((k : Int) + (i : Int)) ((k : Int) + (n : Int)) q1 q2 (s + 1) from fun M hM => by
                        have hj : k - 2 - s = j := by have := HJ.out; omega
                        show _ = codeL k n f i ++ (hornL k ((k : Int) + (i : Int)) ((k : Int) + (n : Int)) q1 q2 s ++ (addI (timesI ((k : Int) + (i : Int)) (if s = 0 then ((k - 1 : Nat) : Int) else (k : Int) + (i : Int)) q1) ++ addN ((k : Int) + (i : Int)) ((k - 2 - s : Nat) : Int) q2 ((k : Int) + (n : Int)) (s + 1)))
                        rw [← hz.out, hj, hM]
                        simp only [List.append_assoc])
                      have hBq := Below.refl w11.heap.size w11
                      have zg1 := cell_lt g1
                      have zc1 := cell_lt hc0
                      have HZ1 := Lib.hid (show (k : Int) + (i : Int) = if s + 1 = 0 then ((k - 1 : Nat) : Int) else (k : Int) + (i : Int) from by rw [if_neg (by omega)])
                      have HK2 := Lib.hid (show s + 1 + 1 ≤ k ∧ (j : Int) - 1 = (k : Int) - 2 - ((s + 1 : Nat) : Int) from by have := HJ.out; omega)
                      clear hfc hz HS TC AC hBc g0 f0 zg zf
                      have hf0 := HF11.out.kp.typ HG.out.2.2.2.2 (by decide)
                      have SC := Lib.hid (fun V (q : Below w11.heap.size w11 V) => scaled_z pb (pb + 1) k ((k + n + 1 : Nat) : Int) _ _ ((k : Int) + (n : Int)) (j : Int) q2 ((k : Int) - 1 - (j : Int)) (s + 1) V (HE11.out.below q) (bkeep q hc0) (typ_keep hf0 q) ⟨hq3, HPI.out.2.2⟩ ((HTZ.out.fr HF11.out).keep q) (by have := HJ.out; omega) (Nat.le_trans HLC.out (by decide)) (by have := HJ.out; omega))
                      go_wp2_with fail
                      (with_reducible refine (SC.out _ ?_).mono ?_); (repeat (first | exact Below.refl _ _ | exact hBq | refine Below.drew ?_ | refine below_drewN ?_ _ | refine bset ?_ (by simp <;> omega) _ | refine bal ?_ _))
                      rintro e w12 ⟨rfl, hE12, hF12⟩
                      have HE12 := Lib.hid hE12
                      have HF12 := Lib.hid (HF11.out.trans hF12)
                      have hc2 := HF12.out.kp.cell HG.out.2.2.2.2 (by decide) HG.out.2.2.2.1
                      have zc2 := cell_lt hc2
                      have AC := Lib.hid (fun V (q : Below w12.heap.size w12 V) => add_l pb k ((k + n + 1 : Nat) : Int) _ _ 3 ((k : Int) + (i : Int)) ((k : Int) + (i : Int)) ((k : Int) + (n : Int)) 0 V (HE12.out.below q) (by rw [List.length_append]; have h1 := HLC.out; have h2 := scaled_le ((k : Int) + (n : Int)) q2 (s + 1) (j : Int); have := HJ.out; omega))
                      have hBq := Below.refl w12.heap.size w12
                      clear SC hE12 hF12
                      go_wp2_with fail
                      (with_reducible refine (AC.out _ ?_).mono ?_); (repeat (first | exact Below.refl _ _ | exact hBq | refine Below.drew ?_ | refine below_drewN ?_ _ | refine bset ?_ (by simp <;> omega) _ | refine bal ?_ _))
                      rintro e w13 ⟨rfl, hE, hF⟩
                      have HN := Lib.hid (show EvB pb k ((k + n + 1 : Nat) : Int) (codeL k n f i ++ hornL k ((k : Int) + (i : Int)) ((k : Int) + (n : Int)) q1 q2 (s + 1)) (outsL k i ++ [(k : Int) + (i : Int)]) w13 ∧ Fr pb w9 w13 from ⟨by
                        rw [← HH.out (scaledL ((k : Int) + (n : Int)) (s + 1) (j : Int) q2 ++ [⟨3, ((k : Int) + (i : Int)), ((k : Int) + (i : Int)), ((k : Int) + (n : Int)), 0⟩]) (by unfold addN; rw [if_neg (fun h => h.elim hb1 (fun h => hb2 h.1)), if_neg hb2]), ← List.append_assoc]
                        exact hE, HF12.out.trans hF⟩)
                      clear hE hF AC HH
                      go_wp2
                      exact ⟨⟨s + 1, _, _, HK2.out.1, rfl, rfl, HK2.out.2, HZ1, HN⟩, by show (intOf (.int .i64 ((j : Int) - 1)) + 1).toNat < (intOf (.int .i64 (j : Int)) + 1).toNat; simp only [intOf]; omega⟩
                  ·
                    have hyI : ¬ (0 : Int) ≤ y := by omega
                    have HN := Lib.hid (HSI.out.next (HF9.out.trans hH.out.2.fr2) (by
                      rw [codeL_succ, HQ.out, outsL_succ, show outL k i = (k : Int) + (i : Int) by unfold outL; rw [if_neg hk1, Int.natCast_add]]
                      unfold pointL
                      rw [if_neg hk1, if_neg (fun h => hq0 h.1), if_neg hq0, if_neg hq3, Int.natCast_add, Int.natCast_add, show k - 1 = s by omega]
                      exact hH.out.1))
                    clear hH hy hs hlt2 hz H0
                    go_wp2
                    exact ⟨⟨i + 1, hl1, by go_num, HN⟩, measE hl1 (by go_num) rfl⟩
    · obtain rfl : i = n := by omega
      have hltI : ¬ (i : Int) < (i : Int) := by omega
      obtain ⟨cv, p2, hc⟩ := hS.out.ev.code
      obtain ⟨ov, p3, ho⟩ := hS.out.ev.outs
      obtain ⟨ca, cc, rfl, hcV, hcF⟩ := own_ins hc
      obtain ⟨oa, oc, rfl, hoV, hoF⟩ := own_ints ho
      have p0 := hS.out.ev.c0
      have p1 := hS.out.ev.c1
      simp only [Int.natCast_add, Int.natCast_one] at p1
      have r0 := hS.out.r0
      have r1 := hS.out.r1
      have r2 := hS.out.r2
      have r3 := hS.out.r3
      have r0f := hS.out.rf 0
      have r1f := hS.out.rf 1
      have r2f := hS.out.rf 2
      have r3f := hS.out.rf 3
      have hlo := hS.out.lo
      have hn1 : ¬ w.heap.size = pb := by omega
      have hn2 : ¬ pb = w.heap.size := by omega
      have zp := cell_lt p0
      have zr := cell_lt r0
      have hcn : ∀ p, ca = some p → p.block ≠ w.heap.size := fun p e => by have := (hcF p e).1; omega
      have hon : ∀ p, oa = some p → p.block ≠ w.heap.size := fun p e => by have := (hoF p e).1; omega
      have hlow : w.heap.size ≤ pb + 1 := by omega
      have HF := Lib.hid (show ∀ v0 v1 v2 v3, InsV ((((wr.setCell ⟨w.heap.size, 0, none⟩ v0).setCell ⟨w.heap.size, 1, none⟩ v1).setCell ⟨w.heap.size, 2, none⟩ v2).setCell ⟨w.heap.size, 3, none⟩ v3) ca cc (codeL k i f i) ∧ IntsV ((((wr.setCell ⟨w.heap.size, 0, none⟩ v0).setCell ⟨w.heap.size, 1, none⟩ v1).setCell ⟨w.heap.size, 2, none⟩ v2).setCell ⟨w.heap.size, 3, none⟩ v3) oa oc (outsL k i) ∧ FromA w.heap.size 53 ((((wr.setCell ⟨w.heap.size, 0, none⟩ v0).setCell ⟨w.heap.size, 1, none⟩ v1).setCell ⟨w.heap.size, 2, none⟩ v2).setCell ⟨w.heap.size, 3, none⟩ v3) ca ∧ FromA w.heap.size 3 ((((wr.setCell ⟨w.heap.size, 0, none⟩ v0).setCell ⟨w.heap.size, 1, none⟩ v1).setCell ⟨w.heap.size, 2, none⟩ v2).setCell ⟨w.heap.size, 3, none⟩ v3) oa ∧ Below w.heap.size w ((((wr.setCell ⟨w.heap.size, 0, none⟩ v0).setCell ⟨w.heap.size, 1, none⟩ v1).setCell ⟨w.heap.size, 2, none⟩ v2).setCell ⟨w.heap.size, 3, none⟩ v3) from fun v0 v1 v2 v3 =>
        ⟨(((hcV.far hcn v0).far hcn v1).far hcn v2).far hcn v3, (((hoV.far hon v0).far hon v1).far hon v2).far hon v3, ((((hcF.mono hlow).set _ _).set _ _).set _ _).set _ _, ((((hoF.mono hlow).set _ _).set _ _).set _ _).set _ _,
          bset (bset (bset (bset hS.out.bel (Nat.le_refl _) _) (Nat.le_refl _) _) (Nat.le_refl _) _) (Nat.le_refl _) _⟩)
      clear hc ho hcV hoV hcF hoF hcn hon hS
      go_wp2
      refine bodyPost_ret (v := .tuple #[.agg #[.int .i64 (k : Int), .int .i64 ((k : Int) + (i : Int) + 1), .slice ca (codeL k i f i).length cc, .slice oa (outsL k i).length oc], .int .i64 0]) (by simp [results, Tryd.results18, go_sem, *]) rfl ?_
      obtain ⟨h1, h2, h3, h4, h5⟩ := HF.out (.int .i64 (k : Int)) (.int .i64 ((k : Int) + (i : Int) + 1)) (.slice ca (codeL k i f i).length cc) (.slice oa (outsL k i).length oc)
      exact ⟨⟨ca, cc, oa, oc, by simp only [Int.natCast_add, Int.natCast_one], h1, h2, h3, h4⟩, h5⟩
end Go.Proofs.YtdllbdfchloijaaDoor

