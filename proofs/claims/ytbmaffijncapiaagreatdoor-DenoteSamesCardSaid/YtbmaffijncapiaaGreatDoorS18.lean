/- Texts of this seat, laid together: QPc, DnA, RxS, LsU, MkB. What each theorem proves, and under which conditions, its statement says. -/
import Derived.Test.YtbmaffijncapiaaGreatDoorS17
set_option maxRecDepth 100000
set_option maxHeartbeats 32000000
set_option linter.unusedVariables false
set_option linter.unusedSimpArgs false
namespace Go.Proofs.YtbmaffijncapiaaGreatDoor
open Go.ChangeShapes Go.WideShapes Go.ChangeAt Go.RowKit
section
open Num
attribute [local go_sem ↓] Go.wp_at_zero Go.wp_at_succ
def qTxt (q : Rat) : List UInt8 := if q.den = 1 then intTxt q.num else intTxt q.num ++ [47] ++ intTxt (q.den : Int)
theorem qTxt_one {q : Rat} (h : q.den = 1) : qTxt q = intTxt q.num := if_pos h
theorem qTxt_two {q : Rat} (h : q.den ≠ 1) : qTxt q = intTxt q.num ++ [47] ++ intTxt (q.den : Int) := if_neg h
theorem pqWhole_c (vn : Value) (n : Int) (w : World) (hn : IsInt w vn n) :
 Calls Tryz.prog 39 #[vn] w fun e w' => (∃ v, e = .returned v ∧ IsQP w' v (n : Rat)) ∧ Below w.heap.size w w' := by
 have HN := hZ hn
 obtain ⟨nn, na, nl, nc, rfl⟩ := hn.lit
 have HQ := hZ (fun V (q : Below w.heap.size w V) => (show IsQP V (.agg #[.bool nn, .slice na nl nc, .bool false, .slice none 0 0]) (n : Rat) from
  ⟨nn, na, nl, nc, false, none, 0, 0, rfl, by rw [(whole_num n).1]; exact HN.out.keep q, by rw [(whole_num n).2]; exact isInt_zero V⟩))
 clear hn
 have hB := Below.refl w.heap.size w
 go_enter Tryz.func39, Tryz.ntmps39
 go_wp2
 refine bodyPost_ret (v := .agg #[.bool nn, .slice na nl nc, .bool false, .slice none 0 0]) (by simp [results, Tryz.results39, go_sem]) rfl ⟨⟨_, rfl, ?_⟩, ?_⟩
 · exact HQ.out _ bZ
 ·
  repeat exact bZ
theorem den_one (x : Rat) : decide (x.den = 1) = (((x.den : Int) - 1).sign == 0) := by
 by_cases h : x.den = 1
 · rw [h]; rfl
 · have : ¬ ((x.den : Int) - 1).sign = 0 := fun e => h (by have := Int.sign_eq_zero_iff_zero.1 e; omega)
   rw [decide_eq_false h]
   simpa using this
theorem pqIsWhole_c (v : Value) (x : Rat) (w : World) (hx : IsQP w v x) : Calls Tryz.prog 141 #[v] w fun e w' => e = .returned (.bool (decide (x.den = 1))) ∧ Below w.heap.size w w' := by
 rw [den_one]
 obtain ⟨n1, a1, l1, c1, n2, a2, l2, c2, rfl, h1, h2⟩ := hx
 have SC := hZ (fun V (q : Below w.heap.size w V) => sign_c (.agg #[.bool n2, .slice a2 l2 c2]) _ V (h2.keep q))
 obtain ⟨z, hz⟩ : ∃ z, ((x.den : Int) - 1).sign = z := ⟨_, rfl⟩
 rw [hz] at SC ⊢
 clear h1 h2 hz
 have hB := Below.refl w.heap.size w
 go_enter Tryz.func141, Tryz.ntmps141
 go_wp2_with fail
 (with_reducible refine (SC.out _ ?_).mono ?_); (repeat exact bZ)
 rintro e w1 ⟨rfl, hb1⟩
 have hB1 : Below w.heap.size w w1 := bthen bZ hb1
 clear SC hb1
 go_wp2
 go_ret
 exact ⟨rfl, by repeat exact bZ⟩
theorem pqText_c (v : Value) (x : Rat) (k : Nat) (w : World) (hx : IsQP w v x) (bx : BdQ k x) (hk : k ≤ 1000000000) : Calls Tryz.prog 53 #[v] w fun e w' => e = .returned (.string ⟨(qTxt x).toArray⟩) ∧ Below w.heap.size w w' := by
 have WC := hZ (fun V (q : Below w.heap.size w V) => pqIsWhole_c v x V (hx.keep q))
 have DC := hZ (fun V (q : Below w.heap.size w V) => pqDen_c v x k V (hx.keep q) bx (by omega))
 obtain ⟨n1, a1, l1, c1, n2, a2, l2, c2, rfl, h1, h2⟩ := hx
 have TC := hZ (fun V (q : Below w.heap.size w V) => intText_c (.agg #[.bool n1, .slice a1 l1 c1]) _ k V (h1.keep q) bx.1 (by omega))
 have TD := hZ (fun u V (hu : IsInt V u (x.den : Int)) => intText_c u _ k V hu bx.2 (by omega))
 have hl1 := intTxt_len bx.1
 have hl2 := intTxt_len bx.2
 have hB := Below.refl w.heap.size w
 by_cases hd : x.den = 1
 · rw [qTxt_one hd]
   rw [decide_eq_true hd] at WC
   obtain ⟨T, hT⟩ : ∃ T, intTxt x.num = T := ⟨_, rfl⟩
   rw [hT] at TC ⊢
   clear h1 h2 bx hd TD DC hl1 hl2 hT
   go_enter Tryz.func53, Tryz.ntmps53
   go_wp2_with fail
   (with_reducible refine (TC.out _ ?_).mono ?_); (repeat exact bZ)
   rintro e w1 ⟨rfl, hb1⟩
   have x0 : w1.cell? ⟨w.heap.size, 0, none⟩ = some (.bool n1) := bkc hb1
   have zx0 := cell_lt x0
   have x1 : w1.cell? ⟨w.heap.size, 1, none⟩ = some (.slice a1 l1 c1) := bkc hb1
   have x2 : w1.cell? ⟨w.heap.size, 2, none⟩ = some (.bool n2) := bkc hb1
   have x3 : w1.cell? ⟨w.heap.size, 3, none⟩ = some (.slice a2 l2 c2) := bkc hb1
   have hB : Below w.heap.size w w1 := bthen bZ hb1
   have hz := hB.size
   clear TC hb1
   go_wp2_with fail
   (with_reducible refine (WC.out _ ?_).mono ?_); (repeat exact bZ)
   rintro e w2 ⟨rfl, hb2⟩
   have hB2 : Below w.heap.size w w2 := bthen bZ hb2
   clear WC hb2
   go_wp2
   go_ret
   exact ⟨rfl, by repeat exact bZ⟩
 · have HQT := hZ (qTxt_two hd)
   rw [decide_eq_false hd] at WC
   obtain ⟨T, hT⟩ : ∃ T, intTxt x.num = T := ⟨_, rfl⟩
   obtain ⟨D, hD⟩ : ∃ D, intTxt (x.den : Int) = D := ⟨_, rfl⟩
   rw [hT] at TC HQT hl1
   rw [hD] at TD HQT hl2
   rw [HQT.out]
   have hs1 : ¬ 9223372036854775807 < 1 + D.length := by omega
   have hs2 : ¬ 9223372036854775807 < T.length + (1 + D.length) := by omega
   have HS := hZ (show (⟨T.toArray⟩ : ByteArray) ++ ((⟨#[47]⟩ : ByteArray) ++ ⟨D.toArray⟩) = ⟨(T ++ [47] ++ D).toArray⟩ from by
    rw [show (⟨#[47]⟩ : ByteArray) = ⟨([47] : List UInt8).toArray⟩ from rfl, ba_app, ba_app, List.append_assoc])
   clear h1 h2 bx hd hT hD HQT hl1 hl2
   go_enter Tryz.func53, Tryz.ntmps53
   go_wp2_with fail
   (with_reducible refine (TC.out _ ?_).mono ?_); (repeat exact bZ)
   rintro e w1 ⟨rfl, hb1⟩
   have x0 : w1.cell? ⟨w.heap.size, 0, none⟩ = some (.bool n1) := bkc hb1
   have zx0 := cell_lt x0
   have x1 : w1.cell? ⟨w.heap.size, 1, none⟩ = some (.slice a1 l1 c1) := bkc hb1
   have x2 : w1.cell? ⟨w.heap.size, 2, none⟩ = some (.bool n2) := bkc hb1
   have x3 : w1.cell? ⟨w.heap.size, 3, none⟩ = some (.slice a2 l2 c2) := bkc hb1
   have hB : Below w.heap.size w w1 := bthen bZ hb1
   have hz := hB.size
   clear TC hb1
   go_wp2_with fail
   (with_reducible refine (WC.out _ ?_).mono ?_); (repeat exact bZ)
   rintro e w2 ⟨rfl, hb2⟩
   have x0 : w2.cell? ⟨w.heap.size, 0, none⟩ = some (.bool n1) := bkc hb2
   have zx0 := cell_lt x0
   have x1 : w2.cell? ⟨w.heap.size, 1, none⟩ = some (.slice a1 l1 c1) := bkc hb2
   have x2 : w2.cell? ⟨w.heap.size, 2, none⟩ = some (.bool n2) := bkc hb2
   have x3 : w2.cell? ⟨w.heap.size, 3, none⟩ = some (.slice a2 l2 c2) := bkc hb2
   have hB : Below w.heap.size w w2 := bthen bZ hb2
   have hz := hB.size
   clear WC hb2
   go_wp2_with fail
   (with_reducible refine (DC.out _ ?_).mono ?_); (repeat exact bZ)
   rintro e w3 ⟨⟨u3, rfl, hu3⟩, hb3⟩
   have hB3 : Below w.heap.size w w3 := bthen bZ hb3
   have TD3 := hZ (fun V (q : Below w3.heap.size w3 V) => TD.out u3 V (hu3.keep q))
   have hBw3 := Below.refl w3.heap.size w3
   obtain ⟨pn, pa, pl, pc, rfl⟩ := hu3.lit
   clear DC hb3 TD hu3
   go_wp2_with fail
   (with_reducible refine (TD3.out _ ?_).mono ?_); (repeat exact bZ)
   rintro e w4 ⟨rfl, hb4⟩
   have hB4 : Below w.heap.size w w4 := bthen hB3 (bthen bZ hb4)
   clear TD3 hb4 hBw3
   go_wp2
   go_ret
   refine ⟨?_, by repeat exact bZ⟩
   have hs := HS.out
   first | rfl | (simp only [hs]; done) | (rw [hs]; rfl)
end
section
open Num
attribute [local go_sem ↓] Go.wp_at_zero Go.wp_at_succ
def AnsF (q : Rat) (w : World) (e : Ending) (w' : World) : Prop := (∃ v, e = .returned v ∧ IsQP w' v q) ∧ Below w.heap.size w w'
theorem dnPower_c (n : Nat) (w : World) (hn : n ≤ 65536) : Calls Tryz.prog 249 #[.int .i64 (n : Int)] w (AnsF ((2 ^ n : Int) : Rat) w) := by
 have oc := fun W => of_c 1 W (by omega) (by omega)
 have sc := fun v W (h : IsInt W v 1) => shlI_c v 1 1 n W h (by unfold Bd; decide) (by omega) hn
 rw [show (1 : Int) * 2 ^ n = 2 ^ n by rw [Int.one_mul]] at sc
 obtain ⟨z, hz⟩ : ∃ z, (2 ^ n : Int) = z := ⟨_, rfl⟩
 rw [hz] at sc ⊢
 clear hz
 have hB := Below.refl w.heap.size w
 unfold AnsF
 go_enter Tryz.func249, Tryz.ntmps249
 go_wp2_with fail
 refine (oc _).mono ?_
 rintro e w1 ⟨⟨v1, rfl, hi1⟩, hb1⟩
 have r0 : w1.cell? ⟨w.heap.size, 0, none⟩ = some (.bool false) := bkc hb1
 have zr0 := cell_lt r0
 have r0f : w1.frozen? ⟨w.heap.size, 0, none⟩ = false := bkcf (v := .bool false) hb1
 have r1 : w1.cell? ⟨w.heap.size, 1, none⟩ = some (.slice none 0 0) := bkc hb1
 have r1f : w1.frozen? ⟨w.heap.size, 1, none⟩ = false := bkcf (v := .slice none 0 0) hb1
 have r2 : w1.cell? ⟨w.heap.size, 2, none⟩ = some (.bool false) := bkc hb1
 have r2f : w1.frozen? ⟨w.heap.size, 2, none⟩ = false := bkcf (v := .bool false) hb1
 have r3 : w1.cell? ⟨w.heap.size, 3, none⟩ = some (.slice none 0 0) := bkc hb1
 have r3f : w1.frozen? ⟨w.heap.size, 3, none⟩ = false := bkcf (v := .slice none 0 0) hb1
 have hB : Below w.heap.size w w1 := bthen bZ hb1
 have hz := hB.size
 have HI1 := hZ hi1
 obtain ⟨n1, a1, c1, l1, rfl, -⟩ := hi1
 unfold iv at *
 have hBw1 := Below.refl w1.heap.size w1
 clear oc hb1
 go_wp2_with fail
 refine (sc _ _ (HI1.out.keep ?_)).mono ?_
 ·
  repeat exact bZ
 rintro e w2 ⟨⟨v2, rfl, hi2⟩, hb2⟩
 have r0 : w2.cell? ⟨w.heap.size, 0, none⟩ = some (.bool false) := bkc hb2
 have zr0 := cell_lt r0
 have r0f : w2.frozen? ⟨w.heap.size, 0, none⟩ = false := bkcf (v := .bool false) hb2
 have r1 : w2.cell? ⟨w.heap.size, 1, none⟩ = some (.slice none 0 0) := bkc hb2
 have r1f : w2.frozen? ⟨w.heap.size, 1, none⟩ = false := bkcf (v := .slice none 0 0) hb2
 have r2 : w2.cell? ⟨w.heap.size, 2, none⟩ = some (.bool false) := bkc hb2
 have r2f : w2.frozen? ⟨w.heap.size, 2, none⟩ = false := bkcf (v := .bool false) hb2
 have r3 : w2.cell? ⟨w.heap.size, 3, none⟩ = some (.slice none 0 0) := bkc hb2
 have r3f : w2.frozen? ⟨w.heap.size, 3, none⟩ = false := bkcf (v := .slice none 0 0) hb2
 have hB : Below w.heap.size w w2 := bthen bZ hb2
 have hz := hB.size
 have HI2 := hZ hi2
 have WC := hZ (fun V (q : Below w2.heap.size w2 V) => pqWhole_c v2 z V (hi2.keep q))
 obtain ⟨n2, a2, c2, l2, rfl, -⟩ := hi2
 unfold iv at *
 have hBw2 := Below.refl w2.heap.size w2
 clear sc hb2 hBw1 HI1
 go_wp2_with fail
 (with_reducible refine (WC.out _ ?_).mono ?_); (repeat exact bZ)
 rintro e w3 ⟨⟨v3, rfl, hv⟩, hb3⟩
 have r0 : w3.cell? ⟨w.heap.size, 0, none⟩ = some (.bool false) := bkc hb3
 have zr0 := cell_lt r0
 have r0f : w3.frozen? ⟨w.heap.size, 0, none⟩ = false := bkcf (v := .bool false) hb3
 have r1 : w3.cell? ⟨w.heap.size, 1, none⟩ = some (.slice none 0 0) := bkc hb3
 have r1f : w3.frozen? ⟨w.heap.size, 1, none⟩ = false := bkcf (v := .slice none 0 0) hb3
 have r2 : w3.cell? ⟨w.heap.size, 2, none⟩ = some (.bool false) := bkc hb3
 have r2f : w3.frozen? ⟨w.heap.size, 2, none⟩ = false := bkcf (v := .bool false) hb3
 have r3 : w3.cell? ⟨w.heap.size, 3, none⟩ = some (.slice none 0 0) := bkc hb3
 have r3f : w3.frozen? ⟨w.heap.size, 3, none⟩ = false := bkcf (v := .slice none 0 0) hb3
 have hB : Below w.heap.size w w3 := bthen bZ hb3
 have hz := hB.size
 clear WC hb3 hBw2 HI2
 have HV := hZ hv
 obtain ⟨m1, b1, k1, d1, m2, b2, k2, d2, rfl, -, -⟩ := hv
 have HQ := hZ (IsQP.put4 HV.out r0 r1 r2 r3 (.bool m1) (.slice b1 k1 d1) (.bool m2) (.slice b2 k2 d2))
 have zr := cell_lt r0
 have hBf := hB
 clear HV
 go_wp2
 refine bodyPost_ret (v := .agg #[.bool m1, .slice b1 k1 d1, .bool m2, .slice b2 k2 d2]) (by simp [results, Tryz.results249, go_sem, *]) rfl ⟨⟨_, rfl, ?_⟩, ?_⟩
 · first | exact HQ.out | exact HQ.out.keep (Below.refl _ _).drew
 ·
  repeat exact bZ
theorem dnOver_c (vx vy : Value) (x y : Rat) (k m : Nat) (w : World) (hx : IsQP w vx x) (hy : IsQP w vy y) (bx : BdQ k x) (by' : BdQ m y) (hk9 : k + m ≤ 17179869180) (h0 : y ≠ 0) : Calls Tryz.prog 247 #[vx, vy] w (AnsF (x / y) w) := by
 have OC := hZ (fun V (q : Below w.heap.size w V) => pqOver_c vx vy x y k m V (hx.keep q) (hy.keep q) bx by' hk9 h0)
 obtain ⟨n1, a1, l1, c1, n2, a2, l2, c2, rfl, -, -⟩ := hx
 obtain ⟨n3, a3, l3, c3, n4, a4, l4, c4, rfl, -, -⟩ := hy
 obtain ⟨z, hz⟩ : ∃ z, x / y = z := ⟨_, rfl⟩
 rw [hz] at OC ⊢
 clear hz bx by' hk9 h0
 have hB := Below.refl w.heap.size w
 unfold AnsF
 go_enter Tryz.func247, Tryz.ntmps247
 go_wp2_with fail
 (with_reducible refine (OC.out _ ?_).mono ?_); (repeat exact bZ)
 rintro e w1 ⟨⟨v1, rfl, hv⟩, hb1⟩
 have r0 : w1.cell? ⟨w.heap.size + 1 + 1, 0, none⟩ = some (.bool false) := bkc hb1
 have zr0 := cell_lt r0
 have r0f : w1.frozen? ⟨w.heap.size + 1 + 1, 0, none⟩ = false := bkcf (v := .bool false) hb1
 have r1 : w1.cell? ⟨w.heap.size + 1 + 1, 1, none⟩ = some (.slice none 0 0) := bkc hb1
 have r1f : w1.frozen? ⟨w.heap.size + 1 + 1, 1, none⟩ = false := bkcf (v := .slice none 0 0) hb1
 have r2 : w1.cell? ⟨w.heap.size + 1 + 1, 2, none⟩ = some (.bool false) := bkc hb1
 have r2f : w1.frozen? ⟨w.heap.size + 1 + 1, 2, none⟩ = false := bkcf (v := .bool false) hb1
 have r3 : w1.cell? ⟨w.heap.size + 1 + 1, 3, none⟩ = some (.slice none 0 0) := bkc hb1
 have r3f : w1.frozen? ⟨w.heap.size + 1 + 1, 3, none⟩ = false := bkcf (v := .slice none 0 0) hb1
 have hB : Below w.heap.size w w1 := bthen bZ hb1
 have hz := hB.size
 have HV := hZ hv
 obtain ⟨m1, b1, k1, d1, m2, b2, k2, d2, rfl, -, -⟩ := hv
 have HQ := hZ (IsQP.put4 HV.out r0 r1 r2 r3 (.bool m1) (.slice b1 k1 d1) (.bool m2) (.slice b2 k2 d2))
 have zr := cell_lt r0
 have zr1 : w.heap.size + 1 + 1 < w1.heap.size + 1 := by omega
 have hBf := hB
 clear HV OC hb1
 go_wp2
 refine bodyPost_ret (v := .agg #[.bool m1, .slice b1 k1 d1, .bool m2, .slice b2 k2 d2]) (by simp [results, Tryz.results247, go_sem, *]) rfl ⟨⟨_, rfl, ?_⟩, ?_⟩
 · first | exact HQ.out | exact HQ.out.keep (bal (Below.refl _ _) _)
 ·
  repeat exact bZ
def FnQ (i : Ins) (k : Nat) (w : World) (F : Nat) (caps : Array Value) : Prop :=
 ∀ W va vb a b, Below w.heap.size w W → IsQP W va a → IsQP W vb b → BdQ k a → BdQ k b → Calls Tryz.prog F (#[va, vb] ++ caps) W (AnsF (opQ i a b) W)
theorem dnNeg_c (va vb : Value) (x y : Rat) (w : World) (hx : IsQP w va x) (hy : IsQP w vb y) : Calls Tryz.prog 240 #[va, vb] w (AnsF (-x) w) := by
 have OC := hZ (fun V (q : Below w.heap.size w V) => pqNeg_c va x V (hx.keep q))
 obtain ⟨n1, a1, l1, c1, n2, a2, l2, c2, rfl, -, -⟩ := hx
 obtain ⟨n3, a3, l3, c3, n4, a4, l4, c4, rfl, -, -⟩ := hy
 have hB := Below.refl w.heap.size w
 unfold AnsF
 go_enter Tryz.func240, Tryz.ntmps240
 go_wp2_with fail
 (with_reducible refine (OC.out _ ?_).mono ?_); (repeat exact bZ)
 rintro e w1 ⟨⟨v1, rfl, hv⟩, hb1⟩
 have r0 : w1.cell? ⟨w.heap.size + 1 + 1, 0, none⟩ = some (.bool false) := bkc hb1
 have zr0 := cell_lt r0
 have r0f : w1.frozen? ⟨w.heap.size + 1 + 1, 0, none⟩ = false := bkcf (v := .bool false) hb1
 have r1 : w1.cell? ⟨w.heap.size + 1 + 1, 1, none⟩ = some (.slice none 0 0) := bkc hb1
 have r1f : w1.frozen? ⟨w.heap.size + 1 + 1, 1, none⟩ = false := bkcf (v := .slice none 0 0) hb1
 have r2 : w1.cell? ⟨w.heap.size + 1 + 1, 2, none⟩ = some (.bool false) := bkc hb1
 have r2f : w1.frozen? ⟨w.heap.size + 1 + 1, 2, none⟩ = false := bkcf (v := .bool false) hb1
 have r3 : w1.cell? ⟨w.heap.size + 1 + 1, 3, none⟩ = some (.slice none 0 0) := bkc hb1
 have r3f : w1.frozen? ⟨w.heap.size + 1 + 1, 3, none⟩ = false := bkcf (v := .slice none 0 0) hb1
 have hB : Below w.heap.size w w1 := bthen bZ hb1
 have hz := hB.size
 clear OC hb1
 have HV := hZ hv
 obtain ⟨m1, b1, k1, d1, m2, b2, k2, d2, rfl, -, -⟩ := hv
 have HQ := hZ (IsQP.put4 HV.out r0 r1 r2 r3 (.bool m1) (.slice b1 k1 d1) (.bool m2) (.slice b2 k2 d2))
 have zr := cell_lt r0
 have hBf := hB
 clear HV
 go_wp2
 refine bodyPost_ret (v := .agg #[.bool m1, .slice b1 k1 d1, .bool m2, .slice b2 k2 d2]) (by simp [results, Tryz.results240, go_sem, *]) rfl ⟨⟨_, rfl, ?_⟩, ?_⟩
 · first | exact HQ.out | exact HQ.out.keep (Below.refl _ _).drew
 ·
  repeat exact bZ
theorem dnAdd_c (va vb : Value) (x y : Rat) (k : Nat) (w : World) (hx : IsQP w va x) (hy : IsQP w vb y) (bx : BdQ k x) (by' : BdQ k y) (hk : k ≤ 1000000000) : Calls Tryz.prog 242 #[va, vb] w (AnsF (x + y) w) := by
 have OC := hZ (fun V (q : Below w.heap.size w V) => pqAdd_c va vb x y k k V (hx.keep q) (hy.keep q) bx by' (by omega))
 clear bx by' hk
 obtain ⟨n1, a1, l1, c1, n2, a2, l2, c2, rfl, -, -⟩ := hx
 obtain ⟨n3, a3, l3, c3, n4, a4, l4, c4, rfl, -, -⟩ := hy
 have hB := Below.refl w.heap.size w
 unfold AnsF
 go_enter Tryz.func242, Tryz.ntmps242
 go_wp2_with fail
 (with_reducible refine (OC.out _ ?_).mono ?_); (repeat exact bZ)
 rintro e w1 ⟨⟨v1, rfl, hv⟩, hb1⟩
 have r0 : w1.cell? ⟨w.heap.size + 1 + 1, 0, none⟩ = some (.bool false) := bkc hb1
 have zr0 := cell_lt r0
 have r0f : w1.frozen? ⟨w.heap.size + 1 + 1, 0, none⟩ = false := bkcf (v := .bool false) hb1
 have r1 : w1.cell? ⟨w.heap.size + 1 + 1, 1, none⟩ = some (.slice none 0 0) := bkc hb1
 have r1f : w1.frozen? ⟨w.heap.size + 1 + 1, 1, none⟩ = false := bkcf (v := .slice none 0 0) hb1
 have r2 : w1.cell? ⟨w.heap.size + 1 + 1, 2, none⟩ = some (.bool false) := bkc hb1
 have r2f : w1.frozen? ⟨w.heap.size + 1 + 1, 2, none⟩ = false := bkcf (v := .bool false) hb1
 have r3 : w1.cell? ⟨w.heap.size + 1 + 1, 3, none⟩ = some (.slice none 0 0) := bkc hb1
 have r3f : w1.frozen? ⟨w.heap.size + 1 + 1, 3, none⟩ = false := bkcf (v := .slice none 0 0) hb1
 have hB : Below w.heap.size w w1 := bthen bZ hb1
 have hz := hB.size
 clear OC hb1
 have HV := hZ hv
 obtain ⟨m1, b1, k1, d1, m2, b2, k2, d2, rfl, -, -⟩ := hv
 have HQ := hZ (IsQP.put4 HV.out r0 r1 r2 r3 (.bool m1) (.slice b1 k1 d1) (.bool m2) (.slice b2 k2 d2))
 have zr := cell_lt r0
 have hBf := hB
 clear HV
 go_wp2
 refine bodyPost_ret (v := .agg #[.bool m1, .slice b1 k1 d1, .bool m2, .slice b2 k2 d2]) (by simp [results, Tryz.results242, go_sem, *]) rfl ⟨⟨_, rfl, ?_⟩, ?_⟩
 · first | exact HQ.out | exact HQ.out.keep (Below.refl _ _).drew
 ·
  repeat exact bZ
theorem dnSub_c (va vb : Value) (x y : Rat) (k : Nat) (w : World) (hx : IsQP w va x) (hy : IsQP w vb y) (bx : BdQ k x) (by' : BdQ k y) (hk : k ≤ 1000000000) : Calls Tryz.prog 243 #[va, vb] w (AnsF (x - y) w) := by
 have OC := hZ (fun V (q : Below w.heap.size w V) => pqSub_c va vb x y k k V (hx.keep q) (hy.keep q) bx by' (by omega))
 clear bx by' hk
 obtain ⟨n1, a1, l1, c1, n2, a2, l2, c2, rfl, -, -⟩ := hx
 obtain ⟨n3, a3, l3, c3, n4, a4, l4, c4, rfl, -, -⟩ := hy
 have hB := Below.refl w.heap.size w
 unfold AnsF
 go_enter Tryz.func243, Tryz.ntmps243
 go_wp2_with fail
 (with_reducible refine (OC.out _ ?_).mono ?_); (repeat exact bZ)
 rintro e w1 ⟨⟨v1, rfl, hv⟩, hb1⟩
 have r0 : w1.cell? ⟨w.heap.size + 1 + 1, 0, none⟩ = some (.bool false) := bkc hb1
 have zr0 := cell_lt r0
 have r0f : w1.frozen? ⟨w.heap.size + 1 + 1, 0, none⟩ = false := bkcf (v := .bool false) hb1
 have r1 : w1.cell? ⟨w.heap.size + 1 + 1, 1, none⟩ = some (.slice none 0 0) := bkc hb1
 have r1f : w1.frozen? ⟨w.heap.size + 1 + 1, 1, none⟩ = false := bkcf (v := .slice none 0 0) hb1
 have r2 : w1.cell? ⟨w.heap.size + 1 + 1, 2, none⟩ = some (.bool false) := bkc hb1
 have r2f : w1.frozen? ⟨w.heap.size + 1 + 1, 2, none⟩ = false := bkcf (v := .bool false) hb1
 have r3 : w1.cell? ⟨w.heap.size + 1 + 1, 3, none⟩ = some (.slice none 0 0) := bkc hb1
 have r3f : w1.frozen? ⟨w.heap.size + 1 + 1, 3, none⟩ = false := bkcf (v := .slice none 0 0) hb1
 have hB : Below w.heap.size w w1 := bthen bZ hb1
 have hz := hB.size
 clear OC hb1
 have HV := hZ hv
 obtain ⟨m1, b1, k1, d1, m2, b2, k2, d2, rfl, -, -⟩ := hv
 have HQ := hZ (IsQP.put4 HV.out r0 r1 r2 r3 (.bool m1) (.slice b1 k1 d1) (.bool m2) (.slice b2 k2 d2))
 have zr := cell_lt r0
 have hBf := hB
 clear HV
 go_wp2
 refine bodyPost_ret (v := .agg #[.bool m1, .slice b1 k1 d1, .bool m2, .slice b2 k2 d2]) (by simp [results, Tryz.results243, go_sem, *]) rfl ⟨⟨_, rfl, ?_⟩, ?_⟩
 · first | exact HQ.out | exact HQ.out.keep (Below.refl _ _).drew
 ·
  repeat exact bZ
theorem dnMove_c (va vb : Value) (x y : Rat) (w : World) (hx : IsQP w va x) (hy : IsQP w vb y) : Calls Tryz.prog 251 #[va, vb] w (AnsF x w) := by
 have HX := hZ hx
 obtain ⟨n1, a1, l1, c1, n2, a2, l2, c2, rfl, -, -⟩ := hx
 obtain ⟨n3, a3, l3, c3, n4, a4, l4, c4, rfl, -, -⟩ := hy
 have hB := Below.refl w.heap.size w
 unfold AnsF
 go_enter Tryz.func251, Tryz.ntmps251
 go_wp2
 refine bodyPost_ret (v := .agg #[.bool n1, .slice a1 l1 c1, .bool n2, .slice a2 l2 c2]) (by simp [results, Tryz.results251, go_sem]) rfl ⟨⟨_, rfl, ?_⟩, ?_⟩
 · exact HX.out.keep bZ
 ·
  repeat exact bZ
theorem dnMul_c (va vb : Value) (x y c : Rat) (cb k m : Nat) (w : World) (hx : IsQP w va x) (hy : IsQP w vb y) (hc : FrC IsQP w cb 0 c) (bx : BdQ k x) (bc : BdQ m c) (hk : k + m ≤ 17179869180) : Calls Tryz.prog 245 #[va, vb, .pointer (some ⟨cb, 0, none⟩)] w (AnsF (x * c) w) := by
 have OCC := fun {vc : Value} V (h1 : IsQP V va x) (h2 : IsQP V vc c) => pqMul_c va vc x c k m V h1 h2 bx bc hk
 clear bx bc hk
 obtain ⟨q1, b1, k1, d1, q2, b2, k2, d2, g0, g1, g2, g3, gI⟩ := hc
 have OC := hZ (fun V (q : Below w.heap.size w V) => OCC V (hx.keep q) (gI.keep q))
 have zg := cell_lt g0
 have zg1 : cb < w.heap.size + 1 := by omega
 have zg2 : cb < w.heap.size + 1 + 1 := by omega
 have zg3 : cb < w.heap.size + 1 + 1 + 1 := by omega
 clear gI OCC
 obtain ⟨n1, a1, l1, c1, n2, a2, l2, c2, rfl, -, -⟩ := hx
 obtain ⟨n3, a3, l3, c3, n4, a4, l4, c4, rfl, -, -⟩ := hy
 have hB := Below.refl w.heap.size w
 unfold AnsF
 go_enter Tryz.func245, Tryz.ntmps245
 go_wp2_with fail
 (with_reducible refine (OC.out _ ?_).mono ?_); (repeat exact bZ)
 rintro e w1 ⟨⟨v1, rfl, hv⟩, hb1⟩
 have r0 : w1.cell? ⟨w.heap.size + 1 + 1, 0, none⟩ = some (.bool false) := bkc hb1
 have zr0 := cell_lt r0
 have r0f : w1.frozen? ⟨w.heap.size + 1 + 1, 0, none⟩ = false := bkcf (v := .bool false) hb1
 have r1 : w1.cell? ⟨w.heap.size + 1 + 1, 1, none⟩ = some (.slice none 0 0) := bkc hb1
 have r1f : w1.frozen? ⟨w.heap.size + 1 + 1, 1, none⟩ = false := bkcf (v := .slice none 0 0) hb1
 have r2 : w1.cell? ⟨w.heap.size + 1 + 1, 2, none⟩ = some (.bool false) := bkc hb1
 have r2f : w1.frozen? ⟨w.heap.size + 1 + 1, 2, none⟩ = false := bkcf (v := .bool false) hb1
 have r3 : w1.cell? ⟨w.heap.size + 1 + 1, 3, none⟩ = some (.slice none 0 0) := bkc hb1
 have r3f : w1.frozen? ⟨w.heap.size + 1 + 1, 3, none⟩ = false := bkcf (v := .slice none 0 0) hb1
 have hB : Below w.heap.size w w1 := bthen bZ hb1
 have hz := hB.size
 clear OC hb1
 have HV := hZ hv
 obtain ⟨m1, b1, k1, d1, m2, b2, k2, d2, rfl, -, -⟩ := hv
 have HQ := hZ (IsQP.put4 HV.out r0 r1 r2 r3 (.bool m1) (.slice b1 k1 d1) (.bool m2) (.slice b2 k2 d2))
 have zr := cell_lt r0
 have hBf := hB
 clear HV
 go_wp2
 refine bodyPost_ret (v := .agg #[.bool m1, .slice b1 k1 d1, .bool m2, .slice b2 k2 d2]) (by simp [results, Tryz.results245, go_sem, *]) rfl ⟨⟨_, rfl, ?_⟩, ?_⟩
 · first | exact HQ.out | exact HQ.out.keep (Below.refl _ _).drew
 ·
  repeat exact bZ
theorem dnDiv_c (va vb : Value) (x y c : Rat) (cb k m : Nat) (w : World) (hx : IsQP w va x) (hy : IsQP w vb y) (hc : FrC IsQP w cb 0 c) (bx : BdQ k x) (bc : BdQ m c) (hk : k + m ≤ 17179869180) (h0 : c ≠ 0) : Calls Tryz.prog 246 #[va, vb, .pointer (some ⟨cb, 0, none⟩)] w (AnsF (x / c) w) := by
 have OCC := fun {vc : Value} V (h1 : IsQP V va x) (h2 : IsQP V vc c) => dnOver_c va vc x c k m V h1 h2 bx bc hk h0
 unfold AnsF at OCC
 clear bx bc hk h0
 obtain ⟨q1, b1, k1, d1, q2, b2, k2, d2, g0, g1, g2, g3, gI⟩ := hc
 have OC := hZ (fun V (q : Below w.heap.size w V) => OCC V (hx.keep q) (gI.keep q))
 have zg := cell_lt g0
 have zg1 : cb < w.heap.size + 1 := by omega
 have zg2 : cb < w.heap.size + 1 + 1 := by omega
 have zg3 : cb < w.heap.size + 1 + 1 + 1 := by omega
 clear gI OCC
 obtain ⟨n1, a1, l1, c1, n2, a2, l2, c2, rfl, -, -⟩ := hx
 obtain ⟨n3, a3, l3, c3, n4, a4, l4, c4, rfl, -, -⟩ := hy
 have hB := Below.refl w.heap.size w
 unfold AnsF
 go_enter Tryz.func246, Tryz.ntmps246
 go_wp2_with fail
 (with_reducible refine (OC.out _ ?_).mono ?_); (repeat exact bZ)
 rintro e w1 ⟨⟨v1, rfl, hv⟩, hb1⟩
 have r0 : w1.cell? ⟨w.heap.size + 1 + 1, 0, none⟩ = some (.bool false) := bkc hb1
 have zr0 := cell_lt r0
 have r0f : w1.frozen? ⟨w.heap.size + 1 + 1, 0, none⟩ = false := bkcf (v := .bool false) hb1
 have r1 : w1.cell? ⟨w.heap.size + 1 + 1, 1, none⟩ = some (.slice none 0 0) := bkc hb1
 have r1f : w1.frozen? ⟨w.heap.size + 1 + 1, 1, none⟩ = false := bkcf (v := .slice none 0 0) hb1
 have r2 : w1.cell? ⟨w.heap.size + 1 + 1, 2, none⟩ = some (.bool false) := bkc hb1
 have r2f : w1.frozen? ⟨w.heap.size + 1 + 1, 2, none⟩ = false := bkcf (v := .bool false) hb1
 have r3 : w1.cell? ⟨w.heap.size + 1 + 1, 3, none⟩ = some (.slice none 0 0) := bkc hb1
 have r3f : w1.frozen? ⟨w.heap.size + 1 + 1, 3, none⟩ = false := bkcf (v := .slice none 0 0) hb1
 have hB : Below w.heap.size w w1 := bthen bZ hb1
 have hz := hB.size
 clear OC hb1
 have HV := hZ hv
 obtain ⟨m1, b1, k1, d1, m2, b2, k2, d2, rfl, -, -⟩ := hv
 have HQ := hZ (IsQP.put4 HV.out r0 r1 r2 r3 (.bool m1) (.slice b1 k1 d1) (.bool m2) (.slice b2 k2 d2))
 have zr := cell_lt r0
 have hBf := hB
 clear HV
 go_wp2
 refine bodyPost_ret (v := .agg #[.bool m1, .slice b1 k1 d1, .bool m2, .slice b2 k2 d2]) (by simp [results, Tryz.results246, go_sem, *]) rfl ⟨⟨_, rfl, ?_⟩, ?_⟩
 · first | exact HQ.out | exact HQ.out.keep (Below.refl _ _).drew
 ·
  repeat exact bZ
theorem bd_pow {n m : Nat} (h : n < m) : BdQ m ((2 ^ n : Int) : Rat) := BdQ.whole (by unfold Bd; rw [Int.natAbs_pow]; exact Nat.pow_lt_pow_right (by omega) h) (by omega)
theorem pow_ne (n : Nat) : ((2 ^ n : Int) : Rat) ≠ 0 := fun h => by
 have h2 : (2 ^ n : Int) = 0 := by exact_mod_cast h
 exact absurd h2 (Int.pow_ne_zero (by omega))
theorem dnShl_c (va vb : Value) (x y : Rat) (n ib k : Nat) (w : World) (hx : IsQP w va x) (hy : IsQP w vb y) (hc : w.cell? ⟨ib, 4, none⟩ = some (.int .i64 (n : Int))) (bx : BdQ k x) (hk : k ≤ 1000000000) (hn : n ≤ 64) : Calls Tryz.prog 248 #[va, vb, .pointer (some ⟨ib, 0, none⟩)] w (AnsF (x * ((2 ^ n : Int) : Rat)) w) := by
 have PC := hZ (fun V => dnPower_c n V (by omega))
 have OC := hZ (fun v V (q : Below w.heap.size w V) (hv : IsQP V v ((2 ^ n : Int) : Rat)) => pqMul_c va v x _ k 65 V (hx.keep q) hv bx (bd_pow (by omega)) (by omega))
 obtain ⟨p, hp⟩ : ∃ p, ((2 ^ n : Int) : Rat) = p := ⟨_, rfl⟩
 rw [hp] at PC OC ⊢
 clear bx hk hn hp
 obtain ⟨n1, a1, l1, c1, n2, a2, l2, c2, rfl, -, -⟩ := hx
 obtain ⟨n3, a3, l3, c3, n4, a4, l4, c4, rfl, -, -⟩ := hy
 have hB := Below.refl w.heap.size w
 have zg := cell_lt hc
 unfold AnsF at *
 go_enter Tryz.func248, Tryz.ntmps248
 go_wp2
 refine wp_name fun w5 hW5 => ?_
 have HB5 := hZ (show Below w.heap.size w w5 by rw [hW5]; repeat exact bZ)
 have x0 : w5.cell? ⟨w.heap.size, 0, none⟩ = some (.bool n1) := by rw [hW5]; simp [go_sem]
 have x1 : w5.cell? ⟨w.heap.size, 1, none⟩ = some (.slice a1 l1 c1) := by rw [hW5]; simp [go_sem]
 have x2 : w5.cell? ⟨w.heap.size, 2, none⟩ = some (.bool n2) := by rw [hW5]; simp [go_sem]
 have x3 : w5.cell? ⟨w.heap.size, 3, none⟩ = some (.slice a2 l2 c2) := by rw [hW5]; simp [go_sem]
 have g4 := bkeep HB5.out hc
 have HRC := hZ (show (w5.cell? ⟨w.heap.size + 1 + 1, 0, none⟩ = some (.bool false) ∧ w5.cell? ⟨w.heap.size + 1 + 1, 1, none⟩ = some (.slice none 0 0) ∧ w5.cell? ⟨w.heap.size + 1 + 1, 2, none⟩ = some (.bool false) ∧ w5.cell? ⟨w.heap.size + 1 + 1, 3, none⟩ = some (.slice none 0 0)) ∧ w5.frozen? ⟨w.heap.size + 1 + 1, 0, none⟩ = false ∧ w5.frozen? ⟨w.heap.size + 1 + 1, 1, none⟩ = false ∧ w5.frozen? ⟨w.heap.size + 1 + 1, 2, none⟩ = false ∧ w5.frozen? ⟨w.heap.size + 1 + 1, 3, none⟩ = false from by rw [hW5]; simp [go_sem])
 have HS := hZ (show ∀ V, Below w5.heap.size w5 V → V.cell? ⟨w.heap.size, 0, none⟩ = some (.bool n1) ∧ V.cell? ⟨w.heap.size, 1, none⟩ = some (.slice a1 l1 c1) ∧ V.cell? ⟨w.heap.size, 2, none⟩ = some (.bool n2) ∧ V.cell? ⟨w.heap.size, 3, none⟩ = some (.slice a2 l2 c2) ∧ V.cell? ⟨ib, 4, none⟩ = some (.int .i64 (n : Int)) from fun V q => ⟨bkeep q x0, bkeep q x1, bkeep q x2, bkeep q x3, bkeep q g4⟩)
 have HSF := hZ (show ∀ V, Below w5.heap.size w5 V → ∀ u0 u1 u2 u3, (st4 V (w.heap.size + 1 + 1) u0 u1 u2 u3).cell? ⟨w.heap.size, 0, none⟩ = some (.bool n1) ∧ (st4 V (w.heap.size + 1 + 1) u0 u1 u2 u3).cell? ⟨w.heap.size, 1, none⟩ = some (.slice a1 l1 c1) ∧ (st4 V (w.heap.size + 1 + 1) u0 u1 u2 u3).cell? ⟨w.heap.size, 2, none⟩ = some (.bool n2) ∧ (st4 V (w.heap.size + 1 + 1) u0 u1 u2 u3).cell? ⟨w.heap.size, 3, none⟩ = some (.slice a2 l2 c2) ∧ (st4 V (w.heap.size + 1 + 1) u0 u1 u2 u3).cell? ⟨ib, 4, none⟩ = some (.int .i64 (n : Int)) from fun V q u0 u1 u2 u3 => by
  obtain ⟨y0, y1, y2, y3, y4⟩ := HS.out V q
  exact ⟨far4 y0 (by omega) _ _ _ _, far4 y1 (by omega) _ _ _ _, far4 y2 (by omega) _ _ _ _, far4 y3 (by omega) _ _ _ _, far4 y4 (by omega) _ _ _ _⟩)
 have hBw := Below.refl w5.heap.size w5
 have zx := cell_lt x0
 have zg5 := cell_lt g4
 clear hW5 hB hc zg
 go_region_held3 (fun V => V.cell? ⟨w.heap.size, 0, none⟩ = some (.bool n1) ∧ V.cell? ⟨w.heap.size, 1, none⟩ = some (.slice a1 l1 c1) ∧ V.cell? ⟨w.heap.size, 2, none⟩ = some (.bool n2) ∧ V.cell? ⟨w.heap.size, 3, none⟩ = some (.slice a2 l2 c2) ∧ V.cell? ⟨ib, 4, none⟩ = some (.int .i64 (n : Int)))
  (first | (with_reducible refine HSF.out _ ?_ _ _ _ _; (repeat exact bZ); done) | (refine HS.out _ ?_; (repeat exact bZ); done) | fail)
  (first
   | (go_at_call 249; refine (PC.out _).mono ?_; rintro e w6 ⟨⟨u6, rfl, hu6⟩, hb6⟩; (replace hBw : Below w5.heap.size w5 w6 := bthen bZ hb6); have HU6 := hZ hu6; have hy6 := Below.refl w6.heap.size w6; obtain ⟨pn, pa, pl, pc, pm, pb, pk, pd, rfl, -, -⟩ := hu6)
   | (go_at_call 38; refine (OC.out _ _ (bthen HB5.out ?_) (HU6.out.keep ?_)).mono ?_; (repeat exact bZ); (repeat exact bZ); rintro e w7 ⟨⟨u7, rfl, hu7⟩, hb7⟩; (replace hBw : Below w5.heap.size w5 w7 := bthen bZ hb7); have HU7 := hZ hu7; have r0f := bkeepf hBw HRC.out.1.1 HRC.out.2.1; have r1f := bkeepf hBw HRC.out.1.2.1 HRC.out.2.2.1; have r2f := bkeepf hBw HRC.out.1.2.2.1 HRC.out.2.2.2.1; have r3f := bkeepf hBw HRC.out.1.2.2.2 HRC.out.2.2.2.2; have r0 := bkeep hBw HRC.out.1.1; have r1 := bkeep hBw HRC.out.1.2.1; have r2 := bkeep hBw HRC.out.1.2.2.1; have r3 := bkeep hBw HRC.out.1.2.2.2; have zr := cell_lt r0; obtain ⟨m1, b1, k1, d1, m2, b2, k2, d2, rfl, -, -⟩ := hu7)
   | fail)
 all_goals
  have HQ := hZ (IsQP.put4 HU7.out r0 r1 r2 r3 (.bool m1) (.slice b1 k1 d1) (.bool m2) (.slice b2 k2 d2))
  have hBf := bthen HB5.out hBw
  clear HRC HS HSF x0 x1 x2 x3 g4
  go_wp2
  refine bodyPost_ret (v := .agg #[.bool m1, .slice b1 k1 d1, .bool m2, .slice b2 k2 d2]) (by simp [results, Tryz.results248, go_sem, *]) rfl ⟨⟨_, rfl, ?_⟩, ?_⟩
  · first | exact HQ.out | exact HQ.out.keep (Below.refl _ _).drew
  ·
   repeat exact bZ
theorem dnShr_c (va vb : Value) (x y : Rat) (n ib k : Nat) (w : World) (hx : IsQP w va x) (hy : IsQP w vb y) (hc : w.cell? ⟨ib, 4, none⟩ = some (.int .i64 (n : Int))) (bx : BdQ k x) (hk : k ≤ 1000000000) (hn : n ≤ 64) : Calls Tryz.prog 250 #[va, vb, .pointer (some ⟨ib, 0, none⟩)] w (AnsF (x / ((2 ^ n : Int) : Rat)) w) := by
 have PC := hZ (fun V => dnPower_c n V (by omega))
 have OC := hZ (fun v V (q : Below w.heap.size w V) (hv : IsQP V v ((2 ^ n : Int) : Rat)) => dnOver_c va v x _ k 65 V (hx.keep q) hv bx (bd_pow (by omega)) (by omega) (pow_ne n))
 obtain ⟨p, hp⟩ : ∃ p, ((2 ^ n : Int) : Rat) = p := ⟨_, rfl⟩
 rw [hp] at PC OC ⊢
 clear bx hk hn hp
 obtain ⟨n1, a1, l1, c1, n2, a2, l2, c2, rfl, -, -⟩ := hx
 obtain ⟨n3, a3, l3, c3, n4, a4, l4, c4, rfl, -, -⟩ := hy
 have hB := Below.refl w.heap.size w
 have zg := cell_lt hc
 unfold AnsF at *
 go_enter Tryz.func250, Tryz.ntmps250
 go_wp2
 refine wp_name fun w5 hW5 => ?_
 have HB5 := hZ (show Below w.heap.size w w5 by rw [hW5]; repeat exact bZ)
 have x0 : w5.cell? ⟨w.heap.size, 0, none⟩ = some (.bool n1) := by rw [hW5]; simp [go_sem]
 have x1 : w5.cell? ⟨w.heap.size, 1, none⟩ = some (.slice a1 l1 c1) := by rw [hW5]; simp [go_sem]
 have x2 : w5.cell? ⟨w.heap.size, 2, none⟩ = some (.bool n2) := by rw [hW5]; simp [go_sem]
 have x3 : w5.cell? ⟨w.heap.size, 3, none⟩ = some (.slice a2 l2 c2) := by rw [hW5]; simp [go_sem]
 have g4 := bkeep HB5.out hc
 have HRC := hZ (show (w5.cell? ⟨w.heap.size + 1 + 1, 0, none⟩ = some (.bool false) ∧ w5.cell? ⟨w.heap.size + 1 + 1, 1, none⟩ = some (.slice none 0 0) ∧ w5.cell? ⟨w.heap.size + 1 + 1, 2, none⟩ = some (.bool false) ∧ w5.cell? ⟨w.heap.size + 1 + 1, 3, none⟩ = some (.slice none 0 0)) ∧ w5.frozen? ⟨w.heap.size + 1 + 1, 0, none⟩ = false ∧ w5.frozen? ⟨w.heap.size + 1 + 1, 1, none⟩ = false ∧ w5.frozen? ⟨w.heap.size + 1 + 1, 2, none⟩ = false ∧ w5.frozen? ⟨w.heap.size + 1 + 1, 3, none⟩ = false from by rw [hW5]; simp [go_sem])
 have HS := hZ (show ∀ V, Below w5.heap.size w5 V → V.cell? ⟨w.heap.size, 0, none⟩ = some (.bool n1) ∧ V.cell? ⟨w.heap.size, 1, none⟩ = some (.slice a1 l1 c1) ∧ V.cell? ⟨w.heap.size, 2, none⟩ = some (.bool n2) ∧ V.cell? ⟨w.heap.size, 3, none⟩ = some (.slice a2 l2 c2) ∧ V.cell? ⟨ib, 4, none⟩ = some (.int .i64 (n : Int)) from fun V q => ⟨bkeep q x0, bkeep q x1, bkeep q x2, bkeep q x3, bkeep q g4⟩)
 have HSF := hZ (show ∀ V, Below w5.heap.size w5 V → ∀ u0 u1 u2 u3, (st4 V (w.heap.size + 1 + 1) u0 u1 u2 u3).cell? ⟨w.heap.size, 0, none⟩ = some (.bool n1) ∧ (st4 V (w.heap.size + 1 + 1) u0 u1 u2 u3).cell? ⟨w.heap.size, 1, none⟩ = some (.slice a1 l1 c1) ∧ (st4 V (w.heap.size + 1 + 1) u0 u1 u2 u3).cell? ⟨w.heap.size, 2, none⟩ = some (.bool n2) ∧ (st4 V (w.heap.size + 1 + 1) u0 u1 u2 u3).cell? ⟨w.heap.size, 3, none⟩ = some (.slice a2 l2 c2) ∧ (st4 V (w.heap.size + 1 + 1) u0 u1 u2 u3).cell? ⟨ib, 4, none⟩ = some (.int .i64 (n : Int)) from fun V q u0 u1 u2 u3 => by
  obtain ⟨y0, y1, y2, y3, y4⟩ := HS.out V q
  exact ⟨far4 y0 (by omega) _ _ _ _, far4 y1 (by omega) _ _ _ _, far4 y2 (by omega) _ _ _ _, far4 y3 (by omega) _ _ _ _, far4 y4 (by omega) _ _ _ _⟩)
 have hBw := Below.refl w5.heap.size w5
 have zx := cell_lt x0
 have zg5 := cell_lt g4
 clear hW5 hB hc zg
 go_region_held3 (fun V => V.cell? ⟨w.heap.size, 0, none⟩ = some (.bool n1) ∧ V.cell? ⟨w.heap.size, 1, none⟩ = some (.slice a1 l1 c1) ∧ V.cell? ⟨w.heap.size, 2, none⟩ = some (.bool n2) ∧ V.cell? ⟨w.heap.size, 3, none⟩ = some (.slice a2 l2 c2) ∧ V.cell? ⟨ib, 4, none⟩ = some (.int .i64 (n : Int)))
  (first | (with_reducible refine HSF.out _ ?_ _ _ _ _; (repeat exact bZ); done) | (refine HS.out _ ?_; (repeat exact bZ); done) | fail)
  (first
   | (go_at_call 249; refine (PC.out _).mono ?_; rintro e w6 ⟨⟨u6, rfl, hu6⟩, hb6⟩; (replace hBw : Below w5.heap.size w5 w6 := bthen bZ hb6); have HU6 := hZ hu6; have hy6 := Below.refl w6.heap.size w6; obtain ⟨pn, pa, pl, pc, pm, pb, pk, pd, rfl, -, -⟩ := hu6)
   | (go_at_call 247; refine (OC.out _ _ (bthen HB5.out ?_) (HU6.out.keep ?_)).mono ?_; (repeat exact bZ); (repeat exact bZ); rintro e w7 ⟨⟨u7, rfl, hu7⟩, hb7⟩; (replace hBw : Below w5.heap.size w5 w7 := bthen bZ hb7); have HU7 := hZ hu7; have r0f := bkeepf hBw HRC.out.1.1 HRC.out.2.1; have r1f := bkeepf hBw HRC.out.1.2.1 HRC.out.2.2.1; have r2f := bkeepf hBw HRC.out.1.2.2.1 HRC.out.2.2.2.1; have r3f := bkeepf hBw HRC.out.1.2.2.2 HRC.out.2.2.2.2; have r0 := bkeep hBw HRC.out.1.1; have r1 := bkeep hBw HRC.out.1.2.1; have r2 := bkeep hBw HRC.out.1.2.2.1; have r3 := bkeep hBw HRC.out.1.2.2.2; have zr := cell_lt r0; obtain ⟨m1, b1, k1, d1, m2, b2, k2, d2, rfl, -, -⟩ := hu7)
   | fail)
 all_goals
  have HQ := hZ (IsQP.put4 HU7.out r0 r1 r2 r3 (.bool m1) (.slice b1 k1 d1) (.bool m2) (.slice b2 k2 d2))
  have hBf := bthen HB5.out hBw
  clear HRC HS HSF x0 x1 x2 x3 g4
  go_wp2
  refine bodyPost_ret (v := .agg #[.bool m1, .slice b1 k1 d1, .bool m2, .slice b2 k2 d2]) (by simp [results, Tryz.results250, go_sem, *]) rfl ⟨⟨_, rfl, ?_⟩, ?_⟩
  · first | exact HQ.out | exact HQ.out.keep (Below.refl _ _).drew
  ·
   repeat exact bZ
end
section
open Num
theorem infoRW : (Tryz.prog.info? 91).map (fun i => (i.zero, i.size, i.bytes)) = some (some (.agg #[.bool false, .slice none 0 0, .bool false, .slice none 0 0]), 4, 64) := by kernel_rfl
theorem elRW : Elt Tryz.prog 44 91 4 64 := Elt.mk' Tryz.underlying44 infoRW rfl (by decide) (by decide)
theorem infoRL : (Tryz.prog.info? 44).map (fun i => (i.zero, i.size, i.bytes)) = some (some (.slice none 0 0), 1, 24) := by kernel_rfl
theorem elRL : Elt Tryz.prog 33 44 1 24 := Elt.mk' Tryz.underlying33 infoRL rfl (by decide) (by decide)
def FR (w : World) (v : Value) (r : List Rat) : Prop := FrRow IsQR 91 0 w v r
section
variable {w w' : World} {v : Value} {r : List Rat}
theorem FR.kp (h : FR w v r) (k : Kp (· ≠ 44) w w') : FR w' v r := FrRow.kp frk_ref h k (by decide) (by decide)
theorem FR.keep (h : FR w v r) (k : Below w.heap.size w w') : FR w' v r := FrRow.keep frk_ref h k
theorem FR.one (h : FR w v r) : v.oneCell' = true := by obtain ⟨a, c, rfl⟩ := FrRow.ex h; rfl
end
def SetR (base : Nat) (w : World) (v : Value) (g : GridF) : Prop := ∃ xs, w.ownsRow base 44 1 v g.length xs ∧ ∀ k, k < g.length → ∃ u, xs[k]? = some u ∧ FR w u (g.getD k [])
section
variable {base : Nat} {w w' : World} {v : Value} {g : GridF}
theorem SetR.nil (base : Nat) (w : World) : SetR base w (.slice none 0 0) [] := ⟨[], World.ownsRow_nil _ _ _ _, fun k hk => absurd hk (by simp)⟩
theorem SetR.ex (h : SetR base w v g) : ∃ a c, v = .slice a g.length c := by
 obtain ⟨xs, h1, _⟩ := h
 rcases h1.2 with ⟨rfl, e⟩ | ⟨b, c, _, rfl, _⟩
 · exact ⟨_, _, by rw [e]⟩
 · exact ⟨_, _, rfl⟩
theorem SetR.view (h : SetR base w v g) (hg : 0 < g.length) : ∃ rb c, v = .slice (some ⟨rb, 0, none⟩) g.length c ∧ base ≤ rb ∧ g.length ≤ c ∧ Free w rb ∧ typOf w rb = some 44 ∧ ∀ k, k < g.length → ∃ u, w.cell? ⟨rb, k, none⟩ = some u ∧ FR w u (g.getD k []) := by
 obtain ⟨xs, h1, h2⟩ := h
 have h1' := h1
 rcases h1.2 with ⟨rfl, e⟩ | ⟨b, cap, cur, rfl, hb, hh, hc, hm, hs, ht⟩
 · omega
 · have hgt : typOf w b = some 44 := by unfold typOf; rw [hh]
   refine ⟨b, cap, rfl, hb, hc, ⟨typ_lt hgt, fun j => by simp [World.frozen?, hh]⟩, hgt, fun k hk => ?_⟩
   obtain ⟨u, e, hr⟩ := h2 k hk
   refine ⟨u, ?_, hr⟩
   rw [← ht, List.getElem?_take_of_lt (by omega)] at e
   simpa [World.cell?, hh] using e
theorem SetR.keep (h : SetR base w v g) (b : Below w.heap.size w w') : SetR base w' v g := by
 obtain ⟨xs, h1, h2⟩ := h
 refine ⟨xs, owns_kp (S := fun _ => True) h1 (Kp.of_below _ b) trivial, fun k hk => ?_⟩
 obtain ⟨u, e, hr⟩ := h2 k hk
 exact ⟨u, e, hr.keep b⟩
theorem SetR.out {X : Nat → Prop} (h : SetR base w v g) (ho : Out X w w') (hx : ∀ q, v.ownBlock = some q → ¬ X q) (hk : Kp (· ≠ 44) w w') : SetR base w' v g := by
 obtain ⟨xs, ⟨h0, h1⟩, h2⟩ := h
 refine ⟨xs, ⟨h0, ?_⟩, fun k hk' => ?_⟩
 · rcases h1 with h1 | ⟨b, cap, cur, rfl, hb, hh, r⟩
   · exact .inl h1
   · refine .inr ⟨b, cap, cur, rfl, hb, ?_, r⟩
     rw [ho.block b (Array.getElem?_eq_some_iff.1 hh).1 (hx b (by simp [Value.ownBlock]))]
     exact hh
 · obtain ⟨u, e, hr⟩ := h2 k hk'
   exact ⟨u, e, hr.kp hk⟩
theorem SetR.lt (h : SetR base w v g) : ∀ q, v.ownBlock = some q → base ≤ q ∧ q < w.heap.size := fun q hq => by
 obtain ⟨xs, h1, _⟩ := h
 exact h1.lt q hq
theorem SetR.rebase {base' : Nat} (h : SetR base w v g) (hb : base' ≤ base) : SetR base' w v g := by
 obtain ⟨xs, ⟨h0, h1⟩, h2⟩ := h
 refine ⟨xs, ⟨h0, ?_⟩, h2⟩
 rcases h1 with h1 | ⟨b, cap, cur, hv, hg, r⟩
 · exact .inl h1
 · exact .inr ⟨b, cap, cur, hv, Nat.le_trans hb hg, r⟩
theorem ownsR_set {w : World} {base n i g cap : Nat} {e : TypeId} {xs : List Value} (h : w.ownsRow base e 1 (.slice (some ⟨g, 0, none⟩) n cap) n xs) (u : Value) : (w.setCell ⟨g, i, none⟩ u).ownsRow base e 1 (.slice (some ⟨g, 0, none⟩) n cap) n (xs.set i u) := by
 refine ⟨by rw [List.length_set]; exact h.1, .inr ?_⟩
 rcases h.2 with ⟨hv, _⟩ | ⟨g', cap', cur, hv, hg, hh, h1, h2, h3, h4⟩
 · cases hv
 · cases hv
   refine ⟨g, cap, cur.setIfInBounds i u, rfl, hg, ?_, h1, h2, by simpa using h3, ?_⟩
   · simp [World.setCell, Array.getElem?_modify, hh]
   · rw [← h4]; simp [List.take_set]
theorem SetR.set {rb c i : Nat} {u : Value} {r : List Rat} (h : SetR base w (.slice (some ⟨rb, 0, none⟩) g.length c) g) (hi : i < g.length) (hr : FR w u r) : SetR base (w.setCell ⟨rb, i, none⟩ u) (.slice (some ⟨rb, 0, none⟩) g.length c) (g.set i r) := by
 have hty : typOf w rb = some 44 := by
  obtain ⟨xs, h1, _⟩ := h
  exact own_typ' h1 (by simp [Value.ownBlock])
 have hk : Kp (· ≠ 44) w (w.setCell ⟨rb, i, none⟩ u) := (Kp.refl _ w).set (fun t ht hs => by dsimp only at ht; rw [hty] at ht; exact hs (Option.some.inj ht).symm) _
 obtain ⟨xs, h1, h2⟩ := h
 have hxl : xs.length = g.length := by have := h1.1; omega
 refine ⟨xs.set i u, by rw [List.length_set]; exact ownsR_set h1 u, fun k hk' => ?_⟩
 rw [List.length_set] at hk'
 rw [gsetF _ _ _ hi]
 by_cases e : k = i
 · subst e
   exact ⟨u, by simp [hxl, hk'], by rw [if_pos rfl]; exact hr.kp hk⟩
 · obtain ⟨u', e', hr'⟩ := h2 k hk'
   exact ⟨u', by rw [List.getElem?_set_ne (fun h => e h.symm)]; exact e', by rw [if_neg e]; exact hr'.kp hk⟩
theorem SetR.set' {rb c i n : Nat} {u : Value} {r : List Rat} (h : SetR base w (.slice (some ⟨rb, 0, none⟩) n c) g) (hn : g.length = n) (hi : i < n) (hr : FR w u r) : SetR base (w.setCell ⟨rb, i, none⟩ u) (.slice (some ⟨rb, 0, none⟩) n c) (g.set i r) := by
 subst hn; exact h.set hi hr
theorem SetR.snoc {w1 : World} {v' u : Value} {xs : List Value} {r : List Rat} (h1 : w'.ownsRow base 44 1 v' (g.length + 1) (xs ++ [u])) (hx : xs.length = g.length) (h2 : ∀ k, k < g.length → ∃ u, xs[k]? = some u ∧ FR w u (g.getD k [])) (hr : FR w u r) (hk : Kp (· ≠ 44) w w') : SetR base w' v' (g ++ [r]) := by
 refine ⟨xs ++ [u], by rw [List.length_append]; exact h1, fun k hk' => ?_⟩
 rw [List.length_append] at hk'
 simp only [List.length_cons, List.length_nil] at hk'
 by_cases e : k < g.length
 · obtain ⟨u', e', hr'⟩ := h2 k e
   refine ⟨u', by rw [List.getElem?_append_left (by omega)]; exact e', ?_⟩
   rw [List.getD_eq_getElem?_getD, List.getElem?_append_left e, ← List.getD_eq_getElem?_getD]
   exact hr'.kp hk
 · obtain rfl : k = g.length := by omega
   refine ⟨u, by rw [List.getElem?_append_right (by omega), hx]; simp, ?_⟩
   rw [List.getD_eq_getElem?_getD, List.getElem?_append_right (Nat.le_refl _)]
   simpa using hr.kp hk
end
section
variable {ops : Array Oper} {o : Oper} {a : Act} {Q : Exit → Act → World → Prop} {base : Nat} {wr : World} {v u : Value} {g : GridF} {r : List Rat} {t : TypeId} {s x : Operand} {c : Nat}
theorem app_R {rest : List Oper} (hgd : o.guard = none) (ho : o.op = .call { callee := .builtin .append, args := #[s, x], argTypes := #[33, 33] }) (hO : SetR base wr v g) (hr : FR wr u r) (hbase : base ≤ wr.heap.size) (hs : a.eval s = v)
 (hx : a.eval x = .slice (some ⟨wr.heap.size, 0, none⟩) 1 c) (hn : g.length + 1 ≤ 1099511627776)
 (h : ∀ v' w', SetR base w' v' (g ++ [r]) → Out (fun k => v.ownBlock = some k) wr w' → Kp (· ≠ 44) wr w' → wpList Tryz.prog ops Q rest (a.put o.dst v') w') : wpList Tryz.prog ops Q (o :: rest) a (wr.alloc (.cells #[u] t)) := by
 obtain ⟨i, z, hi, hz, hsize, hby, hzs⟩ := elRL.info
 obtain ⟨xs, h1, h2⟩ := hO
 have hb : (g.length + 1) * 24 ≤ 1099511627776 * 128 := Nat.mul_le_mul hn elRL.small
 have hA := h1.alloc (Obj.cells #[u] t)
 have hxl : xs.length = g.length := by have := h1.1; omega
 have hu1 := hr.one
 refine wpList_append_own _ hgd s x _ ho base 44 i z 1 24 elRL.ht hi hz hsize hby hzs elRL.pos v g.length xs hs hA ⟨wr.heap.size, 0, none⟩ 1 c [u] hx rfl (cells_new wr _ t) (fun y hy => by simp at hy; subst hy; exact hu1) (by unfold maxLen; omega) (by omega) (by simp; omega) ?_
 intro v' w' hown hg _
 have hk : Kp (· ≠ 44) wr w' := ((Kp.refl _ wr).alloc _).grown hg fun q hg' t' ht hne => hne (by rw [own_typ' hA hg'] at ht; exact (Option.some.inj ht).symm)
 have ho' : Out (fun k => v.ownBlock = some k) wr w' := ((Out.refl _ wr).alloc _).grown hg fun k hk' _ => hk'
 exact h v' w' (SetR.snoc (w1 := wr) hown hxl h2 hr hk) ho' hk
end
end
section
open Num
section
variable {TT T : TypeId} {bytes : Nat}
theorem appU_blk (el : Elt Tryz.prog TT T 1 bytes) (ty : TypeId) {W : World} {v : Value} {n base : Nat} {xs : List Value} (h : W.ownsRow base T 1 v n xs) (hm : n + 1 ≤ 1099511627776) {gb cc : Nat} {y : Value} (hy : W.cell? ⟨gb, 0, none⟩ = some y) (oy : y.oneCell' = true) :
 ∃ v' w', (Builtin.append_ #[TT, TT] ty #[v, .slice (some ⟨gb, 0, none⟩) 1 cc]).run Tryz.prog W = .ok v' w' ∧ (∀ q, q < W.heap.size → typOf w' q = typOf W q) ∧ ∀ q, v'.ownBlock = some q → v.ownBlock = some q ∨ W.heap.size ≤ q := by
 have tyb : ∀ {b : World}, Below W.heap.size W b → ∀ q, q < W.heap.size → typOf b q = typOf W q := fun h q hq => by unfold typOf; rw [h.block q hq]
 obtain ⟨i0, z0, hi, hz0, hz1, hz2, hz3⟩ := el.info
 have hb : (n + 1) * bytes ≤ 1099511627776 * 128 := Nat.mul_le_mul hm el.small
 have hl : ([y] : List Value).length = 1 * i0.size := by rw [hz1]; rfl
 have hnews : ∀ j u, ([y] : List Value)[j]? = some u → W.cell? ((⟨gb, 0, none⟩ : Addr).add j) = some u := by
  intro j u hj
  have hj2 : j < 1 := (List.getElem?_eq_some_iff.1 hj).1
  obtain rfl : j = 0 := by omega
  simp at hj; subst hj; simpa [Addr.add] using hy
 rcases h.2 with ⟨rfl, rfl⟩ | ⟨g, cap, cs, rfl, hg, hh, h1, h2, h3, h4⟩
 · refine ⟨_, _, run_append_nil W _ _ _ i0 z0 el.ht hi hz0 ⟨gb, 0, none⟩ 1 cc [y] hl hnews (by omega) (by omega) (by rw [hz2]; omega), tyb (bal (Below.refl W.heap.size W).drew _), fun q hq => ?_⟩
   simp [Value.ownBlock] at hq
   right; omega
 · by_cases hroom : n + 1 ≤ cap
   · refine ⟨_, _, run_append_room W _ _ _ i0 el.ht hi g n cap cs hh ⟨gb, 0, none⟩ 1 cc [y] hl hnews (fun u hu => by simp at hu; subst hu; assumption) hroom (by rw [hz1, h3]; simp; omega), fun q hq => ?_, fun q hq => ?_⟩
     · by_cases e : q = g
       · subst e; unfold typOf; rw [setRow_heap W q cs _ _ _ hh, hh]
       · unfold typOf; rw [setRow_other W g q _ e]
     · simp [Value.ownBlock] at hq ⊢
       left; exact hq
   · have holds : ∀ j u, (cs.toList.take (n * 1))[j]? = some u → W.cell? ((⟨g, 0, none⟩ : Addr).add j) = some u := by
      intro j u hj
      have hj2 : j < n * 1 := by have := (List.getElem?_eq_some_iff.1 hj).1; rw [List.length_take] at this; omega
      rw [List.getElem?_take_of_lt hj2] at hj
      have e : (⟨g, 0, none⟩ : Addr).add j = ⟨g, j, none⟩ := by unfold Addr.add; split <;> simp_all
      rw [e, cell_of_row W g j cs _ _ hh]
      simpa using hj
     refine ⟨_, _, run_append_grow W _ _ _ i0 z0 el.ht hi hz0 ⟨g, 0, none⟩ n cap (cs.toList.take (n * 1)) (by rw [List.length_take, Array.length_toList, h3, hz1]; omega) holds ⟨gb, 0, none⟩ 1 cc [y] hl hnews (by omega) (by omega) (by rw [hz2]; exact growslice_fits (by omega) (by omega)), tyb (bal (Below.refl W.heap.size W).drew _), fun q hq => ?_⟩
     simp [Value.ownBlock] at hq
     right; omega
end
theorem OutT.orL {S X : Nat → Prop} {a b : World} (h : OutT S a b) : OutT (fun q => S q ∨ X q) a b :=
 ⟨h.1.mono fun _ _ h => .inl h, fun q _ hl => by
  by_cases e : S q
  · exact h.2 q e hl
  · unfold typOf; rw [h.1.block q hl e]⟩
structure LstV {α : Type} (TT T : TypeId) (Pr : World → Value → α → Prop) (w0 : World) (db : Nat) (L : List α) (v : Value) (W : World) : Prop where
 c0 : W.cell? ⟨db, 0, none⟩ = some v
 f0 : W.frozen? ⟨db, 0, none⟩ = false
 ty : typOf W db = some TT
 own : ∃ xs, W.ownsRow w0.heap.size T 1 v L.length xs ∧ ∀ k (hk : k < L.length), ∃ u, xs[k]? = some u ∧ Pr W u L[k]
 out : Out (fun q => q = db) w0 W
structure PrU {α : Type} (T : TypeId) (Pr : World → Value → α → Prop) (n0 db : Nat) : Prop where
 one : ∀ {w v x}, Pr w v x → v.oneCell' = true
 clo : ∀ {S : Nat → Prop} {X Y u x}, Pr X u x → Clo n0 S X Y → Pr Y u x
 own : ∀ {X Y u x}, Pr X u x → Out (fun q => q = db ∨ (n0 ≤ q ∧ typOf X q = some T)) X Y → Lim X Y → Pr Y u x
def LstS {α : Type} (TT T : TypeId) (Pr : World → Value → α → Prop) (w0 : World) (db : Nat) (L : List α) (S : Nat → Prop) (W : World) : Prop := ∃ v, S = (fun q => q = db ∨ v.ownBlock = some q) ∧ LstV TT T Pr w0 db L v W
section
variable {α : Type} {TT T : TypeId} {bytes : Nat} {Pr : World → Value → α → Prop} {w0 W W' : World} {db : Nat} {L : List α} {v : Value} {S : Nat → Prop}
theorem LstV.ex (h : LstV TT T Pr w0 db L v W) : ∃ a c, v = .slice a L.length c := by
 obtain ⟨xs, ⟨_, h1⟩, _⟩ := h.own
 rcases h1 with ⟨rfl, h0⟩ | ⟨g, cap, cur, rfl, _⟩
 · exact ⟨none, 0, by rw [h0]⟩
 · exact ⟨_, _, rfl⟩
theorem LstV.keep (hP : PrU T Pr w0.heap.size db) (h : LstV TT T Pr w0 db L v W) (b : Below W.heap.size W W') : LstV TT T Pr w0 db L v W' := by
 obtain ⟨xs, h1, h2⟩ := h.own
 refine ⟨bkeep b h.c0, bkeepf b h.c0 h.f0, typ_keep h.ty b, ⟨xs, own_below (w0 := w0) h1 b, fun k hk => ?_⟩, h.out.below b⟩
 obtain ⟨u, hu, hp⟩ := h2 k hk
 exact ⟨u, hu, hP.clo (S := fun _ => False) hp (.of_below b)⟩
theorem LstS.soil (h : LstS TT T Pr w0 db L S W) (h1 : TT ≠ 177) (h2 : T ≠ 177) : Soil S W := by
 obtain ⟨v, rfl, h⟩ := h
 rintro q (rfl | hq)
 · exact ⟨_, h.ty, h1⟩
 · obtain ⟨xs, h3, _⟩ := h.own
   exact ⟨_, own_typ' h3 hq, h2⟩
theorem LstS.clo (hP : PrU T Pr w0.heap.size db) (h : LstS TT T Pr w0 db L S W) (c : Clo w0.heap.size S W W') : LstS TT T Pr w0 db L S W' := by
 obtain ⟨v, rfl, h⟩ := h
 obtain ⟨xs, h1, h2⟩ := h.own
 refine ⟨v, rfl, c.cell (.inr (.inl rfl)) h.c0, c.frz (.inr (.inl rfl)) h.c0 h.f0, c.typ (.inr (.inl rfl)) h.ty, ⟨xs, ⟨h1.1, ?_⟩, fun k hk => ?_⟩, ?_⟩
 · rcases h1.2 with h3 | ⟨g, cap, cur, rfl, hg, hh, r⟩
   · exact .inl h3
   · exact .inr ⟨g, cap, cur, rfl, hg, by rw [c.block g (Array.getElem?_eq_some_iff.1 hh).1 (.inr (.inl (.inr (by simp [Value.ownBlock]))))]; exact hh, r⟩
 · obtain ⟨u, hu, hp⟩ := h2 k hk
   exact ⟨u, hu, hP.clo hp c⟩
 · have hl := c.low h.out.size
   exact ⟨hl.os.trans h.out.os, hl.tape.trans h.out.tape, hl.output.trans h.out.output, Nat.le_trans h.out.size hl.size, fun i hi hx => (hl.block i hi).trans (h.out.block i hi hx)⟩
theorem LstV.next (el : Elt Tryz.prog TT T 1 bytes) (hP : PrU T Pr w0.heap.size db) (hTT : TT ≠ 177) (hT : T ≠ 177) (ty : TypeId) {gb cc : Nat} {y : Value} {x : α} {W4 : World} (h : LstV TT T Pr w0 db L v W) (hdb : db < w0.heap.size) (hb : Below W.heap.size W W4) (hm : L.length + 1 ≤ 1099511627776) (hy : W4.cell? ⟨gb, 0, none⟩ = some y) (hp : Pr W4 y x) :
 ∃ v' w', (Builtin.append_ #[TT, TT] ty #[v, .slice (some ⟨gb, 0, none⟩) 1 cc]).run Tryz.prog W4 = .ok v' w' ∧ (∃ a c, v' = .slice a (L.length + 1) c) ∧ w'.cell? ⟨db, 0, none⟩ = some v ∧ w'.frozen? ⟨db, 0, none⟩ = false ∧ OutT (fun q => q = db ∨ v.ownBlock = some q) W (w'.setCell ⟨db, 0, none⟩ v') ∧ ∃ S', Grew (fun q => q = db ∨ v.ownBlock = some q) S' W ∧ LstS TT T Pr w0 db (L ++ [x]) S' (w'.setCell ⟨db, 0, none⟩ v') := by
 have h4 := h.keep hP hb
 obtain ⟨xs, k1, k2⟩ := h4.own
 obtain ⟨i0, z0, hi, hz0, hsize, hby, hzs⟩ := el.info
 have oy := hP.one hp
 have hbb : (L.length + 1) * bytes ≤ 1099511627776 * 128 := Nat.mul_le_mul hm el.small
 have hnews : ∀ j u, ([y] : List Value)[j]? = some u → W4.cell? ((⟨gb, 0, none⟩ : Addr).add j) = some u := by
  intro j u hj
  have hj2 : j < 1 := (List.getElem?_eq_some_iff.1 hj).1
  obtain rfl : j = 0 := by omega
  simp at hj; subst hj; simpa [Addr.add] using hy
 obtain ⟨v', w', hrun, r1, r2, r3⟩ := run_append_own (P := Tryz.prog) W4 w0.heap.size TT ty T i0 z0 1 bytes el.ht hi hz0 hsize hby hzs el.pos v L.length xs k1 ⟨gb, 0, none⟩ 1 cc [y] rfl hnews (fun u hu => by simp at hu; subst hu; exact oy) (by unfold maxLen; omega) (by omega) (Nat.le_trans h.out.size hb.size)
 obtain ⟨v2, w2, hrun2, hty, hq⟩ := appU_blk el ty k1 (by omega) (cc := cc) hy oy
 rw [hrun] at hrun2
 cases hrun2
 have hl : Lim W4 w' := (Lim.refl W4).grown r2 fun g hg' ht => by
  rw [own_typ' k1 hg'] at ht
  exact hT (Option.some.inj ht)
 have hne : some db ≠ v.ownBlock := fun e => by
  rcases k1.2 with ⟨h0, _⟩ | ⟨g, cap, cur, rfl, hg', _⟩
  · rw [h0] at e; simp [Value.ownBlock] at e
  · simp [Value.ownBlock] at e; omega
 have hs := r2.size
 have c0 : w'.cell? ⟨db, 0, none⟩ = some v := r2.cell h4.c0 hne
 have cf : w'.frozen? ⟨db, 0, none⟩ = false := by
  rw [World.frozen?_of_block (r2.block db (cell_lt h4.c0) hne)]; exact h4.f0
 have ht : typOf w' db = some TT := by
  rw [typ_of_block (w := W4) (r2.block db (cell_lt h4.c0) hne)]; exact h4.ty
 have ho4 : Out (fun q => v.ownBlock = some q) W4 w' := ⟨r2.os, r2.tape, r2.output, r2.size, fun q hq' hx => r2.block q hq' fun e => hx e.symm⟩
 have hno : ∀ q, v.ownBlock = some q → w0.heap.size ≤ q := fun q e => by
  rcases k1.2 with ⟨h0, _⟩ | ⟨g, cap, cur, rfl, hg', _⟩
  · rw [h0] at e; simp [Value.ownBlock] at e
  · simp [Value.ownBlock] at e; omega
 have hl2 : Lim w' (w'.setCell ⟨db, 0, none⟩ v') := ((Kp.refl (· ≠ TT) w').set (fun t ht' => by rw [ht] at ht'; cases ht'; exact fun k => k rfl) _).lim (fun e => hTT e.symm)
 have hoX : Out (fun q => q = db ∨ (w0.heap.size ≤ q ∧ typOf W4 q = some T)) W4 (w'.setCell ⟨db, 0, none⟩ v') := (ho4.mono fun q _ hq' => .inr ⟨hno q hq', own_typ' k1 hq'⟩).set (fun _ => .inl rfl) _
 have hPr : ∀ {u : Value} {z : α}, Pr W4 u z → Pr (w'.setCell ⟨db, 0, none⟩ v') u z := fun h => hP.own h hoX (hl.trans hl2)
 have hsh : ∃ a c, v' = .slice a (L.length + 1) c := by
  rcases r1.2 with ⟨h0, h1⟩ | ⟨g, cap, cur, h0, _⟩
  · omega
  · exact ⟨_, _, h0⟩
 refine ⟨v', w', hrun, hsh, c0, cf, ⟨?_, fun q hq' hl' => ?_⟩, _, ?_, ⟨v', rfl, cell_here c0 _, by rw [World.frozen?_setCell]; exact cf, by rw [typ_set]; exact ht, ⟨xs ++ [y], ?_, ?_⟩, ?_⟩⟩
 · exact ((Out.of_below _ hb).trans (ho4.mono fun _ _ h => .inr h)).set (fun _ => .inl rfl) _
 · rw [typ_set]
   rw [hty q (Nat.lt_of_lt_of_le hl' hb.size)]
   unfold typOf; rw [hb.block q hl']
 · intro q hq'
   rcases hq' with hq' | hq'
   · exact .inl (.inl hq')
   · rcases hq q hq' with h5 | h5
     · exact .inl (.inr h5)
     · exact .inr (Nat.le_trans hb.size h5)
 · rw [List.length_append]
   refine ⟨r1.1, ?_⟩
   rcases r1.2 with h3 | ⟨g, cap, cur, rfl, hg', hh, r⟩
   · exact .inl h3
   · exact .inr ⟨g, cap, cur, rfl, hg', (Below.heap_setCell _ _ _ _ (by show g ≠ db; omega)).trans hh, r⟩
 · intro k hk
   have hxl : xs.length = L.length := by simpa using k1.1
   by_cases e : k < L.length
   · obtain ⟨u, hu, hp'⟩ := k2 k e
     refine ⟨u, by rw [List.getElem?_append_left (by omega)]; exact hu, ?_⟩
     rw [List.getElem_append_left e]; exact hPr hp'
   · obtain rfl : k = L.length := by simp at hk; omega
     refine ⟨y, by rw [List.getElem?_append_right (by omega), hxl]; simp, ?_⟩
     simpa using hPr hp
 · exact ((h4.out.then ho4 fun i hi h5 => by have := hno i h5; omega)).set (fun _ => rfl) _
theorem LstV.isL (h : LstV TT T Pr w0 db L v W) : IsL T Pr w0.heap.size W v L := by
 obtain ⟨xs, ⟨hl, h1⟩, h2⟩ := h.own
 rcases h1 with ⟨rfl, h0⟩ | ⟨g, cap, cur, rfl, hg, hh, hc, hm, hs, ht⟩
 · exact ⟨none, 0, by rw [h0], by omega, by unfold maxLen; omega, .inl (List.length_eq_zero_iff.1 h0)⟩
 · refine ⟨_, cap, rfl, hc, hm, .inr ⟨g, 0, rfl, hg, by unfold typOf; rw [hh], fun k hk => ?_⟩⟩
   obtain ⟨u, hu, hr⟩ := h2 k hk
   refine ⟨u, ?_, hr⟩
   rw [← ht, List.getElem?_take_of_lt (by omega)] at hu
   rw [Nat.zero_add]
   simpa [World.cell?, hh] using hu
theorem app_lstIn {F : Fence} {n' : Nat} {ops : Array Oper} {o : Oper} {rest : List Oper} {a : Act} {Q : Exit → Act → World → Prop} {s x : Operand} {gb cc : Nat} {y : Value} {z : α} {W4 : World} (el : Elt Tryz.prog TT T 1 bytes) (hP : PrU T Pr w0.heap.size db) (hTT : TT ≠ 177) (hT : T ≠ 177)
 (hgd : o.guard = none) (ho : o.op = .call { callee := .builtin .append, args := #[s, x], argTypes := #[TT, TT] }) (h : LstV TT T Pr w0 db L v W) (hdb : db < w0.heap.size) (hb : Below W.heap.size W W4) (hm : L.length + 1 ≤ 1099511627776) (hy : W4.cell? ⟨gb, 0, none⟩ = some y) (hp : Pr W4 y z) (hs : a.eval s = v) (hx : a.eval x = .slice (some ⟨gb, 0, none⟩) 1 cc)
 (k : ∀ v' w', (∃ a c, v' = .slice a (L.length + 1) c) → w'.cell? ⟨db, 0, none⟩ = some v → w'.frozen? ⟨db, 0, none⟩ = false → OutT (fun q => q = db ∨ v.ownBlock = some q) W (w'.setCell ⟨db, 0, none⟩ v') → (∃ S', Grew (fun q => q = db ∨ v.ownBlock = some q) S' W ∧ LstS TT T Pr w0 db (L ++ [z]) S' (w'.setCell ⟨db, 0, none⟩ v')) → wpListIn F n' Tryz.prog ops Q rest (a.put o.dst v') w') : wpListIn F n' Tryz.prog ops Q (o :: rest) a W4 := by
 obtain ⟨v', w', hrun, h0, h1, h2, h3, h4⟩ := LstV.next el hP hTT hT o.type (cc := cc) h hdb hb hm hy hp
 refine wpListIn_plain hgd fun K hK' => ?_
 unfold Oper.wpIn
 refine ⟨?_, ?_⟩
 · simp [Oper.about, ho, resolve, Target.leads, Sem.run_pure]
 · rw [Oper.semAt_plain F _ _ (by rw [ho]; intro c hc'; cases hc')]
   simp [execOp, ho, resolve, invoke, builtin, hs, hx, hrun, Result.andThen]
   exact hK' _ _ (k v' w' h0 h1 h2 h3 h4)
end
end
section
open Num
attribute [local go_sem ↓] Go.wp_at_zero Go.wp_at_succ
end
end Go.Proofs.YtbmaffijncapiaaGreatDoor
