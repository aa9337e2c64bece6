/- SchemeFlat: the determinant is not 0, is that of Full, and no greater than it may be; the inverse of Full times it is a whole number times the identity. -/
import Derived.Test.YtkejdmdldhlkgaaGreatDoorP29
import Derived.Test.YtkejdmdldhlkgaaGreatDoorP27
import Derived.Test.YtkejdmdldhlkgaaGreatDoorP07
import Derived.Deep.DeepCutAuto
import Derived.Test.YtkejdmdldhlkgaaGreatDoorP14
set_option linter.unusedVariables false
set_option linter.unusedSimpArgs false
namespace Go.Proofs.YtkejdmdldhlkgaaGreatDoor
open Pt
open Num
open Go.ChangeShapes Go.WideShapes Go.ChangeAt Go.RowKit
set_option linter.unusedVariables false
set_option linter.unusedSimpArgs false
attribute [local go_sem ↓] Go.wp_at_zero Go.wp_at_succ
theorem tri_all : ∀ m : Nat, m < 17 → 1 ≤ m → wrap64 ((wrap64 ((m : Int) * wrap64 ((m : Int) - 1))).tdiv 2) = ((m * (m - 1) / 2 : Nat) : Int) := by decide +kernel
theorem cmpI_le {x y : Int} (h : x ≤ y) : cmpI x y ≤ 0 := by unfold cmpI; (repeat' split) <;> omega
theorem far_abs {n : Nat} {f : Nat → Int × Int} (h : AllIn n f) : ((Det.far (fun t => (f t).1) (fun t => (f t).2) n).natAbs : Int) ≤ 512 ^ (n * (n - 1) / 2) := by
  have h1 : (Det.far (fun t => (f t).1) (fun t => (f t).2) n).natAbs ≤ 512 ^ (n * (n - 1) / 2) := Det.far_le fun a b ha hb => dist_le (h a ha) (h b (by omega))
  have h2 := Int.ofNat_le.2 h1
  rw [Int.natCast_pow] at h2
  exact h2
theorem sgn_is {v : Value} {x s : Int} {w : World} (h : IsInt w v x) (e : x.sign = s) : Calls Tryz.prog 26 #[v] w fun e w' => e = .returned (.int .i64 s) ∧ Below w.heap.size w w' := by
  rw [← e]; exact sign_c v x w h
set_option maxRecDepth 100000 in
set_option maxHeartbeats 16000000 in
theorem schemeFlat_h (k1 k2 : Int) (a : Option Addr) (n cap : Nat) (f : Nat → Int × Int) (w : World) (h : PtsV w a n cap f) (hn : n ≤ 4611686018427387904) :
    Calls Tryz.prog 5 #[.int .i64 k1, .int .i64 k2, .slice a n cap] w fun e w' => e = .returned (.bool true) ∧ Below w.heap.size w w' := by
  have HP := Lib.hid h
  have hB := Below.refl w.heap.size w
  clear h
  go_enter Tryz.func5, Tryz.ntmps5
  go_wp2_with fail
  (with_reducible refine (works7_c _).mono ?_)
  rintro e w1 ⟨rfl, hb1⟩
  have hB1 : Below w.heap.size w w1 := bthen (by repeat (first | exact Below.refl _ _ | exact hB | refine Below.drew ?_ | refine below_drewN ?_ _ | refine bset ?_ (by simp <;> omega) _ | refine bal ?_ _)) hb1
  have NC := Lib.hid (fun W (q : Below w1.heap.size w1 W) => newS_c k1 k2 a n cap f W (HP.out.keep (bthen hB1 q)) hn)
  have hBw := Below.refl w1.heap.size w1
  clear hb1 hB hn
  go_wp2_with fail
  (with_reducible refine (NC.out _ ?_).mono ?_); (repeat (first | exact Below.refl _ _ | exact hBw | refine Below.drew ?_ | refine below_drewN ?_ _ | refine bset ?_ (by simp <;> omega) _ | refine bal ?_ _))
  intro e w2 hN
  obtain ⟨hN, hb2⟩ := hN
  have hB : Below w.heap.size w w2 := bthen hB1 (bthen (by repeat (first | exact Below.refl _ _ | exact hBw | refine Below.drew ?_ | refine below_drewN ?_ _ | refine bset ?_ (by simp <;> omega) _ | refine bal ?_ _)) hb2)
  clear hb2 hBw NC hB1 HP
  rcases hN with ⟨no, -, hne, rfl⟩ | ⟨hS, b, rfl, hs⟩
  · have hI : (no != 0) = true := by simpa using hne
    go_wp2
    go_ret
    exact ⟨rfl, by repeat (first | exact Below.refl _ _ | exact hB | refine Below.drew ?_ | refine below_drewN ?_ _ | refine bset ?_ (by simp <;> omega) _ | refine bal ?_ _)⟩
  have HS := Lib.hid hS
  have HSA := Lib.hid hs
  have HN := Lib.hid (And.intro hS.n1 (Nat.le_trans hS.n15 (show 15 ≤ 16 by decide)))
  clear hS hs
  have hBw := Below.refl w2.heap.size w2
  obtain ⟨D, hD⟩ : ∃ D, Det.far (fun t => (f t).1) (fun t => (f t).2) n = D := ⟨_, rfl⟩
  have HDD := Lib.hid hD
  clear hD
  have TC := Lib.hid (fun V (q : Below w2.heap.size w2 V) => detS_c b k1 k2 n f V (HSA.out.keep q) HS.out.all HN.out.1 HN.out.2)
  go_wp2_with fail
  (with_reducible refine (TC.out _ ?_).mono ?_); (repeat (first | exact Below.refl _ _ | exact hBw | refine Below.drew ?_ | refine below_drewN ?_ _ | refine bset ?_ (by simp <;> omega) _ | refine bal ?_ _))
  rintro e w3 ⟨⟨u, rfl, hu⟩, hb3⟩
  have hk : Below w2.heap.size w2 w3 := bthen (by repeat (first | exact Below.refl _ _ | exact hBw | refine Below.drew ?_ | refine below_drewN ?_ _ | refine bset ?_ (by simp <;> omega) _ | refine bal ?_ _)) hb3
  have hB : Below w.heap.size w w3 := bthen (by repeat (first | exact Below.refl _ _ | exact hB | refine Below.drew ?_ | refine below_drewN ?_ _ | refine bset ?_ (by simp <;> omega) _ | refine bal ?_ _)) hb3
  have hz : w.heap.size ≤ w3.heap.size := hB.size
  clear TC hBw hb3
  have hBw := Below.refl w3.heap.size w3
  rw [HDD.out] at hu
  have HD := Lib.hid hu
  obtain ⟨dn, da, dl, dc, rfl⟩ := hu.lit
  clear hu
  replace HSA := Lib.hid (HSA.out.keep hk)
  clear hk
  have TC := Lib.hid (fun V (q : Below w3.heap.size w3 V) => fullS_c b k1 k2 n f V (HSA.out.keep q) HS.out.all HN.out.1 HN.out.2)
  go_wp2_with fail
  (with_reducible refine (TC.out _ ?_).mono ?_); (repeat (first | exact Below.refl _ _ | exact hBw | refine Below.drew ?_ | refine below_drewN ?_ _ | refine bset ?_ (by simp <;> omega) _ | refine bal ?_ _))
  rintro e w4 ⟨⟨fa, fc, rfl, hf⟩, hb4⟩
  have hk : Below w3.heap.size w3 w4 := bthen (by repeat (first | exact Below.refl _ _ | exact hBw | refine Below.drew ?_ | refine below_drewN ?_ _ | refine bset ?_ (by simp <;> omega) _ | refine bal ?_ _)) hb4
  have d0 : w4.cell? ⟨w3.heap.size, 0, none⟩ = some (.bool dn) := bkc hb4
  have zd0 := cell_lt d0
  have d1 : w4.cell? ⟨w3.heap.size, 1, none⟩ = some (.slice da dl dc) := bkc hb4
  have hB : Below w.heap.size w w4 := bthen (by repeat (first | exact Below.refl _ _ | exact hB | refine Below.drew ?_ | refine below_drewN ?_ _ | refine bset ?_ (by simp <;> omega) _ | refine bal ?_ _)) hb4
  have hz : w.heap.size ≤ w4.heap.size := hB.size
  clear TC hBw hb4
  have hBw := Below.refl w4.heap.size w4
  have MF := Lib.hid hf
  clear hf
  replace HSA := Lib.hid (HSA.out.keep hk)
  replace HD := Lib.hid (HD.out.keep hk)
  clear hk
  have TC := Lib.hid (fun V (q : Below w4.heap.size w4 V) => Mt.det (MF.out.keep q) (pwG_sq f HN.out.1) (by decide) (by decide))
  go_wp2_with fail
  (with_reducible refine (TC.out _ ?_).mono ?_); (repeat (first | exact Below.refl _ _ | exact hBw | refine Below.drew ?_ | refine below_drewN ?_ _ | refine bset ?_ (by simp <;> omega) _ | refine bal ?_ _))
  rintro e w5 ⟨⟨gn, ga, gl, gc, rfl, hg⟩, hb5⟩
  have hk : Below w4.heap.size w4 w5 := bthen (by repeat (first | exact Below.refl _ _ | exact hBw | refine Below.drew ?_ | refine below_drewN ?_ _ | refine bset ?_ (by simp <;> omega) _ | refine bal ?_ _)) hb5
  have d0 : w5.cell? ⟨w3.heap.size, 0, none⟩ = some (.bool dn) := bkc hb5
  have zd0 := cell_lt d0
  have d1 : w5.cell? ⟨w3.heap.size, 1, none⟩ = some (.slice da dl dc) := bkc hb5
  have hB : Below w.heap.size w w5 := bthen (by repeat (first | exact Below.refl _ _ | exact hB | refine Below.drew ?_ | refine below_drewN ?_ _ | refine bset ?_ (by simp <;> omega) _ | refine bal ?_ _)) hb5
  have hz : w.heap.size ≤ w5.heap.size := hB.size
  clear TC hBw hb5
  have hBw := Below.refl w5.heap.size w5
  rw [pwG_len, pwG_det, HDD.out] at hg
  have HG := Lib.hid hg
  clear hg MF
  replace HSA := Lib.hid (HSA.out.keep hk)
  replace HD := Lib.hid (HD.out.keep hk)
  clear hk
  have TC := Lib.hid (fun V (q : Below w5.heap.size w5 V) => sizeS_c b k1 k2 n f V (HSA.out.keep q))
  go_wp2_with fail
  (with_reducible refine (TC.out _ ?_).mono ?_); (repeat (first | exact Below.refl _ _ | exact hBw | refine Below.drew ?_ | refine below_drewN ?_ _ | refine bset ?_ (by simp <;> omega) _ | refine bal ?_ _))
  rintro e w6 ⟨rfl, hb6⟩
  have hk : Below w5.heap.size w5 w6 := bthen (by repeat (first | exact Below.refl _ _ | exact hBw | refine Below.drew ?_ | refine below_drewN ?_ _ | refine bset ?_ (by simp <;> omega) _ | refine bal ?_ _)) hb6
  have d0 : w6.cell? ⟨w3.heap.size, 0, none⟩ = some (.bool dn) := bkc hb6
  have zd0 := cell_lt d0
  have d1 : w6.cell? ⟨w3.heap.size, 1, none⟩ = some (.slice da dl dc) := bkc hb6
  have g0 : w6.cell? ⟨w5.heap.size, 0, none⟩ = some (.bool gn) := bkc hb6
  have zg0 := cell_lt g0
  have g1 : w6.cell? ⟨w5.heap.size, 1, none⟩ = some (.slice ga gl gc) := bkc hb6
  have hB : Below w.heap.size w w6 := bthen (by repeat (first | exact Below.refl _ _ | exact hB | refine Below.drew ?_ | refine below_drewN ?_ _ | refine bset ?_ (by simp <;> omega) _ | refine bal ?_ _)) hb6
  have hz : w.heap.size ≤ w6.heap.size := hB.size
  clear TC hBw hb6
  have hBw := Below.refl w6.heap.size w6
  replace HSA := Lib.hid (HSA.out.keep hk)
  replace HD := Lib.hid (HD.out.keep hk)
  replace HG := Lib.hid (HG.out.keep hk)
  clear hk
  have TC := Lib.hid (fun V (q : Below w6.heap.size w6 V) => of_c 512 V (by decide) (by decide))
  go_wp2_with fail
  (with_reducible refine (TC.out _ ?_).mono ?_); (repeat (first | exact Below.refl _ _ | exact hBw | refine Below.drew ?_ | refine below_drewN ?_ _ | refine bset ?_ (by simp <;> omega) _ | refine bal ?_ _))
  rintro e w7 ⟨⟨ov, rfl, ho⟩, hb7⟩
  have hk : Below w6.heap.size w6 w7 := bthen (by repeat (first | exact Below.refl _ _ | exact hBw | refine Below.drew ?_ | refine below_drewN ?_ _ | refine bset ?_ (by simp <;> omega) _ | refine bal ?_ _)) hb7
  have d0 : w7.cell? ⟨w3.heap.size, 0, none⟩ = some (.bool dn) := bkc hb7
  have zd0 := cell_lt d0
  have d1 : w7.cell? ⟨w3.heap.size, 1, none⟩ = some (.slice da dl dc) := bkc hb7
  have g0 : w7.cell? ⟨w5.heap.size, 0, none⟩ = some (.bool gn) := bkc hb7
  have zg0 := cell_lt g0
  have g1 : w7.cell? ⟨w5.heap.size, 1, none⟩ = some (.slice ga gl gc) := bkc hb7
  have hB : Below w.heap.size w w7 := bthen (by repeat (first | exact Below.refl _ _ | exact hB | refine Below.drew ?_ | refine below_drewN ?_ _ | refine bset ?_ (by simp <;> omega) _ | refine bal ?_ _)) hb7
  have hz : w.heap.size ≤ w7.heap.size := hB.size
  clear TC hBw hb7
  have hBw := Below.refl w7.heap.size w7
  have HO := Lib.hid ho
  obtain ⟨on, oa, ol, oc, rfl⟩ := ho.lit
  clear ho
  replace HSA := Lib.hid (HSA.out.keep hk)
  replace HD := Lib.hid (HD.out.keep hk)
  replace HG := Lib.hid (HG.out.keep hk)
  clear hk
  obtain ⟨T, hT⟩ : ∃ T, n * (n - 1) / 2 = T := ⟨_, rfl⟩
  have hTW := tri_all n (Nat.lt_succ_of_le HN.out.2) HN.out.1
  rw [hT] at hTW
  have HTL := Lib.hid (show T ≤ 120 from by
    rw [← hT]
    have h1 : n * (n - 1) ≤ 16 * 15 := Nat.mul_le_mul HN.out.2 (by have := HN.out.2; omega)
    omega)
  have HDM := Lib.hid (show (D.natAbs : Int) ≤ 512 ^ T from by rw [← HDD.out, ← hT]; exact far_abs HS.out.all)
  clear hT
  have TC := Lib.hid (fun V (q : Below w7.heap.size w7 V) => pow_c (.agg #[.bool on, .slice oa ol oc]) 512 T V (HO.out.keep q) (by have := HTL.out; have e : bitN (512 : Int).natAbs ≤ 16 := (by decide); exact Nat.le_trans (Nat.mul_le_mul this e) (by decide)) (by decide) (by have := HTL.out; omega))
  go_wp2_with fail
  (with_reducible refine (TC.out _ ?_).mono ?_); (repeat (first | exact Below.refl _ _ | exact hBw | refine Below.drew ?_ | refine below_drewN ?_ _ | refine bset ?_ (by simp <;> omega) _ | refine bal ?_ _))
  rintro e w8 ⟨⟨mv, rfl, hm⟩, hb8⟩
  have hk : Below w7.heap.size w7 w8 := bthen (by repeat (first | exact Below.refl _ _ | exact hBw | refine Below.drew ?_ | refine below_drewN ?_ _ | refine bset ?_ (by simp <;> omega) _ | refine bal ?_ _)) hb8
  have d0 : w8.cell? ⟨w3.heap.size, 0, none⟩ = some (.bool dn) := bkc hb8
  have zd0 := cell_lt d0
  have d1 : w8.cell? ⟨w3.heap.size, 1, none⟩ = some (.slice da dl dc) := bkc hb8
  have g0 : w8.cell? ⟨w5.heap.size, 0, none⟩ = some (.bool gn) := bkc hb8
  have zg0 := cell_lt g0
  have g1 : w8.cell? ⟨w5.heap.size, 1, none⟩ = some (.slice ga gl gc) := bkc hb8
  have hB : Below w.heap.size w w8 := bthen (by repeat (first | exact Below.refl _ _ | exact hB | refine Below.drew ?_ | refine below_drewN ?_ _ | refine bset ?_ (by simp <;> omega) _ | refine bal ?_ _)) hb8
  have hz : w.heap.size ≤ w8.heap.size := hB.size
  clear TC hBw hb8
  have hBw := Below.refl w8.heap.size w8
  have HM := Lib.hid hm
  obtain ⟨mn, ma, ml, mc, rfl⟩ := hm.lit
  clear hm hTW HO
  replace HSA := Lib.hid (HSA.out.keep hk)
  replace HD := Lib.hid (HD.out.keep hk)
  replace HG := Lib.hid (HG.out.keep hk)
  clear hk
  have TC := Lib.hid (fun V (q : Below w8.heap.size w8 V) => invS_c b k1 k2 n f V (HSA.out.keep q) HS.out)
  go_wp2_with fail
  (with_reducible refine (TC.out _ ?_).mono ?_); (repeat (first | exact Below.refl _ _ | exact hBw | refine Below.drew ?_ | refine below_drewN ?_ _ | refine bset ?_ (by simp <;> omega) _ | refine bal ?_ _))
  rintro e w9 ⟨⟨va, vc, kn, ka, kl, kc, rfl, hw, hi⟩, hb9⟩
  have hk : Below w8.heap.size w8 w9 := bthen (by repeat (first | exact Below.refl _ _ | exact hBw | refine Below.drew ?_ | refine below_drewN ?_ _ | refine bset ?_ (by simp <;> omega) _ | refine bal ?_ _)) hb9
  have d0 : w9.cell? ⟨w3.heap.size, 0, none⟩ = some (.bool dn) := bkc hb9
  have zd0 := cell_lt d0
  have d1 : w9.cell? ⟨w3.heap.size, 1, none⟩ = some (.slice da dl dc) := bkc hb9
  have g0 : w9.cell? ⟨w5.heap.size, 0, none⟩ = some (.bool gn) := bkc hb9
  have zg0 := cell_lt g0
  have g1 : w9.cell? ⟨w5.heap.size, 1, none⟩ = some (.slice ga gl gc) := bkc hb9
  have m0 : w9.cell? ⟨w8.heap.size, 0, none⟩ = some (.bool mn) := bkc hb9
  have zm0 := cell_lt m0
  have m1 : w9.cell? ⟨w8.heap.size, 1, none⟩ = some (.slice ma ml mc) := bkc hb9
  have hB : Below w.heap.size w w9 := bthen (by repeat (first | exact Below.refl _ _ | exact hB | refine Below.drew ?_ | refine below_drewN ?_ _ | refine bset ?_ (by simp <;> omega) _ | refine bal ?_ _)) hb9
  have hz : w.heap.size ≤ w9.heap.size := hB.size
  clear TC hBw hb9
  have hBw := Below.refl w9.heap.size w9
  have MW := Lib.hid hw
  have HK := Lib.hid hi
  clear hw hi
  replace HSA := Lib.hid (HSA.out.keep hk)
  replace HD := Lib.hid (HD.out.keep hk)
  replace HG := Lib.hid (HG.out.keep hk)
  replace HM := Lib.hid (HM.out.keep hk)
  clear hk
  go_upto_region 11 with (fail)
  refine wp_name fun w10 hW10 => ?_
  have d0 : w10.cell? ⟨w3.heap.size, 0, none⟩ = some (.bool dn) := by rw [hW10]; exact (by first | assumption | exact cell_new (by with_reducible first | rfl | (simp; done) | (simp; omega)) rfl | (repeat (first | assumption | exact cell_new (by with_reducible first | rfl | (simp; done) | (simp; omega)) rfl | refine cell_alloc ?_ _ | refine cell_drew ?_ | refine cell_drewN ?_ _ | refine cell_far ?_ (by simp) _ | (refine cell_far ?_ (by simp <;> omega) _))) | simp [go_sem, *])
  have zd0 := cell_lt d0
  have d1 : w10.cell? ⟨w3.heap.size, 1, none⟩ = some (.slice da dl dc) := by rw [hW10]; exact (by first | assumption | exact cell_new (by with_reducible first | rfl | (simp; done) | (simp; omega)) rfl | (repeat (first | assumption | exact cell_new (by with_reducible first | rfl | (simp; done) | (simp; omega)) rfl | refine cell_alloc ?_ _ | refine cell_drew ?_ | refine cell_drewN ?_ _ | refine cell_far ?_ (by simp) _ | (refine cell_far ?_ (by simp <;> omega) _))) | simp [go_sem, *])
  have g0 : w10.cell? ⟨w5.heap.size, 0, none⟩ = some (.bool gn) := by rw [hW10]; exact (by first | assumption | exact cell_new (by with_reducible first | rfl | (simp; done) | (simp; omega)) rfl | (repeat (first | assumption | exact cell_new (by with_reducible first | rfl | (simp; done) | (simp; omega)) rfl | refine cell_alloc ?_ _ | refine cell_drew ?_ | refine cell_drewN ?_ _ | refine cell_far ?_ (by simp) _ | (refine cell_far ?_ (by simp <;> omega) _))) | simp [go_sem, *])
  have zg0 := cell_lt g0
  have g1 : w10.cell? ⟨w5.heap.size, 1, none⟩ = some (.slice ga gl gc) := by rw [hW10]; exact (by first | assumption | exact cell_new (by with_reducible first | rfl | (simp; done) | (simp; omega)) rfl | (repeat (first | assumption | exact cell_new (by with_reducible first | rfl | (simp; done) | (simp; omega)) rfl | refine cell_alloc ?_ _ | refine cell_drew ?_ | refine cell_drewN ?_ _ | refine cell_far ?_ (by simp) _ | (refine cell_far ?_ (by simp <;> omega) _))) | simp [go_sem, *])
  have m0 : w10.cell? ⟨w8.heap.size, 0, none⟩ = some (.bool mn) := by rw [hW10]; exact (by first | assumption | exact cell_new (by with_reducible first | rfl | (simp; done) | (simp; omega)) rfl | (repeat (first | assumption | exact cell_new (by with_reducible first | rfl | (simp; done) | (simp; omega)) rfl | refine cell_alloc ?_ _ | refine cell_drew ?_ | refine cell_drewN ?_ _ | refine cell_far ?_ (by simp) _ | (refine cell_far ?_ (by simp <;> omega) _))) | simp [go_sem, *])
  have zm0 := cell_lt m0
  have m1 : w10.cell? ⟨w8.heap.size, 1, none⟩ = some (.slice ma ml mc) := by rw [hW10]; exact (by first | assumption | exact cell_new (by with_reducible first | rfl | (simp; done) | (simp; omega)) rfl | (repeat (first | assumption | exact cell_new (by with_reducible first | rfl | (simp; done) | (simp; omega)) rfl | refine cell_alloc ?_ _ | refine cell_drew ?_ | refine cell_drewN ?_ _ | refine cell_far ?_ (by simp) _ | (refine cell_far ?_ (by simp <;> omega) _))) | simp [go_sem, *])
  have v0 : w10.cell? ⟨w9.heap.size, 0, none⟩ = some (.slice va n vc) := by rw [hW10]; exact (by first | assumption | exact cell_new (by with_reducible first | rfl | (simp; done) | (simp; omega)) rfl | (repeat (first | assumption | exact cell_new (by with_reducible first | rfl | (simp; done) | (simp; omega)) rfl | refine cell_alloc ?_ _ | refine cell_drew ?_ | refine cell_drewN ?_ _ | refine cell_far ?_ (by simp) _ | (refine cell_far ?_ (by simp <;> omega) _))) | simp [go_sem, *])
  have zv0 := cell_lt v0
  have i0 : w10.cell? ⟨w9.heap.size + 1, 0, none⟩ = some (.bool kn) := by rw [hW10]; exact (by first | assumption | exact cell_new (by with_reducible first | rfl | (simp; done) | (simp; omega)) rfl | (repeat (first | assumption | exact cell_new (by with_reducible first | rfl | (simp; done) | (simp; omega)) rfl | refine cell_alloc ?_ _ | refine cell_drew ?_ | refine cell_drewN ?_ _ | refine cell_far ?_ (by simp) _ | (refine cell_far ?_ (by simp <;> omega) _))) | simp [go_sem, *])
  have zi0 := cell_lt i0
  have i1 : w10.cell? ⟨w9.heap.size + 1, 1, none⟩ = some (.slice ka kl kc) := by rw [hW10]; exact (by first | assumption | exact cell_new (by with_reducible first | rfl | (simp; done) | (simp; omega)) rfl | (repeat (first | assumption | exact cell_new (by with_reducible first | rfl | (simp; done) | (simp; omega)) rfl | refine cell_alloc ?_ _ | refine cell_drew ?_ | refine cell_drewN ?_ _ | refine cell_far ?_ (by simp) _ | (refine cell_far ?_ (by simp <;> omega) _))) | simp [go_sem, *])
  have hB : Below w.heap.size w w10 := by rw [hW10]; repeat (first | exact Below.refl _ _ | exact hB | refine Below.drew ?_ | refine below_drewN ?_ _ | refine bset ?_ (by simp <;> omega) _ | refine bal ?_ _)
  have hk : Below w9.heap.size w9 w10 := by rw [hW10]; repeat (first | exact Below.refl _ _ | exact hBw | refine Below.drew ?_ | refine below_drewN ?_ _ | refine bset ?_ (by simp <;> omega) _ | refine bal ?_ _)
  have hz : w.heap.size ≤ w10.heap.size := hB.size
  clear hW10
  replace HSA := Lib.hid (HSA.out.keep hk)
  replace HD := Lib.hid (HD.out.keep hk)
  replace HG := Lib.hid (HG.out.keep hk)
  replace HM := Lib.hid (HM.out.keep hk)
  replace MW := Lib.hid (MW.out.keep hk)
  replace HK := Lib.hid (HK.out.keep hk)
  clear hk hBw
  have FC := Lib.hid (fun V (q : Below w10.heap.size w10 V) => fullS_c b k1 k2 n f V (HSA.out.keep q) HS.out.all HN.out.1 HN.out.2)
  have HFS := Lib.hid (show ∀ V, Below w10.heap.size w10 V → V.cell? ⟨w9.heap.size, 0, none⟩ = some (.slice va n vc) from fun V q => bkeep q v0)
  have hBw := Below.refl w10.heap.size w10
  go_cut [16, 17] (fun s16 s17 wx => ∃ pb pa pc, s16 = .pointer (some ⟨pb, 0, none⟩) ∧ s17 = .int .i64 0 ∧ wx.cell? ⟨pb, 0, none⟩ = some (.slice pa n pc) ∧ Hid (Mt (200 + kb 200 16 + 16) (timesG (pwG n n f) (invG (pwG n n f))) (.agg #[.slice pa n pc]) wx) ∧ Below w10.heap.size w10 wx)
  case first =>
    go_region_held3 (fun V => V.cell? ⟨w9.heap.size, 0, none⟩ = some (.slice va n vc))
      (first | (refine HFS.out _ ?_; (repeat' (first | exact Below.refl _ _ | exact hBw | refine Below.drew ?_ | refine below_drewN ?_ _ | refine bal ?_ _ | refine bset ?_ ?_ _ | exact hla11 | exact hla12 | exact Nat.le_trans hla11 (Nat.le_succ _) | exact Nat.le_refl _ | exact Nat.le_succ _)); done) | fail)
      (first
      | (go_at_call 14; (with_reducible refine (FC.out _ ?_).mono ?_); (repeat (first | exact Below.refl _ _ | exact hBw | refine Below.drew ?_ | refine below_drewN ?_ _ | refine bset ?_ (by simp <;> omega) _ | refine bal ?_ _)); rintro e w11 ⟨⟨fa, fc, rfl, hf⟩, hb11⟩; (have hBd : Below w10.heap.size w10 w11 := bthen (by repeat (first | exact Below.refl _ _ | exact hBw | refine Below.drew ?_ | refine below_drewN ?_ _ | refine bset ?_ (by simp <;> omega) _ | refine bal ?_ _)) hb11; clear hBw; have hBw := hBd; clear hBd); have MF := Lib.hid hf; have MW11 := Lib.hid (MW.out.keep hBw); have hy11 := Below.refl w11.heap.size w11; clear hf; have hc11 := (bcell hb11).1; have hf11 := (bcell hb11).2; have ht11 := tcell hb11; have hla11 := hBw.size; have hs11 := hb11.size; (try simp [go_sem] at hs11); (try have qa : w10.heap.size < w11.heap.size := by omega))
      | (go_at_call 31; (with_reducible refine (Mt.times (n := n) (MF.out.keep ?_) (MW11.out.keep ?_) (by rw [pwG_cols f HN.out.1, inv_len, pwG_len]) (by decide) (pwG_len n n f)).mono ?_); (repeat (first | exact Below.refl _ _ | exact hy11 | refine Below.drew ?_ | refine below_drewN ?_ _ | refine bset ?_ (by simp <;> omega) _ | refine bal ?_ _)); (repeat (first | exact Below.refl _ _ | exact hy11 | refine Below.drew ?_ | refine below_drewN ?_ _ | refine bset ?_ (by simp <;> omega) _ | refine bal ?_ _)); rintro e w12 ⟨⟨pa, pc, rfl, hp⟩, hb12⟩; (have hBd : Below w10.heap.size w10 w12 := bthen (by repeat (first | exact Below.refl _ _ | exact hBw | refine Below.drew ?_ | refine below_drewN ?_ _ | refine bset ?_ (by simp <;> omega) _ | refine bal ?_ _)) hb12; clear hBw; have hBw := hBd; clear hBd); have MP := Lib.hid hp; clear hp; have hc12 := (bcell hb12).1; have hf12 := (bcell hb12).2; have ht12 := tcell hb12; have hla12 := hBw.size; have hs12 := hb12.size; (try simp [go_sem] at hs12); (try have qa : w10.heap.size < w12.heap.size := by omega))
      | fail)
    all_goals
      go_wp2_with fail
      go_meet
      refine ⟨_, pa, pc, rfl, rfl, ?_, Lib.hid ?_, ?_⟩
      all_goals first
        | (simp [go_sem, *]; done)
        | ((repeat' (first | exact Below.refl _ _ | exact hBw | refine Below.drew ?_ | refine below_drewN ?_ _ | refine bal ?_ _ | refine bset ?_ ?_ _ | exact hla11 | exact hla12 | exact Nat.le_trans hla11 (Nat.le_succ _) | exact Nat.le_refl _ | exact Nat.le_succ _)); done)
        | ((repeat' (first | exact MP.out | refine Mt.al ?_ _ | refine Mt.dr ?_ | refine Mt.setM ?_ ?_ _)) <;> (simp (disch := (first | (simp; done) | (simp; omega) | omega)) only [typ_set, typ_alloc_eq, typ_alloc_lt, ht11, ht12, typ_drew]; done))
        | ((repeat (refine cell_far ?_ ?b _; case b => (first | (simp; done) | (simp; omega)))); (first | (refine cell_here (v := .slice none 0 0) ?_ _; (repeat (refine cell_far ?_ ?b _; case b => (first | (simp; done) | (simp; omega)))); (simp [go_sem, *]; done))))
  case rest =>
    obtain ⟨pb, pa, pc, rfl, rfl, p0, MP, hk⟩ := hcut
    rename World => w13
    have d0 := bkeep hk d0
    have d1 := bkeep hk d1
    have g0 := bkeep hk g0
    have g1 := bkeep hk g1
    have m0 := bkeep hk m0
    have m1 := bkeep hk m1
    have v0 := bkeep hk v0
    have i0 := bkeep hk i0
    have i1 := bkeep hk i1
    have hB := bthen hB hk
    have hz := hB.size
    replace HD := Lib.hid (HD.out.keep hk)
    replace HG := Lib.hid (HG.out.keep hk)
    replace HM := Lib.hid (HM.out.keep hk)
    replace HK := Lib.hid (HK.out.keep hk)
    have zp0 := cell_lt p0
    clear hk v0 hBw
    have hBw := Below.refl w13.heap.size w13
    have TC := Lib.hid (fun V (q : Below w13.heap.size w13 V) => Mt.ident (w := V) HN.out.1 HN.out.2)
    go_wp2_with fail
    (with_reducible refine (TC.out _ ?_).mono ?_); (repeat (first | exact Below.refl _ _ | exact hBw | refine Below.drew ?_ | refine below_drewN ?_ _ | refine bset ?_ (by simp <;> omega) _ | refine bal ?_ _))
    rintro e w14 ⟨⟨oa', oc', rfl, ho⟩, hb14⟩
    have hk : Below w13.heap.size w13 w14 := bthen (by repeat (first | exact Below.refl _ _ | exact hBw | refine Below.drew ?_ | refine below_drewN ?_ _ | refine bset ?_ (by simp <;> omega) _ | refine bal ?_ _)) hb14
    have d0 : w14.cell? ⟨w3.heap.size, 0, none⟩ = some (.bool dn) := bkc hb14
    have zd0 := cell_lt d0
    have d1 : w14.cell? ⟨w3.heap.size, 1, none⟩ = some (.slice da dl dc) := bkc hb14
    have g0 : w14.cell? ⟨w5.heap.size, 0, none⟩ = some (.bool gn) := bkc hb14
    have zg0 := cell_lt g0
    have g1 : w14.cell? ⟨w5.heap.size, 1, none⟩ = some (.slice ga gl gc) := bkc hb14
    have m0 : w14.cell? ⟨w8.heap.size, 0, none⟩ = some (.bool mn) := bkc hb14
    have zm0 := cell_lt m0
    have m1 : w14.cell? ⟨w8.heap.size, 1, none⟩ = some (.slice ma ml mc) := bkc hb14
    have i0 : w14.cell? ⟨w9.heap.size + 1, 0, none⟩ = some (.bool kn) := bkc hb14
    have zi0 := cell_lt i0
    have i1 : w14.cell? ⟨w9.heap.size + 1, 1, none⟩ = some (.slice ka kl kc) := bkc hb14
    have p0 : w14.cell? ⟨pb, 0, none⟩ = some (.slice pa n pc) := bkc hb14
    have zp0 := cell_lt p0
    have hB : Below w.heap.size w w14 := bthen (by repeat (first | exact Below.refl _ _ | exact hB | refine Below.drew ?_ | refine below_drewN ?_ _ | refine bset ?_ (by simp <;> omega) _ | refine bal ?_ _)) hb14
    have hz : w.heap.size ≤ w14.heap.size := hB.size
    clear TC hBw hb14
    have hBw := Below.refl w14.heap.size w14
    have MO := Lib.hid ho
    clear ho
    replace HD := Lib.hid (HD.out.keep hk)
    replace HG := Lib.hid (HG.out.keep hk)
    replace HM := Lib.hid (HM.out.keep hk)
    replace HK := Lib.hid (HK.out.keep hk)
    replace MP := Lib.hid (MP.out.keep hk)
    clear hk
    go_upto_region 13 with (fail)
    refine wp_name fun w15 hW15 => ?_
    have d0 : w15.cell? ⟨w3.heap.size, 0, none⟩ = some (.bool dn) := by rw [hW15]; exact (by first | assumption | exact cell_new (by with_reducible first | rfl | (simp; done) | (simp; omega)) rfl | (repeat (first | assumption | exact cell_new (by with_reducible first | rfl | (simp; done) | (simp; omega)) rfl | refine cell_alloc ?_ _ | refine cell_drew ?_ | refine cell_drewN ?_ _ | refine cell_far ?_ (by simp) _ | (refine cell_far ?_ (by simp <;> omega) _))) | simp [go_sem, *])
    have zd0 := cell_lt d0
    have d1 : w15.cell? ⟨w3.heap.size, 1, none⟩ = some (.slice da dl dc) := by rw [hW15]; exact (by first | assumption | exact cell_new (by with_reducible first | rfl | (simp; done) | (simp; omega)) rfl | (repeat (first | assumption | exact cell_new (by with_reducible first | rfl | (simp; done) | (simp; omega)) rfl | refine cell_alloc ?_ _ | refine cell_drew ?_ | refine cell_drewN ?_ _ | refine cell_far ?_ (by simp) _ | (refine cell_far ?_ (by simp <;> omega) _))) | simp [go_sem, *])
    have g0 : w15.cell? ⟨w5.heap.size, 0, none⟩ = some (.bool gn) := by rw [hW15]; exact (by first | assumption | exact cell_new (by with_reducible first | rfl | (simp; done) | (simp; omega)) rfl | (repeat (first | assumption | exact cell_new (by with_reducible first | rfl | (simp; done) | (simp; omega)) rfl | refine cell_alloc ?_ _ | refine cell_drew ?_ | refine cell_drewN ?_ _ | refine cell_far ?_ (by simp) _ | (refine cell_far ?_ (by simp <;> omega) _))) | simp [go_sem, *])
    have zg0 := cell_lt g0
    have g1 : w15.cell? ⟨w5.heap.size, 1, none⟩ = some (.slice ga gl gc) := by rw [hW15]; exact (by first | assumption | exact cell_new (by with_reducible first | rfl | (simp; done) | (simp; omega)) rfl | (repeat (first | assumption | exact cell_new (by with_reducible first | rfl | (simp; done) | (simp; omega)) rfl | refine cell_alloc ?_ _ | refine cell_drew ?_ | refine cell_drewN ?_ _ | refine cell_far ?_ (by simp) _ | (refine cell_far ?_ (by simp <;> omega) _))) | simp [go_sem, *])
    have m0 : w15.cell? ⟨w8.heap.size, 0, none⟩ = some (.bool mn) := by rw [hW15]; exact (by first | assumption | exact cell_new (by with_reducible first | rfl | (simp; done) | (simp; omega)) rfl | (repeat (first | assumption | exact cell_new (by with_reducible first | rfl | (simp; done) | (simp; omega)) rfl | refine cell_alloc ?_ _ | refine cell_drew ?_ | refine cell_drewN ?_ _ | refine cell_far ?_ (by simp) _ | (refine cell_far ?_ (by simp <;> omega) _))) | simp [go_sem, *])
    have zm0 := cell_lt m0
    have m1 : w15.cell? ⟨w8.heap.size, 1, none⟩ = some (.slice ma ml mc) := by rw [hW15]; exact (by first | assumption | exact cell_new (by with_reducible first | rfl | (simp; done) | (simp; omega)) rfl | (repeat (first | assumption | exact cell_new (by with_reducible first | rfl | (simp; done) | (simp; omega)) rfl | refine cell_alloc ?_ _ | refine cell_drew ?_ | refine cell_drewN ?_ _ | refine cell_far ?_ (by simp) _ | (refine cell_far ?_ (by simp <;> omega) _))) | simp [go_sem, *])
    have i0 : w15.cell? ⟨w9.heap.size + 1, 0, none⟩ = some (.bool kn) := by rw [hW15]; exact (by first | assumption | exact cell_new (by with_reducible first | rfl | (simp; done) | (simp; omega)) rfl | (repeat (first | assumption | exact cell_new (by with_reducible first | rfl | (simp; done) | (simp; omega)) rfl | refine cell_alloc ?_ _ | refine cell_drew ?_ | refine cell_drewN ?_ _ | refine cell_far ?_ (by simp) _ | (refine cell_far ?_ (by simp <;> omega) _))) | simp [go_sem, *])
    have zi0 := cell_lt i0
    have i1 : w15.cell? ⟨w9.heap.size + 1, 1, none⟩ = some (.slice ka kl kc) := by rw [hW15]; exact (by first | assumption | exact cell_new (by with_reducible first | rfl | (simp; done) | (simp; omega)) rfl | (repeat (first | assumption | exact cell_new (by with_reducible first | rfl | (simp; done) | (simp; omega)) rfl | refine cell_alloc ?_ _ | refine cell_drew ?_ | refine cell_drewN ?_ _ | refine cell_far ?_ (by simp) _ | (refine cell_far ?_ (by simp <;> omega) _))) | simp [go_sem, *])
    have p0 : w15.cell? ⟨pb, 0, none⟩ = some (.slice pa n pc) := by rw [hW15]; exact (by first | assumption | exact cell_new (by with_reducible first | rfl | (simp; done) | (simp; omega)) rfl | (repeat (first | assumption | exact cell_new (by with_reducible first | rfl | (simp; done) | (simp; omega)) rfl | refine cell_alloc ?_ _ | refine cell_drew ?_ | refine cell_drewN ?_ _ | refine cell_far ?_ (by simp) _ | (refine cell_far ?_ (by simp <;> omega) _))) | simp [go_sem, *])
    have zp0 := cell_lt p0
    have o0 : w15.cell? ⟨w14.heap.size, 0, none⟩ = some (.slice oa' n oc') := by rw [hW15]; exact (by first | assumption | exact cell_new (by with_reducible first | rfl | (simp; done) | (simp; omega)) rfl | (repeat (first | assumption | exact cell_new (by with_reducible first | rfl | (simp; done) | (simp; omega)) rfl | refine cell_alloc ?_ _ | refine cell_drew ?_ | refine cell_drewN ?_ _ | refine cell_far ?_ (by simp) _ | (refine cell_far ?_ (by simp <;> omega) _))) | simp [go_sem, *])
    have zo0 := cell_lt o0
    have hB : Below w.heap.size w w15 := by rw [hW15]; repeat (first | exact Below.refl _ _ | exact hB | refine Below.drew ?_ | refine below_drewN ?_ _ | refine bset ?_ (by simp <;> omega) _ | refine bal ?_ _)
    have hk : Below w14.heap.size w14 w15 := by rw [hW15]; repeat (first | exact Below.refl _ _ | exact hBw | refine Below.drew ?_ | refine below_drewN ?_ _ | refine bset ?_ (by simp <;> omega) _ | refine bal ?_ _)
    have hz : w.heap.size ≤ w15.heap.size := hB.size
    clear hW15
    replace HD := Lib.hid (HD.out.keep hk)
    replace HG := Lib.hid (HG.out.keep hk)
    replace HM := Lib.hid (HM.out.keep hk)
    replace HK := Lib.hid (HK.out.keep hk)
    replace MP := Lib.hid (MP.out.keep hk)
    replace MO := Lib.hid (MO.out.keep hk)
    clear hk hBw
    obtain ⟨s, hsE⟩ : ∃ s, D.sign = s := ⟨_, rfl⟩
    have hsI : (s != 0) = true := by
      have h0 : ¬ s = 0 := fun e => HS.out.far (by rw [HDD.out]; exact Int.sign_eq_zero_iff_zero.1 (hsE.trans e))
      simpa using h0
    have SD := Lib.hid (fun V (q : Below w15.heap.size w15 V) => sgn_is (HD.out.keep q) hsE)
    have CD := Lib.hid (fun V (q : Below w15.heap.size w15 V) => cmp_same (HD.out.keep q) (HG.out.keep q))
    have AB := Lib.hid (fun V => abs_v dn da dc dl V)
    obtain ⟨c, hcE⟩ : ∃ c, cmpI (D.natAbs : Int) (512 ^ T) = c := ⟨_, rfl⟩
    have hc0 : c ≤ 0 := by rw [← hcE]; exact cmpI_le HDM.out
    have CM := Lib.hid (fun V (q : Below w15.heap.size w15 V) => (show Calls Tryz.prog 25 #[.agg #[.bool false, .slice da dl dc], .agg #[.bool mn, .slice ma ml mc]] V fun e w' => e = .returned (.int .i64 c) ∧ Below V.heap.size V w' from by rw [← hcE]; exact cmp_c _ _ _ _ V (HD.out.abs.keep q) (HM.out.keep q)))
    have SK := Lib.hid (fun V (q : Below w15.heap.size w15 V) => sgn_is (HK.out.keep q) (Int.sign_eq_one_of_pos (invD_pos HS.out.det)))
    have HKB := Lib.hid ((invD_bd (K := 200) (g := pwG n n f) (by decide) (pwG_bd HS.out.all HN.out.2) HS.out.det).mono (kb_mono 200 (by rw [pwG_len]; exact HN.out.2)))
    have SC := Lib.hid (fun V (q : Below w15.heap.size w15 V) => Mt.scale (n := n) (MO.out.keep q) (HK.out.keep q) HKB.out (by decide) (by decide) (idG_len n))
    have HEQ := Lib.hid (show timesG (pwG n n f) (invG (pwG n n f)) = scaleG (idG n) (invD (pwG n n f)) from by
      have h := mul_invG (g := pwG n n f) (pwG_sq f HN.out.1) (by rw [pwG_len]; exact HN.out.1) HS.out.det
      rwa [pwG_len] at h)
    have HST := Lib.hid (show ∀ V, Below w15.heap.size w15 V → V.cell? ⟨w3.heap.size, 0, none⟩ = some (.bool dn) ∧ V.cell? ⟨w3.heap.size, 1, none⟩ = some (.slice da dl dc) ∧ V.cell? ⟨w5.heap.size, 0, none⟩ = some (.bool gn) ∧ V.cell? ⟨w5.heap.size, 1, none⟩ = some (.slice ga gl gc) ∧ V.cell? ⟨w8.heap.size, 0, none⟩ = some (.bool mn) ∧ V.cell? ⟨w8.heap.size, 1, none⟩ = some (.slice ma ml mc) ∧ V.cell? ⟨w9.heap.size + 1, 0, none⟩ = some (.bool kn) ∧ V.cell? ⟨w9.heap.size + 1, 1, none⟩ = some (.slice ka kl kc) ∧ V.cell? ⟨pb, 0, none⟩ = some (.slice pa n pc) ∧ V.cell? ⟨w14.heap.size, 0, none⟩ = some (.slice oa' n oc') from fun V q => ⟨bkeep q d0, bkeep q d1, bkeep q g0, bkeep q g1, bkeep q m0, bkeep q m1, bkeep q i0, bkeep q i1, bkeep q p0, bkeep q o0⟩)
    have hBw := Below.refl w15.heap.size w15
    clear hsE hcE
    go_region_held3 (fun V => V.cell? ⟨w3.heap.size, 0, none⟩ = some (.bool dn) ∧ V.cell? ⟨w3.heap.size, 1, none⟩ = some (.slice da dl dc) ∧ V.cell? ⟨w5.heap.size, 0, none⟩ = some (.bool gn) ∧ V.cell? ⟨w5.heap.size, 1, none⟩ = some (.slice ga gl gc) ∧ V.cell? ⟨w8.heap.size, 0, none⟩ = some (.bool mn) ∧ V.cell? ⟨w8.heap.size, 1, none⟩ = some (.slice ma ml mc) ∧ V.cell? ⟨w9.heap.size + 1, 0, none⟩ = some (.bool kn) ∧ V.cell? ⟨w9.heap.size + 1, 1, none⟩ = some (.slice ka kl kc) ∧ V.cell? ⟨pb, 0, none⟩ = some (.slice pa n pc) ∧ V.cell? ⟨w14.heap.size, 0, none⟩ = some (.slice oa' n oc'))
      (first | (refine HST.out _ ?_; (repeat (first | exact Below.refl _ _ | exact hBw | refine Below.drew ?_ | refine below_drewN ?_ _ | refine bset ?_ (by simp <;> omega) _ | refine bal ?_ _)); done) | fail)
      (first
      | (go_at_call 26; (with_reducible refine (SD.out _ ?_).mono ?_); (repeat (first | exact Below.refl _ _ | exact hBw | refine Below.drew ?_ | refine below_drewN ?_ _ | refine bset ?_ (by simp <;> omega) _ | refine bal ?_ _)); rintro e w16 ⟨rfl, hb16⟩; (have hBd : Below w15.heap.size w15 w16 := bthen (by repeat (first | exact Below.refl _ _ | exact hBw | refine Below.drew ?_ | refine below_drewN ?_ _ | refine bset ?_ (by simp <;> omega) _ | refine bal ?_ _)) hb16; clear hBw; have hBw := hBd; clear hBd))
      | (go_at_call 25; (with_reducible refine (CD.out _ ?_).mono ?_); (repeat (first | exact Below.refl _ _ | exact hBw | refine Below.drew ?_ | refine below_drewN ?_ _ | refine bset ?_ (by simp <;> omega) _ | refine bal ?_ _)); rintro e w17 ⟨rfl, hb17⟩; (have hBd : Below w15.heap.size w15 w17 := bthen (by repeat (first | exact Below.refl _ _ | exact hBw | refine Below.drew ?_ | refine below_drewN ?_ _ | refine bset ?_ (by simp <;> omega) _ | refine bal ?_ _)) hb17; clear hBw; have hBw := hBd; clear hBd))
      | (go_at_call 33; (with_reducible refine (AB.out _).mono ?_); rintro e w18 ⟨rfl, hb18⟩; (have hBd : Below w15.heap.size w15 w18 := bthen (by repeat (first | exact Below.refl _ _ | exact hBw | refine Below.drew ?_ | refine below_drewN ?_ _ | refine bset ?_ (by simp <;> omega) _ | refine bal ?_ _)) hb18; clear hBw; have hBw := hBd; clear hBd))
      | (go_at_call 25; (with_reducible refine (CM.out _ ?_).mono ?_); (repeat (first | exact Below.refl _ _ | exact hBw | refine Below.drew ?_ | refine below_drewN ?_ _ | refine bset ?_ (by simp <;> omega) _ | refine bal ?_ _)); rintro e w19 ⟨rfl, hb19⟩; (have hBd : Below w15.heap.size w15 w19 := bthen (by repeat (first | exact Below.refl _ _ | exact hBw | refine Below.drew ?_ | refine below_drewN ?_ _ | refine bset ?_ (by simp <;> omega) _ | refine bal ?_ _)) hb19; clear hBw; have hBw := hBd; clear hBd))
      | (go_at_call 26; (with_reducible refine (SK.out _ ?_).mono ?_); (repeat (first | exact Below.refl _ _ | exact hBw | refine Below.drew ?_ | refine below_drewN ?_ _ | refine bset ?_ (by simp <;> omega) _ | refine bal ?_ _)); rintro e w20 ⟨rfl, hb20⟩; (have hBd : Below w15.heap.size w15 w20 := bthen (by repeat (first | exact Below.refl _ _ | exact hBw | refine Below.drew ?_ | refine below_drewN ?_ _ | refine bset ?_ (by simp <;> omega) _ | refine bal ?_ _)) hb20; clear hBw; have hBw := hBd; clear hBd))
      | (go_at_call 35; (with_reducible refine (SC.out _ ?_).mono ?_); (repeat (first | exact Below.refl _ _ | exact hBw | refine Below.drew ?_ | refine below_drewN ?_ _ | refine bset ?_ (by simp <;> omega) _ | refine bal ?_ _)); rintro e w21 ⟨⟨ua, uc, rfl, hu⟩, hb21⟩; (have hBd : Below w15.heap.size w15 w21 := bthen (by repeat (first | exact Below.refl _ _ | exact hBw | refine Below.drew ?_ | refine below_drewN ?_ _ | refine bset ?_ (by simp <;> omega) _ | refine bal ?_ _)) hb21; clear hBw; have hBw := hBd; clear hBd); have MU := Lib.hid hu; have MP21 := Lib.hid (MP.out.keep hBw); have hy21 := Below.refl w21.heap.size w21; clear hu)
      | (go_at_call 34; (with_reducible refine (Mt.same (MP21.out.keep ?_) (MU.out.keep ?_) HEQ.out).mono ?_); (repeat (first | exact Below.refl _ _ | exact hy21 | refine Below.drew ?_ | refine below_drewN ?_ _ | refine bset ?_ (by simp <;> omega) _ | refine bal ?_ _)); (repeat (first | exact Below.refl _ _ | exact hy21 | refine Below.drew ?_ | refine below_drewN ?_ _ | refine bset ?_ (by simp <;> omega) _ | refine bal ?_ _)); rintro e w22 ⟨rfl, hb22⟩; (have hBd : Below w15.heap.size w15 w22 := bthen (by repeat (first | exact Below.refl _ _ | exact hBw | refine Below.drew ?_ | refine below_drewN ?_ _ | refine bset ?_ (by simp <;> omega) _ | refine bal ?_ _)) hb22; clear hBw; have hBw := hBd; clear hBd))
      | fail)
    all_goals
      have hBf := bthen hB hBw
      clear HST SD CD AB CM SK SC
      go_wp2
      go_ret
      exact ⟨rfl, by repeat (first | exact Below.refl _ _ | exact hBf | refine Below.drew ?_ | refine below_drewN ?_ _ | refine bset ?_ (by simp <;> omega) _ | refine bal ?_ _)⟩
theorem schemeFlat_u (k1 k2 : Int) (a : Option Addr) (n cap : Nat) (f : Nat → Int × Int) (w : World) (h1 : (Lit.int .i64 k1).wf = true) (h2 : (Lit.int .i64 k2).wf = true) (hn : n * 16 ≤ 140737488355328) (h : PtsV w a n cap f) (hi : ∀ k, k < n → I64 (f k).1 ∧ I64 (f k).2) :
    Calls Tryz.prog 5 #[.int .i64 k1, .int .i64 k2, .slice a n cap] w fun e w' => e = .returned (.bool true) ∧ Below w.heap.size w w' := schemeFlat_h k1 k2 a n cap f w h (by omega)
end Go.Proofs.YtkejdmdldhlkgaaGreatDoor

