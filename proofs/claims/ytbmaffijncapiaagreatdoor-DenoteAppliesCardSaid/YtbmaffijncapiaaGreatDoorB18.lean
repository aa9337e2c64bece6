/- Texts of this seat, laid together: IntBits, DnA, RxS, QRows, QrF, MwE, MwL, MwM, Rdt, MwN, QrG, InvR. What each theorem proves, and under which conditions, its statement says. -/
import Derived.Test.YtbmaffijncapiaaGreatDoorB17
set_option maxRecDepth 100000
set_option maxHeartbeats 32000000
set_option linter.unusedVariables false
set_option linter.unusedSimpArgs false
namespace Go.Proofs.YtbmaffijncapiaaGreatDoor
open Go.ChangeShapes Go.WideShapes Go.ChangeAt Go.RowKit
section
open Num
theorem bits_c (vx : Value) (x : Int) (k : Nat) (w : World) (hx : IsInt w vx x) (bx : Bd k x) (hk : k ≤ 17179869184) :
 Calls Tryz.prog 57 #[vx] w fun e w' => e = .returned (.int .i64 (bitN x.natAbs)) ∧ Below w.heap.size w w' := by
 obtain ⟨n1, a1, c1, l1, rfl, u1, g1, s1, rfl⟩ := hx
 have k1 := bd_len g1 (sg_bd bx) hk
 have bc := fun w h => limbBits_c a1 c1 l1 w h (by omega)
 rw [sg_abs]
 clear bx g1 s1 k1
 generalize bitN (val l1) = z at *
 unfold iv
 have hB0 := Below.refl w.heap.size w
 go_enter Tryz.func57, Tryz.ntmps57
 go_wp2_with fail
 refine (bc _ (u1.keep bZ)).mono ?_
 rintro e w1 ⟨rfl, rfl⟩
 clear bc
 go_wp2
 go_ret
 refine ⟨rfl, ?_⟩
 repeat exact bZ

end
section
open Num
attribute [local go_sem ↓] Go.wp_at_zero Go.wp_at_succ
def AnsF (q : Rat) (w : World) (e : Ending) (w' : World) : Prop := (∃ v, e = .returned v ∧ IsQP w' v q) ∧ Below w.heap.size w w'
theorem dnPower_c (n : Nat) (w : World) (hn : n ≤ 65536) : Calls Tryz.prog 249 #[.int .i64 (n : Int)] w (AnsF ((2 ^ n : Int) : Rat) w) := by
 have oc := fun W => of_c 1 W (by omega) (by omega)
 have sc := fun v W (h : IsInt W v 1) => shlI_c v 1 1 n W h (by unfold Bd; decide) (by omega) hn
 rw [show (1 : Int) * 2 ^ n = 2 ^ n by rw [Int.one_mul]] at sc
 obtain ⟨z, hz⟩ : ∃ z, (2 ^ n : Int) = z := ⟨_, rfl⟩
 rw [hz] at sc ⊢
 clear hz
 have hB := Below.refl w.heap.size w
 unfold AnsF
 go_enter Tryz.func249, Tryz.ntmps249
 go_wp2_with fail
 refine (oc _).mono ?_
 rintro e w1 ⟨⟨v1, rfl, hi1⟩, hb1⟩
 have r0 : w1.cell? ⟨w.heap.size, 0, none⟩ = some (.bool false) := bkc hb1
 have zr0 := cell_lt r0
 have r0f : w1.frozen? ⟨w.heap.size, 0, none⟩ = false := bkcf (v := .bool false) hb1
 have r1 : w1.cell? ⟨w.heap.size, 1, none⟩ = some (.slice none 0 0) := bkc hb1
 have r1f : w1.frozen? ⟨w.heap.size, 1, none⟩ = false := bkcf (v := .slice none 0 0) hb1
 have r2 : w1.cell? ⟨w.heap.size, 2, none⟩ = some (.bool false) := bkc hb1
 have r2f : w1.frozen? ⟨w.heap.size, 2, none⟩ = false := bkcf (v := .bool false) hb1
 have r3 : w1.cell? ⟨w.heap.size, 3, none⟩ = some (.slice none 0 0) := bkc hb1
 have r3f : w1.frozen? ⟨w.heap.size, 3, none⟩ = false := bkcf (v := .slice none 0 0) hb1
 have hB : Below w.heap.size w w1 := bthen bZ hb1
 have hz := hB.size
 have HI1 := hZ hi1
 obtain ⟨n1, a1, c1, l1, rfl, -⟩ := hi1
 unfold iv at *
 have hBw1 := Below.refl w1.heap.size w1
 clear oc hb1
 go_wp2_with fail
 refine (sc _ _ (HI1.out.keep ?_)).mono ?_
 ·
  repeat exact bZ
 rintro e w2 ⟨⟨v2, rfl, hi2⟩, hb2⟩
 have r0 : w2.cell? ⟨w.heap.size, 0, none⟩ = some (.bool false) := bkc hb2
 have zr0 := cell_lt r0
 have r0f : w2.frozen? ⟨w.heap.size, 0, none⟩ = false := bkcf (v := .bool false) hb2
 have r1 : w2.cell? ⟨w.heap.size, 1, none⟩ = some (.slice none 0 0) := bkc hb2
 have r1f : w2.frozen? ⟨w.heap.size, 1, none⟩ = false := bkcf (v := .slice none 0 0) hb2
 have r2 : w2.cell? ⟨w.heap.size, 2, none⟩ = some (.bool false) := bkc hb2
 have r2f : w2.frozen? ⟨w.heap.size, 2, none⟩ = false := bkcf (v := .bool false) hb2
 have r3 : w2.cell? ⟨w.heap.size, 3, none⟩ = some (.slice none 0 0) := bkc hb2
 have r3f : w2.frozen? ⟨w.heap.size, 3, none⟩ = false := bkcf (v := .slice none 0 0) hb2
 have hB : Below w.heap.size w w2 := bthen bZ hb2
 have hz := hB.size
 have HI2 := hZ hi2
 have WC := hZ (fun V (q : Below w2.heap.size w2 V) => pqWhole_c v2 z V (hi2.keep q))
 obtain ⟨n2, a2, c2, l2, rfl, -⟩ := hi2
 unfold iv at *
 have hBw2 := Below.refl w2.heap.size w2
 clear sc hb2 hBw1 HI1
 go_wp2_with fail
 (with_reducible refine (WC.out _ ?_).mono ?_); (repeat (first|exact bzR _ _|exact hBw2|refine bzD ?_|refine bzN ?_|refine bzS ?_|refine bzA ?_))
 rintro e w3 ⟨⟨v3, rfl, hv⟩, hb3⟩
 have r0 : w3.cell? ⟨w.heap.size, 0, none⟩ = some (.bool false) := bkc hb3
 have zr0 := cell_lt r0
 have r0f : w3.frozen? ⟨w.heap.size, 0, none⟩ = false := bkcf (v := .bool false) hb3
 have r1 : w3.cell? ⟨w.heap.size, 1, none⟩ = some (.slice none 0 0) := bkc hb3
 have r1f : w3.frozen? ⟨w.heap.size, 1, none⟩ = false := bkcf (v := .slice none 0 0) hb3
 have r2 : w3.cell? ⟨w.heap.size, 2, none⟩ = some (.bool false) := bkc hb3
 have r2f : w3.frozen? ⟨w.heap.size, 2, none⟩ = false := bkcf (v := .bool false) hb3
 have r3 : w3.cell? ⟨w.heap.size, 3, none⟩ = some (.slice none 0 0) := bkc hb3
 have r3f : w3.frozen? ⟨w.heap.size, 3, none⟩ = false := bkcf (v := .slice none 0 0) hb3
 have hB : Below w.heap.size w w3 := bthen bZ hb3
 have hz := hB.size
 clear WC hb3 hBw2 HI2
 have HV := hZ hv
 obtain ⟨m1, b1, k1, d1, m2, b2, k2, d2, rfl, -, -⟩ := hv
 have HQ := hZ (IsQP.put4 HV.out r0 r1 r2 r3 (.bool m1) (.slice b1 k1 d1) (.bool m2) (.slice b2 k2 d2))
 have zr := cell_lt r0
 have hBf := hB
 clear HV
 go_wp2
 refine bodyPost_ret (v := .agg #[.bool m1, .slice b1 k1 d1, .bool m2, .slice b2 k2 d2]) (by simp [results, Tryz.results249, go_sem, *]) rfl ⟨⟨_, rfl, ?_⟩, ?_⟩
 · first | exact HQ.out | exact HQ.out.keep (Below.refl _ _).drew
 ·
  repeat exact bZ
theorem dnOver_c (vx vy : Value) (x y : Rat) (k m : Nat) (w : World) (hx : IsQP w vx x) (hy : IsQP w vy y) (bx : BdQ k x) (by' : BdQ m y) (hk9 : k + m ≤ 17179869180) (h0 : y ≠ 0) : Calls Tryz.prog 247 #[vx, vy] w (AnsF (x / y) w) := by
 have OC := hZ (fun V (q : Below w.heap.size w V) => pqOver_c vx vy x y k m V (hx.keep q) (hy.keep q) bx by' hk9 h0)
 obtain ⟨n1, a1, l1, c1, n2, a2, l2, c2, rfl, -, -⟩ := hx
 obtain ⟨n3, a3, l3, c3, n4, a4, l4, c4, rfl, -, -⟩ := hy
 obtain ⟨z, hz⟩ : ∃ z, x / y = z := ⟨_, rfl⟩
 rw [hz] at OC ⊢
 clear hz bx by' hk9 h0
 have hB := Below.refl w.heap.size w
 unfold AnsF
 go_enter Tryz.func247, Tryz.ntmps247
 go_wp2_with fail
 (with_reducible refine (OC.out _ ?_).mono ?_); (repeat (first|exact bzR _ _|exact hB|refine bzD ?_|refine bzN ?_|refine bzS ?_|refine bzA ?_))
 rintro e w1 ⟨⟨v1, rfl, hv⟩, hb1⟩
 have r0 : w1.cell? ⟨w.heap.size + 1 + 1, 0, none⟩ = some (.bool false) := bkc hb1
 have zr0 := cell_lt r0
 have r0f : w1.frozen? ⟨w.heap.size + 1 + 1, 0, none⟩ = false := bkcf (v := .bool false) hb1
 have r1 : w1.cell? ⟨w.heap.size + 1 + 1, 1, none⟩ = some (.slice none 0 0) := bkc hb1
 have r1f : w1.frozen? ⟨w.heap.size + 1 + 1, 1, none⟩ = false := bkcf (v := .slice none 0 0) hb1
 have r2 : w1.cell? ⟨w.heap.size + 1 + 1, 2, none⟩ = some (.bool false) := bkc hb1
 have r2f : w1.frozen? ⟨w.heap.size + 1 + 1, 2, none⟩ = false := bkcf (v := .bool false) hb1
 have r3 : w1.cell? ⟨w.heap.size + 1 + 1, 3, none⟩ = some (.slice none 0 0) := bkc hb1
 have r3f : w1.frozen? ⟨w.heap.size + 1 + 1, 3, none⟩ = false := bkcf (v := .slice none 0 0) hb1
 have hB : Below w.heap.size w w1 := bthen bZ hb1
 have hz := hB.size
 have HV := hZ hv
 obtain ⟨m1, b1, k1, d1, m2, b2, k2, d2, rfl, -, -⟩ := hv
 have HQ := hZ (IsQP.put4 HV.out r0 r1 r2 r3 (.bool m1) (.slice b1 k1 d1) (.bool m2) (.slice b2 k2 d2))
 have zr := cell_lt r0
 have zr1 : w.heap.size + 1 + 1 < w1.heap.size + 1 := by omega
 have hBf := hB
 clear HV OC hb1
 go_wp2
 refine bodyPost_ret (v := .agg #[.bool m1, .slice b1 k1 d1, .bool m2, .slice b2 k2 d2]) (by simp [results, Tryz.results247, go_sem, *]) rfl ⟨⟨_, rfl, ?_⟩, ?_⟩
 · first | exact HQ.out | exact HQ.out.keep (bal (Below.refl _ _) _)
 ·
  repeat exact bZ
def FnQ (i : Ins) (k : Nat) (w : World) (F : Nat) (caps : Array Value) : Prop :=
 ∀ W va vb a b, Below w.heap.size w W → IsQP W va a → IsQP W vb b → BdQ k a → BdQ k b → Calls Tryz.prog F (#[va, vb] ++ caps) W (AnsF (opQ i a b) W)
theorem dnNeg_c (va vb : Value) (x y : Rat) (w : World) (hx : IsQP w va x) (hy : IsQP w vb y) : Calls Tryz.prog 240 #[va, vb] w (AnsF (-x) w) := by
 have OC := hZ (fun V (q : Below w.heap.size w V) => pqNeg_c va x V (hx.keep q))
 obtain ⟨n1, a1, l1, c1, n2, a2, l2, c2, rfl, -, -⟩ := hx
 obtain ⟨n3, a3, l3, c3, n4, a4, l4, c4, rfl, -, -⟩ := hy
 have hB := Below.refl w.heap.size w
 unfold AnsF
 go_enter Tryz.func240, Tryz.ntmps240
 go_wp2_with fail
 (with_reducible refine (OC.out _ ?_).mono ?_); (repeat (first|exact bzR _ _|exact hB|refine bzD ?_|refine bzN ?_|refine bzS ?_|refine bzA ?_))
 rintro e w1 ⟨⟨v1, rfl, hv⟩, hb1⟩
 have r0 : w1.cell? ⟨w.heap.size + 1 + 1, 0, none⟩ = some (.bool false) := bkc hb1
 have zr0 := cell_lt r0
 have r0f : w1.frozen? ⟨w.heap.size + 1 + 1, 0, none⟩ = false := bkcf (v := .bool false) hb1
 have r1 : w1.cell? ⟨w.heap.size + 1 + 1, 1, none⟩ = some (.slice none 0 0) := bkc hb1
 have r1f : w1.frozen? ⟨w.heap.size + 1 + 1, 1, none⟩ = false := bkcf (v := .slice none 0 0) hb1
 have r2 : w1.cell? ⟨w.heap.size + 1 + 1, 2, none⟩ = some (.bool false) := bkc hb1
 have r2f : w1.frozen? ⟨w.heap.size + 1 + 1, 2, none⟩ = false := bkcf (v := .bool false) hb1
 have r3 : w1.cell? ⟨w.heap.size + 1 + 1, 3, none⟩ = some (.slice none 0 0) := bkc hb1
 have r3f : w1.frozen? ⟨w.heap.size + 1 + 1, 3, none⟩ = false := bkcf (v := .slice none 0 0) hb1
 have hB : Below w.heap.size w w1 := bthen bZ hb1
 have hz := hB.size
 clear OC hb1
 have HV := hZ hv
 obtain ⟨m1, b1, k1, d1, m2, b2, k2, d2, rfl, -, -⟩ := hv
 have HQ := hZ (IsQP.put4 HV.out r0 r1 r2 r3 (.bool m1) (.slice b1 k1 d1) (.bool m2) (.slice b2 k2 d2))
 have zr := cell_lt r0
 have hBf := hB
 clear HV
 go_wp2
 refine bodyPost_ret (v := .agg #[.bool m1, .slice b1 k1 d1, .bool m2, .slice b2 k2 d2]) (by simp [results, Tryz.results240, go_sem, *]) rfl ⟨⟨_, rfl, ?_⟩, ?_⟩
 · first | exact HQ.out | exact HQ.out.keep (Below.refl _ _).drew
 ·
  repeat exact bZ
theorem dnAdd_c (va vb : Value) (x y : Rat) (k : Nat) (w : World) (hx : IsQP w va x) (hy : IsQP w vb y) (bx : BdQ k x) (by' : BdQ k y) (hk : k ≤ 1000000000) : Calls Tryz.prog 242 #[va, vb] w (AnsF (x + y) w) := by
 have OC := hZ (fun V (q : Below w.heap.size w V) => pqAdd_c va vb x y k k V (hx.keep q) (hy.keep q) bx by' (by omega))
 clear bx by' hk
 obtain ⟨n1, a1, l1, c1, n2, a2, l2, c2, rfl, -, -⟩ := hx
 obtain ⟨n3, a3, l3, c3, n4, a4, l4, c4, rfl, -, -⟩ := hy
 have hB := Below.refl w.heap.size w
 unfold AnsF
 go_enter Tryz.func242, Tryz.ntmps242
 go_wp2_with fail
 (with_reducible refine (OC.out _ ?_).mono ?_); (repeat (first|exact bzR _ _|exact hB|refine bzD ?_|refine bzN ?_|refine bzS ?_|refine bzA ?_))
 rintro e w1 ⟨⟨v1, rfl, hv⟩, hb1⟩
 have r0 : w1.cell? ⟨w.heap.size + 1 + 1, 0, none⟩ = some (.bool false) := bkc hb1
 have zr0 := cell_lt r0
 have r0f : w1.frozen? ⟨w.heap.size + 1 + 1, 0, none⟩ = false := bkcf (v := .bool false) hb1
 have r1 : w1.cell? ⟨w.heap.size + 1 + 1, 1, none⟩ = some (.slice none 0 0) := bkc hb1
 have r1f : w1.frozen? ⟨w.heap.size + 1 + 1, 1, none⟩ = false := bkcf (v := .slice none 0 0) hb1
 have r2 : w1.cell? ⟨w.heap.size + 1 + 1, 2, none⟩ = some (.bool false) := bkc hb1
 have r2f : w1.frozen? ⟨w.heap.size + 1 + 1, 2, none⟩ = false := bkcf (v := .bool false) hb1
 have r3 : w1.cell? ⟨w.heap.size + 1 + 1, 3, none⟩ = some (.slice none 0 0) := bkc hb1
 have r3f : w1.frozen? ⟨w.heap.size + 1 + 1, 3, none⟩ = false := bkcf (v := .slice none 0 0) hb1
 have hB : Below w.heap.size w w1 := bthen bZ hb1
 have hz := hB.size
 clear OC hb1
 have HV := hZ hv
 obtain ⟨m1, b1, k1, d1, m2, b2, k2, d2, rfl, -, -⟩ := hv
 have HQ := hZ (IsQP.put4 HV.out r0 r1 r2 r3 (.bool m1) (.slice b1 k1 d1) (.bool m2) (.slice b2 k2 d2))
 have zr := cell_lt r0
 have hBf := hB
 clear HV
 go_wp2
 refine bodyPost_ret (v := .agg #[.bool m1, .slice b1 k1 d1, .bool m2, .slice b2 k2 d2]) (by simp [results, Tryz.results242, go_sem, *]) rfl ⟨⟨_, rfl, ?_⟩, ?_⟩
 · first | exact HQ.out | exact HQ.out.keep (Below.refl _ _).drew
 ·
  repeat exact bZ
theorem dnSub_c (va vb : Value) (x y : Rat) (k : Nat) (w : World) (hx : IsQP w va x) (hy : IsQP w vb y) (bx : BdQ k x) (by' : BdQ k y) (hk : k ≤ 1000000000) : Calls Tryz.prog 243 #[va, vb] w (AnsF (x - y) w) := by
 have OC := hZ (fun V (q : Below w.heap.size w V) => pqSub_c va vb x y k k V (hx.keep q) (hy.keep q) bx by' (by omega))
 clear bx by' hk
 obtain ⟨n1, a1, l1, c1, n2, a2, l2, c2, rfl, -, -⟩ := hx
 obtain ⟨n3, a3, l3, c3, n4, a4, l4, c4, rfl, -, -⟩ := hy
 have hB := Below.refl w.heap.size w
 unfold AnsF
 go_enter Tryz.func243, Tryz.ntmps243
 go_wp2_with fail
 (with_reducible refine (OC.out _ ?_).mono ?_); (repeat (first|exact bzR _ _|exact hB|refine bzD ?_|refine bzN ?_|refine bzS ?_|refine bzA ?_))
 rintro e w1 ⟨⟨v1, rfl, hv⟩, hb1⟩
 have r0 : w1.cell? ⟨w.heap.size + 1 + 1, 0, none⟩ = some (.bool false) := bkc hb1
 have zr0 := cell_lt r0
 have r0f : w1.frozen? ⟨w.heap.size + 1 + 1, 0, none⟩ = false := bkcf (v := .bool false) hb1
 have r1 : w1.cell? ⟨w.heap.size + 1 + 1, 1, none⟩ = some (.slice none 0 0) := bkc hb1
 have r1f : w1.frozen? ⟨w.heap.size + 1 + 1, 1, none⟩ = false := bkcf (v := .slice none 0 0) hb1
 have r2 : w1.cell? ⟨w.heap.size + 1 + 1, 2, none⟩ = some (.bool false) := bkc hb1
 have r2f : w1.frozen? ⟨w.heap.size + 1 + 1, 2, none⟩ = false := bkcf (v := .bool false) hb1
 have r3 : w1.cell? ⟨w.heap.size + 1 + 1, 3, none⟩ = some (.slice none 0 0) := bkc hb1
 have r3f : w1.frozen? ⟨w.heap.size + 1 + 1, 3, none⟩ = false := bkcf (v := .slice none 0 0) hb1
 have hB : Below w.heap.size w w1 := bthen bZ hb1
 have hz := hB.size
 clear OC hb1
 have HV := hZ hv
 obtain ⟨m1, b1, k1, d1, m2, b2, k2, d2, rfl, -, -⟩ := hv
 have HQ := hZ (IsQP.put4 HV.out r0 r1 r2 r3 (.bool m1) (.slice b1 k1 d1) (.bool m2) (.slice b2 k2 d2))
 have zr := cell_lt r0
 have hBf := hB
 clear HV
 go_wp2
 refine bodyPost_ret (v := .agg #[.bool m1, .slice b1 k1 d1, .bool m2, .slice b2 k2 d2]) (by simp [results, Tryz.results243, go_sem, *]) rfl ⟨⟨_, rfl, ?_⟩, ?_⟩
 · first | exact HQ.out | exact HQ.out.keep (Below.refl _ _).drew
 ·
  repeat exact bZ
theorem dnMove_c (va vb : Value) (x y : Rat) (w : World) (hx : IsQP w va x) (hy : IsQP w vb y) : Calls Tryz.prog 251 #[va, vb] w (AnsF x w) := by
 have HX := hZ hx
 obtain ⟨n1, a1, l1, c1, n2, a2, l2, c2, rfl, -, -⟩ := hx
 obtain ⟨n3, a3, l3, c3, n4, a4, l4, c4, rfl, -, -⟩ := hy
 have hB := Below.refl w.heap.size w
 unfold AnsF
 go_enter Tryz.func251, Tryz.ntmps251
 go_wp2
 refine bodyPost_ret (v := .agg #[.bool n1, .slice a1 l1 c1, .bool n2, .slice a2 l2 c2]) (by simp [results, Tryz.results251, go_sem]) rfl ⟨⟨_, rfl, ?_⟩, ?_⟩
 · exact HX.out.keep bZ
 ·
  repeat exact bZ
theorem dnMul_c (va vb : Value) (x y c : Rat) (cb k m : Nat) (w : World) (hx : IsQP w va x) (hy : IsQP w vb y) (hc : FrC IsQP w cb 0 c) (bx : BdQ k x) (bc : BdQ m c) (hk : k + m ≤ 17179869180) : Calls Tryz.prog 245 #[va, vb, .pointer (some ⟨cb, 0, none⟩)] w (AnsF (x * c) w) := by
 have OCC := fun {vc : Value} V (h1 : IsQP V va x) (h2 : IsQP V vc c) => pqMul_c va vc x c k m V h1 h2 bx bc hk
 clear bx bc hk
 obtain ⟨q1, b1, k1, d1, q2, b2, k2, d2, g0, g1, g2, g3, gI⟩ := hc
 have OC := hZ (fun V (q : Below w.heap.size w V) => OCC V (hx.keep q) (gI.keep q))
 have zg := cell_lt g0
 have zg1 : cb < w.heap.size + 1 := by omega
 have zg2 : cb < w.heap.size + 1 + 1 := by omega
 have zg3 : cb < w.heap.size + 1 + 1 + 1 := by omega
 clear gI OCC
 obtain ⟨n1, a1, l1, c1, n2, a2, l2, c2, rfl, -, -⟩ := hx
 obtain ⟨n3, a3, l3, c3, n4, a4, l4, c4, rfl, -, -⟩ := hy
 have hB := Below.refl w.heap.size w
 unfold AnsF
 go_enter Tryz.func245, Tryz.ntmps245
 go_wp2_with fail
 (with_reducible refine (OC.out _ ?_).mono ?_); (repeat (first|exact bzR _ _|exact hB|refine bzD ?_|refine bzN ?_|refine bzS ?_|refine bzA ?_))
 rintro e w1 ⟨⟨v1, rfl, hv⟩, hb1⟩
 have r0 : w1.cell? ⟨w.heap.size + 1 + 1, 0, none⟩ = some (.bool false) := bkc hb1
 have zr0 := cell_lt r0
 have r0f : w1.frozen? ⟨w.heap.size + 1 + 1, 0, none⟩ = false := bkcf (v := .bool false) hb1
 have r1 : w1.cell? ⟨w.heap.size + 1 + 1, 1, none⟩ = some (.slice none 0 0) := bkc hb1
 have r1f : w1.frozen? ⟨w.heap.size + 1 + 1, 1, none⟩ = false := bkcf (v := .slice none 0 0) hb1
 have r2 : w1.cell? ⟨w.heap.size + 1 + 1, 2, none⟩ = some (.bool false) := bkc hb1
 have r2f : w1.frozen? ⟨w.heap.size + 1 + 1, 2, none⟩ = false := bkcf (v := .bool false) hb1
 have r3 : w1.cell? ⟨w.heap.size + 1 + 1, 3, none⟩ = some (.slice none 0 0) := bkc hb1
 have r3f : w1.frozen? ⟨w.heap.size + 1 + 1, 3, none⟩ = false := bkcf (v := .slice none 0 0) hb1
 have hB : Below w.heap.size w w1 := bthen bZ hb1
 have hz := hB.size
 clear OC hb1
 have HV := hZ hv
 obtain ⟨m1, b1, k1, d1, m2, b2, k2, d2, rfl, -, -⟩ := hv
 have HQ := hZ (IsQP.put4 HV.out r0 r1 r2 r3 (.bool m1) (.slice b1 k1 d1) (.bool m2) (.slice b2 k2 d2))
 have zr := cell_lt r0
 have hBf := hB
 clear HV
 go_wp2
 refine bodyPost_ret (v := .agg #[.bool m1, .slice b1 k1 d1, .bool m2, .slice b2 k2 d2]) (by simp [results, Tryz.results245, go_sem, *]) rfl ⟨⟨_, rfl, ?_⟩, ?_⟩
 · first | exact HQ.out | exact HQ.out.keep (Below.refl _ _).drew
 ·
  repeat exact bZ
theorem dnDiv_c (va vb : Value) (x y c : Rat) (cb k m : Nat) (w : World) (hx : IsQP w va x) (hy : IsQP w vb y) (hc : FrC IsQP w cb 0 c) (bx : BdQ k x) (bc : BdQ m c) (hk : k + m ≤ 17179869180) (h0 : c ≠ 0) : Calls Tryz.prog 246 #[va, vb, .pointer (some ⟨cb, 0, none⟩)] w (AnsF (x / c) w) := by
 have OCC := fun {vc : Value} V (h1 : IsQP V va x) (h2 : IsQP V vc c) => dnOver_c va vc x c k m V h1 h2 bx bc hk h0
 unfold AnsF at OCC
 clear bx bc hk h0
 obtain ⟨q1, b1, k1, d1, q2, b2, k2, d2, g0, g1, g2, g3, gI⟩ := hc
 have OC := hZ (fun V (q : Below w.heap.size w V) => OCC V (hx.keep q) (gI.keep q))
 have zg := cell_lt g0
 have zg1 : cb < w.heap.size + 1 := by omega
 have zg2 : cb < w.heap.size + 1 + 1 := by omega
 have zg3 : cb < w.heap.size + 1 + 1 + 1 := by omega
 clear gI OCC
 obtain ⟨n1, a1, l1, c1, n2, a2, l2, c2, rfl, -, -⟩ := hx
 obtain ⟨n3, a3, l3, c3, n4, a4, l4, c4, rfl, -, -⟩ := hy
 have hB := Below.refl w.heap.size w
 unfold AnsF
 go_enter Tryz.func246, Tryz.ntmps246
 go_wp2_with fail
 (with_reducible refine (OC.out _ ?_).mono ?_); (repeat (first|exact bzR _ _|exact hB|refine bzD ?_|refine bzN ?_|refine bzS ?_|refine bzA ?_))
 rintro e w1 ⟨⟨v1, rfl, hv⟩, hb1⟩
 have r0 : w1.cell? ⟨w.heap.size + 1 + 1, 0, none⟩ = some (.bool false) := bkc hb1
 have zr0 := cell_lt r0
 have r0f : w1.frozen? ⟨w.heap.size + 1 + 1, 0, none⟩ = false := bkcf (v := .bool false) hb1
 have r1 : w1.cell? ⟨w.heap.size + 1 + 1, 1, none⟩ = some (.slice none 0 0) := bkc hb1
 have r1f : w1.frozen? ⟨w.heap.size + 1 + 1, 1, none⟩ = false := bkcf (v := .slice none 0 0) hb1
 have r2 : w1.cell? ⟨w.heap.size + 1 + 1, 2, none⟩ = some (.bool false) := bkc hb1
 have r2f : w1.frozen? ⟨w.heap.size + 1 + 1, 2, none⟩ = false := bkcf (v := .bool false) hb1
 have r3 : w1.cell? ⟨w.heap.size + 1 + 1, 3, none⟩ = some (.slice none 0 0) := bkc hb1
 have r3f : w1.frozen? ⟨w.heap.size + 1 + 1, 3, none⟩ = false := bkcf (v := .slice none 0 0) hb1
 have hB : Below w.heap.size w w1 := bthen bZ hb1
 have hz := hB.size
 clear OC hb1
 have HV := hZ hv
 obtain ⟨m1, b1, k1, d1, m2, b2, k2, d2, rfl, -, -⟩ := hv
 have HQ := hZ (IsQP.put4 HV.out r0 r1 r2 r3 (.bool m1) (.slice b1 k1 d1) (.bool m2) (.slice b2 k2 d2))
 have zr := cell_lt r0
 have hBf := hB
 clear HV
 go_wp2
 refine bodyPost_ret (v := .agg #[.bool m1, .slice b1 k1 d1, .bool m2, .slice b2 k2 d2]) (by simp [results, Tryz.results246, go_sem, *]) rfl ⟨⟨_, rfl, ?_⟩, ?_⟩
 · first | exact HQ.out | exact HQ.out.keep (Below.refl _ _).drew
 ·
  repeat exact bZ
theorem bd_pow {n m : Nat} (h : n < m) : BdQ m ((2 ^ n : Int) : Rat) := BdQ.whole (by unfold Bd; rw [Int.natAbs_pow]; exact Nat.pow_lt_pow_right (by omega) h) (by omega)
theorem pow_ne (n : Nat) : ((2 ^ n : Int) : Rat) ≠ 0 := fun h => by
 have h2 : (2 ^ n : Int) = 0 := by exact_mod_cast h
 exact absurd h2 (Int.pow_ne_zero (by omega))
theorem dnShl_c (va vb : Value) (x y : Rat) (n ib k : Nat) (w : World) (hx : IsQP w va x) (hy : IsQP w vb y) (hc : w.cell? ⟨ib, 4, none⟩ = some (.int .i64 (n : Int))) (bx : BdQ k x) (hk : k ≤ 1000000000) (hn : n ≤ 64) : Calls Tryz.prog 248 #[va, vb, .pointer (some ⟨ib, 0, none⟩)] w (AnsF (x * ((2 ^ n : Int) : Rat)) w) := by
 have PC := hZ (fun V => dnPower_c n V (by omega))
 have OC := hZ (fun v V (q : Below w.heap.size w V) (hv : IsQP V v ((2 ^ n : Int) : Rat)) => pqMul_c va v x _ k 65 V (hx.keep q) hv bx (bd_pow (by omega)) (by omega))
 obtain ⟨p, hp⟩ : ∃ p, ((2 ^ n : Int) : Rat) = p := ⟨_, rfl⟩
 rw [hp] at PC OC ⊢
 clear bx hk hn hp
 obtain ⟨n1, a1, l1, c1, n2, a2, l2, c2, rfl, -, -⟩ := hx
 obtain ⟨n3, a3, l3, c3, n4, a4, l4, c4, rfl, -, -⟩ := hy
 have hB := Below.refl w.heap.size w
 have zg := cell_lt hc
 unfold AnsF at *
 go_enter Tryz.func248, Tryz.ntmps248
 go_wp2
 refine wp_name fun w5 hW5 => ?_
 have HB5 := hZ (show Below w.heap.size w w5 by rw [hW5]; repeat (first|exact bzR _ _|exact hB|refine bzD ?_|refine bzN ?_|refine bzS ?_|refine bzA ?_))
 have x0 : w5.cell? ⟨w.heap.size, 0, none⟩ = some (.bool n1) := by rw [hW5]; simp [go_sem]
 have x1 : w5.cell? ⟨w.heap.size, 1, none⟩ = some (.slice a1 l1 c1) := by rw [hW5]; simp [go_sem]
 have x2 : w5.cell? ⟨w.heap.size, 2, none⟩ = some (.bool n2) := by rw [hW5]; simp [go_sem]
 have x3 : w5.cell? ⟨w.heap.size, 3, none⟩ = some (.slice a2 l2 c2) := by rw [hW5]; simp [go_sem]
 have g4 := bkeep HB5.out hc
 have HRC := hZ (show (w5.cell? ⟨w.heap.size + 1 + 1, 0, none⟩ = some (.bool false) ∧ w5.cell? ⟨w.heap.size + 1 + 1, 1, none⟩ = some (.slice none 0 0) ∧ w5.cell? ⟨w.heap.size + 1 + 1, 2, none⟩ = some (.bool false) ∧ w5.cell? ⟨w.heap.size + 1 + 1, 3, none⟩ = some (.slice none 0 0)) ∧ w5.frozen? ⟨w.heap.size + 1 + 1, 0, none⟩ = false ∧ w5.frozen? ⟨w.heap.size + 1 + 1, 1, none⟩ = false ∧ w5.frozen? ⟨w.heap.size + 1 + 1, 2, none⟩ = false ∧ w5.frozen? ⟨w.heap.size + 1 + 1, 3, none⟩ = false from by rw [hW5]; simp [go_sem])
 have HS := hZ (show ∀ V, Below w5.heap.size w5 V → V.cell? ⟨w.heap.size, 0, none⟩ = some (.bool n1) ∧ V.cell? ⟨w.heap.size, 1, none⟩ = some (.slice a1 l1 c1) ∧ V.cell? ⟨w.heap.size, 2, none⟩ = some (.bool n2) ∧ V.cell? ⟨w.heap.size, 3, none⟩ = some (.slice a2 l2 c2) ∧ V.cell? ⟨ib, 4, none⟩ = some (.int .i64 (n : Int)) from fun V q => ⟨bkeep q x0, bkeep q x1, bkeep q x2, bkeep q x3, bkeep q g4⟩)
 have HSF := hZ (show ∀ V, Below w5.heap.size w5 V → ∀ u0 u1 u2 u3, (st4 V (w.heap.size + 1 + 1) u0 u1 u2 u3).cell? ⟨w.heap.size, 0, none⟩ = some (.bool n1) ∧ (st4 V (w.heap.size + 1 + 1) u0 u1 u2 u3).cell? ⟨w.heap.size, 1, none⟩ = some (.slice a1 l1 c1) ∧ (st4 V (w.heap.size + 1 + 1) u0 u1 u2 u3).cell? ⟨w.heap.size, 2, none⟩ = some (.bool n2) ∧ (st4 V (w.heap.size + 1 + 1) u0 u1 u2 u3).cell? ⟨w.heap.size, 3, none⟩ = some (.slice a2 l2 c2) ∧ (st4 V (w.heap.size + 1 + 1) u0 u1 u2 u3).cell? ⟨ib, 4, none⟩ = some (.int .i64 (n : Int)) from fun V q u0 u1 u2 u3 => by
  obtain ⟨y0, y1, y2, y3, y4⟩ := HS.out V q
  exact ⟨far4 y0 (by omega) _ _ _ _, far4 y1 (by omega) _ _ _ _, far4 y2 (by omega) _ _ _ _, far4 y3 (by omega) _ _ _ _, far4 y4 (by omega) _ _ _ _⟩)
 have hBw := Below.refl w5.heap.size w5
 have zx := cell_lt x0
 have zg5 := cell_lt g4
 clear hW5 hB hc zg
 go_region_held3 (fun V => V.cell? ⟨w.heap.size, 0, none⟩ = some (.bool n1) ∧ V.cell? ⟨w.heap.size, 1, none⟩ = some (.slice a1 l1 c1) ∧ V.cell? ⟨w.heap.size, 2, none⟩ = some (.bool n2) ∧ V.cell? ⟨w.heap.size, 3, none⟩ = some (.slice a2 l2 c2) ∧ V.cell? ⟨ib, 4, none⟩ = some (.int .i64 (n : Int)))
  (first | (with_reducible refine HSF.out _ ?_ _ _ _ _; (repeat (first|exact bzR _ _|exact hBw|refine bzD ?_|refine bzN ?_|refine bzS ?_|refine bzA ?_)); done) | (refine HS.out _ ?_; (repeat (first|exact bzR _ _|exact hBw|refine bzD ?_|refine bzN ?_|refine bzS ?_|refine bzA ?_)); done) | fail)
  (first
   | (go_at_call 249; refine (PC.out _).mono ?_; rintro e w6 ⟨⟨u6, rfl, hu6⟩, hb6⟩; (replace hBw : Below w5.heap.size w5 w6 := bthen bZ hb6); have HU6 := hZ hu6; have hy6 := Below.refl w6.heap.size w6; obtain ⟨pn, pa, pl, pc, pm, pb, pk, pd, rfl, -, -⟩ := hu6)
   | (go_at_call 38; refine (OC.out _ _ (bthen HB5.out ?_) (HU6.out.keep ?_)).mono ?_; (repeat (first|exact bzR _ _|exact hBw|refine bzD ?_|refine bzN ?_|refine bzS ?_|refine bzA ?_)); (repeat (first|exact bzR _ _|exact hy6|refine bzD ?_|refine bzN ?_|refine bzS ?_|refine bzA ?_)); rintro e w7 ⟨⟨u7, rfl, hu7⟩, hb7⟩; (replace hBw : Below w5.heap.size w5 w7 := bthen bZ hb7); have HU7 := hZ hu7; have r0f := bkeepf hBw HRC.out.1.1 HRC.out.2.1; have r1f := bkeepf hBw HRC.out.1.2.1 HRC.out.2.2.1; have r2f := bkeepf hBw HRC.out.1.2.2.1 HRC.out.2.2.2.1; have r3f := bkeepf hBw HRC.out.1.2.2.2 HRC.out.2.2.2.2; have r0 := bkeep hBw HRC.out.1.1; have r1 := bkeep hBw HRC.out.1.2.1; have r2 := bkeep hBw HRC.out.1.2.2.1; have r3 := bkeep hBw HRC.out.1.2.2.2; have zr := cell_lt r0; obtain ⟨m1, b1, k1, d1, m2, b2, k2, d2, rfl, -, -⟩ := hu7)
   | fail)
 all_goals
  have HQ := hZ (IsQP.put4 HU7.out r0 r1 r2 r3 (.bool m1) (.slice b1 k1 d1) (.bool m2) (.slice b2 k2 d2))
  have hBf := bthen HB5.out hBw
  clear HRC HS HSF x0 x1 x2 x3 g4
  go_wp2
  refine bodyPost_ret (v := .agg #[.bool m1, .slice b1 k1 d1, .bool m2, .slice b2 k2 d2]) (by simp [results, Tryz.results248, go_sem, *]) rfl ⟨⟨_, rfl, ?_⟩, ?_⟩
  · first | exact HQ.out | exact HQ.out.keep (Below.refl _ _).drew
  ·
   repeat exact bZ
theorem dnShr_c (va vb : Value) (x y : Rat) (n ib k : Nat) (w : World) (hx : IsQP w va x) (hy : IsQP w vb y) (hc : w.cell? ⟨ib, 4, none⟩ = some (.int .i64 (n : Int))) (bx : BdQ k x) (hk : k ≤ 1000000000) (hn : n ≤ 64) : Calls Tryz.prog 250 #[va, vb, .pointer (some ⟨ib, 0, none⟩)] w (AnsF (x / ((2 ^ n : Int) : Rat)) w) := by
 have PC := hZ (fun V => dnPower_c n V (by omega))
 have OC := hZ (fun v V (q : Below w.heap.size w V) (hv : IsQP V v ((2 ^ n : Int) : Rat)) => dnOver_c va v x _ k 65 V (hx.keep q) hv bx (bd_pow (by omega)) (by omega) (pow_ne n))
 obtain ⟨p, hp⟩ : ∃ p, ((2 ^ n : Int) : Rat) = p := ⟨_, rfl⟩
 rw [hp] at PC OC ⊢
 clear bx hk hn hp
 obtain ⟨n1, a1, l1, c1, n2, a2, l2, c2, rfl, -, -⟩ := hx
 obtain ⟨n3, a3, l3, c3, n4, a4, l4, c4, rfl, -, -⟩ := hy
 have hB := Below.refl w.heap.size w
 have zg := cell_lt hc
 unfold AnsF at *
 go_enter Tryz.func250, Tryz.ntmps250
 go_wp2
 refine wp_name fun w5 hW5 => ?_
 have HB5 := hZ (show Below w.heap.size w w5 by rw [hW5]; repeat (first|exact bzR _ _|exact hB|refine bzD ?_|refine bzN ?_|refine bzS ?_|refine bzA ?_))
 have x0 : w5.cell? ⟨w.heap.size, 0, none⟩ = some (.bool n1) := by rw [hW5]; simp [go_sem]
 have x1 : w5.cell? ⟨w.heap.size, 1, none⟩ = some (.slice a1 l1 c1) := by rw [hW5]; simp [go_sem]
 have x2 : w5.cell? ⟨w.heap.size, 2, none⟩ = some (.bool n2) := by rw [hW5]; simp [go_sem]
 have x3 : w5.cell? ⟨w.heap.size, 3, none⟩ = some (.slice a2 l2 c2) := by rw [hW5]; simp [go_sem]
 have g4 := bkeep HB5.out hc
 have HRC := hZ (show (w5.cell? ⟨w.heap.size + 1 + 1, 0, none⟩ = some (.bool false) ∧ w5.cell? ⟨w.heap.size + 1 + 1, 1, none⟩ = some (.slice none 0 0) ∧ w5.cell? ⟨w.heap.size + 1 + 1, 2, none⟩ = some (.bool false) ∧ w5.cell? ⟨w.heap.size + 1 + 1, 3, none⟩ = some (.slice none 0 0)) ∧ w5.frozen? ⟨w.heap.size + 1 + 1, 0, none⟩ = false ∧ w5.frozen? ⟨w.heap.size + 1 + 1, 1, none⟩ = false ∧ w5.frozen? ⟨w.heap.size + 1 + 1, 2, none⟩ = false ∧ w5.frozen? ⟨w.heap.size + 1 + 1, 3, none⟩ = false from by rw [hW5]; simp [go_sem])
 have HS := hZ (show ∀ V, Below w5.heap.size w5 V → V.cell? ⟨w.heap.size, 0, none⟩ = some (.bool n1) ∧ V.cell? ⟨w.heap.size, 1, none⟩ = some (.slice a1 l1 c1) ∧ V.cell? ⟨w.heap.size, 2, none⟩ = some (.bool n2) ∧ V.cell? ⟨w.heap.size, 3, none⟩ = some (.slice a2 l2 c2) ∧ V.cell? ⟨ib, 4, none⟩ = some (.int .i64 (n : Int)) from fun V q => ⟨bkeep q x0, bkeep q x1, bkeep q x2, bkeep q x3, bkeep q g4⟩)
 have HSF := hZ (show ∀ V, Below w5.heap.size w5 V → ∀ u0 u1 u2 u3, (st4 V (w.heap.size + 1 + 1) u0 u1 u2 u3).cell? ⟨w.heap.size, 0, none⟩ = some (.bool n1) ∧ (st4 V (w.heap.size + 1 + 1) u0 u1 u2 u3).cell? ⟨w.heap.size, 1, none⟩ = some (.slice a1 l1 c1) ∧ (st4 V (w.heap.size + 1 + 1) u0 u1 u2 u3).cell? ⟨w.heap.size, 2, none⟩ = some (.bool n2) ∧ (st4 V (w.heap.size + 1 + 1) u0 u1 u2 u3).cell? ⟨w.heap.size, 3, none⟩ = some (.slice a2 l2 c2) ∧ (st4 V (w.heap.size + 1 + 1) u0 u1 u2 u3).cell? ⟨ib, 4, none⟩ = some (.int .i64 (n : Int)) from fun V q u0 u1 u2 u3 => by
  obtain ⟨y0, y1, y2, y3, y4⟩ := HS.out V q
  exact ⟨far4 y0 (by omega) _ _ _ _, far4 y1 (by omega) _ _ _ _, far4 y2 (by omega) _ _ _ _, far4 y3 (by omega) _ _ _ _, far4 y4 (by omega) _ _ _ _⟩)
 have hBw := Below.refl w5.heap.size w5
 have zx := cell_lt x0
 have zg5 := cell_lt g4
 clear hW5 hB hc zg
 go_region_held3 (fun V => V.cell? ⟨w.heap.size, 0, none⟩ = some (.bool n1) ∧ V.cell? ⟨w.heap.size, 1, none⟩ = some (.slice a1 l1 c1) ∧ V.cell? ⟨w.heap.size, 2, none⟩ = some (.bool n2) ∧ V.cell? ⟨w.heap.size, 3, none⟩ = some (.slice a2 l2 c2) ∧ V.cell? ⟨ib, 4, none⟩ = some (.int .i64 (n : Int)))
  (first | (with_reducible refine HSF.out _ ?_ _ _ _ _; (repeat (first|exact bzR _ _|exact hBw|refine bzD ?_|refine bzN ?_|refine bzS ?_|refine bzA ?_)); done) | (refine HS.out _ ?_; (repeat (first|exact bzR _ _|exact hBw|refine bzD ?_|refine bzN ?_|refine bzS ?_|refine bzA ?_)); done) | fail)
  (first
   | (go_at_call 249; refine (PC.out _).mono ?_; rintro e w6 ⟨⟨u6, rfl, hu6⟩, hb6⟩; (replace hBw : Below w5.heap.size w5 w6 := bthen bZ hb6); have HU6 := hZ hu6; have hy6 := Below.refl w6.heap.size w6; obtain ⟨pn, pa, pl, pc, pm, pb, pk, pd, rfl, -, -⟩ := hu6)
   | (go_at_call 247; refine (OC.out _ _ (bthen HB5.out ?_) (HU6.out.keep ?_)).mono ?_; (repeat (first|exact bzR _ _|exact hBw|refine bzD ?_|refine bzN ?_|refine bzS ?_|refine bzA ?_)); (repeat (first|exact bzR _ _|exact hy6|refine bzD ?_|refine bzN ?_|refine bzS ?_|refine bzA ?_)); rintro e w7 ⟨⟨u7, rfl, hu7⟩, hb7⟩; (replace hBw : Below w5.heap.size w5 w7 := bthen bZ hb7); have HU7 := hZ hu7; have r0f := bkeepf hBw HRC.out.1.1 HRC.out.2.1; have r1f := bkeepf hBw HRC.out.1.2.1 HRC.out.2.2.1; have r2f := bkeepf hBw HRC.out.1.2.2.1 HRC.out.2.2.2.1; have r3f := bkeepf hBw HRC.out.1.2.2.2 HRC.out.2.2.2.2; have r0 := bkeep hBw HRC.out.1.1; have r1 := bkeep hBw HRC.out.1.2.1; have r2 := bkeep hBw HRC.out.1.2.2.1; have r3 := bkeep hBw HRC.out.1.2.2.2; have zr := cell_lt r0; obtain ⟨m1, b1, k1, d1, m2, b2, k2, d2, rfl, -, -⟩ := hu7)
   | fail)
 all_goals
  have HQ := hZ (IsQP.put4 HU7.out r0 r1 r2 r3 (.bool m1) (.slice b1 k1 d1) (.bool m2) (.slice b2 k2 d2))
  have hBf := bthen HB5.out hBw
  clear HRC HS HSF x0 x1 x2 x3 g4
  go_wp2
  refine bodyPost_ret (v := .agg #[.bool m1, .slice b1 k1 d1, .bool m2, .slice b2 k2 d2]) (by simp [results, Tryz.results250, go_sem, *]) rfl ⟨⟨_, rfl, ?_⟩, ?_⟩
  · first | exact HQ.out | exact HQ.out.keep (Below.refl _ _).drew
  ·
   repeat exact bZ
end
section
open Num
theorem infoRW : (Tryz.prog.info? 91).map (fun i => (i.zero, i.size, i.bytes)) = some (some (.agg #[.bool false, .slice none 0 0, .bool false, .slice none 0 0]), 4, 64) := by kernel_rfl
theorem elRW : Elt Tryz.prog 44 91 4 64 := Elt.mk' Tryz.underlying44 infoRW rfl (by decide) (by decide)
theorem infoRL : (Tryz.prog.info? 44).map (fun i => (i.zero, i.size, i.bytes)) = some (some (.slice none 0 0), 1, 24) := by kernel_rfl
theorem elRL : Elt Tryz.prog 33 44 1 24 := Elt.mk' Tryz.underlying33 infoRL rfl (by decide) (by decide)
def FR (w : World) (v : Value) (r : List Rat) : Prop := FrRow IsQR 91 0 w v r
section
variable {w w' : World} {v : Value} {r : List Rat}
theorem FR.kp (h : FR w v r) (k : Kp (· ≠ 44) w w') : FR w' v r := FrRow.kp frk_ref h k (by decide) (by decide)
theorem FR.keep (h : FR w v r) (k : Below w.heap.size w w') : FR w' v r := FrRow.keep frk_ref h k
theorem FR.one (h : FR w v r) : v.oneCell' = true := by obtain ⟨a, c, rfl⟩ := FrRow.ex h; rfl
end
def SetR (base : Nat) (w : World) (v : Value) (g : GridF) : Prop := ∃ xs, w.ownsRow base 44 1 v g.length xs ∧ ∀ k, k < g.length → ∃ u, xs[k]? = some u ∧ FR w u (g.getD k [])
section
variable {base : Nat} {w w' : World} {v : Value} {g : GridF}
theorem SetR.nil (base : Nat) (w : World) : SetR base w (.slice none 0 0) [] := ⟨[], World.ownsRow_nil _ _ _ _, fun k hk => absurd hk (by simp)⟩
theorem SetR.ex (h : SetR base w v g) : ∃ a c, v = .slice a g.length c := by
 obtain ⟨xs, h1, _⟩ := h
 rcases h1.2 with ⟨rfl, e⟩ | ⟨b, c, _, rfl, _⟩
 · exact ⟨_, _, by rw [e]⟩
 · exact ⟨_, _, rfl⟩
theorem SetR.view (h : SetR base w v g) (hg : 0 < g.length) : ∃ rb c, v = .slice (some ⟨rb, 0, none⟩) g.length c ∧ base ≤ rb ∧ g.length ≤ c ∧ Free w rb ∧ typOf w rb = some 44 ∧ ∀ k, k < g.length → ∃ u, w.cell? ⟨rb, k, none⟩ = some u ∧ FR w u (g.getD k []) := by
 obtain ⟨xs, h1, h2⟩ := h
 have h1' := h1
 rcases h1.2 with ⟨rfl, e⟩ | ⟨b, cap, cur, rfl, hb, hh, hc, hm, hs, ht⟩
 · omega
 · have hgt : typOf w b = some 44 := by unfold typOf; rw [hh]
   refine ⟨b, cap, rfl, hb, hc, ⟨typ_lt hgt, fun j => by simp [World.frozen?, hh]⟩, hgt, fun k hk => ?_⟩
   obtain ⟨u, e, hr⟩ := h2 k hk
   refine ⟨u, ?_, hr⟩
   rw [← ht, List.getElem?_take_of_lt (by omega)] at e
   simpa [World.cell?, hh] using e
theorem SetR.keep (h : SetR base w v g) (b : Below w.heap.size w w') : SetR base w' v g := by
 obtain ⟨xs, h1, h2⟩ := h
 refine ⟨xs, owns_kp (S := fun _ => True) h1 (Kp.of_below _ b) trivial, fun k hk => ?_⟩
 obtain ⟨u, e, hr⟩ := h2 k hk
 exact ⟨u, e, hr.keep b⟩
theorem SetR.out {X : Nat → Prop} (h : SetR base w v g) (ho : Out X w w') (hx : ∀ q, v.ownBlock = some q → ¬ X q) (hk : Kp (· ≠ 44) w w') : SetR base w' v g := by
 obtain ⟨xs, ⟨h0, h1⟩, h2⟩ := h
 refine ⟨xs, ⟨h0, ?_⟩, fun k hk' => ?_⟩
 · rcases h1 with h1 | ⟨b, cap, cur, rfl, hb, hh, r⟩
   · exact .inl h1
   · refine .inr ⟨b, cap, cur, rfl, hb, ?_, r⟩
     rw [ho.block b (Array.getElem?_eq_some_iff.1 hh).1 (hx b (by simp [Value.ownBlock]))]
     exact hh
 · obtain ⟨u, e, hr⟩ := h2 k hk'
   exact ⟨u, e, hr.kp hk⟩
theorem SetR.lt (h : SetR base w v g) : ∀ q, v.ownBlock = some q → base ≤ q ∧ q < w.heap.size := fun q hq => by
 obtain ⟨xs, h1, _⟩ := h
 exact h1.lt q hq
theorem SetR.rebase {base' : Nat} (h : SetR base w v g) (hb : base' ≤ base) : SetR base' w v g := by
 obtain ⟨xs, ⟨h0, h1⟩, h2⟩ := h
 refine ⟨xs, ⟨h0, ?_⟩, h2⟩
 rcases h1 with h1 | ⟨b, cap, cur, hv, hg, r⟩
 · exact .inl h1
 · exact .inr ⟨b, cap, cur, hv, Nat.le_trans hb hg, r⟩
theorem ownsR_set {w : World} {base n i g cap : Nat} {e : TypeId} {xs : List Value} (h : w.ownsRow base e 1 (.slice (some ⟨g, 0, none⟩) n cap) n xs) (u : Value) : (w.setCell ⟨g, i, none⟩ u).ownsRow base e 1 (.slice (some ⟨g, 0, none⟩) n cap) n (xs.set i u) := by
 refine ⟨by rw [List.length_set]; exact h.1, .inr ?_⟩
 rcases h.2 with ⟨hv, _⟩ | ⟨g', cap', cur, hv, hg, hh, h1, h2, h3, h4⟩
 · cases hv
 · cases hv
   refine ⟨g, cap, cur.setIfInBounds i u, rfl, hg, ?_, h1, h2, by simpa using h3, ?_⟩
   · simp [World.setCell, Array.getElem?_modify, hh]
   · rw [← h4]; simp [List.take_set]
theorem SetR.set {rb c i : Nat} {u : Value} {r : List Rat} (h : SetR base w (.slice (some ⟨rb, 0, none⟩) g.length c) g) (hi : i < g.length) (hr : FR w u r) : SetR base (w.setCell ⟨rb, i, none⟩ u) (.slice (some ⟨rb, 0, none⟩) g.length c) (g.set i r) := by
 have hty : typOf w rb = some 44 := by
  obtain ⟨xs, h1, _⟩ := h
  exact own_typ' h1 (by simp [Value.ownBlock])
 have hk : Kp (· ≠ 44) w (w.setCell ⟨rb, i, none⟩ u) := (Kp.refl _ w).set (fun t ht hs => by dsimp only at ht; rw [hty] at ht; exact hs (Option.some.inj ht).symm) _
 obtain ⟨xs, h1, h2⟩ := h
 have hxl : xs.length = g.length := by have := h1.1; omega
 refine ⟨xs.set i u, by rw [List.length_set]; exact ownsR_set h1 u, fun k hk' => ?_⟩
 rw [List.length_set] at hk'
 rw [gsetF _ _ _ hi]
 by_cases e : k = i
 · subst e
   exact ⟨u, by simp [hxl, hk'], by rw [if_pos rfl]; exact hr.kp hk⟩
 · obtain ⟨u', e', hr'⟩ := h2 k hk'
   exact ⟨u', by rw [List.getElem?_set_ne (fun h => e h.symm)]; exact e', by rw [if_neg e]; exact hr'.kp hk⟩
theorem SetR.set' {rb c i n : Nat} {u : Value} {r : List Rat} (h : SetR base w (.slice (some ⟨rb, 0, none⟩) n c) g) (hn : g.length = n) (hi : i < n) (hr : FR w u r) : SetR base (w.setCell ⟨rb, i, none⟩ u) (.slice (some ⟨rb, 0, none⟩) n c) (g.set i r) := by
 subst hn; exact h.set hi hr
theorem SetR.snoc {w1 : World} {v' u : Value} {xs : List Value} {r : List Rat} (h1 : w'.ownsRow base 44 1 v' (g.length + 1) (xs ++ [u])) (hx : xs.length = g.length) (h2 : ∀ k, k < g.length → ∃ u, xs[k]? = some u ∧ FR w u (g.getD k [])) (hr : FR w u r) (hk : Kp (· ≠ 44) w w') : SetR base w' v' (g ++ [r]) := by
 refine ⟨xs ++ [u], by rw [List.length_append]; exact h1, fun k hk' => ?_⟩
 rw [List.length_append] at hk'
 simp only [List.length_cons, List.length_nil] at hk'
 by_cases e : k < g.length
 · obtain ⟨u', e', hr'⟩ := h2 k e
   refine ⟨u', by rw [List.getElem?_append_left (by omega)]; exact e', ?_⟩
   rw [List.getD_eq_getElem?_getD, List.getElem?_append_left e, ← List.getD_eq_getElem?_getD]
   exact hr'.kp hk
 · obtain rfl : k = g.length := by omega
   refine ⟨u, by rw [List.getElem?_append_right (by omega), hx]; simp, ?_⟩
   rw [List.getD_eq_getElem?_getD, List.getElem?_append_right (Nat.le_refl _)]
   simpa using hr.kp hk
end
section
variable {ops : Array Oper} {o : Oper} {a : Act} {Q : Exit → Act → World → Prop} {base : Nat} {wr : World} {v u : Value} {g : GridF} {r : List Rat} {t : TypeId} {s x : Operand} {c : Nat}
theorem app_R {rest : List Oper} (hgd : o.guard = none) (ho : o.op = .call { callee := .builtin .append, args := #[s, x], argTypes := #[33, 33] }) (hO : SetR base wr v g) (hr : FR wr u r) (hbase : base ≤ wr.heap.size) (hs : a.eval s = v)
 (hx : a.eval x = .slice (some ⟨wr.heap.size, 0, none⟩) 1 c) (hn : g.length + 1 ≤ 1099511627776)
 (h : ∀ v' w', SetR base w' v' (g ++ [r]) → Out (fun k => v.ownBlock = some k) wr w' → Kp (· ≠ 44) wr w' → wpList Tryz.prog ops Q rest (a.put o.dst v') w') : wpList Tryz.prog ops Q (o :: rest) a (wr.alloc (.cells #[u] t)) := by
 obtain ⟨i, z, hi, hz, hsize, hby, hzs⟩ := elRL.info
 obtain ⟨xs, h1, h2⟩ := hO
 have hb : (g.length + 1) * 24 ≤ 1099511627776 * 128 := Nat.mul_le_mul hn elRL.small
 have hA := h1.alloc (Obj.cells #[u] t)
 have hxl : xs.length = g.length := by have := h1.1; omega
 have hu1 := hr.one
 refine wpList_append_own _ hgd s x _ ho base 44 i z 1 24 elRL.ht hi hz hsize hby hzs elRL.pos v g.length xs hs hA ⟨wr.heap.size, 0, none⟩ 1 c [u] hx rfl (cells_new wr _ t) (fun y hy => by simp at hy; subst hy; exact hu1) (by unfold maxLen; omega) (by omega) (by simp; omega) ?_
 intro v' w' hown hg _
 have hk : Kp (· ≠ 44) wr w' := ((Kp.refl _ wr).alloc _).grown hg fun q hg' t' ht hne => hne (by rw [own_typ' hA hg'] at ht; exact (Option.some.inj ht).symm)
 have ho' : Out (fun k => v.ownBlock = some k) wr w' := ((Out.refl _ wr).alloc _).grown hg fun k hk' _ => hk'
 exact h v' w' (SetR.snoc (w1 := wr) hown hxl h2 hr hk) ho' hk
end
end
section
open Num
attribute [local go_sem ↓] Go.wp_at_zero Go.wp_at_succ
theorem FrBlk.kp {Q : World → Value → Rat → Prop} {E : TypeId} {w w' : World} {b n : Nat} {F : Nat → Rat} {S : TypeId → Prop} (hQ : FrK Q) (h : FrBlk Q E w b n F) (k : Kp S w w') (h1 : S 177) (h2 : S E) : FrBlk Q E w' b n F := by
 have hb := k b E h.ty h2
 refine ⟨k.typ h.ty h2, ⟨typ_lt (k.typ h.ty h2), fun j => by rw [World.frozen?_of_block (w := w) hb]; exact h.fr.2 j⟩, fun j hj => (h.at_ j hj).stay hQ hb (k.lim h1)⟩
end
section
variable {P : Program} {Q : Exit → Act → World → Prop}
def Done (ls : Array Bool) (i : Nat) : Prop := ls.getD i false = true
theorem Done.old {ls : Array Bool} {i j : Nat} (h : Done (ls.setIfInBounds i true) j) (hne : i ≠ j := by decide) : Done ls j := by
 unfold Done at *
 rwa [getD_set_ne false hne] at h
theorem Done.set {ls : Array Bool} {i j : Nat} (h : Done ls j) : Done (ls.setIfInBounds i true) j := by
 unfold Done at *
 by_cases e : i = j
 · subst e
   have hlt : i < ls.size := by
    rcases Nat.lt_or_ge i ls.size with q | q
    · exact q
    · simp [Array.getD, show ¬ i < ls.size by omega] at h
   simp [Array.getD, hlt]
 · rwa [getD_set_ne false e]
def InvStep (P : Program) (ops : Array Oper) (Q : Exit → Act → World → Prop) (Inv : Array Bool → Act → World → Prop) (i : Nat) : Prop :=
 ∀ (o : Oper), ops[i]? = some o → ∀ ls a w, (∀ e ∈ o.after, Region.binds .any e = true → Done ls e.on) → ls.getD i true = false → Inv ls a w → ∀ K : Act → World → Prop, (∀ a' w', Inv (ls.setIfInBounds i true) a' w' → K a' w') → if Region.wanted o (yielded ops a.tmps) = true then Oper.wp P o a w K Q else K (a.put o.dst undef) w
def left (n : Nat) (ls : Array Bool) : Nat := ((List.range n).filter fun i => !ls.getD i true).length
theorem left_set {n i : Nat} {ls : Array Bool} (hn : i < n) (h : ls.getD i true = false) : left n (ls.setIfInBounds i true) < left n ls := by
 unfold left
 have hi : (ls.setIfInBounds i true).getD i true = true := by
  have hlt : i < ls.size := by
   rcases Nat.lt_or_ge i ls.size with q | q
   · exact q
   · simp [Array.getD, show ¬ i < ls.size by omega] at h
  simp [Array.getD, hlt]
 have key : ∀ l : List Nat, (l.filter fun j => !(ls.setIfInBounds i true).getD j true).length ≤ (l.filter fun j => !ls.getD j true).length ∧ (i ∈ l → (l.filter fun j => !(ls.setIfInBounds i true).getD j true).length < (l.filter fun j => !ls.getD j true).length) := by
  intro l
  induction l with
  | nil => simp
  | cons x l ih =>
   by_cases e : i = x
   · subst e
     rw [List.filter_cons, List.filter_cons, hi, h]
     simp only [Bool.not_true, Bool.false_eq_true, if_false, Bool.not_false, if_true, List.length_cons]
     exact ⟨by omega, fun _ => by omega⟩
   · rw [List.filter_cons, List.filter_cons, getD_set_ne true e]
     split
     · simp only [List.length_cons, List.mem_cons]
       exact ⟨by omega, fun hh => by rcases hh with hh | hh; exact absurd hh e; have := ih.2 hh; omega⟩
     · exact ⟨ih.1, fun hh => by rcases List.mem_cons.1 hh with hh | hh; exact absurd hh e; exact ih.2 hh⟩
 exact (key _).2 (List.mem_range.2 hn)
theorem wpAny_inv {ops : Array Oper} {Inv : Array Bool → Act → World → Prop} (hs : ∀ i, i < ops.size → InvStep P ops Q Inv i) (he : ∀ ls a w, Region.ready .any ops ls = [] → Inv ls a w → Q .normal a w) :
 ∀ (fuel : Nat) (ls : Array Bool) (a : Act) (w : World), left ops.size ls ≤ fuel → Inv ls a w → wpAny P .any ops Q fuel ls a w := by
 intro fuel
 induction fuel with
 | zero =>
  intro ls a w hl hi
  have hr : Region.ready .any ops ls = [] := by
   cases e : Region.ready .any ops ls with
   | nil => rfl
   | cons i r =>
    obtain ⟨h1, o, h2, h3⟩ := mem_ready.1 (show i ∈ Region.ready .any ops ls by rw [e]; simp)
    have := left_set (Array.getElem?_eq_some_iff.1 h2).1 h1
    omega
  exact ⟨hr, he _ _ _ hr hi⟩
 | succ fuel ih =>
  intro ls a w hl hi
  refine ⟨fun hr => he _ _ _ hr hi, fun i hm => ?_⟩
  obtain ⟨h1, o, h2, h3⟩ := mem_ready.1 hm
  have hlt := (Array.getElem?_eq_some_iff.1 h2).1
  refine wpOp_step h2 fun K hK => hs i hlt o h2 ls a w (fun e h hb => h3 e h hb) h1 hi K fun a' w' h' => hK _ _ (ih _ _ _ ?_ h')
  have := left_set hlt h1
  omega
def topB (ops : List Oper) : Bool := (List.range ops.length).all fun i => ((ops[i]?).map (fun o => o.after.all fun e => Nat.blt e.on i || !Region.binds .any e)).getD true
theorem done_all {l : List Oper} (ht : topB l = true) {ls : Array Bool} (hsz : ls.size = l.length) (hr : Region.ready .any l.toArray ls = []) : ∀ i, i < l.length → Done ls i := by
 intro i
 induction i using Nat.strongRecOn with
 | ind i ih =>
  intro hi
  unfold Done
  cases e : ls.getD i false with
  | true => rfl
  | false =>
   exfalso
   have ho : l.toArray[i]? = some l[i] := by simp [hi]
   have : i ∈ Region.ready .any l.toArray ls := mem_ready.2 ⟨by
    simp [Array.getD, hsz, hi] at e ⊢; exact e, l[i], ho, fun ed hed hbd => by
    have h1 := List.all_eq_true.1 ht i (List.mem_range.2 hi)
    rw [show l[i]? = some l[i] by simp [hi], Option.map_some, Option.getD_some, Array.all_eq_true_iff_forall_mem] at h1
    have h2 := h1 ed hed
    have h3 : ed.on < i := by rw [hbd] at h2; simpa [Nat.blt_eq] using h2
    exact ih ed.on h3 (by omega)⟩
   rw [hr] at this
   cases this
theorem wp_region_inv {id : Nat} {a : Act} {w : World} {l : List Oper} (hm : P.follows .mixedOrders = true) (ht : topB l = true) (Inv : Array Bool → Act → World → Prop)
 (h0 : Inv (Array.replicate l.length false) a w.drew) (hs : ∀ i, i < l.length → InvStep P l.toArray Q (fun ls a w => ls.size = l.length ∧ Inv ls a w) i)
 (he : ∀ ls a w, (∀ i, i < l.length → Done ls i) → Inv ls a w → Q .normal a w) : (Code.region id l.toArray true).wp P Q a w := by
 refine wp_region_any hm ?_
 refine wpAny_inv (Inv := fun ls a w => ls.size = l.length ∧ Inv ls a w) (by simpa using hs) (fun ls a w hr hi => he ls a w (done_all ht hi.1 hr) hi.2) _ _ _ _ ?_ ⟨by simp, by simpa using h0⟩
 unfold left
 exact Nat.le_trans (List.length_filter_le _ _) (by simp)
def InvStepO (P : Program) (ops : Array Oper) (Q : Exit → Act → World → Prop) (Inv : Array Bool → Act → World → Prop) (n i : Nat) (o : Oper) : Prop :=
 ∀ ls a w, (∀ e ∈ o.after.toList, Region.binds .any e = true → Done ls e.on) → ls.size = n → ¬ Done ls i → Inv ls a w → ∀ K : Act → World → Prop, (∀ a' w', Inv (ls.setIfInBounds i true) a' w' → K a' w') → if Region.wanted o (yielded ops a.tmps) = true then Oper.wp P o a w K Q else K (a.put o.dst undef) w
inductive InvSteps (P : Program) (ops : Array Oper) (Q : Exit → Act → World → Prop) (Inv : Array Bool → Act → World → Prop) (n : Nat) : Nat → List Oper → Prop
 | nil {k : Nat} : InvSteps P ops Q Inv n k []
 | cons {k : Nat} {o : Oper} {l : List Oper} (h : InvStepO P ops Q Inv n k o) (r : InvSteps P ops Q Inv n (k + 1) l) : InvSteps P ops Q Inv n k (o :: l)
theorem InvSteps.at {ops : Array Oper} {Inv : Array Bool → Act → World → Prop} {n : Nat} {k : Nat} {l : List Oper} (h : InvSteps P ops Q Inv n k l) : ∀ j (hj : j < l.length), InvStepO P ops Q Inv n (k + j) l[j] := by
 induction h with
 | nil => intro j hj; simp at hj
 | cons h _ ih =>
  intro j hj
  cases j with
  | zero => exact h
  | succ j =>
   have := ih j (by simpa using hj)
   rw [show _ + (j + 1) = _ + 1 + j from by rw [Nat.add_assoc, Nat.add_comm 1 j]]
   exact this
theorem wp_region_invs {id : Nat} {a : Act} {w : World} {l : List Oper} (hm : P.follows .mixedOrders = true) (ht : topB l = true) (Inv : Array Bool → Act → World → Prop)
 (h0 : Inv (Array.replicate l.length false) a w.drew) (hs : InvSteps P l.toArray Q Inv l.length 0 l)
 (he : ∀ ls a w, (∀ i, i < l.length → Done ls i) → Inv ls a w → Q .normal a w) : (Code.region id l.toArray true).wp P Q a w := by
 refine wp_region_inv hm ht Inv h0 (fun i hi o ho ls a' w' hd hu hI K hK => ?_) he
 have h := hs.at i hi
 rw [Nat.zero_add] at h
 have e : l[i] = o := by simpa [hi] using ho
 rw [e] at h
 exact h ls a' w' (fun e he hb => hd e (by simpa using he) hb) hI.1 (fun hh => by unfold Done at hh; simp [Array.getD, hI.1, hi] at hh hu; rw [hh] at hu; cases hu) hI.2 K fun a2 w2 h2 => hK a2 w2 ⟨by simpa using hI.1, h2⟩
end
end Go.Proofs.YtbmaffijncapiaaGreatDoor
