/- Texts of this seat, laid together: DnA, GrR. Each opens with its own remark, which says what it proves, and under which conditions. -/
import Derived.Test.YtbmaffijncapiaaGreatDoorL21
import Derived.Test.YtbmaffijncapiaaGreatDoorL18
import Derived.Test.YtbmaffijncapiaaGreatDoorL07
import Derived.Test.YtbmaffijncapiaaGreatDoorL19
import Derived.Test.YtbmaffijncapiaaGreatDoorL11
import Derived.Test.YtbmaffijncapiaaGreatDoorL09
import Derived.Test.YtbmaffijncapiaaGreatDoorL08
set_option linter.unusedVariables false
set_option linter.unusedSimpArgs false
/- denote: power, over, wide, and the function values that op hands back. -/
namespace Go.Proofs.YtbmaffijncapiaaGreatDoor
open Num
open Go.ChangeShapes Go.WideShapes Go.ChangeAt Go.RowKit
set_option linter.unusedVariables false
set_option linter.unusedSimpArgs false
attribute [local go_sem ↓] Go.wp_at_zero Go.wp_at_succ
def AnsF (q : Rat) (w : World) (e : Ending) (w' : World) : Prop := (∃ v, e = .returned v ∧ IsQP w' v q) ∧ Below w.heap.size w w'
set_option maxRecDepth 100000 in
set_option maxHeartbeats 8000000 in
theorem dnPower_c (n : Nat) (w : World) (hn : n ≤ 65536) : Calls Tryz.prog 249 #[.int .i64 (n : Int)] w (AnsF ((2 ^ n : Int) : Rat) w) := by
  have oc := fun W => of_c 1 W (by omega) (by omega)
  have sc := fun v W (h : IsInt W v 1) => shlI_c v 1 1 n W h (by unfold Bd; decide) (by omega) hn
  rw [show (1 : Int) * 2 ^ n = 2 ^ n by rw [Int.one_mul]] at sc
  obtain ⟨z, hz⟩ : ∃ z, (2 ^ n : Int) = z := ⟨_, rfl⟩
  rw [hz] at sc ⊢
  clear hz
  have hB := Below.refl w.heap.size w
  unfold AnsF
  go_enter Tryz.func249, Tryz.ntmps249
  go_wp2_with fail
  refine (oc _).mono ?_
  rintro e w1 ⟨⟨v1, rfl, hi1⟩, hb1⟩
  have r0 : w1.cell? ⟨w.heap.size, 0, none⟩ = some (.bool false) := bkc hb1
  have zr0 := cell_lt r0
  have r0f : w1.frozen? ⟨w.heap.size, 0, none⟩ = false := bkcf (v := .bool false) hb1
  have r1 : w1.cell? ⟨w.heap.size, 1, none⟩ = some (.slice none 0 0) := bkc hb1
  have r1f : w1.frozen? ⟨w.heap.size, 1, none⟩ = false := bkcf (v := .slice none 0 0) hb1
  have r2 : w1.cell? ⟨w.heap.size, 2, none⟩ = some (.bool false) := bkc hb1
  have r2f : w1.frozen? ⟨w.heap.size, 2, none⟩ = false := bkcf (v := .bool false) hb1
  have r3 : w1.cell? ⟨w.heap.size, 3, none⟩ = some (.slice none 0 0) := bkc hb1
  have r3f : w1.frozen? ⟨w.heap.size, 3, none⟩ = false := bkcf (v := .slice none 0 0) hb1
  have hB : Below w.heap.size w w1 := bthen (by repeat (first|exact bzR _ _|exact hB|refine bzD ?_|refine bzN ?_|refine bzS ?_|refine bzA ?_)) hb1
  have hz : w.heap.size ≤ w1.heap.size := hB.size
  have HI1 := Lib.hid hi1
  obtain ⟨n1, a1, c1, l1, rfl, -⟩ := hi1
  unfold iv at *
  have hBw1 := Below.refl w1.heap.size w1
  clear oc hb1
  go_wp2_with fail
  refine (sc _ _ (HI1.out.keep ?_)).mono ?_
  ·
    repeat (first|exact bzR _ _|exact hBw1|refine bzD ?_|refine bzN ?_|refine bzS ?_|refine bzA ?_)
  rintro e w2 ⟨⟨v2, rfl, hi2⟩, hb2⟩
  have r0 : w2.cell? ⟨w.heap.size, 0, none⟩ = some (.bool false) := bkc hb2
  have zr0 := cell_lt r0
  have r0f : w2.frozen? ⟨w.heap.size, 0, none⟩ = false := bkcf (v := .bool false) hb2
  have r1 : w2.cell? ⟨w.heap.size, 1, none⟩ = some (.slice none 0 0) := bkc hb2
  have r1f : w2.frozen? ⟨w.heap.size, 1, none⟩ = false := bkcf (v := .slice none 0 0) hb2
  have r2 : w2.cell? ⟨w.heap.size, 2, none⟩ = some (.bool false) := bkc hb2
  have r2f : w2.frozen? ⟨w.heap.size, 2, none⟩ = false := bkcf (v := .bool false) hb2
  have r3 : w2.cell? ⟨w.heap.size, 3, none⟩ = some (.slice none 0 0) := bkc hb2
  have r3f : w2.frozen? ⟨w.heap.size, 3, none⟩ = false := bkcf (v := .slice none 0 0) hb2
  have hB : Below w.heap.size w w2 := bthen (by repeat (first|exact bzR _ _|exact hB|refine bzD ?_|refine bzN ?_|refine bzS ?_|refine bzA ?_)) hb2
  have hz : w.heap.size ≤ w2.heap.size := hB.size
  have HI2 := Lib.hid hi2
  have WC := Lib.hid (fun V (q : Below w2.heap.size w2 V) => pqWhole_c v2 z V (hi2.keep q))
  obtain ⟨n2, a2, c2, l2, rfl, -⟩ := hi2
  unfold iv at *
  have hBw2 := Below.refl w2.heap.size w2
  clear sc hb2 hBw1 HI1
  go_wp2_with fail
  (with_reducible refine (WC.out _ ?_).mono ?_); (repeat (first|exact bzR _ _|exact hBw2|refine bzD ?_|refine bzN ?_|refine bzS ?_|refine bzA ?_))
  rintro e w3 ⟨⟨v3, rfl, hv⟩, hb3⟩
  have r0 : w3.cell? ⟨w.heap.size, 0, none⟩ = some (.bool false) := bkc hb3
  have zr0 := cell_lt r0
  have r0f : w3.frozen? ⟨w.heap.size, 0, none⟩ = false := bkcf (v := .bool false) hb3
  have r1 : w3.cell? ⟨w.heap.size, 1, none⟩ = some (.slice none 0 0) := bkc hb3
  have r1f : w3.frozen? ⟨w.heap.size, 1, none⟩ = false := bkcf (v := .slice none 0 0) hb3
  have r2 : w3.cell? ⟨w.heap.size, 2, none⟩ = some (.bool false) := bkc hb3
  have r2f : w3.frozen? ⟨w.heap.size, 2, none⟩ = false := bkcf (v := .bool false) hb3
  have r3 : w3.cell? ⟨w.heap.size, 3, none⟩ = some (.slice none 0 0) := bkc hb3
  have r3f : w3.frozen? ⟨w.heap.size, 3, none⟩ = false := bkcf (v := .slice none 0 0) hb3
  have hB : Below w.heap.size w w3 := bthen (by repeat (first|exact bzR _ _|exact hB|refine bzD ?_|refine bzN ?_|refine bzS ?_|refine bzA ?_)) hb3
  have hz : w.heap.size ≤ w3.heap.size := hB.size
  clear WC hb3 hBw2 HI2
  have HV := Lib.hid hv
  obtain ⟨m1, b1, k1, d1, m2, b2, k2, d2, rfl, -, -⟩ := hv
  have HQ := Lib.hid (IsQP.put4 HV.out r0 r1 r2 r3 (.bool m1) (.slice b1 k1 d1) (.bool m2) (.slice b2 k2 d2))
  have zr := cell_lt r0
  have hBf := hB
  clear HV
  go_wp2
  refine bodyPost_ret (v := .agg #[.bool m1, .slice b1 k1 d1, .bool m2, .slice b2 k2 d2]) (by simp [results, Tryz.results249, go_sem, *]) rfl ⟨⟨_, rfl, ?_⟩, ?_⟩
  · first | exact HQ.out | exact HQ.out.keep (Below.refl _ _).drew
  ·
    repeat (first|exact bzR _ _|exact hBf|refine bzD ?_|refine bzN ?_|refine bzS ?_|refine bzA ?_)
set_option maxRecDepth 100000 in
set_option maxHeartbeats 8000000 in
theorem dnOver_c (vx vy : Value) (x y : Rat) (k m : Nat) (w : World) (hx : IsQP w vx x) (hy : IsQP w vy y) (bx : BdQ k x) (by' : BdQ m y) (hk9 : k + m ≤ 17179869180) (h0 : y ≠ 0) : Calls Tryz.prog 247 #[vx, vy] w (AnsF (x / y) w) := by
  have OC := Lib.hid (fun V (q : Below w.heap.size w V) => pqOver_c vx vy x y k m V (hx.keep q) (hy.keep q) bx by' hk9 h0)
  obtain ⟨n1, a1, l1, c1, n2, a2, l2, c2, rfl, -, -⟩ := hx
  obtain ⟨n3, a3, l3, c3, n4, a4, l4, c4, rfl, -, -⟩ := hy
  obtain ⟨z, hz⟩ : ∃ z, x / y = z := ⟨_, rfl⟩
  rw [hz] at OC ⊢
  clear hz bx by' hk9 h0
  have hB := Below.refl w.heap.size w
  unfold AnsF
  go_enter Tryz.func247, Tryz.ntmps247
  go_wp2_with fail
  (with_reducible refine (OC.out _ ?_).mono ?_); (repeat (first|exact bzR _ _|exact hB|refine bzD ?_|refine bzN ?_|refine bzS ?_|refine bzA ?_))
  rintro e w1 ⟨⟨v1, rfl, hv⟩, hb1⟩
  have r0 : w1.cell? ⟨w.heap.size + 1 + 1, 0, none⟩ = some (.bool false) := bkc hb1
  have zr0 := cell_lt r0
  have r0f : w1.frozen? ⟨w.heap.size + 1 + 1, 0, none⟩ = false := bkcf (v := .bool false) hb1
  have r1 : w1.cell? ⟨w.heap.size + 1 + 1, 1, none⟩ = some (.slice none 0 0) := bkc hb1
  have r1f : w1.frozen? ⟨w.heap.size + 1 + 1, 1, none⟩ = false := bkcf (v := .slice none 0 0) hb1
  have r2 : w1.cell? ⟨w.heap.size + 1 + 1, 2, none⟩ = some (.bool false) := bkc hb1
  have r2f : w1.frozen? ⟨w.heap.size + 1 + 1, 2, none⟩ = false := bkcf (v := .bool false) hb1
  have r3 : w1.cell? ⟨w.heap.size + 1 + 1, 3, none⟩ = some (.slice none 0 0) := bkc hb1
  have r3f : w1.frozen? ⟨w.heap.size + 1 + 1, 3, none⟩ = false := bkcf (v := .slice none 0 0) hb1
  have hB : Below w.heap.size w w1 := bthen (by repeat (first|exact bzR _ _|exact hB|refine bzD ?_|refine bzN ?_|refine bzS ?_|refine bzA ?_)) hb1
  have hz : w.heap.size ≤ w1.heap.size := hB.size
  have HV := Lib.hid hv
  obtain ⟨m1, b1, k1, d1, m2, b2, k2, d2, rfl, -, -⟩ := hv
  have HQ := Lib.hid (IsQP.put4 HV.out r0 r1 r2 r3 (.bool m1) (.slice b1 k1 d1) (.bool m2) (.slice b2 k2 d2))
  have zr := cell_lt r0
  have zr1 : w.heap.size + 1 + 1 < w1.heap.size + 1 := by omega
  have hBf := hB
  clear HV OC hb1
  go_wp2
  refine bodyPost_ret (v := .agg #[.bool m1, .slice b1 k1 d1, .bool m2, .slice b2 k2 d2]) (by simp [results, Tryz.results247, go_sem, *]) rfl ⟨⟨_, rfl, ?_⟩, ?_⟩
  · first | exact HQ.out | exact HQ.out.keep (bal (Below.refl _ _) _)
  ·
    repeat (first|exact bzR _ _|exact hBf|refine bzD ?_|refine bzN ?_|refine bzS ?_|refine bzA ?_)
def FnQ (i : Ins) (k : Nat) (w : World) (F : Nat) (caps : Array Value) : Prop :=
  ∀ W va vb a b, Below w.heap.size w W → IsQP W va a → IsQP W vb b → BdQ k a → BdQ k b → Calls Tryz.prog F (#[va, vb] ++ caps) W (AnsF (opQ i a b) W)
set_option maxRecDepth 100000 in
set_option maxHeartbeats 8000000 in
theorem dnNeg_c (va vb : Value) (x y : Rat) (w : World) (hx : IsQP w va x) (hy : IsQP w vb y) : Calls Tryz.prog 240 #[va, vb] w (AnsF (-x) w) := by
  have OC := Lib.hid (fun V (q : Below w.heap.size w V) => pqNeg_c va x V (hx.keep q))
  obtain ⟨n1, a1, l1, c1, n2, a2, l2, c2, rfl, -, -⟩ := hx
  obtain ⟨n3, a3, l3, c3, n4, a4, l4, c4, rfl, -, -⟩ := hy
  have hB := Below.refl w.heap.size w
  unfold AnsF
  go_enter Tryz.func240, Tryz.ntmps240
  go_wp2_with fail
  (with_reducible refine (OC.out _ ?_).mono ?_); (repeat (first|exact bzR _ _|exact hB|refine bzD ?_|refine bzN ?_|refine bzS ?_|refine bzA ?_))
  rintro e w1 ⟨⟨v1, rfl, hv⟩, hb1⟩
  have r0 : w1.cell? ⟨w.heap.size + 1 + 1, 0, none⟩ = some (.bool false) := bkc hb1
  have zr0 := cell_lt r0
  have r0f : w1.frozen? ⟨w.heap.size + 1 + 1, 0, none⟩ = false := bkcf (v := .bool false) hb1
  have r1 : w1.cell? ⟨w.heap.size + 1 + 1, 1, none⟩ = some (.slice none 0 0) := bkc hb1
  have r1f : w1.frozen? ⟨w.heap.size + 1 + 1, 1, none⟩ = false := bkcf (v := .slice none 0 0) hb1
  have r2 : w1.cell? ⟨w.heap.size + 1 + 1, 2, none⟩ = some (.bool false) := bkc hb1
  have r2f : w1.frozen? ⟨w.heap.size + 1 + 1, 2, none⟩ = false := bkcf (v := .bool false) hb1
  have r3 : w1.cell? ⟨w.heap.size + 1 + 1, 3, none⟩ = some (.slice none 0 0) := bkc hb1
  have r3f : w1.frozen? ⟨w.heap.size + 1 + 1, 3, none⟩ = false := bkcf (v := .slice none 0 0) hb1
  have hB : Below w.heap.size w w1 := bthen (by repeat (first|exact bzR _ _|exact hB|refine bzD ?_|refine bzN ?_|refine bzS ?_|refine bzA ?_)) hb1
  have hz : w.heap.size ≤ w1.heap.size := hB.size
  clear OC hb1
  have HV := Lib.hid hv
  obtain ⟨m1, b1, k1, d1, m2, b2, k2, d2, rfl, -, -⟩ := hv
  have HQ := Lib.hid (IsQP.put4 HV.out r0 r1 r2 r3 (.bool m1) (.slice b1 k1 d1) (.bool m2) (.slice b2 k2 d2))
  have zr := cell_lt r0
  have hBf := hB
  clear HV
  go_wp2
  refine bodyPost_ret (v := .agg #[.bool m1, .slice b1 k1 d1, .bool m2, .slice b2 k2 d2]) (by simp [results, Tryz.results240, go_sem, *]) rfl ⟨⟨_, rfl, ?_⟩, ?_⟩
  · first | exact HQ.out | exact HQ.out.keep (Below.refl _ _).drew
  ·
    repeat (first|exact bzR _ _|exact hBf|refine bzD ?_|refine bzN ?_|refine bzS ?_|refine bzA ?_)
set_option maxRecDepth 100000 in
set_option maxHeartbeats 8000000 in
theorem dnAdd_c (va vb : Value) (x y : Rat) (k : Nat) (w : World) (hx : IsQP w va x) (hy : IsQP w vb y) (bx : BdQ k x) (by' : BdQ k y) (hk : k ≤ 1000000000) : Calls Tryz.prog 242 #[va, vb] w (AnsF (x + y) w) := by
  have OC := Lib.hid (fun V (q : Below w.heap.size w V) => pqAdd_c va vb x y k k V (hx.keep q) (hy.keep q) bx by' (by omega))
  clear bx by' hk
  obtain ⟨n1, a1, l1, c1, n2, a2, l2, c2, rfl, -, -⟩ := hx
  obtain ⟨n3, a3, l3, c3, n4, a4, l4, c4, rfl, -, -⟩ := hy
  have hB := Below.refl w.heap.size w
  unfold AnsF
  go_enter Tryz.func242, Tryz.ntmps242
  go_wp2_with fail
  (with_reducible refine (OC.out _ ?_).mono ?_); (repeat (first|exact bzR _ _|exact hB|refine bzD ?_|refine bzN ?_|refine bzS ?_|refine bzA ?_))
  rintro e w1 ⟨⟨v1, rfl, hv⟩, hb1⟩
  have r0 : w1.cell? ⟨w.heap.size + 1 + 1, 0, none⟩ = some (.bool false) := bkc hb1
  have zr0 := cell_lt r0
  have r0f : w1.frozen? ⟨w.heap.size + 1 + 1, 0, none⟩ = false := bkcf (v := .bool false) hb1
  have r1 : w1.cell? ⟨w.heap.size + 1 + 1, 1, none⟩ = some (.slice none 0 0) := bkc hb1
  have r1f : w1.frozen? ⟨w.heap.size + 1 + 1, 1, none⟩ = false := bkcf (v := .slice none 0 0) hb1
  have r2 : w1.cell? ⟨w.heap.size + 1 + 1, 2, none⟩ = some (.bool false) := bkc hb1
  have r2f : w1.frozen? ⟨w.heap.size + 1 + 1, 2, none⟩ = false := bkcf (v := .bool false) hb1
  have r3 : w1.cell? ⟨w.heap.size + 1 + 1, 3, none⟩ = some (.slice none 0 0) := bkc hb1
  have r3f : w1.frozen? ⟨w.heap.size + 1 + 1, 3, none⟩ = false := bkcf (v := .slice none 0 0) hb1
  have hB : Below w.heap.size w w1 := bthen (by repeat (first|exact bzR _ _|exact hB|refine bzD ?_|refine bzN ?_|refine bzS ?_|refine bzA ?_)) hb1
  have hz : w.heap.size ≤ w1.heap.size := hB.size
  clear OC hb1
  have HV := Lib.hid hv
  obtain ⟨m1, b1, k1, d1, m2, b2, k2, d2, rfl, -, -⟩ := hv
  have HQ := Lib.hid (IsQP.put4 HV.out r0 r1 r2 r3 (.bool m1) (.slice b1 k1 d1) (.bool m2) (.slice b2 k2 d2))
  have zr := cell_lt r0
  have hBf := hB
  clear HV
  go_wp2
  refine bodyPost_ret (v := .agg #[.bool m1, .slice b1 k1 d1, .bool m2, .slice b2 k2 d2]) (by simp [results, Tryz.results242, go_sem, *]) rfl ⟨⟨_, rfl, ?_⟩, ?_⟩
  · first | exact HQ.out | exact HQ.out.keep (Below.refl _ _).drew
  ·
    repeat (first|exact bzR _ _|exact hBf|refine bzD ?_|refine bzN ?_|refine bzS ?_|refine bzA ?_)
set_option maxRecDepth 100000 in
set_option maxHeartbeats 8000000 in
theorem dnSub_c (va vb : Value) (x y : Rat) (k : Nat) (w : World) (hx : IsQP w va x) (hy : IsQP w vb y) (bx : BdQ k x) (by' : BdQ k y) (hk : k ≤ 1000000000) : Calls Tryz.prog 243 #[va, vb] w (AnsF (x - y) w) := by
  have OC := Lib.hid (fun V (q : Below w.heap.size w V) => pqSub_c va vb x y k k V (hx.keep q) (hy.keep q) bx by' (by omega))
  clear bx by' hk
  obtain ⟨n1, a1, l1, c1, n2, a2, l2, c2, rfl, -, -⟩ := hx
  obtain ⟨n3, a3, l3, c3, n4, a4, l4, c4, rfl, -, -⟩ := hy
  have hB := Below.refl w.heap.size w
  unfold AnsF
  go_enter Tryz.func243, Tryz.ntmps243
  go_wp2_with fail
  (with_reducible refine (OC.out _ ?_).mono ?_); (repeat (first|exact bzR _ _|exact hB|refine bzD ?_|refine bzN ?_|refine bzS ?_|refine bzA ?_))
  rintro e w1 ⟨⟨v1, rfl, hv⟩, hb1⟩
  have r0 : w1.cell? ⟨w.heap.size + 1 + 1, 0, none⟩ = some (.bool false) := bkc hb1
  have zr0 := cell_lt r0
  have r0f : w1.frozen? ⟨w.heap.size + 1 + 1, 0, none⟩ = false := bkcf (v := .bool false) hb1
  have r1 : w1.cell? ⟨w.heap.size + 1 + 1, 1, none⟩ = some (.slice none 0 0) := bkc hb1
  have r1f : w1.frozen? ⟨w.heap.size + 1 + 1, 1, none⟩ = false := bkcf (v := .slice none 0 0) hb1
  have r2 : w1.cell? ⟨w.heap.size + 1 + 1, 2, none⟩ = some (.bool false) := bkc hb1
  have r2f : w1.frozen? ⟨w.heap.size + 1 + 1, 2, none⟩ = false := bkcf (v := .bool false) hb1
  have r3 : w1.cell? ⟨w.heap.size + 1 + 1, 3, none⟩ = some (.slice none 0 0) := bkc hb1
  have r3f : w1.frozen? ⟨w.heap.size + 1 + 1, 3, none⟩ = false := bkcf (v := .slice none 0 0) hb1
  have hB : Below w.heap.size w w1 := bthen (by repeat (first|exact bzR _ _|exact hB|refine bzD ?_|refine bzN ?_|refine bzS ?_|refine bzA ?_)) hb1
  have hz : w.heap.size ≤ w1.heap.size := hB.size
  clear OC hb1
  have HV := Lib.hid hv
  obtain ⟨m1, b1, k1, d1, m2, b2, k2, d2, rfl, -, -⟩ := hv
  have HQ := Lib.hid (IsQP.put4 HV.out r0 r1 r2 r3 (.bool m1) (.slice b1 k1 d1) (.bool m2) (.slice b2 k2 d2))
  have zr := cell_lt r0
  have hBf := hB
  clear HV
  go_wp2
  refine bodyPost_ret (v := .agg #[.bool m1, .slice b1 k1 d1, .bool m2, .slice b2 k2 d2]) (by simp [results, Tryz.results243, go_sem, *]) rfl ⟨⟨_, rfl, ?_⟩, ?_⟩
  · first | exact HQ.out | exact HQ.out.keep (Below.refl _ _).drew
  ·
    repeat (first|exact bzR _ _|exact hBf|refine bzD ?_|refine bzN ?_|refine bzS ?_|refine bzA ?_)
set_option maxRecDepth 100000 in
set_option maxHeartbeats 8000000 in
theorem dnMove_c (va vb : Value) (x y : Rat) (w : World) (hx : IsQP w va x) (hy : IsQP w vb y) : Calls Tryz.prog 251 #[va, vb] w (AnsF x w) := by
  have HX := Lib.hid hx
  obtain ⟨n1, a1, l1, c1, n2, a2, l2, c2, rfl, -, -⟩ := hx
  obtain ⟨n3, a3, l3, c3, n4, a4, l4, c4, rfl, -, -⟩ := hy
  have hB := Below.refl w.heap.size w
  unfold AnsF
  go_enter Tryz.func251, Tryz.ntmps251
  go_wp2
  refine bodyPost_ret (v := .agg #[.bool n1, .slice a1 l1 c1, .bool n2, .slice a2 l2 c2]) (by simp [results, Tryz.results251, go_sem]) rfl ⟨⟨_, rfl, ?_⟩, ?_⟩
  · exact HX.out.keep (by repeat (first|exact bzR _ _|exact hB|refine bzD ?_|refine bzN ?_|refine bzS ?_|refine bzA ?_))
  ·
    repeat (first|exact bzR _ _|exact hB|refine bzD ?_|refine bzN ?_|refine bzS ?_|refine bzA ?_)
set_option maxRecDepth 100000 in
set_option maxHeartbeats 8000000 in
theorem dnMul_c (va vb : Value) (x y c : Rat) (cb k m : Nat) (w : World) (hx : IsQP w va x) (hy : IsQP w vb y) (hc : FrC IsQP w cb 0 c) (bx : BdQ k x) (bc : BdQ m c) (hk : k + m ≤ 17179869180) : Calls Tryz.prog 245 #[va, vb, .pointer (some ⟨cb, 0, none⟩)] w (AnsF (x * c) w) := by
  have OCC := fun {vc : Value} V (h1 : IsQP V va x) (h2 : IsQP V vc c) => pqMul_c va vc x c k m V h1 h2 bx bc hk
  clear bx bc hk
  obtain ⟨q1, b1, k1, d1, q2, b2, k2, d2, g0, g1, g2, g3, gI⟩ := hc
  have OC := Lib.hid (fun V (q : Below w.heap.size w V) => OCC V (hx.keep q) (gI.keep q))
  have zg := cell_lt g0
  have zg1 : cb < w.heap.size + 1 := by omega
  have zg2 : cb < w.heap.size + 1 + 1 := by omega
  have zg3 : cb < w.heap.size + 1 + 1 + 1 := by omega
  clear gI OCC
  obtain ⟨n1, a1, l1, c1, n2, a2, l2, c2, rfl, -, -⟩ := hx
  obtain ⟨n3, a3, l3, c3, n4, a4, l4, c4, rfl, -, -⟩ := hy
  have hB := Below.refl w.heap.size w
  unfold AnsF
  go_enter Tryz.func245, Tryz.ntmps245
  go_wp2_with fail
  (with_reducible refine (OC.out _ ?_).mono ?_); (repeat (first|exact bzR _ _|exact hB|refine bzD ?_|refine bzN ?_|refine bzS ?_|refine bzA ?_))
  rintro e w1 ⟨⟨v1, rfl, hv⟩, hb1⟩
  have r0 : w1.cell? ⟨w.heap.size + 1 + 1, 0, none⟩ = some (.bool false) := bkc hb1
  have zr0 := cell_lt r0
  have r0f : w1.frozen? ⟨w.heap.size + 1 + 1, 0, none⟩ = false := bkcf (v := .bool false) hb1
  have r1 : w1.cell? ⟨w.heap.size + 1 + 1, 1, none⟩ = some (.slice none 0 0) := bkc hb1
  have r1f : w1.frozen? ⟨w.heap.size + 1 + 1, 1, none⟩ = false := bkcf (v := .slice none 0 0) hb1
  have r2 : w1.cell? ⟨w.heap.size + 1 + 1, 2, none⟩ = some (.bool false) := bkc hb1
  have r2f : w1.frozen? ⟨w.heap.size + 1 + 1, 2, none⟩ = false := bkcf (v := .bool false) hb1
  have r3 : w1.cell? ⟨w.heap.size + 1 + 1, 3, none⟩ = some (.slice none 0 0) := bkc hb1
  have r3f : w1.frozen? ⟨w.heap.size + 1 + 1, 3, none⟩ = false := bkcf (v := .slice none 0 0) hb1
  have hB : Below w.heap.size w w1 := bthen (by repeat (first|exact bzR _ _|exact hB|refine bzD ?_|refine bzN ?_|refine bzS ?_|refine bzA ?_)) hb1
  have hz : w.heap.size ≤ w1.heap.size := hB.size
  clear OC hb1
  have HV := Lib.hid hv
  obtain ⟨m1, b1, k1, d1, m2, b2, k2, d2, rfl, -, -⟩ := hv
  have HQ := Lib.hid (IsQP.put4 HV.out r0 r1 r2 r3 (.bool m1) (.slice b1 k1 d1) (.bool m2) (.slice b2 k2 d2))
  have zr := cell_lt r0
  have hBf := hB
  clear HV
  go_wp2
  refine bodyPost_ret (v := .agg #[.bool m1, .slice b1 k1 d1, .bool m2, .slice b2 k2 d2]) (by simp [results, Tryz.results245, go_sem, *]) rfl ⟨⟨_, rfl, ?_⟩, ?_⟩
  · first | exact HQ.out | exact HQ.out.keep (Below.refl _ _).drew
  ·
    repeat (first|exact bzR _ _|exact hBf|refine bzD ?_|refine bzN ?_|refine bzS ?_|refine bzA ?_)
set_option maxRecDepth 100000 in
set_option maxHeartbeats 8000000 in
theorem dnDiv_c (va vb : Value) (x y c : Rat) (cb k m : Nat) (w : World) (hx : IsQP w va x) (hy : IsQP w vb y) (hc : FrC IsQP w cb 0 c) (bx : BdQ k x) (bc : BdQ m c) (hk : k + m ≤ 17179869180) (h0 : c ≠ 0) : Calls Tryz.prog 246 #[va, vb, .pointer (some ⟨cb, 0, none⟩)] w (AnsF (x / c) w) := by
  have OCC := fun {vc : Value} V (h1 : IsQP V va x) (h2 : IsQP V vc c) => dnOver_c va vc x c k m V h1 h2 bx bc hk h0
  unfold AnsF at OCC
  clear bx bc hk h0
  obtain ⟨q1, b1, k1, d1, q2, b2, k2, d2, g0, g1, g2, g3, gI⟩ := hc
  have OC := Lib.hid (fun V (q : Below w.heap.size w V) => OCC V (hx.keep q) (gI.keep q))
  have zg := cell_lt g0
  have zg1 : cb < w.heap.size + 1 := by omega
  have zg2 : cb < w.heap.size + 1 + 1 := by omega
  have zg3 : cb < w.heap.size + 1 + 1 + 1 := by omega
  clear gI OCC
  obtain ⟨n1, a1, l1, c1, n2, a2, l2, c2, rfl, -, -⟩ := hx
  obtain ⟨n3, a3, l3, c3, n4, a4, l4, c4, rfl, -, -⟩ := hy
  have hB := Below.refl w.heap.size w
  unfold AnsF
  go_enter Tryz.func246, Tryz.ntmps246
  go_wp2_with fail
  (with_reducible refine (OC.out _ ?_).mono ?_); (repeat (first|exact bzR _ _|exact hB|refine bzD ?_|refine bzN ?_|refine bzS ?_|refine bzA ?_))
  rintro e w1 ⟨⟨v1, rfl, hv⟩, hb1⟩
  have r0 : w1.cell? ⟨w.heap.size + 1 + 1, 0, none⟩ = some (.bool false) := bkc hb1
  have zr0 := cell_lt r0
  have r0f : w1.frozen? ⟨w.heap.size + 1 + 1, 0, none⟩ = false := bkcf (v := .bool false) hb1
  have r1 : w1.cell? ⟨w.heap.size + 1 + 1, 1, none⟩ = some (.slice none 0 0) := bkc hb1
  have r1f : w1.frozen? ⟨w.heap.size + 1 + 1, 1, none⟩ = false := bkcf (v := .slice none 0 0) hb1
  have r2 : w1.cell? ⟨w.heap.size + 1 + 1, 2, none⟩ = some (.bool false) := bkc hb1
  have r2f : w1.frozen? ⟨w.heap.size + 1 + 1, 2, none⟩ = false := bkcf (v := .bool false) hb1
  have r3 : w1.cell? ⟨w.heap.size + 1 + 1, 3, none⟩ = some (.slice none 0 0) := bkc hb1
  have r3f : w1.frozen? ⟨w.heap.size + 1 + 1, 3, none⟩ = false := bkcf (v := .slice none 0 0) hb1
  have hB : Below w.heap.size w w1 := bthen (by repeat (first|exact bzR _ _|exact hB|refine bzD ?_|refine bzN ?_|refine bzS ?_|refine bzA ?_)) hb1
  have hz : w.heap.size ≤ w1.heap.size := hB.size
  clear OC hb1
  have HV := Lib.hid hv
  obtain ⟨m1, b1, k1, d1, m2, b2, k2, d2, rfl, -, -⟩ := hv
  have HQ := Lib.hid (IsQP.put4 HV.out r0 r1 r2 r3 (.bool m1) (.slice b1 k1 d1) (.bool m2) (.slice b2 k2 d2))
  have zr := cell_lt r0
  have hBf := hB
  clear HV
  go_wp2
  refine bodyPost_ret (v := .agg #[.bool m1, .slice b1 k1 d1, .bool m2, .slice b2 k2 d2]) (by simp [results, Tryz.results246, go_sem, *]) rfl ⟨⟨_, rfl, ?_⟩, ?_⟩
  · first | exact HQ.out | exact HQ.out.keep (Below.refl _ _).drew
  ·
    repeat (first|exact bzR _ _|exact hBf|refine bzD ?_|refine bzN ?_|refine bzS ?_|refine bzA ?_)
theorem bd_pow {n m : Nat} (h : n < m) : BdQ m ((2 ^ n : Int) : Rat) := BdQ.whole (by unfold Bd; rw [Int.natAbs_pow]; exact Nat.pow_lt_pow_right (by omega) h) (by omega)
theorem pow_ne (n : Nat) : ((2 ^ n : Int) : Rat) ≠ 0 := fun h => by
  have h2 : (2 ^ n : Int) = 0 := by exact_mod_cast h
  exact absurd h2 (Int.pow_ne_zero (by omega))
set_option maxRecDepth 100000 in
set_option maxHeartbeats 8000000 in
theorem dnShl_c (va vb : Value) (x y : Rat) (n ib k : Nat) (w : World) (hx : IsQP w va x) (hy : IsQP w vb y) (hc : w.cell? ⟨ib, 4, none⟩ = some (.int .i64 (n : Int))) (bx : BdQ k x) (hk : k ≤ 1000000000) (hn : n ≤ 64) : Calls Tryz.prog 248 #[va, vb, .pointer (some ⟨ib, 0, none⟩)] w (AnsF (x * ((2 ^ n : Int) : Rat)) w) := by
  have PC := Lib.hid (fun V => dnPower_c n V (by omega))
  have OC := Lib.hid (fun v V (q : Below w.heap.size w V) (hv : IsQP V v ((2 ^ n : Int) : Rat)) => pqMul_c va v x _ k 65 V (hx.keep q) hv bx (bd_pow (by omega)) (by omega))
  obtain ⟨p, hp⟩ : ∃ p, ((2 ^ n : Int) : Rat) = p := ⟨_, rfl⟩
  rw [hp] at PC OC ⊢
  clear bx hk hn hp
  obtain ⟨n1, a1, l1, c1, n2, a2, l2, c2, rfl, -, -⟩ := hx
  obtain ⟨n3, a3, l3, c3, n4, a4, l4, c4, rfl, -, -⟩ := hy
  have hB := Below.refl w.heap.size w
  have zg := cell_lt hc
  unfold AnsF at *
  go_enter Tryz.func248, Tryz.ntmps248
  go_wp2
  refine wp_name fun w5 hW5 => ?_
  have HB5 := Lib.hid (show Below w.heap.size w w5 by rw [hW5]; repeat (first|exact bzR _ _|exact hB|refine bzD ?_|refine bzN ?_|refine bzS ?_|refine bzA ?_))
  have x0 : w5.cell? ⟨w.heap.size, 0, none⟩ = some (.bool n1) := by rw [hW5]; simp [go_sem]
  have x1 : w5.cell? ⟨w.heap.size, 1, none⟩ = some (.slice a1 l1 c1) := by rw [hW5]; simp [go_sem]
  have x2 : w5.cell? ⟨w.heap.size, 2, none⟩ = some (.bool n2) := by rw [hW5]; simp [go_sem]
  have x3 : w5.cell? ⟨w.heap.size, 3, none⟩ = some (.slice a2 l2 c2) := by rw [hW5]; simp [go_sem]
  have g4 := bkeep HB5.out hc
  have HRC := Lib.hid (show (w5.cell? ⟨w.heap.size + 1 + 1, 0, none⟩ = some (.bool false) ∧ w5.cell? ⟨w.heap.size + 1 + 1, 1, none⟩ = some (.slice none 0 0) ∧ w5.cell? ⟨w.heap.size + 1 + 1, 2, none⟩ = some (.bool false) ∧ w5.cell? ⟨w.heap.size + 1 + 1, 3, none⟩ = some (.slice none 0 0)) ∧ w5.frozen? ⟨w.heap.size + 1 + 1, 0, none⟩ = false ∧ w5.frozen? ⟨w.heap.size + 1 + 1, 1, none⟩ = false ∧ w5.frozen? ⟨w.heap.size + 1 + 1, 2, none⟩ = false ∧ w5.frozen? ⟨w.heap.size + 1 + 1, 3, none⟩ = false from by rw [hW5]; simp [go_sem])
  have HS := Lib.hid (show ∀ V, Below w5.heap.size w5 V → V.cell? ⟨w.heap.size, 0, none⟩ = some (.bool n1) ∧ V.cell? ⟨w.heap.size, 1, none⟩ = some (.slice a1 l1 c1) ∧ V.cell? ⟨w.heap.size, 2, none⟩ = some (.bool n2) ∧ V.cell? ⟨w.heap.size, 3, none⟩ = some (.slice a2 l2 c2) ∧ V.cell? ⟨ib, 4, none⟩ = some (.int .i64 (n : Int)) from fun V q => ⟨bkeep q x0, bkeep q x1, bkeep q x2, bkeep q x3, bkeep q g4⟩)
  have HSF := Lib.hid (show ∀ V, Below w5.heap.size w5 V → ∀ u0 u1 u2 u3, ((((V.setCell ⟨w.heap.size + 1 + 1, 0, none⟩ u0).setCell ⟨w.heap.size + 1 + 1, 1, none⟩ u1).setCell ⟨w.heap.size + 1 + 1, 2, none⟩ u2).setCell ⟨w.heap.size + 1 + 1, 3, none⟩ u3).cell? ⟨w.heap.size, 0, none⟩ = some (.bool n1) ∧ ((((V.setCell ⟨w.heap.size + 1 + 1, 0, none⟩ u0).setCell ⟨w.heap.size + 1 + 1, 1, none⟩ u1).setCell ⟨w.heap.size + 1 + 1, 2, none⟩ u2).setCell ⟨w.heap.size + 1 + 1, 3, none⟩ u3).cell? ⟨w.heap.size, 1, none⟩ = some (.slice a1 l1 c1) ∧ ((((V.setCell ⟨w.heap.size + 1 + 1, 0, none⟩ u0).setCell ⟨w.heap.size + 1 + 1, 1, none⟩ u1).setCell ⟨w.heap.size + 1 + 1, 2, none⟩ u2).setCell ⟨w.heap.size + 1 + 1, 3, none⟩ u3).cell? ⟨w.heap.size, 2, none⟩ = some (.bool n2) ∧ ((((V.setCell ⟨w.heap.size + 1 + 1, 0, none⟩ u0).setCell ⟨w.heap.size + 1 + 1, 1, none⟩ u1).setCell ⟨w.heap.size + 1 + 1, 2, none⟩ u2).setCell ⟨w.heap.size + 1 + 1, 3, none⟩ u3).cell? ⟨w.heap.size, 3, none⟩ = some (.slice a2 l2 c2) ∧ ((((V.setCell ⟨w.heap.size + 1 + 1, 0, none⟩ u0).setCell ⟨w.heap.size + 1 + 1, 1, none⟩ u1).setCell ⟨w.heap.size + 1 + 1, 2, none⟩ u2).setCell ⟨w.heap.size + 1 + 1, 3, none⟩ u3).cell? ⟨ib, 4, none⟩ = some (.int .i64 (n : Int)) from fun V q u0 u1 u2 u3 => by
    obtain ⟨y0, y1, y2, y3, y4⟩ := HS.out V q
    exact ⟨far4 y0 (by omega) _ _ _ _, far4 y1 (by omega) _ _ _ _, far4 y2 (by omega) _ _ _ _, far4 y3 (by omega) _ _ _ _, far4 y4 (by omega) _ _ _ _⟩)
  have hBw := Below.refl w5.heap.size w5
  have zx := cell_lt x0
  have zg5 := cell_lt g4
  clear hW5 hB hc zg
  go_region_held3 (fun V => V.cell? ⟨w.heap.size, 0, none⟩ = some (.bool n1) ∧ V.cell? ⟨w.heap.size, 1, none⟩ = some (.slice a1 l1 c1) ∧ V.cell? ⟨w.heap.size, 2, none⟩ = some (.bool n2) ∧ V.cell? ⟨w.heap.size, 3, none⟩ = some (.slice a2 l2 c2) ∧ V.cell? ⟨ib, 4, none⟩ = some (.int .i64 (n : Int)))
    (first | (with_reducible refine HSF.out _ ?_ _ _ _ _; (repeat (first|exact bzR _ _|exact hBw|refine bzD ?_|refine bzN ?_|refine bzS ?_|refine bzA ?_)); done) | (refine HS.out _ ?_; (repeat (first|exact bzR _ _|exact hBw|refine bzD ?_|refine bzN ?_|refine bzS ?_|refine bzA ?_)); done) | fail)
    (first
      | (go_at_call 249; refine (PC.out _).mono ?_; rintro e w6 ⟨⟨u6, rfl, hu6⟩, hb6⟩; (have hBd : Below w5.heap.size w5 w6 := bthen (by repeat (first|exact bzR _ _|exact hBw|refine bzD ?_|refine bzN ?_|refine bzS ?_|refine bzA ?_)) hb6; clear hBw; have hBw := hBd; clear hBd); have HU6 := Lib.hid hu6; have hy6 := Below.refl w6.heap.size w6; obtain ⟨pn, pa, pl, pc, pm, pb, pk, pd, rfl, -, -⟩ := hu6)
      | (go_at_call 38; refine (OC.out _ _ (bthen HB5.out ?_) (HU6.out.keep ?_)).mono ?_; (repeat (first|exact bzR _ _|exact hBw|refine bzD ?_|refine bzN ?_|refine bzS ?_|refine bzA ?_)); (repeat (first|exact bzR _ _|exact hy6|refine bzD ?_|refine bzN ?_|refine bzS ?_|refine bzA ?_)); rintro e w7 ⟨⟨u7, rfl, hu7⟩, hb7⟩; (have hBd : Below w5.heap.size w5 w7 := bthen (by repeat (first|exact bzR _ _|exact hBw|refine bzD ?_|refine bzN ?_|refine bzS ?_|refine bzA ?_)) hb7; clear hBw; have hBw := hBd; clear hBd); have HU7 := Lib.hid hu7; have r0f := bkeepf hBw HRC.out.1.1 HRC.out.2.1; have r1f := bkeepf hBw HRC.out.1.2.1 HRC.out.2.2.1; have r2f := bkeepf hBw HRC.out.1.2.2.1 HRC.out.2.2.2.1; have r3f := bkeepf hBw HRC.out.1.2.2.2 HRC.out.2.2.2.2; have r0 := bkeep hBw HRC.out.1.1; have r1 := bkeep hBw HRC.out.1.2.1; have r2 := bkeep hBw HRC.out.1.2.2.1; have r3 := bkeep hBw HRC.out.1.2.2.2; have zr := cell_lt r0; obtain ⟨m1, b1, k1, d1, m2, b2, k2, d2, rfl, -, -⟩ := hu7)
      | fail)
  all_goals
    have HQ := Lib.hid (IsQP.put4 HU7.out r0 r1 r2 r3 (.bool m1) (.slice b1 k1 d1) (.bool m2) (.slice b2 k2 d2))
    have hBf := bthen HB5.out hBw
    clear HRC HS HSF x0 x1 x2 x3 g4
    go_wp2
    refine bodyPost_ret (v := .agg #[.bool m1, .slice b1 k1 d1, .bool m2, .slice b2 k2 d2]) (by simp [results, Tryz.results248, go_sem, *]) rfl ⟨⟨_, rfl, ?_⟩, ?_⟩
    · first | exact HQ.out | exact HQ.out.keep (Below.refl _ _).drew
    ·
      repeat (first|exact bzR _ _|exact hBf|refine bzD ?_|refine bzN ?_|refine bzS ?_|refine bzA ?_)
set_option maxRecDepth 100000 in
set_option maxHeartbeats 8000000 in
theorem dnShr_c (va vb : Value) (x y : Rat) (n ib k : Nat) (w : World) (hx : IsQP w va x) (hy : IsQP w vb y) (hc : w.cell? ⟨ib, 4, none⟩ = some (.int .i64 (n : Int))) (bx : BdQ k x) (hk : k ≤ 1000000000) (hn : n ≤ 64) : Calls Tryz.prog 250 #[va, vb, .pointer (some ⟨ib, 0, none⟩)] w (AnsF (x / ((2 ^ n : Int) : Rat)) w) := by
  have PC := Lib.hid (fun V => dnPower_c n V (by omega))
  have OC := Lib.hid (fun v V (q : Below w.heap.size w V) (hv : IsQP V v ((2 ^ n : Int) : Rat)) => dnOver_c va v x _ k 65 V (hx.keep q) hv bx (bd_pow (by omega)) (by omega) (pow_ne n))
  obtain ⟨p, hp⟩ : ∃ p, ((2 ^ n : Int) : Rat) = p := ⟨_, rfl⟩
  rw [hp] at PC OC ⊢
  clear bx hk hn hp
  obtain ⟨n1, a1, l1, c1, n2, a2, l2, c2, rfl, -, -⟩ := hx
  obtain ⟨n3, a3, l3, c3, n4, a4, l4, c4, rfl, -, -⟩ := hy
  have hB := Below.refl w.heap.size w
  have zg := cell_lt hc
  unfold AnsF at *
  go_enter Tryz.func250, Tryz.ntmps250
  go_wp2
  refine wp_name fun w5 hW5 => ?_
  have HB5 := Lib.hid (show Below w.heap.size w w5 by rw [hW5]; repeat (first|exact bzR _ _|exact hB|refine bzD ?_|refine bzN ?_|refine bzS ?_|refine bzA ?_))
  have x0 : w5.cell? ⟨w.heap.size, 0, none⟩ = some (.bool n1) := by rw [hW5]; simp [go_sem]
  have x1 : w5.cell? ⟨w.heap.size, 1, none⟩ = some (.slice a1 l1 c1) := by rw [hW5]; simp [go_sem]
  have x2 : w5.cell? ⟨w.heap.size, 2, none⟩ = some (.bool n2) := by rw [hW5]; simp [go_sem]
  have x3 : w5.cell? ⟨w.heap.size, 3, none⟩ = some (.slice a2 l2 c2) := by rw [hW5]; simp [go_sem]
  have g4 := bkeep HB5.out hc
  have HRC := Lib.hid (show (w5.cell? ⟨w.heap.size + 1 + 1, 0, none⟩ = some (.bool false) ∧ w5.cell? ⟨w.heap.size + 1 + 1, 1, none⟩ = some (.slice none 0 0) ∧ w5.cell? ⟨w.heap.size + 1 + 1, 2, none⟩ = some (.bool false) ∧ w5.cell? ⟨w.heap.size + 1 + 1, 3, none⟩ = some (.slice none 0 0)) ∧ w5.frozen? ⟨w.heap.size + 1 + 1, 0, none⟩ = false ∧ w5.frozen? ⟨w.heap.size + 1 + 1, 1, none⟩ = false ∧ w5.frozen? ⟨w.heap.size + 1 + 1, 2, none⟩ = false ∧ w5.frozen? ⟨w.heap.size + 1 + 1, 3, none⟩ = false from by rw [hW5]; simp [go_sem])
  have HS := Lib.hid (show ∀ V, Below w5.heap.size w5 V → V.cell? ⟨w.heap.size, 0, none⟩ = some (.bool n1) ∧ V.cell? ⟨w.heap.size, 1, none⟩ = some (.slice a1 l1 c1) ∧ V.cell? ⟨w.heap.size, 2, none⟩ = some (.bool n2) ∧ V.cell? ⟨w.heap.size, 3, none⟩ = some (.slice a2 l2 c2) ∧ V.cell? ⟨ib, 4, none⟩ = some (.int .i64 (n : Int)) from fun V q => ⟨bkeep q x0, bkeep q x1, bkeep q x2, bkeep q x3, bkeep q g4⟩)
  have HSF := Lib.hid (show ∀ V, Below w5.heap.size w5 V → ∀ u0 u1 u2 u3, ((((V.setCell ⟨w.heap.size + 1 + 1, 0, none⟩ u0).setCell ⟨w.heap.size + 1 + 1, 1, none⟩ u1).setCell ⟨w.heap.size + 1 + 1, 2, none⟩ u2).setCell ⟨w.heap.size + 1 + 1, 3, none⟩ u3).cell? ⟨w.heap.size, 0, none⟩ = some (.bool n1) ∧ ((((V.setCell ⟨w.heap.size + 1 + 1, 0, none⟩ u0).setCell ⟨w.heap.size + 1 + 1, 1, none⟩ u1).setCell ⟨w.heap.size + 1 + 1, 2, none⟩ u2).setCell ⟨w.heap.size + 1 + 1, 3, none⟩ u3).cell? ⟨w.heap.size, 1, none⟩ = some (.slice a1 l1 c1) ∧ ((((V.setCell ⟨w.heap.size + 1 + 1, 0, none⟩ u0).setCell ⟨w.heap.size + 1 + 1, 1, none⟩ u1).setCell ⟨w.heap.size + 1 + 1, 2, none⟩ u2).setCell ⟨w.heap.size + 1 + 1, 3, none⟩ u3).cell? ⟨w.heap.size, 2, none⟩ = some (.bool n2) ∧ ((((V.setCell ⟨w.heap.size + 1 + 1, 0, none⟩ u0).setCell ⟨w.heap.size + 1 + 1, 1, none⟩ u1).setCell ⟨w.heap.size + 1 + 1, 2, none⟩ u2).setCell ⟨w.heap.size + 1 + 1, 3, none⟩ u3).cell? ⟨w.heap.size, 3, none⟩ = some (.slice a2 l2 c2) ∧ ((((V.setCell ⟨w.heap.size + 1 + 1, 0, none⟩ u0).setCell ⟨w.heap.size + 1 + 1, 1, none⟩ u1).setCell ⟨w.heap.size + 1 + 1, 2, none⟩ u2).setCell ⟨w.heap.size + 1 + 1, 3, none⟩ u3).cell? ⟨ib, 4, none⟩ = some (.int .i64 (n : Int)) from fun V q u0 u1 u2 u3 => by
    obtain ⟨y0, y1, y2, y3, y4⟩ := HS.out V q
    exact ⟨far4 y0 (by omega) _ _ _ _, far4 y1 (by omega) _ _ _ _, far4 y2 (by omega) _ _ _ _, far4 y3 (by omega) _ _ _ _, far4 y4 (by omega) _ _ _ _⟩)
  have hBw := Below.refl w5.heap.size w5
  have zx := cell_lt x0
  have zg5 := cell_lt g4
  clear hW5 hB hc zg
  go_region_held3 (fun V => V.cell? ⟨w.heap.size, 0, none⟩ = some (.bool n1) ∧ V.cell? ⟨w.heap.size, 1, none⟩ = some (.slice a1 l1 c1) ∧ V.cell? ⟨w.heap.size, 2, none⟩ = some (.bool n2) ∧ V.cell? ⟨w.heap.size, 3, none⟩ = some (.slice a2 l2 c2) ∧ V.cell? ⟨ib, 4, none⟩ = some (.int .i64 (n : Int)))
    (first | (with_reducible refine HSF.out _ ?_ _ _ _ _; (repeat (first|exact bzR _ _|exact hBw|refine bzD ?_|refine bzN ?_|refine bzS ?_|refine bzA ?_)); done) | (refine HS.out _ ?_; (repeat (first|exact bzR _ _|exact hBw|refine bzD ?_|refine bzN ?_|refine bzS ?_|refine bzA ?_)); done) | fail)
    (first
      | (go_at_call 249; refine (PC.out _).mono ?_; rintro e w6 ⟨⟨u6, rfl, hu6⟩, hb6⟩; (have hBd : Below w5.heap.size w5 w6 := bthen (by repeat (first|exact bzR _ _|exact hBw|refine bzD ?_|refine bzN ?_|refine bzS ?_|refine bzA ?_)) hb6; clear hBw; have hBw := hBd; clear hBd); have HU6 := Lib.hid hu6; have hy6 := Below.refl w6.heap.size w6; obtain ⟨pn, pa, pl, pc, pm, pb, pk, pd, rfl, -, -⟩ := hu6)
      | (go_at_call 247; refine (OC.out _ _ (bthen HB5.out ?_) (HU6.out.keep ?_)).mono ?_; (repeat (first|exact bzR _ _|exact hBw|refine bzD ?_|refine bzN ?_|refine bzS ?_|refine bzA ?_)); (repeat (first|exact bzR _ _|exact hy6|refine bzD ?_|refine bzN ?_|refine bzS ?_|refine bzA ?_)); rintro e w7 ⟨⟨u7, rfl, hu7⟩, hb7⟩; (have hBd : Below w5.heap.size w5 w7 := bthen (by repeat (first|exact bzR _ _|exact hBw|refine bzD ?_|refine bzN ?_|refine bzS ?_|refine bzA ?_)) hb7; clear hBw; have hBw := hBd; clear hBd); have HU7 := Lib.hid hu7; have r0f := bkeepf hBw HRC.out.1.1 HRC.out.2.1; have r1f := bkeepf hBw HRC.out.1.2.1 HRC.out.2.2.1; have r2f := bkeepf hBw HRC.out.1.2.2.1 HRC.out.2.2.2.1; have r3f := bkeepf hBw HRC.out.1.2.2.2 HRC.out.2.2.2.2; have r0 := bkeep hBw HRC.out.1.1; have r1 := bkeep hBw HRC.out.1.2.1; have r2 := bkeep hBw HRC.out.1.2.2.1; have r3 := bkeep hBw HRC.out.1.2.2.2; have zr := cell_lt r0; obtain ⟨m1, b1, k1, d1, m2, b2, k2, d2, rfl, -, -⟩ := hu7)
      | fail)
  all_goals
    have HQ := Lib.hid (IsQP.put4 HU7.out r0 r1 r2 r3 (.bool m1) (.slice b1 k1 d1) (.bool m2) (.slice b2 k2 d2))
    have hBf := bthen HB5.out hBw
    clear HRC HS HSF x0 x1 x2 x3 g4
    go_wp2
    refine bodyPost_ret (v := .agg #[.bool m1, .slice b1 k1 d1, .bool m2, .slice b2 k2 d2]) (by simp [results, Tryz.results250, go_sem, *]) rfl ⟨⟨_, rfl, ?_⟩, ?_⟩
    · first | exact HQ.out | exact HQ.out.keep (Below.refl _ _).drew
    ·
      repeat (first|exact bzR _ _|exact hBf|refine bzD ?_|refine bzN ?_|refine bzS ?_|refine bzA ?_)
end Go.Proofs.YtbmaffijncapiaaGreatDoor

/- A region that draws its order, in a round: a head whose calls answer what their arguments say and only make memory, and a tail whose order is forced: one walk. -/
namespace Go.Proofs.YtbmaffijncapiaaGreatDoor
open Go.ChangeShapes Go.WideShapes Go.ChangeAt Go.RowKit
set_option linter.unusedVariables false
set_option linter.unusedSimpArgs false
section
variable {P : Program} {ops : Array Oper} {md : Region.Mode} {C : World → Prop} {l n : Nat}
theorem wpAnyInR_of_seq {Q' : Exit → Act → World → Prop} : ∀ (L : List Oper) (k : Nat) (listed : Array Bool) (a : Act) (w : World), (∀ j, L[j]? = ops[k + j]?) →
    Region.seqB md ops L.length k listed = true → wpListIn (Fence.wide.inRound l) n P ops Q' L a w → wpAnyIn (Fence.wide.inRound l) n P md ops Q' L.length listed a w
  | [], _, _, _, _, _, hB, h => ⟨by simpa [Region.seqB] using hB, h⟩
  | o :: L, k, listed, a, w, hl, hB, h => by
    have h0 : ops[k]? = some o := by simpa using (hl 0).symm
    simp only [List.length_cons, Region.seqB, Bool.and_eq_true, decide_eq_true_eq] at hB
    refine ⟨fun h1 => (by rw [hB.1] at h1; cases h1), fun i hi => ?_⟩
    rw [hB.1] at hi
    have hik : i = k := by simpa using hi
    subst hik
    have hw : wpOpIn (Fence.wide.inRound l) n P ops Q' i (wpListIn (Fence.wide.inRound l) n P ops Q' L) a w := by unfold wpOpIn; simp only [h0]; exact h
    exact wpOpIn_mono (fun a' w' h' => wpAnyInR_of_seq L (i + 1) _ a' w' (fun j => by have := hl (j + 1); simpa [Nat.add_assoc, Nat.add_comm 1 j] using this) hB.2 h') hw
theorem headQ_anyInR {m g : Nat} {L : Array Bool → Act → Prop} {Q : Exit → Act → World → Prop} (hnd : ops.all noDefer = true) (hL : ∀ ls a w, C w → L ls a → wpAnyIn (Fence.wide.inRound l) n P md ops Q g ls a w) :
    ∀ (f : Nat) (ls : Array Bool) (a : Act) (w : World), C w → headQ P md ops C m L f ls a → wpAnyIn (Fence.wide.inRound l) n P md ops Q (f + g) ls a w := by
  intro f
  induction f with
  | zero => intro ls a w hw h; rw [Nat.zero_add]; exact hL _ _ _ hw h
  | succ f ih =>
    intro ls a w hw h
    rw [Nat.add_right_comm]
    exact ⟨fun h0 => absurd h0 h.1, fun i hi => wpOpInR_of_qOp hnd hw (fun a' w' hw' k => ih _ a' w' hw' k) (h.2 i hi).2⟩
end
theorem wpInR_region_grow_tail {P : Program} {id lp n : Nat} {Q : Exit → Act → World → Prop} {a : Act} {w : World} {l : List Oper} (m : Nat) (hm : P.follows .mixedOrders = true) (hB : Region.lexTailB .any l.toArray m = true) (hnd : l.toArray.all noDefer = true)
    (h : wpQuiet P l.toArray (fun w' => ∃ s, w' = grow w s) (fun a' => ∀ w', Below w.heap.size w w' → wpListIn (Fence.wide.inRound lp) n P l.toArray Q (l.drop m) a' w') (l.take m) a) : (Code.region id l.toArray true).wpIn (Fence.wide.inRound lp) n P Q a w := by
  have e : (fun a' => ∀ w', Below w.heap.size w w' → wpListIn (Fence.wide.inRound lp) n P l.toArray Q (l.drop m) a' w') = (fun a' => ∀ w', (∃ s, w' = grow w s) → wpListIn (Fence.wide.inRound lp) n P l.toArray Q (l.drop m) a' w') := by
    funext a'
    exact propext ⟨fun h w' ⟨s, hs⟩ => h w' (hs ▸ s.below), fun h w' hb => h w' ⟨⟨w', hb⟩, rfl⟩⟩
  rw [e] at h
  simp only [Region.lexTailB, Bool.and_eq_true, decide_eq_true_eq] at hB
  obtain ⟨⟨⟨⟨hsel, hn⟩, hs⟩, hc⟩, hlex⟩ := hB
  have hn' : m < l.length := by simpa using hn
  have ht : (l.take m).length = m := by rw [List.length_take]; omega
  have hd : (l.drop m).length = l.toArray.size - m := by simp
  have inv0 : HeadInv .any l.toArray m (Array.replicate l.toArray.size false) :=
    ⟨by simp, fun j oj _ hl => (by rw [getD_replicate_false] at hl; cases hl), fun t _ k => getD_in (by simpa using k) (getD_replicate_false _ _)⟩
  have H := headQ_lex (md := .any) (g := l.toArray.size - m) hsel hs hc hn (l.take m) 0 _ a (fun j hj => by
    have hj' : j < m := by rw [ht] at hj; exact hj
    simp [hj']) (by simpa using ht) inv0 (by rw [ht]; exact hlex) h
  refine wpIn_region_any hm ?_
  have := headQ_anyInR (l := lp) (n := n) (Q := Q) (g := l.toArray.size - m) hnd (fun ls a' w' hw' hL => by
    have := wpAnyInR_of_seq (md := .any) (Q' := Q) (l.drop m) m ls a' w' (fun j => by simp [List.getElem?_drop]) (by rw [hd]; exact hL.1) (hL.2 w' hw')
    rwa [hd] at this) _ _ _ _ (show ∃ s, { w with drawn := w.drawn + 1 } = grow w s from ⟨⟨w.drew, (Below.refl _ _).drew⟩, rfl⟩) H
  rw [ht, show m + (l.toArray.size - m) = l.toArray.size by omega] at this
  exact this
end Go.Proofs.YtbmaffijncapiaaGreatDoor

