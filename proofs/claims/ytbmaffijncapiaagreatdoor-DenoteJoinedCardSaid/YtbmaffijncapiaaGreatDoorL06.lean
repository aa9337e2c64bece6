/- Texts of this seat, laid together: IntH, Det, Bar. Each opens with its own remark, which says what it proves, and under which conditions. -/
import Derived.Test.YtbmaffijncapiaaGreatDoorL02
import Derived.Test.YtbmaffijncapiaaGreatDoorL05
set_option linter.unusedVariables false
set_option linter.unusedSimpArgs false
/- integer: Neg, Abs, Add, Sub. -/
namespace Go.Proofs.YtbmaffijncapiaaGreatDoor
open Num
open Go.ChangeShapes Go.WideShapes Go.ChangeAt Go.RowKit
set_option linter.unusedVariables false
set_option linter.unusedSimpArgs false
namespace Num
theorem sg_not (neg : Bool) (n : Nat) : sg (!neg) n = -sg neg n := by cases neg <;> simp [sg]
theorem Bd.neg {k : Nat} {x : Int} (h : Bd k x) : Bd k (-x) := by unfold Bd at *; rwa [Int.natAbs_neg]
theorem Bd.add {k : Nat} {x y : Int} (hx : Bd k x) (hy : Bd k y) : Bd (k + 1) (x + y) := by
  unfold Bd at *
  have := Int.natAbs_add_le x y
  rw [Nat.pow_succ]; omega
theorem sg_add (s : Bool) (m n : Nat) : sg s (m + n) = sg s m + sg s n := by cases s <;> simp [sg] <;> omega
theorem sg_sub_ge (s : Bool) (m n : Nat) (h : n ≤ m) : sg s (m - n) = sg s m + sg (!s) n := by cases s <;> simp [sg] <;> omega
theorem sg_sub_lt (s : Bool) (m n : Nat) (h : m ≤ n) : sg (!s) (n - m) = sg s m + sg (!s) n := by cases s <;> simp [sg] <;> omega
theorem cmpN_neg {x y : Nat} : (decide (cmpN x y < 0)) = decide (x < y) := by
  unfold cmpN
  by_cases h : x < y
  · rw [if_pos h]; simp [h]
  · rw [if_neg h]; split <;> simp [h]
end Num

set_option maxRecDepth 100000 in
set_option maxHeartbeats 1000000 in
theorem neg_c (vx : Value) (x : Int) (w : World) (hx : IsInt w vx x) :
    Calls Tryz.prog 160 #[vx] w fun e w' => (∃ v, e = .returned v ∧ IsInt w' v (-x)) ∧ Below w.heap.size w w' := by
  obtain ⟨n1, a1, c1, l1, rfl, u1, g1, s1, rfl⟩ := hx
  have mc := fun w h => made_c (!n1) a1 c1 l1 w h g1
  rw [sg_not] at mc
  clear s1 g1
  unfold iv
  have hB0 := Below.refl w.heap.size w
  go_enter Tryz.func160, Tryz.ntmps160
  go_wp2_with fail
  refine (mc _ (u1.keep (by repeat (first|exact bzR _ _|exact hB0|refine bzD ?_|refine bzN ?_|refine bzS ?_|refine bzA ?_)))).mono ?_
  rintro e w1 ⟨⟨v, rfl, hi⟩, hb1⟩
  have r0 : w1.cell? ⟨w.heap.size + 1, 0, none⟩ = some (.bool false) := bkc hb1
  have zr0 := cell_lt r0
  have r0f : w1.frozen? ⟨w.heap.size + 1, 0, none⟩ = false := bkcf (v := .bool false) hb1
  have r1 : w1.cell? ⟨w.heap.size + 1, 1, none⟩ = some (.slice none 0 0) := bkc hb1
  have r1f : w1.frozen? ⟨w.heap.size + 1, 1, none⟩ = false := bkcf (v := .slice none 0 0) hb1
  have hB : Below w.heap.size w w1 := bthen (by repeat (first|exact bzR _ _|exact hB|refine bzD ?_|refine bzN ?_|refine bzS ?_|refine bzA ?_)) hb1
  have hz : w.heap.size ≤ w1.heap.size := hB.size
  have HI2 := Lib.hid (hi.put2 r0 r1)
  obtain ⟨n4, a4, c4, l4, rfl, _, _, _, _⟩ := hi
  unfold iv at *
  go_wp2
  refine bodyPost_ret (v := .agg #[.bool n4, .slice a4 l4.length c4]) (by simp [results, Tryz.results160, go_sem, *]) rfl ⟨⟨_, rfl, HI2.out _ _⟩, ?_⟩
  repeat (first|exact bzR _ _|exact hB|refine bzD ?_|refine bzN ?_|refine bzS ?_|refine bzA ?_)




set_option maxRecDepth 100000 in
set_option maxHeartbeats 4000000 in
theorem addI_c (vx vy : Value) (x y : Int) (k : Nat) (w : World) (hx : IsInt w vx x) (hy : IsInt w vy y) (bx : Bd k x) (by' : Bd k y) (hk : k ≤ 17179869184) :
    Calls Tryz.prog 37 #[vx, vy] w fun e w' => (∃ v, e = .returned v ∧ IsInt w' v (x + y)) ∧ Below w.heap.size w w' := by
  obtain ⟨n1, a1, c1, l1, rfl, u1, g1, s1, rfl⟩ := hx
  obtain ⟨n2, a2, c2, l2, rfl, u2, g2, s2, rfl⟩ := hy
  have k1 := bd_len g1 (sg_bd bx) hk
  have k2 := bd_len g2 (sg_bd by') hk
  clear bx by' g1 g2 s1 s2
  have hB := Below.refl w.heap.size w
  unfold iv
  cases n1 <;> cases n2
  ·
    have ac := fun w h1 h2 => limbAdd_c a1 a2 c1 c2 l1 l2 w h1 h2 (by omega) (by omega)
    have dc := fun a L w h hn => made_c false a (List.length L) L w h hn
    have HS := Lib.hid (sg_add false (val l1) (val l2))
    go_enter Tryz.func37, Tryz.ntmps37
    go_wp2
    refine wp_name fun w0 hW0 => ?_
    have x0 : w0.cell? ⟨w.heap.size, 0, none⟩ = some (.bool false) := by rw [hW0]; exact (by first | assumption | exact cell_new (by with_reducible first | rfl | (simp; done) | (simp; omega)) rfl | (repeat (first | assumption | exact cell_new (by with_reducible first | rfl | (simp; done) | (simp; omega)) rfl | refine cell_alloc ?_ _ | refine cell_drew ?_ | refine cell_drewN ?_ _ | refine cell_far ?_ (by simp) _ | (refine cell_far ?_ (by simp <;> omega) _))) | simp [go_sem, *])
    have zx0 := cell_lt x0
    have x1 : w0.cell? ⟨w.heap.size, 1, none⟩ = some (.slice a1 l1.length c1) := by rw [hW0]; exact (by first | assumption | exact cell_new (by with_reducible first | rfl | (simp; done) | (simp; omega)) rfl | (repeat (first | assumption | exact cell_new (by with_reducible first | rfl | (simp; done) | (simp; omega)) rfl | refine cell_alloc ?_ _ | refine cell_drew ?_ | refine cell_drewN ?_ _ | refine cell_far ?_ (by simp) _ | (refine cell_far ?_ (by simp <;> omega) _))) | simp [go_sem, *])
    have y0 : w0.cell? ⟨w.heap.size + 1, 0, none⟩ = some (.bool false) := by rw [hW0]; exact (by first | assumption | exact cell_new (by with_reducible first | rfl | (simp; done) | (simp; omega)) rfl | (repeat (first | assumption | exact cell_new (by with_reducible first | rfl | (simp; done) | (simp; omega)) rfl | refine cell_alloc ?_ _ | refine cell_drew ?_ | refine cell_drewN ?_ _ | refine cell_far ?_ (by simp) _ | (refine cell_far ?_ (by simp <;> omega) _))) | simp [go_sem, *])
    have zy0 := cell_lt y0
    have y1 : w0.cell? ⟨w.heap.size + 1, 1, none⟩ = some (.slice a2 l2.length c2) := by rw [hW0]; exact (by first | assumption | exact cell_new (by with_reducible first | rfl | (simp; done) | (simp; omega)) rfl | (repeat (first | assumption | exact cell_new (by with_reducible first | rfl | (simp; done) | (simp; omega)) rfl | refine cell_alloc ?_ _ | refine cell_drew ?_ | refine cell_drewN ?_ _ | refine cell_far ?_ (by simp) _ | (refine cell_far ?_ (by simp <;> omega) _))) | simp [go_sem, *])
    have r0f : w0.frozen? ⟨w.heap.size + 2, 0, none⟩ = false := by rw [hW0]; simp [go_sem, *]
    have r0 : w0.cell? ⟨w.heap.size + 2, 0, none⟩ = some (.bool false) := by rw [hW0]; exact (by first | assumption | exact cell_new (by with_reducible first | rfl | (simp; done) | (simp; omega)) rfl | (repeat (first | assumption | exact cell_new (by with_reducible first | rfl | (simp; done) | (simp; omega)) rfl | refine cell_alloc ?_ _ | refine cell_drew ?_ | refine cell_drewN ?_ _ | refine cell_far ?_ (by simp) _ | (refine cell_far ?_ (by simp <;> omega) _))) | simp [go_sem, *])
    have zr0 := cell_lt r0
    have r1f : w0.frozen? ⟨w.heap.size + 2, 1, none⟩ = false := by rw [hW0]; simp [go_sem, *]
    have r1 : w0.cell? ⟨w.heap.size + 2, 1, none⟩ = some (.slice none 0 0) := by rw [hW0]; exact (by first | assumption | exact cell_new (by with_reducible first | rfl | (simp; done) | (simp; omega)) rfl | (repeat (first | assumption | exact cell_new (by with_reducible first | rfl | (simp; done) | (simp; omega)) rfl | refine cell_alloc ?_ _ | refine cell_drew ?_ | refine cell_drewN ?_ _ | refine cell_far ?_ (by simp) _ | (refine cell_far ?_ (by simp <;> omega) _))) | simp [go_sem, *])
    have hB : Below w.heap.size w w0 := by rw [hW0]; repeat (first|exact bzR _ _|exact hB|refine bzD ?_|refine bzN ?_|refine bzS ?_|refine bzA ?_)
    have hz : w.heap.size ≤ w0.heap.size := hB.size
    clear hW0
    have hBc : Below w0.heap.size w0 w0.drew := (Below.refl _ _).drew
    have HB0 := Lib.hid hB
    go_region_held3 (fun w' => w'.cell? ⟨w.heap.size, 0, none⟩ = some (.bool false) ∧ w'.cell? ⟨w.heap.size, 1, none⟩ = some (.slice a1 l1.length c1) ∧ w'.cell? ⟨w.heap.size + 1, 1, none⟩ = some (.slice a2 l2.length c2))
      (first | exact ⟨x0, x1, y1⟩ | exact ⟨bkeep hBc x0, bkeep hBc x1, bkeep hBc y1⟩ | exact ⟨cell_far (cell_far (bkeep hBc x0) (addr_ne (by omega)) _) (addr_ne (by omega)) _, cell_far (cell_far (bkeep hBc x1) (addr_ne (by omega)) _) (addr_ne (by omega)) _, cell_far (cell_far (bkeep hBc y1) (addr_ne (by omega)) _) (addr_ne (by omega)) _⟩)
      (first
        | (go_at_call 123; refine (ac _ (u1.keep (bthen HB0.out hBc)) (u2.keep (bthen HB0.out hBc))).mono ?_; rintro e w3 ⟨⟨u3, rfl, a3, k3, L, rfl, rfl, hu, hn, hv⟩, hb3⟩; (replace hBc := bthen hBc hb3))
        | (go_at_call 122; refine (dc _ _ _ hu hn).mono ?_; rintro e w4 ⟨⟨v, rfl, hi⟩, hb4⟩; (replace hBc := bthen hBc hb4); (replace r0f := bkeepf hBc r0 r0f); (replace r1f := bkeepf hBc r1 r1f); (replace r0 := bkeep hBc r0); (replace r1 := bkeep hBc r1); (rw [hv, HS.out] at hi); (have HI2 := Lib.hid (hi.put2 r0 r1)); (obtain ⟨n4, a4, c4, l4, rfl, _, _, _, _⟩ := hi); unfold iv at *))
    have hB9 := bthen HB0.out hBc
    clear x0 x1 y0 y1
    go_wp2
    refine bodyPost_ret (v := .agg #[.bool n4, .slice a4 l4.length c4]) (by simp [results, Tryz.results37, go_sem, *]) rfl ⟨⟨_, rfl, HI2.out _ _⟩, ?_⟩
    repeat (first|exact bzR _ _|exact hB9|refine bzD ?_|refine bzN ?_|refine bzS ?_|refine bzA ?_)
  ·
    have cc := fun w h1 h2 => limbCmp_c a1 a2 c1 c2 l1 l2 w h1 h2
    have dc := fun S a L w h hn => made_c S a (List.length L) L w h hn
    have hcz := cmpN_neg (x := val l1) (y := val l2)
    by_cases hlt : val l1 < val l2
    · have sc := fun w h1 h2 => limbSub_c a2 a1 c2 c1 l2 l1 w h1 h2 (by omega) (Nat.le_of_lt hlt)
      rw [show decide (val l1 < val l2) = true from by simpa using hlt] at hcz
      have HS := Lib.hid (show sg true (val l2 - val l1) = sg false (val l1) + sg true (val l2) from sg_sub_lt false _ _ (Nat.le_of_lt hlt))
      clear hlt
      go_enter Tryz.func37, Tryz.ntmps37
      go_wp2_with fail
      generalize cmpN (val l1) (val l2) = z at *
      refine (cc _ (u1.keep (by repeat (first|exact bzR _ _|exact hB|refine bzD ?_|refine bzN ?_|refine bzS ?_|refine bzA ?_))) (u2.keep (by repeat (first|exact bzR _ _|exact hB|refine bzD ?_|refine bzN ?_|refine bzS ?_|refine bzA ?_)))).mono ?_
      rintro e w1 ⟨rfl, hb1⟩
      have x0 : w1.cell? ⟨w.heap.size, 0, none⟩ = some (.bool false) := bkc hb1
      have zx0 := cell_lt x0
      have x0f : w1.frozen? ⟨w.heap.size, 0, none⟩ = false := bkcf (v := .bool false) hb1
      have x1 : w1.cell? ⟨w.heap.size, 1, none⟩ = some (.slice a1 l1.length c1) := bkc hb1
      have x1f : w1.frozen? ⟨w.heap.size, 1, none⟩ = false := bkcf (v := .slice a1 l1.length c1) hb1
      have y0 : w1.cell? ⟨w.heap.size + 1, 0, none⟩ = some (.bool true) := bkc hb1
      have zy0 := cell_lt y0
      have y0f : w1.frozen? ⟨w.heap.size + 1, 0, none⟩ = false := bkcf (v := .bool true) hb1
      have y1 : w1.cell? ⟨w.heap.size + 1, 1, none⟩ = some (.slice a2 l2.length c2) := bkc hb1
      have y1f : w1.frozen? ⟨w.heap.size + 1, 1, none⟩ = false := bkcf (v := .slice a2 l2.length c2) hb1
      have r0 : w1.cell? ⟨w.heap.size + 2, 0, none⟩ = some (.bool false) := bkc hb1
      have zr0 := cell_lt r0
      have r0f : w1.frozen? ⟨w.heap.size + 2, 0, none⟩ = false := bkcf (v := .bool false) hb1
      have r1 : w1.cell? ⟨w.heap.size + 2, 1, none⟩ = some (.slice none 0 0) := bkc hb1
      have r1f : w1.frozen? ⟨w.heap.size + 2, 1, none⟩ = false := bkcf (v := .slice none 0 0) hb1
      have hB : Below w.heap.size w w1 := bthen (by repeat (first|exact bzR _ _|exact hB|refine bzD ?_|refine bzN ?_|refine bzS ?_|refine bzA ?_)) hb1
      have hz : w.heap.size ≤ w1.heap.size := hB.size
      clear cc hb1
      go_wp2_with fail
      refine (sc _ (u2.keep (by repeat (first|exact bzR _ _|exact hB|refine bzD ?_|refine bzN ?_|refine bzS ?_|refine bzA ?_))) (u1.keep (by repeat (first|exact bzR _ _|exact hB|refine bzD ?_|refine bzN ?_|refine bzS ?_|refine bzA ?_)))).mono ?_
      rintro e w2 ⟨⟨u3, rfl, a3, k3, L, rfl, rfl, hu, hn, hv⟩, hb2⟩
      have hB2 : Below w.heap.size w w2 := bthen (bset (bset (bset (bset hB (p := ⟨w.heap.size, 0, none⟩) (Nat.le_refl _) _) (p := ⟨w.heap.size, 1, none⟩) (Nat.le_refl _) _) (p := ⟨w.heap.size + 1, 0, none⟩) (by simp) _) (p := ⟨w.heap.size + 1, 1, none⟩) (by simp) _) hb2
      have n1 : w.heap.size ≠ w.heap.size + 2 := by omega
      have n2 : w.heap.size + 1 ≠ w.heap.size + 2 := by omega
      have n3 : w.heap.size + 1 ≠ w.heap.size := by omega
      have xx0 := bkeep hb2 (cell_far (cell_far (cell_far (cell_here x0 (.bool true)) (by simp) (.slice a2 l2.length c2)) (addr_ne n3) (.bool false)) (addr_ne n3) (.slice a1 l1.length c1))
      have rr0 := cell_far (cell_far (cell_far (cell_far r0 (p := ⟨w.heap.size, 0, none⟩) (addr_ne n1) (.bool true)) (p := ⟨w.heap.size, 1, none⟩) (addr_ne n1) (.slice a2 l2.length c2)) (p := ⟨w.heap.size + 1, 0, none⟩) (addr_ne n2) (.bool false)) (p := ⟨w.heap.size + 1, 1, none⟩) (addr_ne n2) (.slice a1 l1.length c1)
      have rr1 := cell_far (cell_far (cell_far (cell_far r1 (p := ⟨w.heap.size, 0, none⟩) (addr_ne n1) (.bool true)) (p := ⟨w.heap.size, 1, none⟩) (addr_ne n1) (.slice a2 l2.length c2)) (p := ⟨w.heap.size + 1, 0, none⟩) (addr_ne n2) (.bool false)) (p := ⟨w.heap.size + 1, 1, none⟩) (addr_ne n2) (.slice a1 l1.length c1)
      replace r0f := bkeepf hb2 rr0 (by rw [World.frozen?_setCell, World.frozen?_setCell, World.frozen?_setCell, World.frozen?_setCell]; exact r0f)
      replace r1f := bkeepf hb2 rr1 (by rw [World.frozen?_setCell, World.frozen?_setCell, World.frozen?_setCell, World.frozen?_setCell]; exact r1f)
      replace r0 := bkeep hb2 rr0
      replace r1 := bkeep hb2 rr1
      clear x0 x1 y0 y1 x0f x1f y0f y1f rr0 rr1 hb2 n1 n2 n3 hB
      go_wp2_with fail
      refine (dc true _ _ _ hu hn).mono ?_
      rintro e w3 ⟨⟨v, rfl, hi⟩, hb3⟩
      replace r0f := bkeepf hb3 r0 r0f
      replace r1f := bkeepf hb3 r1 r1f
      replace r0 := bkeep hb3 r0
      replace r1 := bkeep hb3 r1
      have hB := bthen hB2 hb3
      rw [hv, HS.out] at hi
      have HI2 := Lib.hid (hi.put2 r0 r1)
      obtain ⟨n4, a4, c4, l4, rfl, _, _, _, _⟩ := hi
      unfold iv at *
      go_wp2
      refine bodyPost_ret (v := .agg #[.bool n4, .slice a4 l4.length c4]) (by simp [results, Tryz.results37, go_sem, *]) rfl ⟨⟨_, rfl, HI2.out _ _⟩, ?_⟩
      repeat (first|exact bzR _ _|exact hB|refine bzD ?_|refine bzN ?_|refine bzS ?_|refine bzA ?_)
    · have sc := fun w h1 h2 => limbSub_c a1 a2 c1 c2 l1 l2 w h1 h2 (by omega) (by omega)
      rw [show decide (val l1 < val l2) = false from by simpa using hlt] at hcz
      have HS := Lib.hid (show sg false (val l1 - val l2) = sg false (val l1) + sg true (val l2) from sg_sub_ge false _ _ (by omega))
      clear hlt
      go_enter Tryz.func37, Tryz.ntmps37
      go_wp2_with fail
      generalize cmpN (val l1) (val l2) = z at *
      refine (cc _ (u1.keep (by repeat (first|exact bzR _ _|exact hB|refine bzD ?_|refine bzN ?_|refine bzS ?_|refine bzA ?_))) (u2.keep (by repeat (first|exact bzR _ _|exact hB|refine bzD ?_|refine bzN ?_|refine bzS ?_|refine bzA ?_)))).mono ?_
      rintro e w1 ⟨rfl, hb1⟩
      have x0 : w1.cell? ⟨w.heap.size, 0, none⟩ = some (.bool false) := bkc hb1
      have zx0 := cell_lt x0
      have x0f : w1.frozen? ⟨w.heap.size, 0, none⟩ = false := bkcf (v := .bool false) hb1
      have x1 : w1.cell? ⟨w.heap.size, 1, none⟩ = some (.slice a1 l1.length c1) := bkc hb1
      have x1f : w1.frozen? ⟨w.heap.size, 1, none⟩ = false := bkcf (v := .slice a1 l1.length c1) hb1
      have y0 : w1.cell? ⟨w.heap.size + 1, 0, none⟩ = some (.bool true) := bkc hb1
      have zy0 := cell_lt y0
      have y0f : w1.frozen? ⟨w.heap.size + 1, 0, none⟩ = false := bkcf (v := .bool true) hb1
      have y1 : w1.cell? ⟨w.heap.size + 1, 1, none⟩ = some (.slice a2 l2.length c2) := bkc hb1
      have y1f : w1.frozen? ⟨w.heap.size + 1, 1, none⟩ = false := bkcf (v := .slice a2 l2.length c2) hb1
      have r0 : w1.cell? ⟨w.heap.size + 2, 0, none⟩ = some (.bool false) := bkc hb1
      have zr0 := cell_lt r0
      have r0f : w1.frozen? ⟨w.heap.size + 2, 0, none⟩ = false := bkcf (v := .bool false) hb1
      have r1 : w1.cell? ⟨w.heap.size + 2, 1, none⟩ = some (.slice none 0 0) := bkc hb1
      have r1f : w1.frozen? ⟨w.heap.size + 2, 1, none⟩ = false := bkcf (v := .slice none 0 0) hb1
      have hB : Below w.heap.size w w1 := bthen (by repeat (first|exact bzR _ _|exact hB|refine bzD ?_|refine bzN ?_|refine bzS ?_|refine bzA ?_)) hb1
      have hz : w.heap.size ≤ w1.heap.size := hB.size
      go_wp2_with fail
      refine (sc _ (u1.keep hB) (u2.keep hB)).mono ?_
      rintro e w2 ⟨⟨u3, rfl, a3, k3, L, rfl, rfl, hu, hn, hv⟩, hb2⟩
      have x0 : w2.cell? ⟨w.heap.size, 0, none⟩ = some (.bool false) := bkc hb2
      have zx0 := cell_lt x0
      have x0f : w2.frozen? ⟨w.heap.size, 0, none⟩ = false := bkcf (v := .bool false) hb2
      have x1 : w2.cell? ⟨w.heap.size, 1, none⟩ = some (.slice a1 l1.length c1) := bkc hb2
      have x1f : w2.frozen? ⟨w.heap.size, 1, none⟩ = false := bkcf (v := .slice a1 l1.length c1) hb2
      have y0 : w2.cell? ⟨w.heap.size + 1, 0, none⟩ = some (.bool true) := bkc hb2
      have zy0 := cell_lt y0
      have y0f : w2.frozen? ⟨w.heap.size + 1, 0, none⟩ = false := bkcf (v := .bool true) hb2
      have y1 : w2.cell? ⟨w.heap.size + 1, 1, none⟩ = some (.slice a2 l2.length c2) := bkc hb2
      have y1f : w2.frozen? ⟨w.heap.size + 1, 1, none⟩ = false := bkcf (v := .slice a2 l2.length c2) hb2
      have r0 : w2.cell? ⟨w.heap.size + 2, 0, none⟩ = some (.bool false) := bkc hb2
      have zr0 := cell_lt r0
      have r0f : w2.frozen? ⟨w.heap.size + 2, 0, none⟩ = false := bkcf (v := .bool false) hb2
      have r1 : w2.cell? ⟨w.heap.size + 2, 1, none⟩ = some (.slice none 0 0) := bkc hb2
      have r1f : w2.frozen? ⟨w.heap.size + 2, 1, none⟩ = false := bkcf (v := .slice none 0 0) hb2
      have hB : Below w.heap.size w w2 := bthen (by repeat (first|exact bzR _ _|exact hB|refine bzD ?_|refine bzN ?_|refine bzS ?_|refine bzA ?_)) hb2
      have hz : w.heap.size ≤ w2.heap.size := hB.size
      go_wp2_with fail
      refine (dc false _ _ _ hu hn).mono ?_
      rintro e w3 ⟨⟨v, rfl, hi⟩, hb3⟩
      have x0 : w3.cell? ⟨w.heap.size, 0, none⟩ = some (.bool false) := bkc hb3
      have zx0 := cell_lt x0
      have x0f : w3.frozen? ⟨w.heap.size, 0, none⟩ = false := bkcf (v := .bool false) hb3
      have x1 : w3.cell? ⟨w.heap.size, 1, none⟩ = some (.slice a1 l1.length c1) := bkc hb3
      have x1f : w3.frozen? ⟨w.heap.size, 1, none⟩ = false := bkcf (v := .slice a1 l1.length c1) hb3
      have y0 : w3.cell? ⟨w.heap.size + 1, 0, none⟩ = some (.bool true) := bkc hb3
      have zy0 := cell_lt y0
      have y0f : w3.frozen? ⟨w.heap.size + 1, 0, none⟩ = false := bkcf (v := .bool true) hb3
      have y1 : w3.cell? ⟨w.heap.size + 1, 1, none⟩ = some (.slice a2 l2.length c2) := bkc hb3
      have y1f : w3.frozen? ⟨w.heap.size + 1, 1, none⟩ = false := bkcf (v := .slice a2 l2.length c2) hb3
      have r0 : w3.cell? ⟨w.heap.size + 2, 0, none⟩ = some (.bool false) := bkc hb3
      have zr0 := cell_lt r0
      have r0f : w3.frozen? ⟨w.heap.size + 2, 0, none⟩ = false := bkcf (v := .bool false) hb3
      have r1 : w3.cell? ⟨w.heap.size + 2, 1, none⟩ = some (.slice none 0 0) := bkc hb3
      have r1f : w3.frozen? ⟨w.heap.size + 2, 1, none⟩ = false := bkcf (v := .slice none 0 0) hb3
      have hB : Below w.heap.size w w3 := bthen (by repeat (first|exact bzR _ _|exact hB|refine bzD ?_|refine bzN ?_|refine bzS ?_|refine bzA ?_)) hb3
      have hz : w.heap.size ≤ w3.heap.size := hB.size
      rw [hv, HS.out] at hi
      have HI2 := Lib.hid (hi.put2 r0 r1)
      obtain ⟨n4, a4, c4, l4, rfl, _, _, _, _⟩ := hi
      unfold iv at *
      go_wp2
      refine bodyPost_ret (v := .agg #[.bool n4, .slice a4 l4.length c4]) (by simp [results, Tryz.results37, go_sem, *]) rfl ⟨⟨_, rfl, HI2.out _ _⟩, ?_⟩
      repeat (first|exact bzR _ _|exact hB|refine bzD ?_|refine bzN ?_|refine bzS ?_|refine bzA ?_)
  ·
    have cc := fun w h1 h2 => limbCmp_c a1 a2 c1 c2 l1 l2 w h1 h2
    have dc := fun S a L w h hn => made_c S a (List.length L) L w h hn
    have hcz := cmpN_neg (x := val l1) (y := val l2)
    by_cases hlt : val l1 < val l2
    · have sc := fun w h1 h2 => limbSub_c a2 a1 c2 c1 l2 l1 w h1 h2 (by omega) (Nat.le_of_lt hlt)
      rw [show decide (val l1 < val l2) = true from by simpa using hlt] at hcz
      have HS := Lib.hid (show sg false (val l2 - val l1) = sg true (val l1) + sg false (val l2) from sg_sub_lt true _ _ (Nat.le_of_lt hlt))
      clear hlt
      go_enter Tryz.func37, Tryz.ntmps37
      go_wp2_with fail
      generalize cmpN (val l1) (val l2) = z at *
      refine (cc _ (u1.keep (by repeat (first|exact bzR _ _|exact hB|refine bzD ?_|refine bzN ?_|refine bzS ?_|refine bzA ?_))) (u2.keep (by repeat (first|exact bzR _ _|exact hB|refine bzD ?_|refine bzN ?_|refine bzS ?_|refine bzA ?_)))).mono ?_
      rintro e w1 ⟨rfl, hb1⟩
      have x0 : w1.cell? ⟨w.heap.size, 0, none⟩ = some (.bool true) := bkc hb1
      have zx0 := cell_lt x0
      have x0f : w1.frozen? ⟨w.heap.size, 0, none⟩ = false := bkcf (v := .bool true) hb1
      have x1 : w1.cell? ⟨w.heap.size, 1, none⟩ = some (.slice a1 l1.length c1) := bkc hb1
      have x1f : w1.frozen? ⟨w.heap.size, 1, none⟩ = false := bkcf (v := .slice a1 l1.length c1) hb1
      have y0 : w1.cell? ⟨w.heap.size + 1, 0, none⟩ = some (.bool false) := bkc hb1
      have zy0 := cell_lt y0
      have y0f : w1.frozen? ⟨w.heap.size + 1, 0, none⟩ = false := bkcf (v := .bool false) hb1
      have y1 : w1.cell? ⟨w.heap.size + 1, 1, none⟩ = some (.slice a2 l2.length c2) := bkc hb1
      have y1f : w1.frozen? ⟨w.heap.size + 1, 1, none⟩ = false := bkcf (v := .slice a2 l2.length c2) hb1
      have r0 : w1.cell? ⟨w.heap.size + 2, 0, none⟩ = some (.bool false) := bkc hb1
      have zr0 := cell_lt r0
      have r0f : w1.frozen? ⟨w.heap.size + 2, 0, none⟩ = false := bkcf (v := .bool false) hb1
      have r1 : w1.cell? ⟨w.heap.size + 2, 1, none⟩ = some (.slice none 0 0) := bkc hb1
      have r1f : w1.frozen? ⟨w.heap.size + 2, 1, none⟩ = false := bkcf (v := .slice none 0 0) hb1
      have hB : Below w.heap.size w w1 := bthen (by repeat (first|exact bzR _ _|exact hB|refine bzD ?_|refine bzN ?_|refine bzS ?_|refine bzA ?_)) hb1
      have hz : w.heap.size ≤ w1.heap.size := hB.size
      clear cc hb1
      go_wp2_with fail
      refine (sc _ (u2.keep (by repeat (first|exact bzR _ _|exact hB|refine bzD ?_|refine bzN ?_|refine bzS ?_|refine bzA ?_))) (u1.keep (by repeat (first|exact bzR _ _|exact hB|refine bzD ?_|refine bzN ?_|refine bzS ?_|refine bzA ?_)))).mono ?_
      rintro e w2 ⟨⟨u3, rfl, a3, k3, L, rfl, rfl, hu, hn, hv⟩, hb2⟩
      have hB2 : Below w.heap.size w w2 := bthen (bset (bset (bset (bset hB (p := ⟨w.heap.size, 0, none⟩) (Nat.le_refl _) _) (p := ⟨w.heap.size, 1, none⟩) (Nat.le_refl _) _) (p := ⟨w.heap.size + 1, 0, none⟩) (by simp) _) (p := ⟨w.heap.size + 1, 1, none⟩) (by simp) _) hb2
      have n1 : w.heap.size ≠ w.heap.size + 2 := by omega
      have n2 : w.heap.size + 1 ≠ w.heap.size + 2 := by omega
      have n3 : w.heap.size + 1 ≠ w.heap.size := by omega
      have xx0 := bkeep hb2 (cell_far (cell_far (cell_far (cell_here x0 (.bool false)) (by simp) (.slice a2 l2.length c2)) (addr_ne n3) (.bool true)) (addr_ne n3) (.slice a1 l1.length c1))
      have rr0 := cell_far (cell_far (cell_far (cell_far r0 (p := ⟨w.heap.size, 0, none⟩) (addr_ne n1) (.bool false)) (p := ⟨w.heap.size, 1, none⟩) (addr_ne n1) (.slice a2 l2.length c2)) (p := ⟨w.heap.size + 1, 0, none⟩) (addr_ne n2) (.bool true)) (p := ⟨w.heap.size + 1, 1, none⟩) (addr_ne n2) (.slice a1 l1.length c1)
      have rr1 := cell_far (cell_far (cell_far (cell_far r1 (p := ⟨w.heap.size, 0, none⟩) (addr_ne n1) (.bool false)) (p := ⟨w.heap.size, 1, none⟩) (addr_ne n1) (.slice a2 l2.length c2)) (p := ⟨w.heap.size + 1, 0, none⟩) (addr_ne n2) (.bool true)) (p := ⟨w.heap.size + 1, 1, none⟩) (addr_ne n2) (.slice a1 l1.length c1)
      replace r0f := bkeepf hb2 rr0 (by rw [World.frozen?_setCell, World.frozen?_setCell, World.frozen?_setCell, World.frozen?_setCell]; exact r0f)
      replace r1f := bkeepf hb2 rr1 (by rw [World.frozen?_setCell, World.frozen?_setCell, World.frozen?_setCell, World.frozen?_setCell]; exact r1f)
      replace r0 := bkeep hb2 rr0
      replace r1 := bkeep hb2 rr1
      clear x0 x1 y0 y1 x0f x1f y0f y1f rr0 rr1 hb2 n1 n2 n3 hB
      go_wp2_with fail
      refine (dc false _ _ _ hu hn).mono ?_
      rintro e w3 ⟨⟨v, rfl, hi⟩, hb3⟩
      replace r0f := bkeepf hb3 r0 r0f
      replace r1f := bkeepf hb3 r1 r1f
      replace r0 := bkeep hb3 r0
      replace r1 := bkeep hb3 r1
      have hB := bthen hB2 hb3
      rw [hv, HS.out] at hi
      have HI2 := Lib.hid (hi.put2 r0 r1)
      obtain ⟨n4, a4, c4, l4, rfl, _, _, _, _⟩ := hi
      unfold iv at *
      go_wp2
      refine bodyPost_ret (v := .agg #[.bool n4, .slice a4 l4.length c4]) (by simp [results, Tryz.results37, go_sem, *]) rfl ⟨⟨_, rfl, HI2.out _ _⟩, ?_⟩
      repeat (first|exact bzR _ _|exact hB|refine bzD ?_|refine bzN ?_|refine bzS ?_|refine bzA ?_)
    · have sc := fun w h1 h2 => limbSub_c a1 a2 c1 c2 l1 l2 w h1 h2 (by omega) (by omega)
      rw [show decide (val l1 < val l2) = false from by simpa using hlt] at hcz
      have HS := Lib.hid (show sg true (val l1 - val l2) = sg true (val l1) + sg false (val l2) from sg_sub_ge true _ _ (by omega))
      clear hlt
      go_enter Tryz.func37, Tryz.ntmps37
      go_wp2_with fail
      generalize cmpN (val l1) (val l2) = z at *
      refine (cc _ (u1.keep (by repeat (first|exact bzR _ _|exact hB|refine bzD ?_|refine bzN ?_|refine bzS ?_|refine bzA ?_))) (u2.keep (by repeat (first|exact bzR _ _|exact hB|refine bzD ?_|refine bzN ?_|refine bzS ?_|refine bzA ?_)))).mono ?_
      rintro e w1 ⟨rfl, hb1⟩
      have x0 : w1.cell? ⟨w.heap.size, 0, none⟩ = some (.bool true) := bkc hb1
      have zx0 := cell_lt x0
      have x0f : w1.frozen? ⟨w.heap.size, 0, none⟩ = false := bkcf (v := .bool true) hb1
      have x1 : w1.cell? ⟨w.heap.size, 1, none⟩ = some (.slice a1 l1.length c1) := bkc hb1
      have x1f : w1.frozen? ⟨w.heap.size, 1, none⟩ = false := bkcf (v := .slice a1 l1.length c1) hb1
      have y0 : w1.cell? ⟨w.heap.size + 1, 0, none⟩ = some (.bool false) := bkc hb1
      have zy0 := cell_lt y0
      have y0f : w1.frozen? ⟨w.heap.size + 1, 0, none⟩ = false := bkcf (v := .bool false) hb1
      have y1 : w1.cell? ⟨w.heap.size + 1, 1, none⟩ = some (.slice a2 l2.length c2) := bkc hb1
      have y1f : w1.frozen? ⟨w.heap.size + 1, 1, none⟩ = false := bkcf (v := .slice a2 l2.length c2) hb1
      have r0 : w1.cell? ⟨w.heap.size + 2, 0, none⟩ = some (.bool false) := bkc hb1
      have zr0 := cell_lt r0
      have r0f : w1.frozen? ⟨w.heap.size + 2, 0, none⟩ = false := bkcf (v := .bool false) hb1
      have r1 : w1.cell? ⟨w.heap.size + 2, 1, none⟩ = some (.slice none 0 0) := bkc hb1
      have r1f : w1.frozen? ⟨w.heap.size + 2, 1, none⟩ = false := bkcf (v := .slice none 0 0) hb1
      have hB : Below w.heap.size w w1 := bthen (by repeat (first|exact bzR _ _|exact hB|refine bzD ?_|refine bzN ?_|refine bzS ?_|refine bzA ?_)) hb1
      have hz : w.heap.size ≤ w1.heap.size := hB.size
      go_wp2_with fail
      refine (sc _ (u1.keep hB) (u2.keep hB)).mono ?_
      rintro e w2 ⟨⟨u3, rfl, a3, k3, L, rfl, rfl, hu, hn, hv⟩, hb2⟩
      have x0 : w2.cell? ⟨w.heap.size, 0, none⟩ = some (.bool true) := bkc hb2
      have zx0 := cell_lt x0
      have x0f : w2.frozen? ⟨w.heap.size, 0, none⟩ = false := bkcf (v := .bool true) hb2
      have x1 : w2.cell? ⟨w.heap.size, 1, none⟩ = some (.slice a1 l1.length c1) := bkc hb2
      have x1f : w2.frozen? ⟨w.heap.size, 1, none⟩ = false := bkcf (v := .slice a1 l1.length c1) hb2
      have y0 : w2.cell? ⟨w.heap.size + 1, 0, none⟩ = some (.bool false) := bkc hb2
      have zy0 := cell_lt y0
      have y0f : w2.frozen? ⟨w.heap.size + 1, 0, none⟩ = false := bkcf (v := .bool false) hb2
      have y1 : w2.cell? ⟨w.heap.size + 1, 1, none⟩ = some (.slice a2 l2.length c2) := bkc hb2
      have y1f : w2.frozen? ⟨w.heap.size + 1, 1, none⟩ = false := bkcf (v := .slice a2 l2.length c2) hb2
      have r0 : w2.cell? ⟨w.heap.size + 2, 0, none⟩ = some (.bool false) := bkc hb2
      have zr0 := cell_lt r0
      have r0f : w2.frozen? ⟨w.heap.size + 2, 0, none⟩ = false := bkcf (v := .bool false) hb2
      have r1 : w2.cell? ⟨w.heap.size + 2, 1, none⟩ = some (.slice none 0 0) := bkc hb2
      have r1f : w2.frozen? ⟨w.heap.size + 2, 1, none⟩ = false := bkcf (v := .slice none 0 0) hb2
      have hB : Below w.heap.size w w2 := bthen (by repeat (first|exact bzR _ _|exact hB|refine bzD ?_|refine bzN ?_|refine bzS ?_|refine bzA ?_)) hb2
      have hz : w.heap.size ≤ w2.heap.size := hB.size
      go_wp2_with fail
      refine (dc true _ _ _ hu hn).mono ?_
      rintro e w3 ⟨⟨v, rfl, hi⟩, hb3⟩
      have x0 : w3.cell? ⟨w.heap.size, 0, none⟩ = some (.bool true) := bkc hb3
      have zx0 := cell_lt x0
      have x0f : w3.frozen? ⟨w.heap.size, 0, none⟩ = false := bkcf (v := .bool true) hb3
      have x1 : w3.cell? ⟨w.heap.size, 1, none⟩ = some (.slice a1 l1.length c1) := bkc hb3
      have x1f : w3.frozen? ⟨w.heap.size, 1, none⟩ = false := bkcf (v := .slice a1 l1.length c1) hb3
      have y0 : w3.cell? ⟨w.heap.size + 1, 0, none⟩ = some (.bool false) := bkc hb3
      have zy0 := cell_lt y0
      have y0f : w3.frozen? ⟨w.heap.size + 1, 0, none⟩ = false := bkcf (v := .bool false) hb3
      have y1 : w3.cell? ⟨w.heap.size + 1, 1, none⟩ = some (.slice a2 l2.length c2) := bkc hb3
      have y1f : w3.frozen? ⟨w.heap.size + 1, 1, none⟩ = false := bkcf (v := .slice a2 l2.length c2) hb3
      have r0 : w3.cell? ⟨w.heap.size + 2, 0, none⟩ = some (.bool false) := bkc hb3
      have zr0 := cell_lt r0
      have r0f : w3.frozen? ⟨w.heap.size + 2, 0, none⟩ = false := bkcf (v := .bool false) hb3
      have r1 : w3.cell? ⟨w.heap.size + 2, 1, none⟩ = some (.slice none 0 0) := bkc hb3
      have r1f : w3.frozen? ⟨w.heap.size + 2, 1, none⟩ = false := bkcf (v := .slice none 0 0) hb3
      have hB : Below w.heap.size w w3 := bthen (by repeat (first|exact bzR _ _|exact hB|refine bzD ?_|refine bzN ?_|refine bzS ?_|refine bzA ?_)) hb3
      have hz : w.heap.size ≤ w3.heap.size := hB.size
      rw [hv, HS.out] at hi
      have HI2 := Lib.hid (hi.put2 r0 r1)
      obtain ⟨n4, a4, c4, l4, rfl, _, _, _, _⟩ := hi
      unfold iv at *
      go_wp2
      refine bodyPost_ret (v := .agg #[.bool n4, .slice a4 l4.length c4]) (by simp [results, Tryz.results37, go_sem, *]) rfl ⟨⟨_, rfl, HI2.out _ _⟩, ?_⟩
      repeat (first|exact bzR _ _|exact hB|refine bzD ?_|refine bzN ?_|refine bzS ?_|refine bzA ?_)
  ·
    have ac := fun w h1 h2 => limbAdd_c a1 a2 c1 c2 l1 l2 w h1 h2 (by omega) (by omega)
    have dc := fun a L w h hn => made_c true a (List.length L) L w h hn
    have HS := Lib.hid (sg_add true (val l1) (val l2))
    go_enter Tryz.func37, Tryz.ntmps37
    go_wp2
    refine wp_name fun w0 hW0 => ?_
    have x0 : w0.cell? ⟨w.heap.size, 0, none⟩ = some (.bool true) := by rw [hW0]; exact (by first | assumption | exact cell_new (by with_reducible first | rfl | (simp; done) | (simp; omega)) rfl | (repeat (first | assumption | exact cell_new (by with_reducible first | rfl | (simp; done) | (simp; omega)) rfl | refine cell_alloc ?_ _ | refine cell_drew ?_ | refine cell_drewN ?_ _ | refine cell_far ?_ (by simp) _ | (refine cell_far ?_ (by simp <;> omega) _))) | simp [go_sem, *])
    have zx0 := cell_lt x0
    have x1 : w0.cell? ⟨w.heap.size, 1, none⟩ = some (.slice a1 l1.length c1) := by rw [hW0]; exact (by first | assumption | exact cell_new (by with_reducible first | rfl | (simp; done) | (simp; omega)) rfl | (repeat (first | assumption | exact cell_new (by with_reducible first | rfl | (simp; done) | (simp; omega)) rfl | refine cell_alloc ?_ _ | refine cell_drew ?_ | refine cell_drewN ?_ _ | refine cell_far ?_ (by simp) _ | (refine cell_far ?_ (by simp <;> omega) _))) | simp [go_sem, *])
    have y0 : w0.cell? ⟨w.heap.size + 1, 0, none⟩ = some (.bool true) := by rw [hW0]; exact (by first | assumption | exact cell_new (by with_reducible first | rfl | (simp; done) | (simp; omega)) rfl | (repeat (first | assumption | exact cell_new (by with_reducible first | rfl | (simp; done) | (simp; omega)) rfl | refine cell_alloc ?_ _ | refine cell_drew ?_ | refine cell_drewN ?_ _ | refine cell_far ?_ (by simp) _ | (refine cell_far ?_ (by simp <;> omega) _))) | simp [go_sem, *])
    have zy0 := cell_lt y0
    have y1 : w0.cell? ⟨w.heap.size + 1, 1, none⟩ = some (.slice a2 l2.length c2) := by rw [hW0]; exact (by first | assumption | exact cell_new (by with_reducible first | rfl | (simp; done) | (simp; omega)) rfl | (repeat (first | assumption | exact cell_new (by with_reducible first | rfl | (simp; done) | (simp; omega)) rfl | refine cell_alloc ?_ _ | refine cell_drew ?_ | refine cell_drewN ?_ _ | refine cell_far ?_ (by simp) _ | (refine cell_far ?_ (by simp <;> omega) _))) | simp [go_sem, *])
    have r0f : w0.frozen? ⟨w.heap.size + 2, 0, none⟩ = false := by rw [hW0]; simp [go_sem, *]
    have r0 : w0.cell? ⟨w.heap.size + 2, 0, none⟩ = some (.bool false) := by rw [hW0]; exact (by first | assumption | exact cell_new (by with_reducible first | rfl | (simp; done) | (simp; omega)) rfl | (repeat (first | assumption | exact cell_new (by with_reducible first | rfl | (simp; done) | (simp; omega)) rfl | refine cell_alloc ?_ _ | refine cell_drew ?_ | refine cell_drewN ?_ _ | refine cell_far ?_ (by simp) _ | (refine cell_far ?_ (by simp <;> omega) _))) | simp [go_sem, *])
    have zr0 := cell_lt r0
    have r1f : w0.frozen? ⟨w.heap.size + 2, 1, none⟩ = false := by rw [hW0]; simp [go_sem, *]
    have r1 : w0.cell? ⟨w.heap.size + 2, 1, none⟩ = some (.slice none 0 0) := by rw [hW0]; exact (by first | assumption | exact cell_new (by with_reducible first | rfl | (simp; done) | (simp; omega)) rfl | (repeat (first | assumption | exact cell_new (by with_reducible first | rfl | (simp; done) | (simp; omega)) rfl | refine cell_alloc ?_ _ | refine cell_drew ?_ | refine cell_drewN ?_ _ | refine cell_far ?_ (by simp) _ | (refine cell_far ?_ (by simp <;> omega) _))) | simp [go_sem, *])
    have hB : Below w.heap.size w w0 := by rw [hW0]; repeat (first|exact bzR _ _|exact hB|refine bzD ?_|refine bzN ?_|refine bzS ?_|refine bzA ?_)
    have hz : w.heap.size ≤ w0.heap.size := hB.size
    clear hW0
    have hBc : Below w0.heap.size w0 w0.drew := (Below.refl _ _).drew
    have HB0 := Lib.hid hB
    go_region_held3 (fun w' => w'.cell? ⟨w.heap.size, 0, none⟩ = some (.bool true) ∧ w'.cell? ⟨w.heap.size, 1, none⟩ = some (.slice a1 l1.length c1) ∧ w'.cell? ⟨w.heap.size + 1, 1, none⟩ = some (.slice a2 l2.length c2))
      (first | exact ⟨x0, x1, y1⟩ | exact ⟨bkeep hBc x0, bkeep hBc x1, bkeep hBc y1⟩ | exact ⟨cell_far (cell_far (bkeep hBc x0) (addr_ne (by omega)) _) (addr_ne (by omega)) _, cell_far (cell_far (bkeep hBc x1) (addr_ne (by omega)) _) (addr_ne (by omega)) _, cell_far (cell_far (bkeep hBc y1) (addr_ne (by omega)) _) (addr_ne (by omega)) _⟩)
      (first
        | (go_at_call 123; refine (ac _ (u1.keep (bthen HB0.out hBc)) (u2.keep (bthen HB0.out hBc))).mono ?_; rintro e w3 ⟨⟨u3, rfl, a3, k3, L, rfl, rfl, hu, hn, hv⟩, hb3⟩; (replace hBc := bthen hBc hb3))
        | (go_at_call 122; refine (dc _ _ _ hu hn).mono ?_; rintro e w4 ⟨⟨v, rfl, hi⟩, hb4⟩; (replace hBc := bthen hBc hb4); (replace r0f := bkeepf hBc r0 r0f); (replace r1f := bkeepf hBc r1 r1f); (replace r0 := bkeep hBc r0); (replace r1 := bkeep hBc r1); (rw [hv, HS.out] at hi); (have HI2 := Lib.hid (hi.put2 r0 r1)); (obtain ⟨n4, a4, c4, l4, rfl, _, _, _, _⟩ := hi); unfold iv at *))
    have hB9 := bthen HB0.out hBc
    clear x0 x1 y0 y1
    go_wp2
    refine bodyPost_ret (v := .agg #[.bool n4, .slice a4 l4.length c4]) (by simp [results, Tryz.results37, go_sem, *]) rfl ⟨⟨_, rfl, HI2.out _ _⟩, ?_⟩
    repeat (first|exact bzR _ _|exact hB9|refine bzD ?_|refine bzN ?_|refine bzS ?_|refine bzA ?_)

set_option maxRecDepth 100000 in
set_option maxHeartbeats 4000000 in
theorem subI_c (vx vy : Value) (x y : Int) (k : Nat) (w : World) (hx : IsInt w vx x) (hy : IsInt w vy y) (bx : Bd k x) (by' : Bd k y) (hk : k ≤ 17179869184) :
    Calls Tryz.prog 211 #[vx, vy] w fun e w' => (∃ v, e = .returned v ∧ IsInt w' v (x - y)) ∧ Below w.heap.size w w' := by
  have nc := fun v w h => neg_c v y w h
  have ac := fun u v w h1 h2 => addI_c u v x (-y) k w h1 h2 bx by'.neg hk
  rw [← Int.sub_eq_add_neg] at ac
  have HX := Lib.hid hx
  have HY := Lib.hid hy
  obtain ⟨n1, a1, c1, l1, rfl, -⟩ := hx
  obtain ⟨n2, a2, c2, l2, rfl, -⟩ := hy
  clear bx by'
  unfold iv at *
  have hB := Below.refl w.heap.size w
  go_enter Tryz.func211, Tryz.ntmps211
  go_wp2
  refine wp_name fun w0 hW0 => ?_
  have x0 : w0.cell? ⟨w.heap.size, 0, none⟩ = some (.bool n1) := by rw [hW0]; exact (by first | assumption | exact cell_new (by with_reducible first | rfl | (simp; done) | (simp; omega)) rfl | (repeat (first | assumption | exact cell_new (by with_reducible first | rfl | (simp; done) | (simp; omega)) rfl | refine cell_alloc ?_ _ | refine cell_drew ?_ | refine cell_drewN ?_ _ | refine cell_far ?_ (by simp) _ | (refine cell_far ?_ (by simp <;> omega) _))) | simp [go_sem, *])
  have zx0 := cell_lt x0
  have x1 : w0.cell? ⟨w.heap.size, 1, none⟩ = some (.slice a1 l1.length c1) := by rw [hW0]; exact (by first | assumption | exact cell_new (by with_reducible first | rfl | (simp; done) | (simp; omega)) rfl | (repeat (first | assumption | exact cell_new (by with_reducible first | rfl | (simp; done) | (simp; omega)) rfl | refine cell_alloc ?_ _ | refine cell_drew ?_ | refine cell_drewN ?_ _ | refine cell_far ?_ (by simp) _ | (refine cell_far ?_ (by simp <;> omega) _))) | simp [go_sem, *])
  have y0 : w0.cell? ⟨w.heap.size + 1, 0, none⟩ = some (.bool n2) := by rw [hW0]; exact (by first | assumption | exact cell_new (by with_reducible first | rfl | (simp; done) | (simp; omega)) rfl | (repeat (first | assumption | exact cell_new (by with_reducible first | rfl | (simp; done) | (simp; omega)) rfl | refine cell_alloc ?_ _ | refine cell_drew ?_ | refine cell_drewN ?_ _ | refine cell_far ?_ (by simp) _ | (refine cell_far ?_ (by simp <;> omega) _))) | simp [go_sem, *])
  have zy0 := cell_lt y0
  have y1 : w0.cell? ⟨w.heap.size + 1, 1, none⟩ = some (.slice a2 l2.length c2) := by rw [hW0]; exact (by first | assumption | exact cell_new (by with_reducible first | rfl | (simp; done) | (simp; omega)) rfl | (repeat (first | assumption | exact cell_new (by with_reducible first | rfl | (simp; done) | (simp; omega)) rfl | refine cell_alloc ?_ _ | refine cell_drew ?_ | refine cell_drewN ?_ _ | refine cell_far ?_ (by simp) _ | (refine cell_far ?_ (by simp <;> omega) _))) | simp [go_sem, *])
  have r0f : w0.frozen? ⟨w.heap.size + 2, 0, none⟩ = false := by rw [hW0]; simp [go_sem, *]
  have r0 : w0.cell? ⟨w.heap.size + 2, 0, none⟩ = some (.bool false) := by rw [hW0]; exact (by first | assumption | exact cell_new (by with_reducible first | rfl | (simp; done) | (simp; omega)) rfl | (repeat (first | assumption | exact cell_new (by with_reducible first | rfl | (simp; done) | (simp; omega)) rfl | refine cell_alloc ?_ _ | refine cell_drew ?_ | refine cell_drewN ?_ _ | refine cell_far ?_ (by simp) _ | (refine cell_far ?_ (by simp <;> omega) _))) | simp [go_sem, *])
  have zr0 := cell_lt r0
  have r1f : w0.frozen? ⟨w.heap.size + 2, 1, none⟩ = false := by rw [hW0]; simp [go_sem, *]
  have r1 : w0.cell? ⟨w.heap.size + 2, 1, none⟩ = some (.slice none 0 0) := by rw [hW0]; exact (by first | assumption | exact cell_new (by with_reducible first | rfl | (simp; done) | (simp; omega)) rfl | (repeat (first | assumption | exact cell_new (by with_reducible first | rfl | (simp; done) | (simp; omega)) rfl | refine cell_alloc ?_ _ | refine cell_drew ?_ | refine cell_drewN ?_ _ | refine cell_far ?_ (by simp) _ | (refine cell_far ?_ (by simp <;> omega) _))) | simp [go_sem, *])
  have hB : Below w.heap.size w w0 := by rw [hW0]; repeat (first|exact bzR _ _|exact hB|refine bzD ?_|refine bzN ?_|refine bzS ?_|refine bzA ?_)
  have hz : w.heap.size ≤ w0.heap.size := hB.size
  clear hW0
  have hBc : Below w0.heap.size w0 w0.drew := (Below.refl _ _).drew
  have HB0 := Lib.hid hB
  go_region_held3 (fun w' => w'.cell? ⟨w.heap.size, 0, none⟩ = some (.bool n1) ∧ w'.cell? ⟨w.heap.size, 1, none⟩ = some (.slice a1 l1.length c1) ∧ w'.cell? ⟨w.heap.size + 1, 0, none⟩ = some (.bool n2) ∧ w'.cell? ⟨w.heap.size + 1, 1, none⟩ = some (.slice a2 l2.length c2))
    (first | exact ⟨x0, x1, y0, y1⟩ | exact ⟨bkeep hBc x0, bkeep hBc x1, bkeep hBc y0, bkeep hBc y1⟩ | exact ⟨cell_far (cell_far (bkeep hBc x0) (addr_ne (by omega)) _) (addr_ne (by omega)) _, cell_far (cell_far (bkeep hBc x1) (addr_ne (by omega)) _) (addr_ne (by omega)) _, cell_far (cell_far (bkeep hBc y0) (addr_ne (by omega)) _) (addr_ne (by omega)) _, cell_far (cell_far (bkeep hBc y1) (addr_ne (by omega)) _) (addr_ne (by omega)) _⟩)
    (first
      | (go_at_call 160; refine (nc _ _ (HY.out.keep (bthen HB0.out hBc))).mono ?_; rintro e w3 ⟨⟨v3, rfl, hi3⟩, hb3⟩; (replace hBc := bthen hBc hb3); (have HI3 := Lib.hid hi3); clear hi3)
      | (go_at_call 37; refine (ac _ _ _ (HX.out.keep (bthen HB0.out hBc)) HI3.out).mono ?_; rintro e w4 ⟨⟨v, rfl, hi⟩, hb4⟩; (replace hBc := bthen hBc hb4); (replace r0f := bkeepf hBc r0 r0f); (replace r1f := bkeepf hBc r1 r1f); (replace r0 := bkeep hBc r0); (replace r1 := bkeep hBc r1); (have HI2 := Lib.hid (hi.put2 r0 r1)); (obtain ⟨n4, a4, c4, l4, rfl, _, _, _, _⟩ := hi); unfold iv at *))
  have hB9 := bthen HB0.out hBc
  clear x0 x1 y0 y1
  go_wp2
  refine bodyPost_ret (v := .agg #[.bool n4, .slice a4 l4.length c4]) (by simp [results, Tryz.results211, go_sem, *]) rfl ⟨⟨_, rfl, HI2.out _ _⟩, ?_⟩
  repeat (first|exact bzR _ _|exact hB9|refine bzD ?_|refine bzN ?_|refine bzS ?_|refine bzA ?_)
end Go.Proofs.YtbmaffijncapiaaGreatDoor

/- Determinants, in plain Lean (over Rat): what is linear in each row and nought where two are alike is the determinant times a number; products, what is turned; by any column; the adjugate. -/
set_option linter.unusedVariables false
set_option linter.unusedSimpArgs false
namespace Det
abbrev M := Nat → Nat → Rat
def sum (n : Nat) (f : Nat → Rat) : Rat := match n with
  | 0 => 0
  | n + 1 => sum n f + f n
def sg (i : Nat) : Rat := if i % 2 = 0 then 1 else -1
def skip (i k : Nat) : Nat := if k < i then k else k + 1
def minor (m : M) (i : Nat) : M := fun r c => m (skip i r) (c + 1)
def det : Nat → M → Rat
  | 0, _ => 1
  | n + 1, m => sum (n + 1) fun i => sg i * m i 0 * det n (minor m i)
def upd (m : M) (r : Nat) (f : Nat → Rat) : M := fun i j => if i = r then f j else m i j
def down (i r : Nat) : Nat := if r < i then r else r - 1
structure Alt (n : Nat) (f : M → Rat) : Prop where
  congr : ∀ a b : M, (∀ i j, i < n → j < n → a i j = b i j) → f a = f b
  lin : ∀ (m : M) (r : Nat) (g h : Nat → Rat) (a b : Rat), r < n → f (upd m r fun j => a * g j + b * h j) = a * f (upd m r g) + b * f (upd m r h)
  adj : ∀ (m : M) (r : Nat), r + 1 < n → (∀ j, m r j = m (r + 1) j) → f m = 0
section
variable {n : Nat} {f : M → Rat}
def cl (m : M) (k : Nat) (g : Nat → Rat) (t : Nat) : M := fun i j => if i < t ∧ i ≠ k then m i j + g i * m k j else m i j
end
def I : M := fun i j => if i = j then 1 else 0
def mul (n : Nat) (a b : M) : M := fun i j => sum n fun k => a i k * b k j
def min2 (m : M) (a b : Nat) : M := fun r c => m (skip a r) (skip b c)
def adj (n : Nat) (m : M) : M := fun i j => sg (i + j) * det n (min2 m j i)
end Det

/- Elimination without fractions, in plain Lean: minors, what is left behind k rows (Sylvester's identity). -/
set_option linter.unusedVariables false
set_option linter.unusedSimpArgs false
namespace Det
def nc (k : Nat) (t : M) : M := fun i j => t i (if j = k then k + 1 else j)
end Det

