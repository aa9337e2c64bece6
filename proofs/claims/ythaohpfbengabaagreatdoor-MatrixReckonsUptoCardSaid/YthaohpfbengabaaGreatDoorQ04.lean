/- Texts of this seat, laid together: IntH, IntI, LimbI, Kn, LimbJ, NumT, PrgD, PrgE, PrgF, Iter, Rng, Rnh. Each opens with its own remark, which says what it proves, and under which conditions. -/
import Derived.Test.YthaohpfbengabaaGreatDoorQ01
import Derived.Test.YthaohpfbengabaaGreatDoorQ03
import Derived.Test.YthaohpfbengabaaGreatDoorQ02
import Derived.Laws.AppendOwn
import Derived.Deep.RegionWith
import Derived.RangeFuncNested
import Derived.RangeFuncBound
import Derived.RangeFuncCalls
import Derived.RangeFuncLeaves
import Derived.Shelf.Abstract
import Derived.Shelf.RegionOpen
import Derived.OwnWalkIn
import Derived.TacticsInMore
import Derived.LoopNIn
import Derived.LoopIn
import Derived.Deep.Cut
import Derived.Deep.DeepCutAuto
set_option linter.unusedVariables false
set_option linter.unusedSimpArgs false
/- integer: Neg, Abs, Add, Sub. -/
namespace Go.Proofs.YthaohpfbengabaaGreatDoor
open Num
open Go.ChangeShapes Go.WideShapes Go.ChangeAt Go.RowKit
set_option linter.unusedVariables false
set_option linter.unusedSimpArgs false
namespace Num
theorem sg_not (neg : Bool) (n : Nat) : sg (!neg) n = -sg neg n := by cases neg <;> simp [sg]
theorem Bd.neg {k : Nat} {x : Int} (h : Bd k x) : Bd k (-x) := by unfold Bd at *; rwa [Int.natAbs_neg]
theorem Bd.add {k : Nat} {x y : Int} (hx : Bd k x) (hy : Bd k y) : Bd (k + 1) (x + y) := by
  unfold Bd at *
  have := Int.natAbs_add_le x y
  rw [Nat.pow_succ]; omega
theorem Bd.sub {k : Nat} {x y : Int} (hx : Bd k x) (hy : Bd k y) : Bd (k + 1) (x - y) := by rw [Int.sub_eq_add_neg]; exact hx.add hy.neg
theorem sg_add (s : Bool) (m n : Nat) : sg s (m + n) = sg s m + sg s n := by cases s <;> simp [sg] <;> omega
theorem sg_sub_ge (s : Bool) (m n : Nat) (h : n ≤ m) : sg s (m - n) = sg s m + sg (!s) n := by cases s <;> simp [sg] <;> omega
theorem sg_sub_lt (s : Bool) (m n : Nat) (h : m ≤ n) : sg (!s) (n - m) = sg s m + sg (!s) n := by cases s <;> simp [sg] <;> omega
theorem cmpN_neg {x y : Nat} : (decide (cmpN x y < 0)) = decide (x < y) := by
  unfold cmpN
  by_cases h : x < y
  · rw [if_pos h]; simp [h]
  · rw [if_neg h]; split <;> simp [h]
end Num

set_option maxRecDepth 100000 in
set_option maxHeartbeats 1000000 in
theorem neg_c (vx : Value) (x : Int) (w : World) (hx : IsInt w vx x) :
    Calls Tryz.prog 104 #[vx] w fun e w' => (∃ v, e = .returned v ∧ IsInt w' v (-x)) ∧ Below w.heap.size w w' := by
  obtain ⟨n1, a1, c1, l1, rfl, u1, g1, s1, rfl⟩ := hx
  have mc := fun w h => made_c (!n1) a1 c1 l1 w h g1
  rw [sg_not] at mc
  clear s1 g1
  unfold iv
  have hB0 := Below.refl w.heap.size w
  go_enter Tryz.func104, Tryz.ntmps104
  go_wp2_with fail
  refine (mc _ (u1.keep (by repeat (first | exact Below.refl _ _ | exact hB0 | refine Below.drew ?_ | refine below_drewN ?_ _ | refine bset ?_ (by simp <;> omega) _ | refine bal ?_ _)))).mono ?_
  rintro e w1 ⟨⟨v, rfl, hi⟩, hb1⟩
  have r0 : w1.cell? ⟨w.heap.size + 1, 0, none⟩ = some (.bool false) := bkc hb1
  have zr0 := cell_lt r0
  have r0f : w1.frozen? ⟨w.heap.size + 1, 0, none⟩ = false := bkcf (v := .bool false) hb1
  have r1 : w1.cell? ⟨w.heap.size + 1, 1, none⟩ = some (.slice none 0 0) := bkc hb1
  have r1f : w1.frozen? ⟨w.heap.size + 1, 1, none⟩ = false := bkcf (v := .slice none 0 0) hb1
  have hB : Below w.heap.size w w1 := bthen (by repeat (first | exact Below.refl _ _ | exact hB | refine Below.drew ?_ | refine below_drewN ?_ _ | refine bset ?_ (by simp <;> omega) _ | refine bal ?_ _)) hb1
  have hz : w.heap.size ≤ w1.heap.size := hB.size
  have HI2 := Lib.hid (hi.put2 r0 r1)
  obtain ⟨n4, a4, c4, l4, rfl, _, _, _, _⟩ := hi
  unfold iv at *
  go_wp2
  refine bodyPost_ret (v := .agg #[.bool n4, .slice a4 l4.length c4]) (by simp [results, Tryz.results104, go_sem, *]) rfl ⟨⟨_, rfl, HI2.out _ _⟩, ?_⟩
  repeat (first | exact Below.refl _ _ | exact hB | refine Below.drew ?_ | refine below_drewN ?_ _ | refine bset ?_ (by simp <;> omega) _ | refine bal ?_ _)




set_option maxRecDepth 100000 in
set_option maxHeartbeats 4000000 in
theorem addI_c (vx vy : Value) (x y : Int) (k : Nat) (w : World) (hx : IsInt w vx x) (hy : IsInt w vy y) (bx : Bd k x) (by' : Bd k y) (hk : k ≤ 17179869184) :
    Calls Tryz.prog 91 #[vx, vy] w fun e w' => (∃ v, e = .returned v ∧ IsInt w' v (x + y)) ∧ Below w.heap.size w w' := by
  obtain ⟨n1, a1, c1, l1, rfl, u1, g1, s1, rfl⟩ := hx
  obtain ⟨n2, a2, c2, l2, rfl, u2, g2, s2, rfl⟩ := hy
  have k1 := bd_len g1 (sg_bd bx) hk
  have k2 := bd_len g2 (sg_bd by') hk
  clear bx by' g1 g2 s1 s2
  have hB := Below.refl w.heap.size w
  unfold iv
  cases n1 <;> cases n2
  ·
    have ac := fun w h1 h2 => limbAdd_c a1 a2 c1 c2 l1 l2 w h1 h2 (by omega) (by omega)
    have dc := fun a L w h hn => made_c false a (List.length L) L w h hn
    have HS := Lib.hid (sg_add false (val l1) (val l2))
    go_enter Tryz.func91, Tryz.ntmps91
    go_wp2
    refine wp_name fun w0 hW0 => ?_
    have x0 : w0.cell? ⟨w.heap.size, 0, none⟩ = some (.bool false) := by rw [hW0]; exact (by first | assumption | exact cell_new (by with_reducible first | rfl | (simp; done) | (simp; omega)) rfl | (repeat (first | assumption | exact cell_new (by with_reducible first | rfl | (simp; done) | (simp; omega)) rfl | refine cell_alloc ?_ _ | refine cell_drew ?_ | refine cell_drewN ?_ _ | refine cell_far ?_ (by simp) _ | (refine cell_far ?_ (by simp <;> omega) _))) | simp [go_sem, *])
    have zx0 := cell_lt x0
    have x1 : w0.cell? ⟨w.heap.size, 1, none⟩ = some (.slice a1 l1.length c1) := by rw [hW0]; exact (by first | assumption | exact cell_new (by with_reducible first | rfl | (simp; done) | (simp; omega)) rfl | (repeat (first | assumption | exact cell_new (by with_reducible first | rfl | (simp; done) | (simp; omega)) rfl | refine cell_alloc ?_ _ | refine cell_drew ?_ | refine cell_drewN ?_ _ | refine cell_far ?_ (by simp) _ | (refine cell_far ?_ (by simp <;> omega) _))) | simp [go_sem, *])
    have y0 : w0.cell? ⟨w.heap.size + 1, 0, none⟩ = some (.bool false) := by rw [hW0]; exact (by first | assumption | exact cell_new (by with_reducible first | rfl | (simp; done) | (simp; omega)) rfl | (repeat (first | assumption | exact cell_new (by with_reducible first | rfl | (simp; done) | (simp; omega)) rfl | refine cell_alloc ?_ _ | refine cell_drew ?_ | refine cell_drewN ?_ _ | refine cell_far ?_ (by simp) _ | (refine cell_far ?_ (by simp <;> omega) _))) | simp [go_sem, *])
    have zy0 := cell_lt y0
    have y1 : w0.cell? ⟨w.heap.size + 1, 1, none⟩ = some (.slice a2 l2.length c2) := by rw [hW0]; exact (by first | assumption | exact cell_new (by with_reducible first | rfl | (simp; done) | (simp; omega)) rfl | (repeat (first | assumption | exact cell_new (by with_reducible first | rfl | (simp; done) | (simp; omega)) rfl | refine cell_alloc ?_ _ | refine cell_drew ?_ | refine cell_drewN ?_ _ | refine cell_far ?_ (by simp) _ | (refine cell_far ?_ (by simp <;> omega) _))) | simp [go_sem, *])
    have r0f : w0.frozen? ⟨w.heap.size + 2, 0, none⟩ = false := by rw [hW0]; simp [go_sem, *]
    have r0 : w0.cell? ⟨w.heap.size + 2, 0, none⟩ = some (.bool false) := by rw [hW0]; exact (by first | assumption | exact cell_new (by with_reducible first | rfl | (simp; done) | (simp; omega)) rfl | (repeat (first | assumption | exact cell_new (by with_reducible first | rfl | (simp; done) | (simp; omega)) rfl | refine cell_alloc ?_ _ | refine cell_drew ?_ | refine cell_drewN ?_ _ | refine cell_far ?_ (by simp) _ | (refine cell_far ?_ (by simp <;> omega) _))) | simp [go_sem, *])
    have zr0 := cell_lt r0
    have r1f : w0.frozen? ⟨w.heap.size + 2, 1, none⟩ = false := by rw [hW0]; simp [go_sem, *]
    have r1 : w0.cell? ⟨w.heap.size + 2, 1, none⟩ = some (.slice none 0 0) := by rw [hW0]; exact (by first | assumption | exact cell_new (by with_reducible first | rfl | (simp; done) | (simp; omega)) rfl | (repeat (first | assumption | exact cell_new (by with_reducible first | rfl | (simp; done) | (simp; omega)) rfl | refine cell_alloc ?_ _ | refine cell_drew ?_ | refine cell_drewN ?_ _ | refine cell_far ?_ (by simp) _ | (refine cell_far ?_ (by simp <;> omega) _))) | simp [go_sem, *])
    have hB : Below w.heap.size w w0 := by rw [hW0]; repeat (first | exact Below.refl _ _ | exact hB | refine Below.drew ?_ | refine below_drewN ?_ _ | refine bset ?_ (by simp <;> omega) _ | refine bal ?_ _)
    have hz : w.heap.size ≤ w0.heap.size := hB.size
    clear hW0
    have hBc : Below w0.heap.size w0 w0.drew := (Below.refl _ _).drew
    have HB0 := Lib.hid hB
    go_region_held3 (fun w' => w'.cell? ⟨w.heap.size, 0, none⟩ = some (.bool false) ∧ w'.cell? ⟨w.heap.size, 1, none⟩ = some (.slice a1 l1.length c1) ∧ w'.cell? ⟨w.heap.size + 1, 1, none⟩ = some (.slice a2 l2.length c2))
      (first | exact ⟨x0, x1, y1⟩ | exact ⟨bkeep hBc x0, bkeep hBc x1, bkeep hBc y1⟩ | exact ⟨cell_far (cell_far (bkeep hBc x0) (addr_ne (by omega)) _) (addr_ne (by omega)) _, cell_far (cell_far (bkeep hBc x1) (addr_ne (by omega)) _) (addr_ne (by omega)) _, cell_far (cell_far (bkeep hBc y1) (addr_ne (by omega)) _) (addr_ne (by omega)) _⟩)
      (first
        | (go_at_call 139; refine (ac _ (u1.keep (bthen HB0.out hBc)) (u2.keep (bthen HB0.out hBc))).mono ?_; rintro e w3 ⟨⟨u3, rfl, a3, k3, L, rfl, rfl, hu, hn, hv⟩, hb3⟩; (replace hBc := bthen hBc hb3))
        | (go_at_call 133; refine (dc _ _ _ hu hn).mono ?_; rintro e w4 ⟨⟨v, rfl, hi⟩, hb4⟩; (replace hBc := bthen hBc hb4); (replace r0f := bkeepf hBc r0 r0f); (replace r1f := bkeepf hBc r1 r1f); (replace r0 := bkeep hBc r0); (replace r1 := bkeep hBc r1); (rw [hv, HS.out] at hi); (have HI2 := Lib.hid (hi.put2 r0 r1)); (obtain ⟨n4, a4, c4, l4, rfl, _, _, _, _⟩ := hi); unfold iv at *))
    have hB9 := bthen HB0.out hBc
    clear x0 x1 y0 y1
    go_wp2
    refine bodyPost_ret (v := .agg #[.bool n4, .slice a4 l4.length c4]) (by simp [results, Tryz.results91, go_sem, *]) rfl ⟨⟨_, rfl, HI2.out _ _⟩, ?_⟩
    repeat (first | exact Below.refl _ _ | exact hB9 | refine Below.drew ?_ | refine below_drewN ?_ _ | refine bset ?_ (by simp <;> omega) _ | refine bal ?_ _)
  ·
    have cc := fun w h1 h2 => limbCmp_c a1 a2 c1 c2 l1 l2 w h1 h2
    have dc := fun S a L w h hn => made_c S a (List.length L) L w h hn
    have hcz := cmpN_neg (x := val l1) (y := val l2)
    by_cases hlt : val l1 < val l2
    · have sc := fun w h1 h2 => limbSub_c a2 a1 c2 c1 l2 l1 w h1 h2 (by omega) (Nat.le_of_lt hlt)
      rw [show decide (val l1 < val l2) = true from by simpa using hlt] at hcz
      have HS := Lib.hid (show sg true (val l2 - val l1) = sg false (val l1) + sg true (val l2) from sg_sub_lt false _ _ (Nat.le_of_lt hlt))
      clear hlt
      go_enter Tryz.func91, Tryz.ntmps91
      go_wp2_with fail
      generalize cmpN (val l1) (val l2) = z at *
      refine (cc _ (u1.keep (by repeat (first | exact Below.refl _ _ | exact hB | refine Below.drew ?_ | refine below_drewN ?_ _ | refine bset ?_ (by simp <;> omega) _ | refine bal ?_ _))) (u2.keep (by repeat (first | exact Below.refl _ _ | exact hB | refine Below.drew ?_ | refine below_drewN ?_ _ | refine bset ?_ (by simp <;> omega) _ | refine bal ?_ _)))).mono ?_
      rintro e w1 ⟨rfl, hb1⟩
      have x0 : w1.cell? ⟨w.heap.size, 0, none⟩ = some (.bool false) := bkc hb1
      have zx0 := cell_lt x0
      have x0f : w1.frozen? ⟨w.heap.size, 0, none⟩ = false := bkcf (v := .bool false) hb1
      have x1 : w1.cell? ⟨w.heap.size, 1, none⟩ = some (.slice a1 l1.length c1) := bkc hb1
      have x1f : w1.frozen? ⟨w.heap.size, 1, none⟩ = false := bkcf (v := .slice a1 l1.length c1) hb1
      have y0 : w1.cell? ⟨w.heap.size + 1, 0, none⟩ = some (.bool true) := bkc hb1
      have zy0 := cell_lt y0
      have y0f : w1.frozen? ⟨w.heap.size + 1, 0, none⟩ = false := bkcf (v := .bool true) hb1
      have y1 : w1.cell? ⟨w.heap.size + 1, 1, none⟩ = some (.slice a2 l2.length c2) := bkc hb1
      have y1f : w1.frozen? ⟨w.heap.size + 1, 1, none⟩ = false := bkcf (v := .slice a2 l2.length c2) hb1
      have r0 : w1.cell? ⟨w.heap.size + 2, 0, none⟩ = some (.bool false) := bkc hb1
      have zr0 := cell_lt r0
      have r0f : w1.frozen? ⟨w.heap.size + 2, 0, none⟩ = false := bkcf (v := .bool false) hb1
      have r1 : w1.cell? ⟨w.heap.size + 2, 1, none⟩ = some (.slice none 0 0) := bkc hb1
      have r1f : w1.frozen? ⟨w.heap.size + 2, 1, none⟩ = false := bkcf (v := .slice none 0 0) hb1
      have hB : Below w.heap.size w w1 := bthen (by repeat (first | exact Below.refl _ _ | exact hB | refine Below.drew ?_ | refine below_drewN ?_ _ | refine bset ?_ (by simp <;> omega) _ | refine bal ?_ _)) hb1
      have hz : w.heap.size ≤ w1.heap.size := hB.size
      clear cc hb1
      go_wp2_with fail
      refine (sc _ (u2.keep (by repeat (first | exact Below.refl _ _ | exact hB | refine Below.drew ?_ | refine below_drewN ?_ _ | refine bset ?_ (by simp <;> omega) _ | refine bal ?_ _))) (u1.keep (by repeat (first | exact Below.refl _ _ | exact hB | refine Below.drew ?_ | refine below_drewN ?_ _ | refine bset ?_ (by simp <;> omega) _ | refine bal ?_ _)))).mono ?_
      rintro e w2 ⟨⟨u3, rfl, a3, k3, L, rfl, rfl, hu, hn, hv⟩, hb2⟩
      have hB2 : Below w.heap.size w w2 := bthen (bset (bset (bset (bset hB (p := ⟨w.heap.size, 0, none⟩) (Nat.le_refl _) _) (p := ⟨w.heap.size, 1, none⟩) (Nat.le_refl _) _) (p := ⟨w.heap.size + 1, 0, none⟩) (by simp) _) (p := ⟨w.heap.size + 1, 1, none⟩) (by simp) _) hb2
      have n1 : w.heap.size ≠ w.heap.size + 2 := by omega
      have n2 : w.heap.size + 1 ≠ w.heap.size + 2 := by omega
      have n3 : w.heap.size + 1 ≠ w.heap.size := by omega
      have xx0 := bkeep hb2 (cell_far (cell_far (cell_far (cell_here x0 (.bool true)) (by simp) (.slice a2 l2.length c2)) (addr_ne n3) (.bool false)) (addr_ne n3) (.slice a1 l1.length c1))
      have rr0 := cell_far (cell_far (cell_far (cell_far r0 (p := ⟨w.heap.size, 0, none⟩) (addr_ne n1) (.bool true)) (p := ⟨w.heap.size, 1, none⟩) (addr_ne n1) (.slice a2 l2.length c2)) (p := ⟨w.heap.size + 1, 0, none⟩) (addr_ne n2) (.bool false)) (p := ⟨w.heap.size + 1, 1, none⟩) (addr_ne n2) (.slice a1 l1.length c1)
      have rr1 := cell_far (cell_far (cell_far (cell_far r1 (p := ⟨w.heap.size, 0, none⟩) (addr_ne n1) (.bool true)) (p := ⟨w.heap.size, 1, none⟩) (addr_ne n1) (.slice a2 l2.length c2)) (p := ⟨w.heap.size + 1, 0, none⟩) (addr_ne n2) (.bool false)) (p := ⟨w.heap.size + 1, 1, none⟩) (addr_ne n2) (.slice a1 l1.length c1)
      replace r0f := bkeepf hb2 rr0 (by rw [World.frozen?_setCell, World.frozen?_setCell, World.frozen?_setCell, World.frozen?_setCell]; exact r0f)
      replace r1f := bkeepf hb2 rr1 (by rw [World.frozen?_setCell, World.frozen?_setCell, World.frozen?_setCell, World.frozen?_setCell]; exact r1f)
      replace r0 := bkeep hb2 rr0
      replace r1 := bkeep hb2 rr1
      clear x0 x1 y0 y1 x0f x1f y0f y1f rr0 rr1 hb2 n1 n2 n3 hB
      go_wp2_with fail
      refine (dc true _ _ _ hu hn).mono ?_
      rintro e w3 ⟨⟨v, rfl, hi⟩, hb3⟩
      replace r0f := bkeepf hb3 r0 r0f
      replace r1f := bkeepf hb3 r1 r1f
      replace r0 := bkeep hb3 r0
      replace r1 := bkeep hb3 r1
      have hB := bthen hB2 hb3
      rw [hv, HS.out] at hi
      have HI2 := Lib.hid (hi.put2 r0 r1)
      obtain ⟨n4, a4, c4, l4, rfl, _, _, _, _⟩ := hi
      unfold iv at *
      go_wp2
      refine bodyPost_ret (v := .agg #[.bool n4, .slice a4 l4.length c4]) (by simp [results, Tryz.results91, go_sem, *]) rfl ⟨⟨_, rfl, HI2.out _ _⟩, ?_⟩
      repeat (first | exact Below.refl _ _ | exact hB | refine Below.drew ?_ | refine below_drewN ?_ _ | refine bset ?_ (by simp <;> omega) _ | refine bal ?_ _)
    · have sc := fun w h1 h2 => limbSub_c a1 a2 c1 c2 l1 l2 w h1 h2 (by omega) (by omega)
      rw [show decide (val l1 < val l2) = false from by simpa using hlt] at hcz
      have HS := Lib.hid (show sg false (val l1 - val l2) = sg false (val l1) + sg true (val l2) from sg_sub_ge false _ _ (by omega))
      clear hlt
      go_enter Tryz.func91, Tryz.ntmps91
      go_wp2_with fail
      generalize cmpN (val l1) (val l2) = z at *
      refine (cc _ (u1.keep (by repeat (first | exact Below.refl _ _ | exact hB | refine Below.drew ?_ | refine below_drewN ?_ _ | refine bset ?_ (by simp <;> omega) _ | refine bal ?_ _))) (u2.keep (by repeat (first | exact Below.refl _ _ | exact hB | refine Below.drew ?_ | refine below_drewN ?_ _ | refine bset ?_ (by simp <;> omega) _ | refine bal ?_ _)))).mono ?_
      rintro e w1 ⟨rfl, hb1⟩
      have x0 : w1.cell? ⟨w.heap.size, 0, none⟩ = some (.bool false) := bkc hb1
      have zx0 := cell_lt x0
      have x0f : w1.frozen? ⟨w.heap.size, 0, none⟩ = false := bkcf (v := .bool false) hb1
      have x1 : w1.cell? ⟨w.heap.size, 1, none⟩ = some (.slice a1 l1.length c1) := bkc hb1
      have x1f : w1.frozen? ⟨w.heap.size, 1, none⟩ = false := bkcf (v := .slice a1 l1.length c1) hb1
      have y0 : w1.cell? ⟨w.heap.size + 1, 0, none⟩ = some (.bool true) := bkc hb1
      have zy0 := cell_lt y0
      have y0f : w1.frozen? ⟨w.heap.size + 1, 0, none⟩ = false := bkcf (v := .bool true) hb1
      have y1 : w1.cell? ⟨w.heap.size + 1, 1, none⟩ = some (.slice a2 l2.length c2) := bkc hb1
      have y1f : w1.frozen? ⟨w.heap.size + 1, 1, none⟩ = false := bkcf (v := .slice a2 l2.length c2) hb1
      have r0 : w1.cell? ⟨w.heap.size + 2, 0, none⟩ = some (.bool false) := bkc hb1
      have zr0 := cell_lt r0
      have r0f : w1.frozen? ⟨w.heap.size + 2, 0, none⟩ = false := bkcf (v := .bool false) hb1
      have r1 : w1.cell? ⟨w.heap.size + 2, 1, none⟩ = some (.slice none 0 0) := bkc hb1
      have r1f : w1.frozen? ⟨w.heap.size + 2, 1, none⟩ = false := bkcf (v := .slice none 0 0) hb1
      have hB : Below w.heap.size w w1 := bthen (by repeat (first | exact Below.refl _ _ | exact hB | refine Below.drew ?_ | refine below_drewN ?_ _ | refine bset ?_ (by simp <;> omega) _ | refine bal ?_ _)) hb1
      have hz : w.heap.size ≤ w1.heap.size := hB.size
      go_wp2_with fail
      refine (sc _ (u1.keep hB) (u2.keep hB)).mono ?_
      rintro e w2 ⟨⟨u3, rfl, a3, k3, L, rfl, rfl, hu, hn, hv⟩, hb2⟩
      have x0 : w2.cell? ⟨w.heap.size, 0, none⟩ = some (.bool false) := bkc hb2
      have zx0 := cell_lt x0
      have x0f : w2.frozen? ⟨w.heap.size, 0, none⟩ = false := bkcf (v := .bool false) hb2
      have x1 : w2.cell? ⟨w.heap.size, 1, none⟩ = some (.slice a1 l1.length c1) := bkc hb2
      have x1f : w2.frozen? ⟨w.heap.size, 1, none⟩ = false := bkcf (v := .slice a1 l1.length c1) hb2
      have y0 : w2.cell? ⟨w.heap.size + 1, 0, none⟩ = some (.bool true) := bkc hb2
      have zy0 := cell_lt y0
      have y0f : w2.frozen? ⟨w.heap.size + 1, 0, none⟩ = false := bkcf (v := .bool true) hb2
      have y1 : w2.cell? ⟨w.heap.size + 1, 1, none⟩ = some (.slice a2 l2.length c2) := bkc hb2
      have y1f : w2.frozen? ⟨w.heap.size + 1, 1, none⟩ = false := bkcf (v := .slice a2 l2.length c2) hb2
      have r0 : w2.cell? ⟨w.heap.size + 2, 0, none⟩ = some (.bool false) := bkc hb2
      have zr0 := cell_lt r0
      have r0f : w2.frozen? ⟨w.heap.size + 2, 0, none⟩ = false := bkcf (v := .bool false) hb2
      have r1 : w2.cell? ⟨w.heap.size + 2, 1, none⟩ = some (.slice none 0 0) := bkc hb2
      have r1f : w2.frozen? ⟨w.heap.size + 2, 1, none⟩ = false := bkcf (v := .slice none 0 0) hb2
      have hB : Below w.heap.size w w2 := bthen (by repeat (first | exact Below.refl _ _ | exact hB | refine Below.drew ?_ | refine below_drewN ?_ _ | refine bset ?_ (by simp <;> omega) _ | refine bal ?_ _)) hb2
      have hz : w.heap.size ≤ w2.heap.size := hB.size
      go_wp2_with fail
      refine (dc false _ _ _ hu hn).mono ?_
      rintro e w3 ⟨⟨v, rfl, hi⟩, hb3⟩
      have x0 : w3.cell? ⟨w.heap.size, 0, none⟩ = some (.bool false) := bkc hb3
      have zx0 := cell_lt x0
      have x0f : w3.frozen? ⟨w.heap.size, 0, none⟩ = false := bkcf (v := .bool false) hb3
      have x1 : w3.cell? ⟨w.heap.size, 1, none⟩ = some (.slice a1 l1.length c1) := bkc hb3
      have x1f : w3.frozen? ⟨w.heap.size, 1, none⟩ = false := bkcf (v := .slice a1 l1.length c1) hb3
      have y0 : w3.cell? ⟨w.heap.size + 1, 0, none⟩ = some (.bool true) := bkc hb3
      have zy0 := cell_lt y0
      have y0f : w3.frozen? ⟨w.heap.size + 1, 0, none⟩ = false := bkcf (v := .bool true) hb3
      have y1 : w3.cell? ⟨w.heap.size + 1, 1, none⟩ = some (.slice a2 l2.length c2) := bkc hb3
      have y1f : w3.frozen? ⟨w.heap.size + 1, 1, none⟩ = false := bkcf (v := .slice a2 l2.length c2) hb3
      have r0 : w3.cell? ⟨w.heap.size + 2, 0, none⟩ = some (.bool false) := bkc hb3
      have zr0 := cell_lt r0
      have r0f : w3.frozen? ⟨w.heap.size + 2, 0, none⟩ = false := bkcf (v := .bool false) hb3
      have r1 : w3.cell? ⟨w.heap.size + 2, 1, none⟩ = some (.slice none 0 0) := bkc hb3
      have r1f : w3.frozen? ⟨w.heap.size + 2, 1, none⟩ = false := bkcf (v := .slice none 0 0) hb3
      have hB : Below w.heap.size w w3 := bthen (by repeat (first | exact Below.refl _ _ | exact hB | refine Below.drew ?_ | refine below_drewN ?_ _ | refine bset ?_ (by simp <;> omega) _ | refine bal ?_ _)) hb3
      have hz : w.heap.size ≤ w3.heap.size := hB.size
      rw [hv, HS.out] at hi
      have HI2 := Lib.hid (hi.put2 r0 r1)
      obtain ⟨n4, a4, c4, l4, rfl, _, _, _, _⟩ := hi
      unfold iv at *
      go_wp2
      refine bodyPost_ret (v := .agg #[.bool n4, .slice a4 l4.length c4]) (by simp [results, Tryz.results91, go_sem, *]) rfl ⟨⟨_, rfl, HI2.out _ _⟩, ?_⟩
      repeat (first | exact Below.refl _ _ | exact hB | refine Below.drew ?_ | refine below_drewN ?_ _ | refine bset ?_ (by simp <;> omega) _ | refine bal ?_ _)
  ·
    have cc := fun w h1 h2 => limbCmp_c a1 a2 c1 c2 l1 l2 w h1 h2
    have dc := fun S a L w h hn => made_c S a (List.length L) L w h hn
    have hcz := cmpN_neg (x := val l1) (y := val l2)
    by_cases hlt : val l1 < val l2
    · have sc := fun w h1 h2 => limbSub_c a2 a1 c2 c1 l2 l1 w h1 h2 (by omega) (Nat.le_of_lt hlt)
      rw [show decide (val l1 < val l2) = true from by simpa using hlt] at hcz
      have HS := Lib.hid (show sg false (val l2 - val l1) = sg true (val l1) + sg false (val l2) from sg_sub_lt true _ _ (Nat.le_of_lt hlt))
      clear hlt
      go_enter Tryz.func91, Tryz.ntmps91
      go_wp2_with fail
      generalize cmpN (val l1) (val l2) = z at *
      refine (cc _ (u1.keep (by repeat (first | exact Below.refl _ _ | exact hB | refine Below.drew ?_ | refine below_drewN ?_ _ | refine bset ?_ (by simp <;> omega) _ | refine bal ?_ _))) (u2.keep (by repeat (first | exact Below.refl _ _ | exact hB | refine Below.drew ?_ | refine below_drewN ?_ _ | refine bset ?_ (by simp <;> omega) _ | refine bal ?_ _)))).mono ?_
      rintro e w1 ⟨rfl, hb1⟩
      have x0 : w1.cell? ⟨w.heap.size, 0, none⟩ = some (.bool true) := bkc hb1
      have zx0 := cell_lt x0
      have x0f : w1.frozen? ⟨w.heap.size, 0, none⟩ = false := bkcf (v := .bool true) hb1
      have x1 : w1.cell? ⟨w.heap.size, 1, none⟩ = some (.slice a1 l1.length c1) := bkc hb1
      have x1f : w1.frozen? ⟨w.heap.size, 1, none⟩ = false := bkcf (v := .slice a1 l1.length c1) hb1
      have y0 : w1.cell? ⟨w.heap.size + 1, 0, none⟩ = some (.bool false) := bkc hb1
      have zy0 := cell_lt y0
      have y0f : w1.frozen? ⟨w.heap.size + 1, 0, none⟩ = false := bkcf (v := .bool false) hb1
      have y1 : w1.cell? ⟨w.heap.size + 1, 1, none⟩ = some (.slice a2 l2.length c2) := bkc hb1
      have y1f : w1.frozen? ⟨w.heap.size + 1, 1, none⟩ = false := bkcf (v := .slice a2 l2.length c2) hb1
      have r0 : w1.cell? ⟨w.heap.size + 2, 0, none⟩ = some (.bool false) := bkc hb1
      have zr0 := cell_lt r0
      have r0f : w1.frozen? ⟨w.heap.size + 2, 0, none⟩ = false := bkcf (v := .bool false) hb1
      have r1 : w1.cell? ⟨w.heap.size + 2, 1, none⟩ = some (.slice none 0 0) := bkc hb1
      have r1f : w1.frozen? ⟨w.heap.size + 2, 1, none⟩ = false := bkcf (v := .slice none 0 0) hb1
      have hB : Below w.heap.size w w1 := bthen (by repeat (first | exact Below.refl _ _ | exact hB | refine Below.drew ?_ | refine below_drewN ?_ _ | refine bset ?_ (by simp <;> omega) _ | refine bal ?_ _)) hb1
      have hz : w.heap.size ≤ w1.heap.size := hB.size
      clear cc hb1
      go_wp2_with fail
      refine (sc _ (u2.keep (by repeat (first | exact Below.refl _ _ | exact hB | refine Below.drew ?_ | refine below_drewN ?_ _ | refine bset ?_ (by simp <;> omega) _ | refine bal ?_ _))) (u1.keep (by repeat (first | exact Below.refl _ _ | exact hB | refine Below.drew ?_ | refine below_drewN ?_ _ | refine bset ?_ (by simp <;> omega) _ | refine bal ?_ _)))).mono ?_
      rintro e w2 ⟨⟨u3, rfl, a3, k3, L, rfl, rfl, hu, hn, hv⟩, hb2⟩
      have hB2 : Below w.heap.size w w2 := bthen (bset (bset (bset (bset hB (p := ⟨w.heap.size, 0, none⟩) (Nat.le_refl _) _) (p := ⟨w.heap.size, 1, none⟩) (Nat.le_refl _) _) (p := ⟨w.heap.size + 1, 0, none⟩) (by simp) _) (p := ⟨w.heap.size + 1, 1, none⟩) (by simp) _) hb2
      have n1 : w.heap.size ≠ w.heap.size + 2 := by omega
      have n2 : w.heap.size + 1 ≠ w.heap.size + 2 := by omega
      have n3 : w.heap.size + 1 ≠ w.heap.size := by omega
      have xx0 := bkeep hb2 (cell_far (cell_far (cell_far (cell_here x0 (.bool false)) (by simp) (.slice a2 l2.length c2)) (addr_ne n3) (.bool true)) (addr_ne n3) (.slice a1 l1.length c1))
      have rr0 := cell_far (cell_far (cell_far (cell_far r0 (p := ⟨w.heap.size, 0, none⟩) (addr_ne n1) (.bool false)) (p := ⟨w.heap.size, 1, none⟩) (addr_ne n1) (.slice a2 l2.length c2)) (p := ⟨w.heap.size + 1, 0, none⟩) (addr_ne n2) (.bool true)) (p := ⟨w.heap.size + 1, 1, none⟩) (addr_ne n2) (.slice a1 l1.length c1)
      have rr1 := cell_far (cell_far (cell_far (cell_far r1 (p := ⟨w.heap.size, 0, none⟩) (addr_ne n1) (.bool false)) (p := ⟨w.heap.size, 1, none⟩) (addr_ne n1) (.slice a2 l2.length c2)) (p := ⟨w.heap.size + 1, 0, none⟩) (addr_ne n2) (.bool true)) (p := ⟨w.heap.size + 1, 1, none⟩) (addr_ne n2) (.slice a1 l1.length c1)
      replace r0f := bkeepf hb2 rr0 (by rw [World.frozen?_setCell, World.frozen?_setCell, World.frozen?_setCell, World.frozen?_setCell]; exact r0f)
      replace r1f := bkeepf hb2 rr1 (by rw [World.frozen?_setCell, World.frozen?_setCell, World.frozen?_setCell, World.frozen?_setCell]; exact r1f)
      replace r0 := bkeep hb2 rr0
      replace r1 := bkeep hb2 rr1
      clear x0 x1 y0 y1 x0f x1f y0f y1f rr0 rr1 hb2 n1 n2 n3 hB
      go_wp2_with fail
      refine (dc false _ _ _ hu hn).mono ?_
      rintro e w3 ⟨⟨v, rfl, hi⟩, hb3⟩
      replace r0f := bkeepf hb3 r0 r0f
      replace r1f := bkeepf hb3 r1 r1f
      replace r0 := bkeep hb3 r0
      replace r1 := bkeep hb3 r1
      have hB := bthen hB2 hb3
      rw [hv, HS.out] at hi
      have HI2 := Lib.hid (hi.put2 r0 r1)
      obtain ⟨n4, a4, c4, l4, rfl, _, _, _, _⟩ := hi
      unfold iv at *
      go_wp2
      refine bodyPost_ret (v := .agg #[.bool n4, .slice a4 l4.length c4]) (by simp [results, Tryz.results91, go_sem, *]) rfl ⟨⟨_, rfl, HI2.out _ _⟩, ?_⟩
      repeat (first | exact Below.refl _ _ | exact hB | refine Below.drew ?_ | refine below_drewN ?_ _ | refine bset ?_ (by simp <;> omega) _ | refine bal ?_ _)
    · have sc := fun w h1 h2 => limbSub_c a1 a2 c1 c2 l1 l2 w h1 h2 (by omega) (by omega)
      rw [show decide (val l1 < val l2) = false from by simpa using hlt] at hcz
      have HS := Lib.hid (show sg true (val l1 - val l2) = sg true (val l1) + sg false (val l2) from sg_sub_ge true _ _ (by omega))
      clear hlt
      go_enter Tryz.func91, Tryz.ntmps91
      go_wp2_with fail
      generalize cmpN (val l1) (val l2) = z at *
      refine (cc _ (u1.keep (by repeat (first | exact Below.refl _ _ | exact hB | refine Below.drew ?_ | refine below_drewN ?_ _ | refine bset ?_ (by simp <;> omega) _ | refine bal ?_ _))) (u2.keep (by repeat (first | exact Below.refl _ _ | exact hB | refine Below.drew ?_ | refine below_drewN ?_ _ | refine bset ?_ (by simp <;> omega) _ | refine bal ?_ _)))).mono ?_
      rintro e w1 ⟨rfl, hb1⟩
      have x0 : w1.cell? ⟨w.heap.size, 0, none⟩ = some (.bool true) := bkc hb1
      have zx0 := cell_lt x0
      have x0f : w1.frozen? ⟨w.heap.size, 0, none⟩ = false := bkcf (v := .bool true) hb1
      have x1 : w1.cell? ⟨w.heap.size, 1, none⟩ = some (.slice a1 l1.length c1) := bkc hb1
      have x1f : w1.frozen? ⟨w.heap.size, 1, none⟩ = false := bkcf (v := .slice a1 l1.length c1) hb1
      have y0 : w1.cell? ⟨w.heap.size + 1, 0, none⟩ = some (.bool false) := bkc hb1
      have zy0 := cell_lt y0
      have y0f : w1.frozen? ⟨w.heap.size + 1, 0, none⟩ = false := bkcf (v := .bool false) hb1
      have y1 : w1.cell? ⟨w.heap.size + 1, 1, none⟩ = some (.slice a2 l2.length c2) := bkc hb1
      have y1f : w1.frozen? ⟨w.heap.size + 1, 1, none⟩ = false := bkcf (v := .slice a2 l2.length c2) hb1
      have r0 : w1.cell? ⟨w.heap.size + 2, 0, none⟩ = some (.bool false) := bkc hb1
      have zr0 := cell_lt r0
      have r0f : w1.frozen? ⟨w.heap.size + 2, 0, none⟩ = false := bkcf (v := .bool false) hb1
      have r1 : w1.cell? ⟨w.heap.size + 2, 1, none⟩ = some (.slice none 0 0) := bkc hb1
      have r1f : w1.frozen? ⟨w.heap.size + 2, 1, none⟩ = false := bkcf (v := .slice none 0 0) hb1
      have hB : Below w.heap.size w w1 := bthen (by repeat (first | exact Below.refl _ _ | exact hB | refine Below.drew ?_ | refine below_drewN ?_ _ | refine bset ?_ (by simp <;> omega) _ | refine bal ?_ _)) hb1
      have hz : w.heap.size ≤ w1.heap.size := hB.size
      go_wp2_with fail
      refine (sc _ (u1.keep hB) (u2.keep hB)).mono ?_
      rintro e w2 ⟨⟨u3, rfl, a3, k3, L, rfl, rfl, hu, hn, hv⟩, hb2⟩
      have x0 : w2.cell? ⟨w.heap.size, 0, none⟩ = some (.bool true) := bkc hb2
      have zx0 := cell_lt x0
      have x0f : w2.frozen? ⟨w.heap.size, 0, none⟩ = false := bkcf (v := .bool true) hb2
      have x1 : w2.cell? ⟨w.heap.size, 1, none⟩ = some (.slice a1 l1.length c1) := bkc hb2
      have x1f : w2.frozen? ⟨w.heap.size, 1, none⟩ = false := bkcf (v := .slice a1 l1.length c1) hb2
      have y0 : w2.cell? ⟨w.heap.size + 1, 0, none⟩ = some (.bool false) := bkc hb2
      have zy0 := cell_lt y0
      have y0f : w2.frozen? ⟨w.heap.size + 1, 0, none⟩ = false := bkcf (v := .bool false) hb2
      have y1 : w2.cell? ⟨w.heap.size + 1, 1, none⟩ = some (.slice a2 l2.length c2) := bkc hb2
      have y1f : w2.frozen? ⟨w.heap.size + 1, 1, none⟩ = false := bkcf (v := .slice a2 l2.length c2) hb2
      have r0 : w2.cell? ⟨w.heap.size + 2, 0, none⟩ = some (.bool false) := bkc hb2
      have zr0 := cell_lt r0
      have r0f : w2.frozen? ⟨w.heap.size + 2, 0, none⟩ = false := bkcf (v := .bool false) hb2
      have r1 : w2.cell? ⟨w.heap.size + 2, 1, none⟩ = some (.slice none 0 0) := bkc hb2
      have r1f : w2.frozen? ⟨w.heap.size + 2, 1, none⟩ = false := bkcf (v := .slice none 0 0) hb2
      have hB : Below w.heap.size w w2 := bthen (by repeat (first | exact Below.refl _ _ | exact hB | refine Below.drew ?_ | refine below_drewN ?_ _ | refine bset ?_ (by simp <;> omega) _ | refine bal ?_ _)) hb2
      have hz : w.heap.size ≤ w2.heap.size := hB.size
      go_wp2_with fail
      refine (dc true _ _ _ hu hn).mono ?_
      rintro e w3 ⟨⟨v, rfl, hi⟩, hb3⟩
      have x0 : w3.cell? ⟨w.heap.size, 0, none⟩ = some (.bool true) := bkc hb3
      have zx0 := cell_lt x0
      have x0f : w3.frozen? ⟨w.heap.size, 0, none⟩ = false := bkcf (v := .bool true) hb3
      have x1 : w3.cell? ⟨w.heap.size, 1, none⟩ = some (.slice a1 l1.length c1) := bkc hb3
      have x1f : w3.frozen? ⟨w.heap.size, 1, none⟩ = false := bkcf (v := .slice a1 l1.length c1) hb3
      have y0 : w3.cell? ⟨w.heap.size + 1, 0, none⟩ = some (.bool false) := bkc hb3
      have zy0 := cell_lt y0
      have y0f : w3.frozen? ⟨w.heap.size + 1, 0, none⟩ = false := bkcf (v := .bool false) hb3
      have y1 : w3.cell? ⟨w.heap.size + 1, 1, none⟩ = some (.slice a2 l2.length c2) := bkc hb3
      have y1f : w3.frozen? ⟨w.heap.size + 1, 1, none⟩ = false := bkcf (v := .slice a2 l2.length c2) hb3
      have r0 : w3.cell? ⟨w.heap.size + 2, 0, none⟩ = some (.bool false) := bkc hb3
      have zr0 := cell_lt r0
      have r0f : w3.frozen? ⟨w.heap.size + 2, 0, none⟩ = false := bkcf (v := .bool false) hb3
      have r1 : w3.cell? ⟨w.heap.size + 2, 1, none⟩ = some (.slice none 0 0) := bkc hb3
      have r1f : w3.frozen? ⟨w.heap.size + 2, 1, none⟩ = false := bkcf (v := .slice none 0 0) hb3
      have hB : Below w.heap.size w w3 := bthen (by repeat (first | exact Below.refl _ _ | exact hB | refine Below.drew ?_ | refine below_drewN ?_ _ | refine bset ?_ (by simp <;> omega) _ | refine bal ?_ _)) hb3
      have hz : w.heap.size ≤ w3.heap.size := hB.size
      rw [hv, HS.out] at hi
      have HI2 := Lib.hid (hi.put2 r0 r1)
      obtain ⟨n4, a4, c4, l4, rfl, _, _, _, _⟩ := hi
      unfold iv at *
      go_wp2
      refine bodyPost_ret (v := .agg #[.bool n4, .slice a4 l4.length c4]) (by simp [results, Tryz.results91, go_sem, *]) rfl ⟨⟨_, rfl, HI2.out _ _⟩, ?_⟩
      repeat (first | exact Below.refl _ _ | exact hB | refine Below.drew ?_ | refine below_drewN ?_ _ | refine bset ?_ (by simp <;> omega) _ | refine bal ?_ _)
  ·
    have ac := fun w h1 h2 => limbAdd_c a1 a2 c1 c2 l1 l2 w h1 h2 (by omega) (by omega)
    have dc := fun a L w h hn => made_c true a (List.length L) L w h hn
    have HS := Lib.hid (sg_add true (val l1) (val l2))
    go_enter Tryz.func91, Tryz.ntmps91
    go_wp2
    refine wp_name fun w0 hW0 => ?_
    have x0 : w0.cell? ⟨w.heap.size, 0, none⟩ = some (.bool true) := by rw [hW0]; exact (by first | assumption | exact cell_new (by with_reducible first | rfl | (simp; done) | (simp; omega)) rfl | (repeat (first | assumption | exact cell_new (by with_reducible first | rfl | (simp; done) | (simp; omega)) rfl | refine cell_alloc ?_ _ | refine cell_drew ?_ | refine cell_drewN ?_ _ | refine cell_far ?_ (by simp) _ | (refine cell_far ?_ (by simp <;> omega) _))) | simp [go_sem, *])
    have zx0 := cell_lt x0
    have x1 : w0.cell? ⟨w.heap.size, 1, none⟩ = some (.slice a1 l1.length c1) := by rw [hW0]; exact (by first | assumption | exact cell_new (by with_reducible first | rfl | (simp; done) | (simp; omega)) rfl | (repeat (first | assumption | exact cell_new (by with_reducible first | rfl | (simp; done) | (simp; omega)) rfl | refine cell_alloc ?_ _ | refine cell_drew ?_ | refine cell_drewN ?_ _ | refine cell_far ?_ (by simp) _ | (refine cell_far ?_ (by simp <;> omega) _))) | simp [go_sem, *])
    have y0 : w0.cell? ⟨w.heap.size + 1, 0, none⟩ = some (.bool true) := by rw [hW0]; exact (by first | assumption | exact cell_new (by with_reducible first | rfl | (simp; done) | (simp; omega)) rfl | (repeat (first | assumption | exact cell_new (by with_reducible first | rfl | (simp; done) | (simp; omega)) rfl | refine cell_alloc ?_ _ | refine cell_drew ?_ | refine cell_drewN ?_ _ | refine cell_far ?_ (by simp) _ | (refine cell_far ?_ (by simp <;> omega) _))) | simp [go_sem, *])
    have zy0 := cell_lt y0
    have y1 : w0.cell? ⟨w.heap.size + 1, 1, none⟩ = some (.slice a2 l2.length c2) := by rw [hW0]; exact (by first | assumption | exact cell_new (by with_reducible first | rfl | (simp; done) | (simp; omega)) rfl | (repeat (first | assumption | exact cell_new (by with_reducible first | rfl | (simp; done) | (simp; omega)) rfl | refine cell_alloc ?_ _ | refine cell_drew ?_ | refine cell_drewN ?_ _ | refine cell_far ?_ (by simp) _ | (refine cell_far ?_ (by simp <;> omega) _))) | simp [go_sem, *])
    have r0f : w0.frozen? ⟨w.heap.size + 2, 0, none⟩ = false := by rw [hW0]; simp [go_sem, *]
    have r0 : w0.cell? ⟨w.heap.size + 2, 0, none⟩ = some (.bool false) := by rw [hW0]; exact (by first | assumption | exact cell_new (by with_reducible first | rfl | (simp; done) | (simp; omega)) rfl | (repeat (first | assumption | exact cell_new (by with_reducible first | rfl | (simp; done) | (simp; omega)) rfl | refine cell_alloc ?_ _ | refine cell_drew ?_ | refine cell_drewN ?_ _ | refine cell_far ?_ (by simp) _ | (refine cell_far ?_ (by simp <;> omega) _))) | simp [go_sem, *])
    have zr0 := cell_lt r0
    have r1f : w0.frozen? ⟨w.heap.size + 2, 1, none⟩ = false := by rw [hW0]; simp [go_sem, *]
    have r1 : w0.cell? ⟨w.heap.size + 2, 1, none⟩ = some (.slice none 0 0) := by rw [hW0]; exact (by first | assumption | exact cell_new (by with_reducible first | rfl | (simp; done) | (simp; omega)) rfl | (repeat (first | assumption | exact cell_new (by with_reducible first | rfl | (simp; done) | (simp; omega)) rfl | refine cell_alloc ?_ _ | refine cell_drew ?_ | refine cell_drewN ?_ _ | refine cell_far ?_ (by simp) _ | (refine cell_far ?_ (by simp <;> omega) _))) | simp [go_sem, *])
    have hB : Below w.heap.size w w0 := by rw [hW0]; repeat (first | exact Below.refl _ _ | exact hB | refine Below.drew ?_ | refine below_drewN ?_ _ | refine bset ?_ (by simp <;> omega) _ | refine bal ?_ _)
    have hz : w.heap.size ≤ w0.heap.size := hB.size
    clear hW0
    have hBc : Below w0.heap.size w0 w0.drew := (Below.refl _ _).drew
    have HB0 := Lib.hid hB
    go_region_held3 (fun w' => w'.cell? ⟨w.heap.size, 0, none⟩ = some (.bool true) ∧ w'.cell? ⟨w.heap.size, 1, none⟩ = some (.slice a1 l1.length c1) ∧ w'.cell? ⟨w.heap.size + 1, 1, none⟩ = some (.slice a2 l2.length c2))
      (first | exact ⟨x0, x1, y1⟩ | exact ⟨bkeep hBc x0, bkeep hBc x1, bkeep hBc y1⟩ | exact ⟨cell_far (cell_far (bkeep hBc x0) (addr_ne (by omega)) _) (addr_ne (by omega)) _, cell_far (cell_far (bkeep hBc x1) (addr_ne (by omega)) _) (addr_ne (by omega)) _, cell_far (cell_far (bkeep hBc y1) (addr_ne (by omega)) _) (addr_ne (by omega)) _⟩)
      (first
        | (go_at_call 139; refine (ac _ (u1.keep (bthen HB0.out hBc)) (u2.keep (bthen HB0.out hBc))).mono ?_; rintro e w3 ⟨⟨u3, rfl, a3, k3, L, rfl, rfl, hu, hn, hv⟩, hb3⟩; (replace hBc := bthen hBc hb3))
        | (go_at_call 133; refine (dc _ _ _ hu hn).mono ?_; rintro e w4 ⟨⟨v, rfl, hi⟩, hb4⟩; (replace hBc := bthen hBc hb4); (replace r0f := bkeepf hBc r0 r0f); (replace r1f := bkeepf hBc r1 r1f); (replace r0 := bkeep hBc r0); (replace r1 := bkeep hBc r1); (rw [hv, HS.out] at hi); (have HI2 := Lib.hid (hi.put2 r0 r1)); (obtain ⟨n4, a4, c4, l4, rfl, _, _, _, _⟩ := hi); unfold iv at *))
    have hB9 := bthen HB0.out hBc
    clear x0 x1 y0 y1
    go_wp2
    refine bodyPost_ret (v := .agg #[.bool n4, .slice a4 l4.length c4]) (by simp [results, Tryz.results91, go_sem, *]) rfl ⟨⟨_, rfl, HI2.out _ _⟩, ?_⟩
    repeat (first | exact Below.refl _ _ | exact hB9 | refine Below.drew ?_ | refine below_drewN ?_ _ | refine bset ?_ (by simp <;> omega) _ | refine bal ?_ _)

set_option maxRecDepth 100000 in
set_option maxHeartbeats 4000000 in
theorem subI_c (vx vy : Value) (x y : Int) (k : Nat) (w : World) (hx : IsInt w vx x) (hy : IsInt w vy y) (bx : Bd k x) (by' : Bd k y) (hk : k ≤ 17179869184) :
    Calls Tryz.prog 131 #[vx, vy] w fun e w' => (∃ v, e = .returned v ∧ IsInt w' v (x - y)) ∧ Below w.heap.size w w' := by
  have nc := fun v w h => neg_c v y w h
  have ac := fun u v w h1 h2 => addI_c u v x (-y) k w h1 h2 bx by'.neg hk
  rw [← Int.sub_eq_add_neg] at ac
  have HX := Lib.hid hx
  have HY := Lib.hid hy
  obtain ⟨n1, a1, c1, l1, rfl, -⟩ := hx
  obtain ⟨n2, a2, c2, l2, rfl, -⟩ := hy
  clear bx by'
  unfold iv at *
  have hB := Below.refl w.heap.size w
  go_enter Tryz.func131, Tryz.ntmps131
  go_wp2
  refine wp_name fun w0 hW0 => ?_
  have x0 : w0.cell? ⟨w.heap.size, 0, none⟩ = some (.bool n1) := by rw [hW0]; exact (by first | assumption | exact cell_new (by with_reducible first | rfl | (simp; done) | (simp; omega)) rfl | (repeat (first | assumption | exact cell_new (by with_reducible first | rfl | (simp; done) | (simp; omega)) rfl | refine cell_alloc ?_ _ | refine cell_drew ?_ | refine cell_drewN ?_ _ | refine cell_far ?_ (by simp) _ | (refine cell_far ?_ (by simp <;> omega) _))) | simp [go_sem, *])
  have zx0 := cell_lt x0
  have x1 : w0.cell? ⟨w.heap.size, 1, none⟩ = some (.slice a1 l1.length c1) := by rw [hW0]; exact (by first | assumption | exact cell_new (by with_reducible first | rfl | (simp; done) | (simp; omega)) rfl | (repeat (first | assumption | exact cell_new (by with_reducible first | rfl | (simp; done) | (simp; omega)) rfl | refine cell_alloc ?_ _ | refine cell_drew ?_ | refine cell_drewN ?_ _ | refine cell_far ?_ (by simp) _ | (refine cell_far ?_ (by simp <;> omega) _))) | simp [go_sem, *])
  have y0 : w0.cell? ⟨w.heap.size + 1, 0, none⟩ = some (.bool n2) := by rw [hW0]; exact (by first | assumption | exact cell_new (by with_reducible first | rfl | (simp; done) | (simp; omega)) rfl | (repeat (first | assumption | exact cell_new (by with_reducible first | rfl | (simp; done) | (simp; omega)) rfl | refine cell_alloc ?_ _ | refine cell_drew ?_ | refine cell_drewN ?_ _ | refine cell_far ?_ (by simp) _ | (refine cell_far ?_ (by simp <;> omega) _))) | simp [go_sem, *])
  have zy0 := cell_lt y0
  have y1 : w0.cell? ⟨w.heap.size + 1, 1, none⟩ = some (.slice a2 l2.length c2) := by rw [hW0]; exact (by first | assumption | exact cell_new (by with_reducible first | rfl | (simp; done) | (simp; omega)) rfl | (repeat (first | assumption | exact cell_new (by with_reducible first | rfl | (simp; done) | (simp; omega)) rfl | refine cell_alloc ?_ _ | refine cell_drew ?_ | refine cell_drewN ?_ _ | refine cell_far ?_ (by simp) _ | (refine cell_far ?_ (by simp <;> omega) _))) | simp [go_sem, *])
  have r0f : w0.frozen? ⟨w.heap.size + 2, 0, none⟩ = false := by rw [hW0]; simp [go_sem, *]
  have r0 : w0.cell? ⟨w.heap.size + 2, 0, none⟩ = some (.bool false) := by rw [hW0]; exact (by first | assumption | exact cell_new (by with_reducible first | rfl | (simp; done) | (simp; omega)) rfl | (repeat (first | assumption | exact cell_new (by with_reducible first | rfl | (simp; done) | (simp; omega)) rfl | refine cell_alloc ?_ _ | refine cell_drew ?_ | refine cell_drewN ?_ _ | refine cell_far ?_ (by simp) _ | (refine cell_far ?_ (by simp <;> omega) _))) | simp [go_sem, *])
  have zr0 := cell_lt r0
  have r1f : w0.frozen? ⟨w.heap.size + 2, 1, none⟩ = false := by rw [hW0]; simp [go_sem, *]
  have r1 : w0.cell? ⟨w.heap.size + 2, 1, none⟩ = some (.slice none 0 0) := by rw [hW0]; exact (by first | assumption | exact cell_new (by with_reducible first | rfl | (simp; done) | (simp; omega)) rfl | (repeat (first | assumption | exact cell_new (by with_reducible first | rfl | (simp; done) | (simp; omega)) rfl | refine cell_alloc ?_ _ | refine cell_drew ?_ | refine cell_drewN ?_ _ | refine cell_far ?_ (by simp) _ | (refine cell_far ?_ (by simp <;> omega) _))) | simp [go_sem, *])
  have hB : Below w.heap.size w w0 := by rw [hW0]; repeat (first | exact Below.refl _ _ | exact hB | refine Below.drew ?_ | refine below_drewN ?_ _ | refine bset ?_ (by simp <;> omega) _ | refine bal ?_ _)
  have hz : w.heap.size ≤ w0.heap.size := hB.size
  clear hW0
  have hBc : Below w0.heap.size w0 w0.drew := (Below.refl _ _).drew
  have HB0 := Lib.hid hB
  go_region_held3 (fun w' => w'.cell? ⟨w.heap.size, 0, none⟩ = some (.bool n1) ∧ w'.cell? ⟨w.heap.size, 1, none⟩ = some (.slice a1 l1.length c1) ∧ w'.cell? ⟨w.heap.size + 1, 0, none⟩ = some (.bool n2) ∧ w'.cell? ⟨w.heap.size + 1, 1, none⟩ = some (.slice a2 l2.length c2))
    (first | exact ⟨x0, x1, y0, y1⟩ | exact ⟨bkeep hBc x0, bkeep hBc x1, bkeep hBc y0, bkeep hBc y1⟩ | exact ⟨cell_far (cell_far (bkeep hBc x0) (addr_ne (by omega)) _) (addr_ne (by omega)) _, cell_far (cell_far (bkeep hBc x1) (addr_ne (by omega)) _) (addr_ne (by omega)) _, cell_far (cell_far (bkeep hBc y0) (addr_ne (by omega)) _) (addr_ne (by omega)) _, cell_far (cell_far (bkeep hBc y1) (addr_ne (by omega)) _) (addr_ne (by omega)) _⟩)
    (first
      | (go_at_call 104; refine (nc _ _ (HY.out.keep (bthen HB0.out hBc))).mono ?_; rintro e w3 ⟨⟨v3, rfl, hi3⟩, hb3⟩; (replace hBc := bthen hBc hb3); (have HI3 := Lib.hid hi3); clear hi3)
      | (go_at_call 91; refine (ac _ _ _ (HX.out.keep (bthen HB0.out hBc)) HI3.out).mono ?_; rintro e w4 ⟨⟨v, rfl, hi⟩, hb4⟩; (replace hBc := bthen hBc hb4); (replace r0f := bkeepf hBc r0 r0f); (replace r1f := bkeepf hBc r1 r1f); (replace r0 := bkeep hBc r0); (replace r1 := bkeep hBc r1); (have HI2 := Lib.hid (hi.put2 r0 r1)); (obtain ⟨n4, a4, c4, l4, rfl, _, _, _, _⟩ := hi); unfold iv at *))
  have hB9 := bthen HB0.out hBc
  clear x0 x1 y0 y1
  go_wp2
  refine bodyPost_ret (v := .agg #[.bool n4, .slice a4 l4.length c4]) (by simp [results, Tryz.results131, go_sem, *]) rfl ⟨⟨_, rfl, HI2.out _ _⟩, ?_⟩
  repeat (first | exact Below.refl _ _ | exact hB9 | refine Below.drew ?_ | refine below_drewN ?_ _ | refine bset ?_ (by simp <;> omega) _ | refine bal ?_ _)
end Go.Proofs.YthaohpfbengabaaGreatDoor

/- integer: Abs, Shl. -/
namespace Go.Proofs.YthaohpfbengabaaGreatDoor
open Num
open Go.ChangeShapes Go.WideShapes Go.ChangeAt Go.RowKit
set_option linter.unusedVariables false
set_option linter.unusedSimpArgs false

set_option maxRecDepth 100000 in
set_option maxHeartbeats 1000000 in
theorem abs_c (vx : Value) (x : Int) (w : World) (hx : IsInt w vx x) :
    Calls Tryz.prog 116 #[vx] w fun e w' => (∃ v, e = .returned v ∧ IsInt w' v (x.natAbs : Int)) ∧ Below w.heap.size w w' := by
  obtain ⟨n1, a1, c1, l1, rfl, u1, g1, s1, rfl⟩ := hx
  have mc := fun w h => made_c false a1 c1 l1 w h g1
  rw [sg_abs]
  rw [show sg false (val l1) = (val l1 : Int) from rfl] at mc
  clear s1 g1
  unfold iv
  have hB0 := Below.refl w.heap.size w
  go_enter Tryz.func116, Tryz.ntmps116
  go_wp2_with fail
  refine (mc _ (u1.keep (by repeat (first | exact Below.refl _ _ | exact hB0 | refine Below.drew ?_ | refine below_drewN ?_ _ | refine bset ?_ (by simp <;> omega) _ | refine bal ?_ _)))).mono ?_
  rintro e w1 ⟨⟨v, rfl, hi⟩, hb1⟩
  have r0 : w1.cell? ⟨w.heap.size + 1, 0, none⟩ = some (.bool false) := bkc hb1
  have zr0 := cell_lt r0
  have r0f : w1.frozen? ⟨w.heap.size + 1, 0, none⟩ = false := bkcf (v := .bool false) hb1
  have r1 : w1.cell? ⟨w.heap.size + 1, 1, none⟩ = some (.slice none 0 0) := bkc hb1
  have r1f : w1.frozen? ⟨w.heap.size + 1, 1, none⟩ = false := bkcf (v := .slice none 0 0) hb1
  have hB : Below w.heap.size w w1 := bthen (by repeat (first | exact Below.refl _ _ | exact hB | refine Below.drew ?_ | refine below_drewN ?_ _ | refine bset ?_ (by simp <;> omega) _ | refine bal ?_ _)) hb1
  have hz : w.heap.size ≤ w1.heap.size := hB.size
  have HI2 := Lib.hid (hi.put2 r0 r1)
  obtain ⟨n4, a4, c4, l4, rfl, _, _, _, _⟩ := hi
  unfold iv at *
  go_wp2
  refine bodyPost_ret (v := .agg #[.bool n4, .slice a4 l4.length c4]) (by simp [results, Tryz.results116, go_sem, *]) rfl ⟨⟨_, rfl, HI2.out _ _⟩, ?_⟩
  repeat (first | exact Below.refl _ _ | exact hB | refine Below.drew ?_ | refine below_drewN ?_ _ | refine bset ?_ (by simp <;> omega) _ | refine bal ?_ _)

namespace Num
end Num
end Go.Proofs.YthaohpfbengabaaGreatDoor

/- math/bits.TrailingZeros32, limb: Twos. -/
namespace Go.Proofs.YthaohpfbengabaaGreatDoor
open Num
open Go.ChangeShapes Go.WideShapes Go.ChangeAt Go.RowKit
set_option linter.unusedVariables false
set_option linter.unusedSimpArgs false

namespace Num
end Num

end Go.Proofs.YthaohpfbengabaaGreatDoor

/- Plain: long division, limb by limb. -/
namespace Go.Proofs.YthaohpfbengabaaGreatDoor.Num
/-- i limbs of a list, from the k-th on -/
def win (U : List Nat) (k i : Nat) : Nat := val ((U.drop k).take i)
theorem take_any (l : List Nat) (k : Nat) : val (l.take (k + 1)) = val (l.take k) + l.getD k 0 * BB ^ k := by
  by_cases h : k < l.length
  · exact val_take_succ h
  · rw [List.take_of_length_le (by omega), List.take_of_length_le (by omega)]; simp [show l.length ≤ k by omega]
theorem win_zero (U : List Nat) (k : Nat) : win U k 0 = 0 := by simp [win, val]
theorem win_succ {U : List Nat} {k i : Nat} (h : k + i < U.length) : win U k (i + 1) = win U k i + U.getD (k + i) 0 * BB ^ i := by
  unfold win
  rw [val_take_succ (by simp; omega)]
  simp [List.getElem?_drop]
theorem win_set {U : List Nat} {k i j x : Nat} (h : j < k ∨ k + i ≤ j) : win (U.set j x) k i = win U k i := by
  unfold win
  congr 1
  apply List.ext_getElem?
  intro m
  simp only [List.getElem?_take, List.getElem?_drop, List.getElem?_set]
  by_cases hm : m < i
  · rw [if_pos hm, if_neg (by omega)]; simp [hm]
  · simp [hm]
theorem win_lt {U : List Nat} (h : Limbs U) (k i : Nat) : win U k i < BB ^ i := by
  unfold win
  refine Nat.lt_of_lt_of_le (val_lt (fun x hx => h x (List.mem_of_mem_drop (List.mem_of_mem_take hx)))) (Nat.pow_le_pow_right BB_pos ?_)
  simp; omega
theorem win_set_succ {U : List Nat} {k i x : Nat} (h : k + i < U.length) : win (U.set (k + i) x) k (i + 1) = win U k i + x * BB ^ i := by
  rw [win_succ (by simpa using h), win_set (.inr (Nat.le_refl _))]
  simp [h]
theorem getD_set_far {l : List Nat} {i j x : Nat} (h : i ≠ j) : (l.set i x).getD j 0 = l.getD j 0 := getD_set_ne h
/-- v, so many times, is taken: one limb -/
theorem less_arith {W V W0 c b P vi t ui m c1 r b1 B : Nat} (h : W + V * t = W0 + (c + b) * P) (hc : c + vi * t = c1 * B + m) (hr : r + m + b = ui + b1 * B) :
    W + r * P + (V + vi * P) * t = W0 + ui * P + (c1 + b1) * (B * P) := by
  have e1 : (V + vi * P) * t = V * t + vi * t * P := by rw [Nat.add_mul]; congr 1; ac_rfl
  have e2 : (c1 + b1) * (B * P) = c1 * B * P + b1 * B * P := by rw [Nat.add_mul]; congr 1 <;> ac_rfl
  have e3 : c * P + vi * t * P = c1 * B * P + m * P := by rw [← Nat.add_mul, hc, Nat.add_mul]
  have e4 : r * P + m * P + b * P = ui * P + b1 * B * P := by rw [← Nat.add_mul, ← Nat.add_mul, hr, Nat.add_mul]
  have e5 : (c + b) * P = c * P + b * P := Nat.add_mul _ _ _
  rw [e1, e2]
  omega
theorem back_arith {W V W1 c P vi ui c1 r B : Nat} (h : W + c * P = W1 + V) (hc : c + ui + vi = c1 * B + r) :
    W + r * P + c1 * (B * P) = W1 + ui * P + (V + vi * P) := by
  have e1 : c * P + ui * P + vi * P = c1 * (B * P) + r * P := by
    rw [← Nat.add_mul, ← Nat.add_mul, hc, Nat.add_mul]; congr 1; ac_rfl
  omega
/-- a list's value, by its two highest limbs -/
theorem top_two {v : List Nat} {n : Nat} (h : v.length = n + 2) : val v = v.getD (n + 1) 0 * BB ^ (n + 1) + v.getD n 0 * BB ^ n + val (v.take n) := by
  have h1 := val_take_succ (l := v) (k := n + 1) (by omega)
  have h2 := val_take_succ (l := v) (k := n) (by omega)
  rw [List.take_of_length_le (by omega)] at h1
  omega
theorem win_top {U : List Nat} {k n : Nat} (h : k + (n + 3) ≤ U.length) : win U k (n + 3) = (U.getD (k + (n + 2)) 0 * BB + U.getD (k + (n + 1)) 0) * BB ^ (n + 1) + U.getD (k + n) 0 * BB ^ n + win U k n := by
  rw [win_succ (by omega), win_succ (by omega), win_succ (by omega)]
  have : BB ^ (n + 2) = BB * BB ^ (n + 1) := by rw [Nat.pow_succ BB (n + 1), Nat.mul_comm]
  rw [this, Nat.add_mul]
  have : U.getD (k + (n + 2)) 0 * (BB * BB ^ (n + 1)) = U.getD (k + (n + 2)) 0 * BB * BB ^ (n + 1) := by ac_rfl
  omega
section
variable {N D v1 v2 low high u2 lowN P1 P2 B g r : Nat}
theorem kn_first (hP : 0 < P1) (hD : v1 * P1 ≤ D) (hN : N < (high + 1) * P1) (hD0 : 0 < D) (hv : 0 < v1) : N / D ≤ high / v1 := by
  rw [Nat.le_div_iff_mul_le hv]
  have h1 : N / D * D ≤ N := Nat.div_mul_le_self N D
  have h2 : N / D * (v1 * P1) ≤ N / D * D := Nat.mul_le_mul (Nat.le_refl _) hD
  have h3 : N / D * v1 * P1 < (high + 1) * P1 := by rw [Nat.mul_assoc]; omega
  have := Nat.lt_of_mul_lt_mul_right h3
  omega
theorem kn_big (h : N < D * B) : N / D < B := Nat.div_lt_of_lt_mul h
theorem kn_step (hP : 0 < P2) (hD0 : 0 < D) (hD : D = v1 * (B * P2) + v2 * P2 + low) (hN : N = high * (B * P2) + u2 * P2 + lowN) (hlN : lowN < P2) (hg : g * v1 + r = high) (ht : r * B + u2 < g * v2) : N / D < g := by
  rw [Nat.div_lt_iff_lt_mul hD0, hN, hD]
  have e1 : g * (v1 * (B * P2) + v2 * P2 + low) = g * v1 * (B * P2) + g * v2 * P2 + g * low := by
    rw [Nat.mul_add, Nat.mul_add]; congr 1; congr 1 <;> ac_rfl
  have e2 : high * (B * P2) = g * v1 * (B * P2) + r * B * P2 := by rw [← hg, Nat.add_mul]; congr 1; ac_rfl
  have e3 : (r * B + u2 + 1) * P2 ≤ g * v2 * P2 := Nat.mul_le_mul ht (Nat.le_refl _)
  have e4 : (r * B + u2 + 1) * P2 = r * B * P2 + u2 * P2 + P2 := by rw [Nat.add_mul, Nat.add_mul]; omega
  omega
theorem kn_exit (hv1 : 0 < v1) (hB : 0 < B) (hgB : g < B) (hlow : low < P2) (hD : D = v1 * (B * P2) + v2 * P2 + low) (hN : N = high * (B * P2) + u2 * P2 + lowN) (hg : g * v1 + r = high) (ht : g * v2 ≤ r * B + u2) : g * D < N + D := by
  have e1 : g * D = g * v1 * (B * P2) + g * v2 * P2 + g * low := by
    rw [hD, Nat.mul_add, Nat.mul_add]; congr 1; congr 1 <;> ac_rfl
  have e2 : high * (B * P2) = g * v1 * (B * P2) + r * B * P2 := by rw [← hg, Nat.add_mul]; congr 1; ac_rfl
  have e3 : g * v2 * P2 ≤ (r * B + u2) * P2 := Nat.mul_le_mul ht (Nat.le_refl _)
  have e4 : (r * B + u2) * P2 = r * B * P2 + u2 * P2 := Nat.add_mul _ _ _
  have e5 : g * low < B * P2 := Nat.mul_lt_mul'' hgB hlow
  have e6 : B * P2 ≤ v1 * (B * P2) := Nat.le_mul_of_pos_left _ hv1
  omega
theorem kn_far (hlow : v2 * P2 + low < B * P2) (hD : D = v1 * (B * P2) + v2 * P2 + low) (hN : N = high * (B * P2) + u2 * P2 + lowN) (hg : g * v1 + r = high) (hr : g ≤ r) : g * D ≤ N := by
  have e1 : D ≤ (v1 + 1) * (B * P2) := by rw [Nat.add_mul]; omega
  have e2 : g * D ≤ g * ((v1 + 1) * (B * P2)) := Nat.mul_le_mul (Nat.le_refl _) e1
  have e3 : g * ((v1 + 1) * (B * P2)) = (g * v1 + g) * (B * P2) := by rw [← Nat.mul_assoc, Nat.mul_add, Nat.mul_one]
  have e4 : (g * v1 + g) * (B * P2) ≤ high * (B * P2) := Nat.mul_le_mul (by omega) (Nat.le_refl _)
  omega
end
theorem low_two {v2 low P2 B : Nat} (h2 : v2 < B) (hl : low < P2) : v2 * P2 + low < B * P2 := by
  have : (v2 + 1) * P2 ≤ B * P2 := Nat.mul_le_mul h2 (Nat.le_refl _)
  rw [Nat.add_mul] at this
  omega
theorem kn_done {N D g W : Nat} (hD : 0 < D) (hq : N / D ≤ g) (h : W + D * g = N) : N / D = g ∧ N % D = W := by
  have h1 : g ≤ N / D := by rw [Nat.le_div_iff_mul_le hD, Nat.mul_comm]; omega
  have h2 : N / D = g := by omega
  refine ⟨h2, ?_⟩
  have := Nat.div_add_mod N D
  rw [h2] at this
  omega
theorem kn_over {N D g W P : Nat} (hD : 0 < D) (hg : g * D < N + D) (hW : W < P) (h : W + D * g = N + P) : g = N / D + 1 ∧ W + D = N % D + P := by
  have e : D * g = g * D := Nat.mul_comm _ _
  have h1 : N < g * D := by omega
  have h2 : N / D < g := (Nat.div_lt_iff_lt_mul hD).2 h1
  have h3 : g ≤ N / D + 1 := by
    apply Nat.le_of_not_lt
    intro hlt
    have : (N / D + 2) * D ≤ g * D := Nat.mul_le_mul hlt (Nat.le_refl _)
    have h4 := Nat.lt_div_mul_add (a := N) hD
    rw [Nat.add_mul] at this
    omega
  have hq : g = N / D + 1 := by omega
  refine ⟨hq, ?_⟩
  have := Nat.div_add_mod N D
  rw [hq, Nat.mul_add, Nat.mul_one] at h
  omega
theorem kn_back {R W P c : Nat} (hR : R < P) (hW : W < P) (h : W + c * P = R + P) : W = R := by
  rcases Nat.lt_or_ge c 1 with h0 | h0
  · obtain rfl : c = 0 := by omega
    omega
  · rcases Nat.lt_or_ge 1 c with h1 | h1
    · have : 2 * P ≤ c * P := Nat.mul_le_mul h1 (Nat.le_refl _)
      omega
    · obtain rfl : c = 1 := by omega
      omega
theorem val_cut {U : List Nat} {k : Nat} (h : k ≤ U.length) : val U = val (U.take k) + BB ^ k * val (U.drop k) := by
  conv => lhs; rw [← List.take_append_drop k U]
  rw [val_append, List.length_take, Nat.min_eq_left h]
end Go.Proofs.YthaohpfbengabaaGreatDoor.Num

/- limb: less (v, so many times, is taken from a part of u). -/
namespace Go.Proofs.YthaohpfbengabaaGreatDoor
open Num
open Go.ChangeShapes Go.WideShapes Go.ChangeAt Go.RowKit
set_option linter.unusedVariables false
set_option linter.unusedSimpArgs false
/-- a block of limbs that may be written, whose first cells are l -/
def Rw32 (w : World) (g : Nat) (l : List Nat) : Prop := ∃ cur, w.heap[g]? = some (.cells cur 133 (0, 0)) ∧ cur.toList.take l.length = cel l
theorem Rw32.cell {w : World} {g : Nat} {l : List Nat} (h : Rw32 w g l) (k : Nat) (hk : k < l.length) : w.cell? ⟨g, k, none⟩ = some (.int .u32 (l.getD k 0 : Nat)) := by
  obtain ⟨cur, h1, h2⟩ := h
  have := cel_get l k hk
  rw [← h2, List.getElem?_take_of_lt hk] at this
  unfold World.cell?
  rw [show w.heap[(⟨g, k, none⟩ : Addr).block]? = _ from h1]
  simpa using this
theorem Rw32.frozen {w : World} {g : Nat} {l : List Nat} (h : Rw32 w g l) (k : Nat) : w.frozen? ⟨g, k, none⟩ = false := by
  obtain ⟨cur, h1, _⟩ := h
  unfold World.frozen?
  rw [show w.heap[(⟨g, k, none⟩ : Addr).block]? = _ from h1]
  simp
theorem Rw32.lt {w : World} {g : Nat} {l : List Nat} (h : Rw32 w g l) : g < w.heap.size := by obtain ⟨cur, h1, _⟩ := h; exact (Array.getElem?_eq_some_iff.1 h1).1
theorem Rw32.keep {w w' : World} {g : Nat} {l : List Nat} (h : Rw32 w g l) (hb : Below w.heap.size w w') : Rw32 w' g l := by
  have hl := h.lt
  obtain ⟨cur, h1, h2⟩ := h
  exact ⟨cur, (hb.block g hl).trans h1, h2⟩
theorem Rw32.set {w : World} {g : Nat} {l : List Nat} (h : Rw32 w g l) (k x : Nat) : Rw32 (w.setCell ⟨g, k, none⟩ (.int .u32 (x : Int))) g (l.set k x) := by
  obtain ⟨cur, h1, h2⟩ := h
  refine ⟨cur.setIfInBounds k (.int .u32 (x : Int)), ?_, ?_⟩
  · unfold World.setCell
    simp only [Array.getElem?_modify, if_true]
    rw [show w.heap[g]? = _ from h1]
    rfl
  · rw [Array.toList_setIfInBounds, List.length_set, List.take_set, h2]
    simp [cel, List.map_set]
theorem Rw32.out {X : Nat → Prop} {w w' : World} {g : Nat} {l : List Nat} (h : Rw32 w g l) (ho : Out X w w') (hx : ¬ X g) : Rw32 w' g l := by
  have hl := h.lt
  obtain ⟨cur, h1, h2⟩ := h
  exact ⟨cur, (ho.block g hl hx).trans h1, h2⟩
theorem Rw32.u32 {w : World} {g : Nat} {l : List Nat} (h : Rw32 w g l) (hl : Limbs l) {c : Nat} (hc : l.length ≤ c) (hm : c ≤ maxLen) : U32 w (some ⟨g, 0, none⟩) c l :=
  ⟨hc, hm, hl, .inr ⟨g, 0, rfl, fun k hk => by simpa using h.cell k hk, by obtain ⟨cur, h1, _⟩ := h; unfold typOf; rw [h1]⟩⟩
theorem Blk.rw {w : World} {g : Nat} {l : List Nat} (h : Blk w g l) : Rw32 w g l := ⟨_, h, by rw [show ((cel l).toArray).toList = cel l from rfl, List.take_of_length_le (by rw [cel_len]; omega)]⟩
namespace Num
theorem less_step {O U V : List Nat} {k i c b t x : Nat} (hO : k + i < O.length) (hU : k + i < U.length) (hx : x = U.getD (k + i) 0)
    (h : win O k i + val (V.take i) * t = win U k i + (c + b) * BB ^ i) :
    ∀ cc c1 m r b1, cc = c + V.getD i 0 * t → cc = c1 * BB + m → r + m + b = x + b1 * BB → win (O.set (k + i) r) k (i + 1) + val (V.take (i + 1)) * t = win U k (i + 1) + (c1 + b1) * BB ^ (i + 1) := by
  intro cc c1 m r b1 h1 h2 h3
  rw [win_set_succ hO, win_succ hU, take_any, ← hx, Nat.pow_succ, Nat.mul_comm (BB ^ i) BB]
  exact less_arith h (h1 ▸ h2) h3
end Num
set_option maxRecDepth 100000 in
set_option maxHeartbeats 4000000 in
theorem less_c (g k n cu bv ov cv t : Nat) (U V : List Nat) (w : World) (hU : Rw32 w g U) (hUL : Limbs U) (hk : k + (n + 1) ≤ U.length) (hcu : n + 1 ≤ cu) (hkm : U.length ≤ 1099511627776) (hV : At32 w bv ov V) (hVL : Limbs V) (hVn : V.length = n) (hcv : n ≤ cv) (hg : bv ≠ g) (ht : t < BB) :
    Calls Tryz.prog 182 #[.slice (some ⟨g, k, none⟩) (n + 1) cu, .slice (some ⟨bv, ov, none⟩) n cv, .int .u64 (t : Int)] w fun e w' => (∃ (O : List Nat) (z : Nat), e = .returned (.bool (decide (0 < z))) ∧ z ≤ 1 ∧ Rw32 w' g O ∧ O.length = U.length ∧ Limbs O ∧ (∀ j, j < k ∨ k + (n + 1) ≤ j → O.getD j 0 = U.getD j 0) ∧ win O k (n + 1) + val V * t = win U k (n + 1) + z * BB ^ (n + 1)) ∧ Out (· = g) w w' := by
  go_enter Tryz.func182, Tryz.ntmps182
  go_wp2
  go_loopw [7, 8, 13] (fun cx bx x wr => ∃ (i c b : Nat) (O : List Nat), i ≤ n + 1 ∧ x = .int .i64 i ∧ cx = .int .u64 c ∧ bx = .int .u64 b ∧ c < BB ∧ b ≤ 1 ∧ Rw32 wr g O ∧ Hid (O.length = U.length) ∧ Limbs O ∧ Hid (∀ j, j < k ∨ k + i ≤ j → O.getD j 0 = U.getD j 0) ∧ Hid (win O k i + val (V.take i) * t = win U k i + (c + b) * BB ^ i) ∧ Hid (i = n + 1 → c = 0) ∧ Out (· = g) w wr) (fun _ _ x _ => n + 1 - (intOf x).toNat)
  case atStart => exact ⟨0, 0, 0, U, by omega, rfl, rfl, rfl, BB_pos, by omega, hU, Lib.hid rfl, hUL, Lib.hid (fun _ _ => rfl), Lib.hid (by simp [win_zero, val]), Lib.hid (fun h => rfl), Out.refl _ _⟩
  case round =>
    obtain ⟨i, c, b, O, hi, rfl, rfl, rfl, hcB, hb1, hO, hOl, hOL, hO0, hW, hCz, hOut⟩ := hrel
    have hol := hOl.out
    by_cases hlt : i < n + 1
    · have hltz : (i : Int) < (n : Int) + 1 := by omega
      have q0 := hO.cell (k + i) (by omega)
      have qf := hO.frozen (k + i)
      have hx := limb_get hOL (k + i)
      have hxe := hO0.out (k + i) (.inr (Nat.le_refl _))
      have HS := Lib.hid (less_step (O := O) (U := U) (V := V) (k := k) (i := i) (c := c) (b := b) (t := t) (x := O.getD (k + i) 0) (by omega) (by omega) hxe hW.out)
      clear hxe
      by_cases hiv : i < n
      · have d0 := okeep hOut (hV i (by omega)) hg
        have hy := limb_get hVL i
        have hcc : c + V.getD i 0 * t < BB * BB := by
          have h1 : V.getD i 0 * t ≤ (BB - 1) * (BB - 1) := Nat.mul_le_mul (by omega) (by omega)
          have h2 : (BB - 1) * (BB - 1) + (BB - 1) + (BB - 1) + 1 = BB * BB := by unfold BB; rfl
          omega
        generalize hye : V.getD i 0 = y at *
        generalize O.getD (k + i) 0 = x at *
        have e1 := w64 (BB_sq x hx)
        have e2 := w64 (BB_sq y hy)
        have e3 : IntKind.u64.wrap ((y : Int) * (t : Int)) = ((y * t : Nat) : Int) := by rw [← Int.natCast_mul]; exact w64 (by omega)
        have e3' : IntKind.u64.wrap ((c : Int) + ((y * t : Nat) : Int)) = ((c + y * t : Nat) : Int) := by rw [← Int.natCast_add]; exact w64 hcc
        obtain ⟨cc, hce⟩ : ∃ cc, cc = c + y * t := ⟨_, rfl⟩
        rw [← hce] at hcc e3'
        have HE := Lib.hid hce
        clear hce hye
        generalize y * t = yt at e3 e3' 
        obtain ⟨m, hm⟩ : ∃ m, m = cc % BB := ⟨_, rfl⟩
        obtain ⟨c1, h1⟩ : ∃ c1, c1 = cc / BB := ⟨_, rfl⟩
        have HZ := Lib.hid (show i + 1 = n + 1 → c1 = 0 from fun h => by omega)
        have hmB : m < BB := by rw [hm]; exact Nat.mod_lt _ BB_pos
        have h1B : c1 < BB := by rw [h1]; exact Nat.div_lt_of_lt_mul hcc
        have eand : bits .and .u64 (cc : Int) 4294967295 = (m : Int) := by
          rw [show (4294967295 : Int) = ((4294967295 : Nat) : Int) from rfl, bits_and_u64_nat cc 4294967295 (by unfold BB at hcc; omega) (by omega), show (4294967295 : Nat) = 2 ^ 32 - 1 from rfl, Nat.and_two_pow_sub_one_eq_mod, hm]; rfl
        have eshr : (cc : Int) / 4294967296 = (c1 : Int) := by unfold BB at h1; omega
        have HC := Lib.hid (show cc = c1 * BB + m by rw [h1, hm, Nat.mul_comm]; exact (Nat.div_add_mod cc BB).symm)
        clear hm h1
        by_cases hlow : m + b ≤ x
        · have e4 : IntKind.u64.wrap ((x : Int) - (m : Int)) = ((x - m : Nat) : Int) := by rw [show (x : Int) - (m : Int) = ((x - m : Nat) : Int) by omega]; exact w64 (by unfold BB at *; omega)
          have e5 : IntKind.u64.wrap (((x - m : Nat) : Int) - (b : Int)) = ((x - m - b : Nat) : Int) := by rw [show ((x - m : Nat) : Int) - (b : Int) = ((x - m - b : Nat) : Int) by omega]; exact w64 (by unfold BB at *; omega)
          have hr1 : x - m - b < BB := by omega
          have HR := Lib.hid (HS.out cc c1 m (x - m - b) 0 HE.out HC.out (by omega))
          generalize x - m - b = r at *
          generalize x - m = xm at *
          have e6 : (r : Int) / 4294967296 = 0 := by unfold BB at hr1; omega
          have e7 : (r : Int) % 4294967296 = (r : Int) := by unfold BB at hr1; omega
          have b0 : bits .and .u64 0 1 = 0 := by rfl
          have qb := hO.set (k + i) r
          have ql := limbs_set hOL (k := k + i) hr1
          have bs := hOut.set (p := ⟨g, k + i, none⟩) (fun _ => rfl) (.int .u32 (r : Int))
          have hrr := hr1
          clear hol HE hcc
          go_wp2
          refine ⟨⟨i + 1, c1, 0, O.set (k + i) r, by omega, by go_num, rfl, by first | rfl | simp, by omega, by omega, qb, Lib.hid (by simpa using hOl.out), ql, Lib.hid ?_, HR, HZ, bs⟩, by simp [intOf] <;> omega⟩
          intro j hj
          rw [getD_set_far (by omega)]
          exact hO0.out j (by omega)
        · have hD : 18446744073709551616 - (m + b - x) < 18446744073709551616 := by omega
          have hr1 : BB + x - m - b < BB := by omega
          have HR := Lib.hid (HS.out cc c1 m (BB + x - m - b) 1 HE.out HC.out (by omega))
          have e45 : ∃ X : Nat, IntKind.u64.wrap ((x : Int) - (m : Int)) = (X : Int) ∧ IntKind.u64.wrap ((X : Int) - (b : Int)) = ((18446744073709551616 - (m + b - x) : Nat) : Int) := by
            by_cases hxm : m ≤ x
            · refine ⟨x - m, ?_, ?_⟩
              · rw [show (x : Int) - (m : Int) = ((x - m : Nat) : Int) by omega]; exact w64 (by unfold BB at *; omega)
              · simp only [IntKind.wrap, IntKind.bits, IntKind.signed]
                simp
                unfold BB at *
                omega
            · refine ⟨18446744073709551616 - (m - x), ?_, ?_⟩
              · simp only [IntKind.wrap, IntKind.bits, IntKind.signed]
                simp
                unfold BB at *
                omega
              · simp only [IntKind.wrap, IntKind.bits, IntKind.signed]
                simp
                unfold BB at *
                omega
          obtain ⟨xm, e4, e5⟩ := e45
          have e7 : ((18446744073709551616 - (m + b - x) : Nat) : Int) % 4294967296 = ((BB + x - m - b : Nat) : Int) := by unfold BB at *; omega
          have e6 : ((18446744073709551616 - (m + b - x) : Nat) : Int) / 4294967296 = 4294967295 := by unfold BB at *; omega
          generalize 18446744073709551616 - (m + b - x) = D at e5 e6 e7 hD
          generalize BB + x - m - b = r at *
          have b0 : bits .and .u64 4294967295 1 = 1 := by rfl
          have qb := hO.set (k + i) r
          have ql := limbs_set hOL (k := k + i) hr1
          have bs := hOut.set (p := ⟨g, k + i, none⟩) (fun _ => rfl) (.int .u32 (r : Int))
          clear hol HE hcc
          go_wp2
          refine ⟨⟨i + 1, c1, 1, O.set (k + i) r, by omega, by go_num, rfl, by first | rfl | simp, by omega, by omega, qb, Lib.hid (by simpa using hOl.out), ql, Lib.hid ?_, HR, HZ, bs⟩, by simp [intOf] <;> omega⟩
          intro j hj
          rw [getD_set_far (by omega)]
          exact hO0.out j (by omega)
      · obtain rfl : i = n := by omega
        have hy0 : V.getD i 0 = 0 := by simp [hVn]
        rw [hy0] at HS
        have hcc : c < BB * BB := BB_sq c hcB
        generalize O.getD (k + i) 0 = x at *
        have e1 := w64 (BB_sq x hx)
        obtain ⟨cc, hce⟩ : ∃ cc, cc = c := ⟨_, rfl⟩
        have HE := Lib.hid (show cc = c + 0 * t by omega)
        subst hce
        clear hy0
        obtain ⟨m, hm⟩ : ∃ m, m = cc % BB := ⟨_, rfl⟩
        obtain ⟨c1, h1⟩ : ∃ c1, c1 = cc / BB := ⟨_, rfl⟩
        have HZ := Lib.hid (show i + 1 = i + 1 → c1 = 0 from fun _ => by rw [h1]; exact Nat.div_eq_of_lt hcB)
        have hmB : m < BB := by rw [hm]; exact Nat.mod_lt _ BB_pos
        have h1B : c1 < BB := by rw [h1]; exact Nat.div_lt_of_lt_mul hcc
        have eand : bits .and .u64 (cc : Int) 4294967295 = (m : Int) := by
          rw [show (4294967295 : Int) = ((4294967295 : Nat) : Int) from rfl, bits_and_u64_nat cc 4294967295 (by unfold BB at hcc; omega) (by omega), show (4294967295 : Nat) = 2 ^ 32 - 1 from rfl, Nat.and_two_pow_sub_one_eq_mod, hm]; rfl
        have eshr : (cc : Int) / 4294967296 = (c1 : Int) := by unfold BB at h1; omega
        have HC := Lib.hid (show cc = c1 * BB + m by rw [h1, hm, Nat.mul_comm]; exact (Nat.div_add_mod cc BB).symm)
        clear hm h1
        by_cases hlow : m + b ≤ x
        · have e4 : IntKind.u64.wrap ((x : Int) - (m : Int)) = ((x - m : Nat) : Int) := by rw [show (x : Int) - (m : Int) = ((x - m : Nat) : Int) by omega]; exact w64 (by unfold BB at *; omega)
          have e5 : IntKind.u64.wrap (((x - m : Nat) : Int) - (b : Int)) = ((x - m - b : Nat) : Int) := by rw [show ((x - m : Nat) : Int) - (b : Int) = ((x - m - b : Nat) : Int) by omega]; exact w64 (by unfold BB at *; omega)
          have hr1 : x - m - b < BB := by omega
          have HR := Lib.hid (HS.out cc c1 m (x - m - b) 0 HE.out HC.out (by omega))
          generalize x - m - b = r at *
          generalize x - m = xm at *
          have e6 : (r : Int) / 4294967296 = 0 := by unfold BB at hr1; omega
          have e7 : (r : Int) % 4294967296 = (r : Int) := by unfold BB at hr1; omega
          have b0 : bits .and .u64 0 1 = 0 := by rfl
          have qb := hO.set (k + i) r
          have ql := limbs_set hOL (k := k + i) hr1
          have bs := hOut.set (p := ⟨g, k + i, none⟩) (fun _ => rfl) (.int .u32 (r : Int))
          have hrr := hr1
          clear hol HE hcc
          go_wp2
          refine ⟨⟨i + 1, c1, 0, O.set (k + i) r, by omega, by go_num, rfl, by first | rfl | simp, by omega, by omega, qb, Lib.hid (by simpa using hOl.out), ql, Lib.hid ?_, HR, HZ, bs⟩, by simp [intOf] <;> omega⟩
          intro j hj
          rw [getD_set_far (by omega)]
          exact hO0.out j (by omega)
        · have hD : 18446744073709551616 - (m + b - x) < 18446744073709551616 := by omega
          have hr1 : BB + x - m - b < BB := by omega
          have HR := Lib.hid (HS.out cc c1 m (BB + x - m - b) 1 HE.out HC.out (by omega))
          have e45 : ∃ X : Nat, IntKind.u64.wrap ((x : Int) - (m : Int)) = (X : Int) ∧ IntKind.u64.wrap ((X : Int) - (b : Int)) = ((18446744073709551616 - (m + b - x) : Nat) : Int) := by
            by_cases hxm : m ≤ x
            · refine ⟨x - m, ?_, ?_⟩
              · rw [show (x : Int) - (m : Int) = ((x - m : Nat) : Int) by omega]; exact w64 (by unfold BB at *; omega)
              · simp only [IntKind.wrap, IntKind.bits, IntKind.signed]
                simp
                unfold BB at *
                omega
            · refine ⟨18446744073709551616 - (m - x), ?_, ?_⟩
              · simp only [IntKind.wrap, IntKind.bits, IntKind.signed]
                simp
                unfold BB at *
                omega
              · simp only [IntKind.wrap, IntKind.bits, IntKind.signed]
                simp
                unfold BB at *
                omega
          obtain ⟨xm, e4, e5⟩ := e45
          have e7 : ((18446744073709551616 - (m + b - x) : Nat) : Int) % 4294967296 = ((BB + x - m - b : Nat) : Int) := by unfold BB at *; omega
          have e6 : ((18446744073709551616 - (m + b - x) : Nat) : Int) / 4294967296 = 4294967295 := by unfold BB at *; omega
          generalize 18446744073709551616 - (m + b - x) = D at e5 e6 e7 hD
          generalize BB + x - m - b = r at *
          have b0 : bits .and .u64 4294967295 1 = 1 := by rfl
          have qb := hO.set (k + i) r
          have ql := limbs_set hOL (k := k + i) hr1
          have bs := hOut.set (p := ⟨g, k + i, none⟩) (fun _ => rfl) (.int .u32 (r : Int))
          clear hol HE hcc
          go_wp2
          refine ⟨⟨i + 1, c1, 1, O.set (k + i) r, by omega, by go_num, rfl, by first | rfl | simp, by omega, by omega, qb, Lib.hid (by simpa using hOl.out), ql, Lib.hid ?_, HR, HZ, bs⟩, by simp [intOf] <;> omega⟩
          intro j hj
          rw [getD_set_far (by omega)]
          exact hO0.out j (by omega)
    · obtain rfl : i = n + 1 := by omega
      have HW := Lib.hid (show c = 0 ∧ win O k (n + 1) + val V * t = win U k (n + 1) + b * BB ^ (n + 1) by
        have h := hW.out
        rw [List.take_of_length_le (by omega)] at h
        have h0 : c = 0 := hCz.out rfl
        subst h0
        exact ⟨rfl, by simpa using h⟩)
      clear hol
      go_wp2
      go_ret
      exact ⟨⟨O, b, by simp, hb1, hO, hOl.out, hOL, hO0.out, HW.out.2⟩, hOut⟩
end Go.Proofs.YthaohpfbengabaaGreatDoor

/- Plain: the reference's sums, differences, binary digits. -/
namespace Go.Proofs.YthaohpfbengabaaGreatDoor.NumR
open Num (Nrm bitN bitN_half trimL)
theorem take_any (l : List Nat) (k : Nat) : val (l.take (k + 1)) = val (l.take k) + l.getD k 0 * BB ^ k := by
  by_cases h : k < l.length
  · exact val_take_succ h
  · rw [List.take_of_length_le (by omega), List.take_of_length_le (by omega)]; simp [show l.length ≤ k by omega]
theorem val_snoc (O : List Nat) (x : Nat) : val (O ++ [x]) = val O + x * BB ^ O.length := by rw [val_append]; simp [val, Nat.mul_comm]
theorem plus_step {O A B : List Nat} {i c t : Nat} (hO : O.length = i) (ht : t = c + A.getD i 0 + B.getD i 0) (h : val O + c * BB ^ i = val (A.take i) + val (B.take i)) :
    val (O ++ [t % BB]) + t / BB * BB ^ (i + 1) = val (A.take (i + 1)) + val (B.take (i + 1)) := by
  rw [val_snoc, take_any, take_any, hO]
  have e : t * BB ^ i = t / BB * BB ^ (i + 1) + t % BB * BB ^ i := by
    conv => lhs; rw [← Nat.div_add_mod t BB, Nat.add_mul]
    rw [Nat.pow_succ]; congr 1; ac_rfl
  have e2 : t * BB ^ i = c * BB ^ i + A.getD i 0 * BB ^ i + B.getD i 0 * BB ^ i := by rw [ht]; simp only [Nat.add_mul]
  omega
theorem minus_step {O A B : List Nat} {i c r c' : Nat} (hO : O.length = i) (hr : r + (c + B.getD i 0) = A.getD i 0 + c' * BB) (h : val O + val (B.take i) = val (A.take i) + c * BB ^ i) :
    val (O ++ [r]) + val (B.take (i + 1)) = val (A.take (i + 1)) + c' * BB ^ (i + 1) := by
  rw [val_snoc, take_any, take_any, hO]
  have e := congrArg (· * BB ^ i) hr
  simp only [Nat.add_mul] at e
  have e2 : c' * BB * BB ^ i = c' * BB ^ (i + 1) := by rw [Nat.pow_succ]; ac_rfl
  omega
theorem minus_end {A B : List Nat} {V c : Nat} (hA : Limbs A) (hle : val B ≤ val A) (hlen : B.length ≤ A.length) (h : V + val (B.take A.length) = val (A.take A.length) + c * BB ^ A.length) (hV : V < BB ^ A.length) : V + val B = val A := by
  rw [List.take_of_length_le hlen, List.take_length] at h
  rcases Nat.eq_zero_or_pos c with rfl | hc
  · omega
  · have : 1 * BB ^ A.length ≤ c * BB ^ A.length := Nat.mul_le_mul hc (Nat.le_refl _)
    omega
theorem BB_pow (n : Nat) : BB ^ n = 2 ^ (16 * n) := by rw [Nat.pow_mul]; rfl
theorem bitN_snoc {l : List Nat} {x : Nat} (hl : Limbs l) (hx : x ≠ 0) : bitN (val (l ++ [x])) = 16 * l.length + bitN x := by
  have h1 := val_lt hl
  rw [val_append]
  simp only [val, Nat.mul_zero, Nat.add_zero]
  rw [BB_pow] at *
  have hp : 0 < 2 ^ (16 * l.length) := Nat.pow_pos (by omega)
  have h2 : 2 ^ (16 * l.length) * 1 ≤ 2 ^ (16 * l.length) * x := Nat.mul_le_mul_left _ (by omega)
  unfold bitN
  rw [if_neg (by omega), if_neg hx]
  have e : (val l + 2 ^ (16 * l.length) * x).log2 = 16 * l.length + x.log2 := by
    rw [Nat.log2_eq_iff (by omega)]
    have k1 := Nat.log2_self_le hx
    have k2 := @Nat.lt_log2_self x
    constructor
    · rw [Nat.pow_add]
      have := Nat.mul_le_mul_left (2 ^ (16 * l.length)) k1
      omega
    · rw [Nat.add_assoc, Nat.pow_add]
      have := Nat.mul_le_mul_left (2 ^ (16 * l.length)) (show x + 1 ≤ 2 ^ (x.log2 + 1) from k2)
      rw [Nat.mul_add] at this
      omega
  omega
theorem bitN_nrm {l : List Nat} {k : Nat} (hl : Limbs l) (hn : Nrm l) (hk : l.length = k + 1) : bitN (val l) = 16 * k + bitN (l.getD k 0) := by
  obtain ⟨m, x, rfl⟩ : ∃ m x, l = m ++ [x] := ⟨l.dropLast, l.getLast (by intro e; subst e; simp at hk), (List.dropLast_concat_getLast _).symm⟩
  simp at hk
  have hx := hn (by simp)
  simp at hx
  rw [bitN_snoc (fun y hy => hl y (by simp [hy])) hx, hk]
  congr 2
  simp [← hk]
theorem lt_bitN (v : Nat) : v < 2 ^ bitN v := by
  unfold bitN
  split
  · subst_vars; simp
  · exact Nat.lt_log2_self
theorem bitN_le {v n : Nat} (h : v < 2 ^ n) : bitN v ≤ n := by
  unfold bitN
  split
  · omega
  · rename_i h0
    have := Nat.log2_self_le h0
    have h2 : 2 ^ v.log2 < 2 ^ n := Nat.lt_of_le_of_lt this h
    have := (Nat.pow_lt_pow_iff_right (a := 2) (by omega)).1 h2
    omega
/-- a digit, out of the value -/
theorem getD_val {l : List Nat} (hl : Limbs l) (j : Nat) : l.getD j 0 = val l / BB ^ j % BB := by
  induction l generalizing j with
  | nil => simp [val]
  | cons x l ih =>
    have hx : x < BB := hl x (by simp)
    have hl' : Limbs l := fun y hy => hl y (by simp [hy])
    cases j with
    | zero => simp [val]; exact (Nat.mod_eq_of_lt hx).symm
    | succ j =>
      rw [List.getD_cons_succ, ih hl' j, val, Nat.pow_succ, Nat.mul_comm (BB ^ j), ← Nat.div_div_eq_div_mul]
      rw [Nat.add_mul_div_left _ _ BB_pos, Nat.div_eq_of_lt hx, Nat.zero_add]
/-- a binary digit -/
theorem bit_val {l : List Nat} (hl : Limbs l) (k : Nat) : l.getD (k / 16) 0 / 2 ^ (k % 16) % 2 = val l / 2 ^ k % 2 := by
  rw [getD_val hl, BB_pow]
  have e1 : 2 ^ k = 2 ^ (16 * (k / 16)) * 2 ^ (k % 16) := by rw [← Nat.pow_add]; congr 1; omega
  rw [e1, ← Nat.div_div_eq_div_mul]
  generalize val l / 2 ^ (16 * (k / 16)) = x
  have hk : k % 16 < 16 := Nat.mod_lt _ (by omega)
  generalize k % 16 = m at *
  have e2 : BB = 2 ^ m * (2 * 2 ^ (15 - m)) := by
    show (2 : Nat) ^ 16 = _
    rw [← Nat.mul_assoc, ← Nat.pow_succ, ← Nat.pow_add]; congr 1; omega
  rw [e2, Nat.mod_mul_right_div_self, Nat.mod_mul_right_mod]
/-- twice a number, one place -/
theorem twice_step {R R0 : List Nat} {i c t V : Nat} (hi : i < R.length) (he : R.getD i 0 = R0.getD i 0) (ht : t = c + 2 * R0.getD i 0)
    (h : val R + c * BB ^ i = V + val (R0.take i)) : val (R.set i (t % BB)) + t / BB * BB ^ (i + 1) = V + val (R0.take (i + 1)) := by
  have a1 := val_set (l := R) (k := i) (t % BB) hi
  rw [take_any, ← he]
  have e : t * BB ^ i = t / BB * BB ^ (i + 1) + t % BB * BB ^ i := by
    conv => lhs; rw [← Nat.div_add_mod t BB, Nat.add_mul]
    rw [Nat.pow_succ]; congr 1; ac_rfl
  have e2 : t * BB ^ i = c * BB ^ i + 2 * (R.getD i 0 * BB ^ i) := by rw [ht, he]; simp only [Nat.add_mul]; congr 1; ac_rfl
  omega
theorem nrm_of_val {l : List Nat} (hl : Limbs l) (h : l ≠ [] → BB ^ (l.length - 1) ≤ val l) : Nrm l := by
  intro hn e
  obtain ⟨m, x, rfl⟩ : ∃ m x, l = m ++ [x] := ⟨l.dropLast, l.getLast hn, (List.dropLast_concat_getLast _).symm⟩
  simp at e
  subst e
  have h1 := h hn
  have h2 := val_lt (l := m) (fun y hy => hl y (by simp [hy]))
  rw [val_snoc] at h1
  simp at h1
  omega
/-- a binary digit is put in -/
theorem or_val {l : List Nat} {k Q : Nat} (hl : Limbs l) (hv : val l = Q * 2 ^ (k + 1)) : l.getD (k / 16) 0 ||| 2 ^ (k % 16) = l.getD (k / 16) 0 + 2 ^ (k % 16) ∧ l.getD (k / 16) 0 + 2 ^ (k % 16) < BB := by
  have hk : k % 16 < 16 := Nat.mod_lt _ (by omega)
  have e1 : l.getD (k / 16) 0 = 2 ^ (k % 16 + 1) * (Q % 2 ^ (15 - k % 16)) := by
    rw [getD_val hl, hv, BB_pow]
    have e1 : 2 ^ (k + 1) = 2 ^ (16 * (k / 16)) * 2 ^ (k % 16 + 1) := by rw [← Nat.pow_add]; congr 1; omega
    rw [e1, show Q * (2 ^ (16 * (k / 16)) * 2 ^ (k % 16 + 1)) = 2 ^ (16 * (k / 16)) * (2 ^ (k % 16 + 1) * Q) by ac_rfl, Nat.mul_div_cancel_left _ (Nat.pow_pos (by omega))]
    have e2 : BB = 2 ^ (k % 16 + 1) * 2 ^ (15 - k % 16) := by
      show (2 : Nat) ^ 16 = _
      rw [← Nat.pow_add]; congr 1; omega
    rw [e2, Nat.mul_mod_mul_left]
  have e2 : BB = 2 ^ (k % 16 + 1) * 2 ^ (15 - k % 16) := by
    show (2 : Nat) ^ 16 = _
    rw [← Nat.pow_add]; congr 1; omega
  have hm : Q % 2 ^ (15 - k % 16) < 2 ^ (15 - k % 16) := Nat.mod_lt _ (Nat.pow_pos (by omega))
  have hlt : 2 ^ (k % 16) < 2 ^ (k % 16 + 1) := Nat.pow_lt_pow_right (by omega) (by omega)
  generalize Q % 2 ^ (15 - k % 16) = z at *
  rw [e1]
  refine ⟨(Nat.two_pow_add_eq_or_of_lt hlt z).symm, ?_⟩
  rw [e2]
  have := Nat.mul_le_mul_left (2 ^ (k % 16 + 1)) hm
  rw [Nat.mul_succ] at this
  omega
theorem set_bit {l : List Nat} {k : Nat} (hk : k / 16 < l.length) : val (l.set (k / 16) (l.getD (k / 16) 0 + 2 ^ (k % 16))) = val l + 2 ^ k := by
  have a1 := val_set (l := l) (k := k / 16) (l.getD (k / 16) 0 + 2 ^ (k % 16)) hk
  have e1 : 2 ^ k = 2 ^ (k % 16) * BB ^ (k / 16) := by rw [BB_pow, ← Nat.pow_add]; congr 1; omega
  rw [Nat.add_mul, ← e1] at a1
  omega
/-- long division, one binary digit -/
theorem half_step (A k : Nat) : A / 2 ^ k = 2 * (A / 2 ^ (k + 1)) + A / 2 ^ k % 2 := by
  rw [Nat.pow_succ, ← Nat.div_div_eq_div_mul]
  have := Nat.div_add_mod (A / 2 ^ k) 2
  omega
theorem bit_take {A k Q R D V b : Nat} (h : A / 2 ^ (k + 1) = Q * D + R) (hb : b = A / 2 ^ k % 2) (hv : V = Q * 2 ^ (k + 1)) :
    A / 2 ^ k = 2 * Q * D + (b + 2 * R) ∧ V = 2 * Q * 2 ^ k := by
  have h1 := half_step A k
  rw [h, ← hb] at h1
  refine ⟨?_, by rw [hv, Nat.pow_succ]; ac_rfl⟩
  rw [h1, Nat.mul_add]
  have : 2 * (Q * D) = 2 * Q * D := by ac_rfl
  omega
theorem bit_more {X Q D R V k : Nat} (h : X = 2 * Q * D + R) (hD : D ≤ R) (hv : V = 2 * Q * 2 ^ k) : X = (2 * Q + 1) * D + (R - D) ∧ V + 2 ^ k = (2 * Q + 1) * 2 ^ k := by
  rw [Nat.add_mul, Nat.add_mul]
  omega
/-- short division, one digit -/
theorem short_step {O A : List Nat} {j c rest : Nat} (hc : 0 < c) (hO : j < O.length) (h0 : O.getD j 0 = 0) (hA : j < A.length)
    (h : val O * c + rest * BB ^ (j + 1) + val (A.take (j + 1)) = val A) : val (O.set j ((rest * BB + A.getD j 0) / c)) * c + (rest * BB + A.getD j 0) % c * BB ^ j + val (A.take j) = val A := by
  have a1 := val_set (l := O) (k := j) ((rest * BB + A.getD j 0) / c) hO
  rw [h0] at a1
  rw [take_any] at h
  have e := Nat.div_add_mod (rest * BB + A.getD j 0) c
  generalize (rest * BB + A.getD j 0) / c = q at *
  generalize (rest * BB + A.getD j 0) % c = m at *
  have e1 : val (O.set j q) = val O + q * BB ^ j := by omega
  rw [e1, Nat.add_mul]
  have e2 : (c * q + m) * BB ^ j = rest * BB ^ (j + 1) + A.getD j 0 * BB ^ j := by
    rw [e, Nat.add_mul, Nat.pow_succ]; congr 1; ac_rfl
  rw [Nat.add_mul] at e2
  have e3 : q * BB ^ j * c = c * q * BB ^ j := by ac_rfl
  omega
theorem short_lt {rest x c : Nat} (hr : rest < c) (hx : x < BB) : (rest * BB + x) / c < BB := by
  rw [Nat.div_lt_iff_lt_mul (by omega)]
  have : (rest + 1) * BB ≤ c * BB := Nat.mul_le_mul hr (Nat.le_refl _)
  rw [Nat.add_mul] at this
  rw [Nat.mul_comm BB c]
  omega
end Go.Proofs.YthaohpfbengabaaGreatDoor.NumR

/- slices.Clone at []int. -/
namespace Go.Proofs.YthaohpfbengabaaGreatDoor
open Go.ChangeShapes Go.WideShapes Go.ChangeAt Go.RowKit
set_option linter.unusedVariables false
set_option linter.unusedSimpArgs false
end Go.Proofs.YthaohpfbengabaaGreatDoor

/- slices.Clone at []Instr. -/
namespace Go.Proofs.YthaohpfbengabaaGreatDoor
open Go.ChangeShapes Go.WideShapes Go.ChangeAt Go.RowKit
set_option linter.unusedVariables false
set_option linter.unusedSimpArgs false
def Ins.cel (i : Ins) : List Value := [.int .i64 i.op, .int .i64 i.to, .int .i64 i.a, .int .i64 i.b, .int .i64 i.c]
theorem InsAt.at {w : World} {b off : Nat} {i : Ins} (h : InsAt w b off i) {r : Nat} (hr : r < 5) {u : Value} (hu : (Ins.cel i)[r]? = some u) : w.cell? ⟨b, off + r, none⟩ = some u := by
  have : r = 0 ∨ r = 1 ∨ r = 2 ∨ r = 3 ∨ r = 4 := by omega
  rcases this with rfl | rfl | rfl | rfl | rfl <;> (simp [Ins.cel] at hu; subst hu)
  · exact h.c0
  · exact h.c1
  · exact h.c2
  · exact h.c3
  · exact h.c4
end Go.Proofs.YthaohpfbengabaaGreatDoor

/- prog: Copy. -/
namespace Go.Proofs.YthaohpfbengabaaGreatDoor
open Go.ChangeShapes Go.WideShapes Go.ChangeAt Go.RowKit
set_option linter.unusedVariables false
set_option linter.unusedSimpArgs false
section
variable {w w0 : World} {a : Option Addr} {cap B C : Nat} {t : TypeId}
end
end Go.Proofs.YthaohpfbengabaaGreatDoor

/- Ranges over functions, in the plain walk: a law in the wide fence, and what its users need. -/
namespace Go.Proofs.YthaohpfbengabaaGreatDoor
open Go.ChangeShapes Go.WideShapes Go.ChangeAt Go.RowKit
set_option linter.unusedVariables false

theorem calls_of_wp_marks {P : Program} {f : FuncId} {fn : Func} {c : Code} {args : Array Value} {w : World} {R : Ending → World → Prop}
    (hf : P.funcs[f]? = some fn) (hb : fn.body = some c)
    (h : c.wp P (bodyPostM Fence.wide 9 P fn R) { tmps := args ++ Array.replicate (fn.ntmps - args.size) undef, defers := [] } w) : Calls P f args w R :=
  callsIn_wide.1 (callsIn_of_wp_marks (F := Fence.wide) (n := 9) hf hb trivial (wpIn_wide.2 h) rfl)
theorem roundIn_wide {n m : Nat} {P : Program} {l : Nat} {f : FuncId} {tmps : Array Value} {assign body : Code} {w : World} {R : Ending → World → Prop} (h : RoundIn Fence.wide n P l f tmps assign body w R) : RoundIn Fence.wide m P l f tmps assign body w R :=
  ⟨h.1, fun c cs _ => h.2 c cs (room_wide _)⟩
theorem yieldAt_wide {n m : Nat} {P : Program} {l : Nat} {args : Array Value} {W : World} {R : Ending → World → Prop} (h : YieldAt Fence.wide n P l args W R) : YieldAt Fence.wide m P l args W R := by
  obtain ⟨fn, tmps, assign, body, hy, hR⟩ := h
  exact ⟨fn, tmps, assign, body, hy, roundIn_wide hR⟩

/-- every row of cells lies as it lay; below B everything -/
structure Soft (B : Nat) (W W' : World) : Prop where
  below : Below B W W'
  cells : ∀ (k : Nat) (o : Obj), W.heap[k]? = some o → o.isCells = true → W'.heap[k]? = some o
theorem soft_of_grown {B : Nat} {W W' : World} {row : Option Nat} (hB : B ≤ W.heap.size) (hg : W.grownBy W' row) (hr : ∀ r, row = some r → B ≤ r ∧ ∃ o : Obj, W.heap[r]? = some o ∧ o.isCells = false) : Soft B W W' := by
  refine ⟨(Below.refl B W).grown hg hB (fun k e => (hr k e).1), fun k o hk ho => ?_⟩
  refine (hg.block k (Array.getElem?_eq_some_iff.1 hk).1 (fun e => ?_)).trans hk
  obtain ⟨_, o', ho', hc⟩ := hr k e.symm
  rw [hk] at ho'; cases ho'; rw [ho] at hc; cases hc
theorem Soft.block {B : Nat} {W W' : World} (h : Soft B W W') {p : Addr} {v : Value} (hv : W.cell? p = some v) : W'.heap[p.block]? = W.heap[p.block]? := by
  unfold World.cell? at hv
  split at hv
  · rename_i c t f e
    rw [e]; exact h.cells _ _ e rfl
  · cases hv
theorem Soft.cell {B : Nat} {W W' : World} (h : Soft B W W') {p : Addr} {v : Value} (hv : W.cell? p = some v) : W'.cell? p = some v :=
  (World.cell?_of_block (h.block hv)).trans hv
theorem Soft.frozen {B : Nat} {W W' : World} (h : Soft B W W') {p : Addr} {v : Value} (hv : W.cell? p = some v) (hf : W.frozen? p = false) : W'.frozen? p = false :=
  (World.frozen?_of_block (h.block hv)).trans hf

/-! what a round's body keeps -/
/-- THE LAW: an iterator that tells the list L, or is left; the loop's variable may be boxed (Ax). -/
theorem wp_rangeK {P : Program} {α : Type} {g : Operand} {ps : Array Tmp} {assign body : Code} {Q : Exit → Act → World → Prop} {a : Act} {w : World}
    {gf : Nat} {lb : Array Value} (hg : a.eval g = .func (.func gf) #[] lb) (eg : ∀ args w, (callFunc gf args).run P w = .ok (.enter gf args) w)
    {encs : α → Array Value} {L : List α} {N : Nat} {Kp : World → World → Prop} {w0 : World} (hseq : SeqStopsK Fence.wide 8 P gf lb encs Kp (· = L) (· <+: L) N w0)
    (hKt : ∀ {A B C : World}, Kp A B → Kp B C → Kp A C) (hKb : ∀ (W : World) (l : Nat) (o o' : Obj), w.heap.size ≤ l → W.heap[l]? = some o → o.isCells = false → o.isWalk = false → Kp W (W.putObj l o'))
    (hb0 : Below w0.heap.size w0 w) (hps : ∀ x, (encs x).size = ps.size)
    (I : List α → World → Prop) (Ix : Code → List α → World → Prop) (hI : ∀ pre W W', I pre W → Soft w.heap.size W W' → I pre W') (hIx : ∀ c pre W W', Ix c pre W → Soft w.heap.size W W' → Ix c pre W')
    (hsz : ∀ pre W, I pre W → w.heap.size ≤ W.heap.size) (hszx : ∀ c pre W, Ix c pre W → w.heap.size ≤ W.heap.size) (h0 : I [] w)
    (Ax : Array Value → α → Act → World → Prop) (hAx : ∀ x a' W W', Ax a.tmps x a' W → Soft w.heap.size W W' → Ax a.tmps x a' W') (hAsz : ∀ x a' W, Ax a.tmps x a' W → w.heap.size ≤ W.heap.size)
    (hassign : ∀ (l : Nat) (pre : List α) (x : α) (W : World) (K : Act → World → Prop), I pre W → (∀ a' W', KeepsFrom w.heap.size W W' → Kp W W' → I pre W' → Ax a.tmps x a' W' → K a' W') →
      assign.wpIn (Fence.wide.inRound l) 7 P (Exit.then K (fun _ _ _ => False)) { tmps := (ps.zip (encs x)).foldl (fun t (p, v) => t.setIfInBounds p v) a.tmps, defers := [] } W)
    (hbody : ∀ (l : Nat) (pre : List α) (x : α) (a' : Act) (W : World), I pre W → Ax a.tmps x a' W → pre.length < N → body.wpIn (Fence.wide.inRound l) 7 P (ownPostG w.heap.size Kp I Ix (pre ++ [x]) W) a' W)
    (hdone : ∀ (D : Nat) (W : World), w.heap.size ≤ D → I L W → W.heap[D]? = some (.deferred (some [])) → Q .normal { a with defers := { target := .collected D, args := #[] } :: a.defers } W)
    (hstop : ∀ (D : Nat) (c : Code) (pre : List α) (W : World), w.heap.size ≤ D → pre <+: L → Ix c pre W → W.heap[D]? = some (.deferred (some [])) → c.wp P Q { a with defers := { target := .collected D, args := #[] } :: a.defers } W) :
    (Code.rangeFunc g ps assign body).wp P Q a w := by
  refine (wpIn_wide (n := 9)).1 ?_
  refine wpIn_rangeFunc_ownH (F := Fence.wide) rfl (by omega) hg trivial eg hseq hKt hKb hb0 hps I Ix ?_ ?_ h0 (Ax a.tmps) ?_ hassign
    (fun l pre x a' W _ _ hi hax hl => hbody l pre x a' W hi hax hl) (fun D xs W hD hx hi hk => by subst hx; exact hdone D W hD hi hk) (fun D c pre W hD hp hi hk => wpIn_wide.2 (hstop D c pre W hD hp hi hk))
  · intro pre W W' row hi hg' hr
    exact hI pre W W' hi (soft_of_grown (hsz _ _ hi) hg' hr)
  · intro c pre W W' row hi hg' hr
    exact hIx c pre W W' hi (soft_of_grown (hszx _ _ _ hi) hg' hr)
  · intro x a' u W W' row hi hg' hr
    exact hAx x a' W W' hi (soft_of_grown (hAsz _ _ _ hi) hg' hr)

theorem b_put {a W : World} (h : Below a.heap.size a W) {D : Nat} (hD : a.heap.size ≤ D) (o : Obj) : Below a.heap.size a (W.putObj D o) :=
  h.grown (grownBy_putObj' W D o) h.size (fun k e => by cases e; exact hD)

/-! ### A region that draws its order, in a round: one walk in the text's order -/
section
variable {P : Program} {ops : Array Oper} {C : World → Prop} {l n : Nat}
end
end Go.Proofs.YthaohpfbengabaaGreatDoor

/- Ranges over functions whose told values lie in memory: what is told is known to be right where it is told. -/
namespace Go.Proofs.YthaohpfbengabaaGreatDoor
open Go.ChangeShapes Go.WideShapes Go.ChangeAt Go.RowKit
set_option linter.unusedVariables false
set_option linter.unusedSimpArgs false
/-- blocks outside X lie as they lay; those of X are of the types that they were of -/
def OutT (X : Nat → Prop) (a b : World) : Prop := Out X a b ∧ ∀ q, X q → q < a.heap.size → typOf b q = typOf a q
end Go.Proofs.YthaohpfbengabaaGreatDoor

/- Ranges over functions whose bodies write blocks of their own: which blocks these are may change from round to round; what the iterator holds never lies in them. -/
namespace Go.Proofs.YthaohpfbengabaaGreatDoor
open Go.ChangeShapes Go.WideShapes Go.ChangeAt Go.RowKit
set_option linter.unusedVariables false
set_option linter.unusedSimpArgs false
/-- blocks below n0, those of S and those of limbs lie as they lay -/
structure Clo (n0 : Nat) (S : Nat → Prop) (a b : World) : Prop where
  os : b.os = a.os
  tape : b.tape = a.tape
  output : b.output = a.output
  size : a.heap.size ≤ b.heap.size
  block : ∀ q, q < a.heap.size → (q < n0 ∨ S q ∨ typOf a q = some 133) → b.heap[q]? = a.heap[q]?
section
variable {n0 : Nat} {S : Nat → Prop} {a b c : World}
theorem Clo.refl (n0 : Nat) (S : Nat → Prop) (a : World) : Clo n0 S a a := ⟨rfl, rfl, rfl, Nat.le_refl _, fun _ _ _ => rfl⟩
theorem Clo.trans (h : Clo n0 S a b) (k : Clo n0 S b c) : Clo n0 S a c :=
  ⟨k.os.trans h.os, k.tape.trans h.tape, k.output.trans h.output, Nat.le_trans h.size k.size, fun q hq hs =>
    (k.block q (Nat.lt_of_lt_of_le hq h.size) (hs.imp id (Or.imp id fun ht => by unfold typOf; rw [h.block q hq hs]; exact ht))).trans (h.block q hq hs)⟩
theorem Clo.of_below (h : Below a.heap.size a b) : Clo n0 S a b := ⟨h.os, h.tape, h.output, h.size, fun q hq _ => h.block q hq⟩
theorem Clo.below (h : Clo n0 S a b) (k : Below b.heap.size b c) : Clo n0 S a c := h.trans (.of_below k)
theorem Clo.low (h : Clo n0 S a b) (hn : n0 ≤ a.heap.size) : Below n0 a b := ⟨h.os, h.tape, h.output, h.size, fun q hq => h.block q (by omega) (.inl hq)⟩
theorem Clo.lim (h : Clo n0 S a b) : Lim a b := fun q ht => by
  have hq : q < a.heap.size := by
    unfold typOf at ht
    rcases Nat.lt_or_ge q a.heap.size with h1 | h1
    · exact h1
    · rw [Array.getElem?_eq_none h1] at ht; cases ht
  have e := h.block q hq (.inr (.inr ht))
  exact ⟨by unfold typOf; rw [e]; exact ht, fun o n hc => by rw [World.cell?_of_block (w := a) e]; exact hc⟩
theorem Clo.cell (h : Clo n0 S a b) {p : Addr} {v : Value} (hp : p.block < n0 ∨ S p.block) (hc : a.cell? p = some v) : b.cell? p = some v := by
  have hq : p.block < a.heap.size := by
    unfold World.cell? at hc
    rcases Nat.lt_or_ge p.block a.heap.size with h1 | h1
    · exact h1
    · rw [Array.getElem?_eq_none h1] at hc; cases hc
  rw [World.cell?_of_block (w := a) (h.block p.block hq (hp.imp id .inl))]; exact hc
theorem Clo.frz (h : Clo n0 S a b) {p : Addr} {v : Value} (hp : p.block < n0 ∨ S p.block) (hc : a.cell? p = some v) (hf : a.frozen? p = false) : b.frozen? p = false := by
  have hq : p.block < a.heap.size := by
    unfold World.cell? at hc
    rcases Nat.lt_or_ge p.block a.heap.size with h1 | h1
    · exact h1
    · rw [Array.getElem?_eq_none h1] at hc; cases hc
  rw [World.frozen?_of_block (w := a) (h.block p.block hq (hp.imp id .inl))]; exact hf
theorem Clo.typ (h : Clo n0 S a b) {q : Nat} {t : TypeId} (hp : q < n0 ∨ S q) (ht : typOf a q = some t) : typOf b q = some t := by
  have hq : q < a.heap.size := by
    unfold typOf at ht
    rcases Nat.lt_or_ge q a.heap.size with h1 | h1
    · exact h1
    · rw [Array.getElem?_eq_none h1] at ht; cases ht
  unfold typOf; rw [h.block q hq (hp.imp id .inl)]; exact ht
end
/-- what the body's blocks are: cells, and no limbs -/
def Soil (S : Nat → Prop) (X : World) : Prop := ∀ q, S q → ∃ t, typOf X q = some t ∧ t ≠ 133
/-- the body's blocks behind a round: those that it had, and new ones -/
def Grew (S S' : Nat → Prop) (X : World) : Prop := ∀ q, S' q → S q ∨ X.heap.size ≤ q
theorem Grew.same (S : Nat → Prop) (X : World) : Grew S S X := fun _ h => .inl h
end Go.Proofs.YthaohpfbengabaaGreatDoor

