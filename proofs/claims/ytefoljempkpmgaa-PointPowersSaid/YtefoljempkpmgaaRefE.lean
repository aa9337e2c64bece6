/- The reference's numbers: Pow. -/
import Derived.Test.YtefoljempkpmgaaRefD
import Derived.Test.YtefoljempkpmgaaIntG
namespace Go.Proofs.Ytefoljempkpmgaa
open Num
open Go.ChangeShapes Go.WideShapes Go.ChangeAt Go.RowKit
set_option linter.unusedVariables false
set_option linter.unusedSimpArgs false

set_option maxRecDepth 100000 in
set_option maxHeartbeats 2000000 in
theorem rpow_c (vx : Value) (x : Int) (k n : Nat) (w : World) (hx : IsRef w vx x) (bx : Bd k x) (hk : n * k + 1 ≤ 17179869184) (hk2 : k ≤ 17179869184) (hn : n ≤ 9223372036854775807) :
    Calls Try.prog 40 #[vx, .int .i64 (n : Int)] w fun e w' => (∃ v, e = .returned v ∧ IsRef w' v (x ^ n)) ∧ Below w.heap.size w w' := by
  have oc := fun w => rof_c 1 w (by omega) (by omega)
  have mc := fun vx vy j w h1 h2 hj => rmul_c vx vy (x ^ j) x (j * k + 1) k w h1 h2 (bx.pow j) bx hj hk2
  have hq : ∀ j : Nat, j ≤ n → j * k + 1 ≤ 17179869184 := fun j hj => by
    have := Nat.mul_le_mul_right k hj
    omega
  have HX := Lib.hid hx
  obtain ⟨n1, a1, c1, l1, rfl, -⟩ := hx
  unfold iv at *
  clear bx hk
  have hB0 := Below.refl w.heap.size w
  go_enter Try.func40, Try.ntmps40
  go_wp2_with fail
  refine (oc _).mono ?_
  rintro e w3 ⟨⟨v3, rfl, hi3⟩, hb3⟩
  have x0 : w3.cell? ⟨w.heap.size, 0, none⟩ = some (.bool n1) := bkeep hb3 (by first | assumption | exact cell_new (by with_reducible first | rfl | (simp; done) | (simp; omega)) rfl | (repeat (first | assumption | exact cell_new (by with_reducible first | rfl | (simp; done) | (simp; omega)) rfl | refine cell_alloc ?_ _ | refine cell_drew ?_ | refine cell_drewN ?_ _ | refine cell_far ?_ (by simp) _ | (refine cell_far ?_ (by simp <;> omega) _))) | simp [go_sem, *])
  have zx0 := cell_lt x0
  have x1 : w3.cell? ⟨w.heap.size, 1, none⟩ = some (.slice a1 l1.length c1) := bkeep hb3 (by first | assumption | exact cell_new (by with_reducible first | rfl | (simp; done) | (simp; omega)) rfl | (repeat (first | assumption | exact cell_new (by with_reducible first | rfl | (simp; done) | (simp; omega)) rfl | refine cell_alloc ?_ _ | refine cell_drew ?_ | refine cell_drewN ?_ _ | refine cell_far ?_ (by simp) _ | (refine cell_far ?_ (by simp <;> omega) _))) | simp [go_sem, *])
  have r0 : w3.cell? ⟨w.heap.size + 1, 0, none⟩ = some (.bool false) := bkeep hb3 (by first | assumption | exact cell_new (by with_reducible first | rfl | (simp; done) | (simp; omega)) rfl | (repeat (first | assumption | exact cell_new (by with_reducible first | rfl | (simp; done) | (simp; omega)) rfl | refine cell_alloc ?_ _ | refine cell_drew ?_ | refine cell_drewN ?_ _ | refine cell_far ?_ (by simp) _ | (refine cell_far ?_ (by simp <;> omega) _))) | simp [go_sem, *])
  have zr0 := cell_lt r0
  have r0f : w3.frozen? ⟨w.heap.size + 1, 0, none⟩ = false := bkeepf (v := .bool false) hb3 (by first | assumption | exact cell_new (by with_reducible first | rfl | (simp; done) | (simp; omega)) rfl | (repeat (first | assumption | exact cell_new (by with_reducible first | rfl | (simp; done) | (simp; omega)) rfl | refine cell_alloc ?_ _ | refine cell_drew ?_ | refine cell_drewN ?_ _ | refine cell_far ?_ (by simp) _ | (refine cell_far ?_ (by simp <;> omega) _))) | simp [go_sem, *]) (by first | assumption | (simp <;> assumption) | simp [go_sem, *])
  have r1 : w3.cell? ⟨w.heap.size + 1, 1, none⟩ = some (.slice none 0 0) := bkeep hb3 (by first | assumption | exact cell_new (by with_reducible first | rfl | (simp; done) | (simp; omega)) rfl | (repeat (first | assumption | exact cell_new (by with_reducible first | rfl | (simp; done) | (simp; omega)) rfl | refine cell_alloc ?_ _ | refine cell_drew ?_ | refine cell_drewN ?_ _ | refine cell_far ?_ (by simp) _ | (refine cell_far ?_ (by simp <;> omega) _))) | simp [go_sem, *])
  have r1f : w3.frozen? ⟨w.heap.size + 1, 1, none⟩ = false := bkeepf (v := .slice none 0 0) hb3 (by first | assumption | exact cell_new (by with_reducible first | rfl | (simp; done) | (simp; omega)) rfl | (repeat (first | assumption | exact cell_new (by with_reducible first | rfl | (simp; done) | (simp; omega)) rfl | refine cell_alloc ?_ _ | refine cell_drew ?_ | refine cell_drewN ?_ _ | refine cell_far ?_ (by simp) _ | (refine cell_far ?_ (by simp <;> omega) _))) | simp [go_sem, *]) (by first | assumption | (simp <;> assumption) | simp [go_sem, *])
  have hB : Below w.heap.size w w3 := bthen (by repeat (first | exact Below.refl _ _ | exact hB | refine Below.drew ?_ | refine below_drewN ?_ _ | refine bset ?_ (by simp <;> omega) _ | refine bal ?_ _)) hb3
  have hz : w.heap.size ≤ w3.heap.size := hB.size
  have HI3 := Lib.hid hi3
  have HX3 := Lib.hid (HX.out.keep hB)
  obtain ⟨n3, a3, c3, l3, rfl, -⟩ := hi3
  unfold iv at *
  clear oc
  go_wp2
  refine wp_name fun w4 hW4 => ?_
  have x0 : w4.cell? ⟨w.heap.size, 0, none⟩ = some (.bool n1) := by rw [hW4]; exact (by first | assumption | exact cell_new (by with_reducible first | rfl | (simp; done) | (simp; omega)) rfl | (repeat (first | assumption | exact cell_new (by with_reducible first | rfl | (simp; done) | (simp; omega)) rfl | refine cell_alloc ?_ _ | refine cell_drew ?_ | refine cell_drewN ?_ _ | refine cell_far ?_ (by simp) _ | (refine cell_far ?_ (by simp <;> omega) _))) | simp [go_sem, *])
  have zx0 := cell_lt x0
  have x1 : w4.cell? ⟨w.heap.size, 1, none⟩ = some (.slice a1 l1.length c1) := by rw [hW4]; exact (by first | assumption | exact cell_new (by with_reducible first | rfl | (simp; done) | (simp; omega)) rfl | (repeat (first | assumption | exact cell_new (by with_reducible first | rfl | (simp; done) | (simp; omega)) rfl | refine cell_alloc ?_ _ | refine cell_drew ?_ | refine cell_drewN ?_ _ | refine cell_far ?_ (by simp) _ | (refine cell_far ?_ (by simp <;> omega) _))) | simp [go_sem, *])
  have r0f : w4.frozen? ⟨w.heap.size + 1, 0, none⟩ = false := by rw [hW4]; simp [go_sem, *]
  have r0 : w4.cell? ⟨w.heap.size + 1, 0, none⟩ = some (.bool false) := by rw [hW4]; exact (by first | assumption | exact cell_new (by with_reducible first | rfl | (simp; done) | (simp; omega)) rfl | (repeat (first | assumption | exact cell_new (by with_reducible first | rfl | (simp; done) | (simp; omega)) rfl | refine cell_alloc ?_ _ | refine cell_drew ?_ | refine cell_drewN ?_ _ | refine cell_far ?_ (by simp) _ | (refine cell_far ?_ (by simp <;> omega) _))) | simp [go_sem, *])
  have zr0 := cell_lt r0
  have r1f : w4.frozen? ⟨w.heap.size + 1, 1, none⟩ = false := by rw [hW4]; simp [go_sem, *]
  have r1 : w4.cell? ⟨w.heap.size + 1, 1, none⟩ = some (.slice none 0 0) := by rw [hW4]; exact (by first | assumption | exact cell_new (by with_reducible first | rfl | (simp; done) | (simp; omega)) rfl | (repeat (first | assumption | exact cell_new (by with_reducible first | rfl | (simp; done) | (simp; omega)) rfl | refine cell_alloc ?_ _ | refine cell_drew ?_ | refine cell_drewN ?_ _ | refine cell_far ?_ (by simp) _ | (refine cell_far ?_ (by simp <;> omega) _))) | simp [go_sem, *])
  have o0f : w4.frozen? ⟨w3.heap.size, 0, none⟩ = false := by rw [hW4]; simp [go_sem, *]
  have o0 : w4.cell? ⟨w3.heap.size, 0, none⟩ = some (.bool n3) := by rw [hW4]; exact (by first | assumption | exact cell_new (by with_reducible first | rfl | (simp; done) | (simp; omega)) rfl | (repeat (first | assumption | exact cell_new (by with_reducible first | rfl | (simp; done) | (simp; omega)) rfl | refine cell_alloc ?_ _ | refine cell_drew ?_ | refine cell_drewN ?_ _ | refine cell_far ?_ (by simp) _ | (refine cell_far ?_ (by simp <;> omega) _))) | simp [go_sem, *])
  have zo0 := cell_lt o0
  have o1f : w4.frozen? ⟨w3.heap.size, 1, none⟩ = false := by rw [hW4]; simp [go_sem, *]
  have o1 : w4.cell? ⟨w3.heap.size, 1, none⟩ = some (.slice a3 l3.length c3) := by rw [hW4]; exact (by first | assumption | exact cell_new (by with_reducible first | rfl | (simp; done) | (simp; omega)) rfl | (repeat (first | assumption | exact cell_new (by with_reducible first | rfl | (simp; done) | (simp; omega)) rfl | refine cell_alloc ?_ _ | refine cell_drew ?_ | refine cell_drewN ?_ _ | refine cell_far ?_ (by simp) _ | (refine cell_far ?_ (by simp <;> omega) _))) | simp [go_sem, *])
  have hB : Below w.heap.size w w4 := by rw [hW4]; repeat (first | exact Below.refl _ _ | exact hB | refine Below.drew ?_ | refine below_drewN ?_ _ | refine bset ?_ (by simp <;> omega) _ | refine bal ?_ _)
  have HI4 := Lib.hid (show IsRef w4 (.agg #[.bool n3, .slice a3 l3.length c3]) 1 by rw [hW4]; exact HI3.out.keep (bal (Below.refl _ _) _))
  have hz : w.heap.size ≤ w4.heap.size := hB.size
  clear hW4
  have hg : w.heap.size + 1 < w3.heap.size := by omega
  clear HI3 hb3
  generalize w3.heap.size = g at *
  have o0' := o0
  have o1' := o1
  have o0f' := o0f
  have o1f' := o1f
  clear o0 o1 o0f o1f
  have HF := Lib.hid (And.intro x0 (And.intro x1 (And.intro r0 (And.intro r0f (And.intro r1 (r1f))))))
  clear x0 x1 r0 r0f r1 r1f
  have HX4 := Lib.hid (HX.out.keep hB)
  go_loopw [6] (fun y wr => ∃ (j : Nat) (n6 : Bool) (a6 : Option Addr) (k6 c6 : Nat), j ≤ n ∧ y = .int .i64 j ∧ IsRef wr (.agg #[.bool n6, .slice a6 k6 c6]) (x ^ j) ∧ wr.cell? ⟨g, 0, none⟩ = some (.bool n6) ∧ wr.cell? ⟨g, 1, none⟩ = some (.slice a6 k6 c6) ∧ wr.frozen? ⟨g, 0, none⟩ = false ∧ wr.frozen? ⟨g, 1, none⟩ = false ∧ Out (· = g) w4 wr ∧ IsRef wr (.agg #[.bool n1, .slice a1 l1.length c1]) x) (fun y _ => n - (intOf y).toNat)
  case atStart => exact ⟨0, n3, a3, _, c3, Nat.zero_le _, rfl, by simpa using HI4.out, o0', o1', o0f', o1f', Out.refl _ _, HX4.out⟩
  case round =>
    obtain ⟨j, n6, a6, k6, c6, hj, rfl, hi6, o0, o1, o0f, o1f, hOut, hx6⟩ := hrel
    clear o0' o1' o0f' o1f'
    have HI6 := Lib.hid hi6
    have HX6 := Lib.hid hx6
    clear hi6 hx6
    obtain ⟨x0, x1, r0, r0f, r1, r1f⟩ := HF.out
    replace x0 := okeep hOut x0 (fun h => absurd (show _ = _ from h) (by omega))
    replace x1 := okeep hOut x1 (fun h => absurd (show _ = _ from h) (by omega))
    replace r0f := okeepf hOut r0 r0f (fun h => absurd (show _ = _ from h) (by omega))
    replace r0 := okeep hOut r0 (fun h => absurd (show _ = _ from h) (by omega))
    replace r1f := okeepf hOut r1 r1f (fun h => absurd (show _ = _ from h) (by omega))
    replace r1 := okeep hOut r1 (fun h => absurd (show _ = _ from h) (by omega))
    by_cases hjn : j < n
    · go_wp2_with fail
      refine (mc _ _ j _ HI6.out HX6.out (hq j (by omega))).mono ?_
      rintro e w7 ⟨⟨v7, rfl, hi7⟩, hb7⟩
      replace o0f := bkeepf hb7 o0 o0f
      replace o1f := bkeepf hb7 o1 o1f
      replace o0 := bkeep hb7 o0
      replace o1 := bkeep hb7 o1
      have HP := Lib.hid (hi7.put2 o0 o1)
      have HX7 := Lib.hid ((HX6.out.keep hb7).put2 o0 o1)
      have hO7 := hOut.below hb7
      obtain ⟨n7, a7, c7, l7, rfl, -⟩ := hi7
      unfold iv at *
      clear x0 x1 r0 r1 r0f r1f
      go_wp2
      refine ⟨⟨j + 1, n7, a7, l7.length, c7, by omega, by go_num, by rw [Int.pow_succ]; exact HP.out _ _, cell_far (cell_here o0 _) (by simp) _, cell_here (cell_far o1 (by simp) _) _, by simpa [go_sem] using o0f, by simpa [go_sem] using o1f, (hO7.set (fun _ => rfl) _).set (fun _ => rfl) _, HX7.out _ _⟩, by simp [intOf]; omega⟩
    · obtain rfl : j = n := by omega
      have HP := Lib.hid (HI6.out.put2 r0 r1)
      have hB6 : Below w.heap.size w wr := hB.trans (hOut.to_below (fun k hk _ h => absurd (show _ = _ from h) (by omega)) (by omega))
      go_wp2
      refine bodyPost_ret (v := .agg #[.bool n6, .slice a6 k6 c6]) (by simp [results, Try.results40, go_sem, *]) rfl ⟨⟨_, rfl, HP.out _ _⟩, ?_⟩
      repeat (first | exact Below.refl _ _ | exact hB6 | refine Below.drew ?_ | refine below_drewN ?_ _ | refine bset ?_ (by simp <;> omega) _ | refine bal ?_ _)
end Go.Proofs.Ytefoljempkpmgaa
