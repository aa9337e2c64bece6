/- integer: Times, Sign, Bits. -/
import Derived.Test.YtefoljempkpmgaaIntC
namespace Go.Proofs.Ytefoljempkpmgaa
open Num
open Go.ChangeShapes Go.WideShapes Go.ChangeAt Go.RowKit
set_option linter.unusedVariables false
set_option linter.unusedSimpArgs false

set_option maxHeartbeats 2000000 in
theorem times_c (vx : Value) (x c : Int) (k : Nat) (w : World) (hx : IsInt w vx x) (bx : Bd k x) (hk : k ≤ 17179869184) (h1 : -9223372036854775808 ≤ c) (h2 : c ≤ 9223372036854775807) :
    Calls Try.prog 38 #[vx, .int .i64 c] w fun e w' => (∃ v, e = .returned v ∧ IsInt w' v (x * c)) ∧ Below w.heap.size w w' := by
  have oc := fun w => of_c c w h1 h2
  have mc := fun vx vy w hx hy => mul_c vx vy x c k 64 w hx hy bx (by unfold Bd; omega) hk (by omega)
  have HX := Lib.hid hx
  obtain ⟨n1, a1, c1, l1, rfl, _, _, _, _⟩ := hx
  clear bx
  unfold iv at *
  have hB0 := Below.refl w.heap.size w
  go_enter Try.func38, Try.ntmps38
  go_wp2_with fail
  go_region_held3 (fun w' => w'.cell? ⟨w.heap.size, 0, none⟩ = some (.bool n1) ∧ w'.cell? ⟨w.heap.size, 1, none⟩ = some (.slice a1 l1.length c1)) (repeat' (first | assumption | apply And.intro | exact cell_new (by simp) rfl | refine cell_alloc ?_ _ | refine cell_drew ?_ | refine cell_far ?_ (addr_ne (by omega)) _))
    (first | (go_at_call 28; refine (oc _).mono ?_; rintro e w3 ⟨⟨v3, rfl, hi3⟩, hb3⟩; have x0 : w3.cell? ⟨w.heap.size, 0, none⟩ = some (.bool n1) := bkeep hb3 (by first | assumption | exact cell_new (by with_reducible first | rfl | (simp; done) | (simp; omega)) rfl | (repeat (first | assumption | exact cell_new (by with_reducible first | rfl | (simp; done) | (simp; omega)) rfl | refine cell_alloc ?_ _ | refine cell_drew ?_ | refine cell_drewN ?_ _ | refine cell_far ?_ (by simp) _ | (refine cell_far ?_ (by simp <;> omega) _))) | simp [go_sem, *]); have zx0 := cell_lt x0; have x1 : w3.cell? ⟨w.heap.size, 1, none⟩ = some (.slice a1 l1.length c1) := bkeep hb3 (by first | assumption | exact cell_new (by with_reducible first | rfl | (simp; done) | (simp; omega)) rfl | (repeat (first | assumption | exact cell_new (by with_reducible first | rfl | (simp; done) | (simp; omega)) rfl | refine cell_alloc ?_ _ | refine cell_drew ?_ | refine cell_drewN ?_ _ | refine cell_far ?_ (by simp) _ | (refine cell_far ?_ (by simp <;> omega) _))) | simp [go_sem, *]); have r0 : w3.cell? ⟨w.heap.size + 1, 0, none⟩ = some (.bool false) := bkeep hb3 (by first | assumption | exact cell_new (by with_reducible first | rfl | (simp; done) | (simp; omega)) rfl | (repeat (first | assumption | exact cell_new (by with_reducible first | rfl | (simp; done) | (simp; omega)) rfl | refine cell_alloc ?_ _ | refine cell_drew ?_ | refine cell_drewN ?_ _ | refine cell_far ?_ (by simp) _ | (refine cell_far ?_ (by simp <;> omega) _))) | simp [go_sem, *]); have zr0 := cell_lt r0; have r0f : w3.frozen? ⟨w.heap.size + 1, 0, none⟩ = false := bkeepf (v := .bool false) hb3 (by first | assumption | exact cell_new (by with_reducible first | rfl | (simp; done) | (simp; omega)) rfl | (repeat (first | assumption | exact cell_new (by with_reducible first | rfl | (simp; done) | (simp; omega)) rfl | refine cell_alloc ?_ _ | refine cell_drew ?_ | refine cell_drewN ?_ _ | refine cell_far ?_ (by simp) _ | (refine cell_far ?_ (by simp <;> omega) _))) | simp [go_sem, *]) (by first | assumption | (simp <;> assumption) | simp [go_sem, *]); have r1 : w3.cell? ⟨w.heap.size + 1, 1, none⟩ = some (.slice none 0 0) := bkeep hb3 (by first | assumption | exact cell_new (by with_reducible first | rfl | (simp; done) | (simp; omega)) rfl | (repeat (first | assumption | exact cell_new (by with_reducible first | rfl | (simp; done) | (simp; omega)) rfl | refine cell_alloc ?_ _ | refine cell_drew ?_ | refine cell_drewN ?_ _ | refine cell_far ?_ (by simp) _ | (refine cell_far ?_ (by simp <;> omega) _))) | simp [go_sem, *]); have r1f : w3.frozen? ⟨w.heap.size + 1, 1, none⟩ = false := bkeepf (v := .slice none 0 0) hb3 (by first | assumption | exact cell_new (by with_reducible first | rfl | (simp; done) | (simp; omega)) rfl | (repeat (first | assumption | exact cell_new (by with_reducible first | rfl | (simp; done) | (simp; omega)) rfl | refine cell_alloc ?_ _ | refine cell_drew ?_ | refine cell_drewN ?_ _ | refine cell_far ?_ (by simp) _ | (refine cell_far ?_ (by simp <;> omega) _))) | simp [go_sem, *]) (by first | assumption | (simp <;> assumption) | simp [go_sem, *]); have hB : Below w.heap.size w w3 := bthen (by repeat (first | exact Below.refl _ _ | exact hB | refine Below.drew ?_ | refine below_drewN ?_ _ | refine bset ?_ (by simp <;> omega) _ | refine bal ?_ _)) hb3; have hz : w.heap.size ≤ w3.heap.size := hB.size; have HI3 := Lib.hid hi3; have HB3 := Lib.hid hB; obtain ⟨n3, a3, c3, l3, rfl, _, _, _, _⟩ := hi3; unfold iv at *) | (go_at_call 31; refine (mc _ _ _ (HX.out.keep HB3.out) HI3.out).mono ?_; rintro e w4 ⟨⟨v, rfl, hi⟩, hb4⟩; have x0 : w4.cell? ⟨w.heap.size, 0, none⟩ = some (.bool n1) := bkeep hb4 (by first | assumption | exact cell_new (by with_reducible first | rfl | (simp; done) | (simp; omega)) rfl | (repeat (first | assumption | exact cell_new (by with_reducible first | rfl | (simp; done) | (simp; omega)) rfl | refine cell_alloc ?_ _ | refine cell_drew ?_ | refine cell_drewN ?_ _ | refine cell_far ?_ (by simp) _ | (refine cell_far ?_ (by simp <;> omega) _))) | simp [go_sem, *]); have zx0 := cell_lt x0; have x1 : w4.cell? ⟨w.heap.size, 1, none⟩ = some (.slice a1 l1.length c1) := bkeep hb4 (by first | assumption | exact cell_new (by with_reducible first | rfl | (simp; done) | (simp; omega)) rfl | (repeat (first | assumption | exact cell_new (by with_reducible first | rfl | (simp; done) | (simp; omega)) rfl | refine cell_alloc ?_ _ | refine cell_drew ?_ | refine cell_drewN ?_ _ | refine cell_far ?_ (by simp) _ | (refine cell_far ?_ (by simp <;> omega) _))) | simp [go_sem, *]); have r0 : w4.cell? ⟨w.heap.size + 1, 0, none⟩ = some (.bool false) := bkeep hb4 (by first | assumption | exact cell_new (by with_reducible first | rfl | (simp; done) | (simp; omega)) rfl | (repeat (first | assumption | exact cell_new (by with_reducible first | rfl | (simp; done) | (simp; omega)) rfl | refine cell_alloc ?_ _ | refine cell_drew ?_ | refine cell_drewN ?_ _ | refine cell_far ?_ (by simp) _ | (refine cell_far ?_ (by simp <;> omega) _))) | simp [go_sem, *]); have zr0 := cell_lt r0; have r0f : w4.frozen? ⟨w.heap.size + 1, 0, none⟩ = false := bkeepf (v := .bool false) hb4 (by first | assumption | exact cell_new (by with_reducible first | rfl | (simp; done) | (simp; omega)) rfl | (repeat (first | assumption | exact cell_new (by with_reducible first | rfl | (simp; done) | (simp; omega)) rfl | refine cell_alloc ?_ _ | refine cell_drew ?_ | refine cell_drewN ?_ _ | refine cell_far ?_ (by simp) _ | (refine cell_far ?_ (by simp <;> omega) _))) | simp [go_sem, *]) (by first | assumption | (simp <;> assumption) | simp [go_sem, *]); have r1 : w4.cell? ⟨w.heap.size + 1, 1, none⟩ = some (.slice none 0 0) := bkeep hb4 (by first | assumption | exact cell_new (by with_reducible first | rfl | (simp; done) | (simp; omega)) rfl | (repeat (first | assumption | exact cell_new (by with_reducible first | rfl | (simp; done) | (simp; omega)) rfl | refine cell_alloc ?_ _ | refine cell_drew ?_ | refine cell_drewN ?_ _ | refine cell_far ?_ (by simp) _ | (refine cell_far ?_ (by simp <;> omega) _))) | simp [go_sem, *]); have r1f : w4.frozen? ⟨w.heap.size + 1, 1, none⟩ = false := bkeepf (v := .slice none 0 0) hb4 (by first | assumption | exact cell_new (by with_reducible first | rfl | (simp; done) | (simp; omega)) rfl | (repeat (first | assumption | exact cell_new (by with_reducible first | rfl | (simp; done) | (simp; omega)) rfl | refine cell_alloc ?_ _ | refine cell_drew ?_ | refine cell_drewN ?_ _ | refine cell_far ?_ (by simp) _ | (refine cell_far ?_ (by simp <;> omega) _))) | simp [go_sem, *]) (by first | assumption | (simp <;> assumption) | simp [go_sem, *]); have hB : Below w.heap.size w w4 := bthen (by repeat (first | exact Below.refl _ _ | exact hB | refine Below.drew ?_ | refine below_drewN ?_ _ | refine bset ?_ (by simp <;> omega) _ | refine bal ?_ _)) hb4; have hz : w.heap.size ≤ w4.heap.size := hB.size; have HI := Lib.hid hi; have HI2 := Lib.hid (hi.put2 r0 r1); obtain ⟨n4, a4, c4, l4, rfl, _, _, _, _⟩ := hi; unfold iv at *))
  go_wp2
  refine bodyPost_ret (v := .agg #[.bool n4, .slice a4 l4.length c4]) (by simp [results, Try.results38, go_sem, *]) rfl ⟨⟨_, rfl, HI2.out _ _⟩, ?_⟩
  repeat (first | exact Below.refl _ _ | exact hB | refine Below.drew ?_ | refine below_drewN ?_ _ | refine bset ?_ (by simp <;> omega) _ | refine bal ?_ _)

theorem sg_sign {neg : Bool} {l : List Nat} (hn : Nrm l) (hs : neg = true → l ≠ []) : (sg neg (val l)).sign = if l.length = 0 then 0 else if neg then -1 else 1 := by
  by_cases h0 : l = []
  · subst h0; cases neg <;> simp [sg, val]
  · have h1 : 0 < val l := Nat.pos_of_ne_zero (fun e => h0 ((val_nil_iff hn).1 e))
    have h2 : l.length ≠ 0 := by simpa using h0
    rw [if_neg h2]
    cases neg with
    | true => simp only [sg, if_true]; rw [Int.sign_neg, Int.sign_eq_one_of_pos (by omega)]
    | false => simp only [sg]; exact Int.sign_eq_one_of_pos (by simp; omega)

set_option maxHeartbeats 1000000 in
theorem sign_c (vx : Value) (x : Int) (w : World) (hx : IsInt w vx x) :
    Calls Try.prog 47 #[vx] w fun e w' => e = .returned (.int .i64 x.sign) ∧ Below w.heap.size w w' := by
  obtain ⟨n1, a1, c1, l1, rfl, u1, g1, s1, rfl⟩ := hx
  have HS := Lib.hid (sg_sign g1 s1)
  generalize (sg n1 (val l1)).sign = z at *
  clear g1 s1 u1
  unfold iv
  generalize hk : l1.length = k at *
  clear hk
  have hB0 := Below.refl w.heap.size w
  cases k with
  | zero =>
    go_enter Try.func47, Try.ntmps47
    go_wp2
    go_ret
    refine ⟨by rw [HS.out]; rfl, ?_⟩
    repeat (first | exact Below.refl _ _ | exact hB0 | refine Below.drew ?_ | refine below_drewN ?_ _ | refine bset ?_ (by simp <;> omega) _ | refine bal ?_ _)
  | succ k =>
    cases n1 with
    | true =>
      go_enter Try.func47, Try.ntmps47
      go_wp2
      go_ret
      refine ⟨by rw [HS.out]; rfl, ?_⟩
      repeat (first | exact Below.refl _ _ | exact hB0 | refine Below.drew ?_ | refine below_drewN ?_ _ | refine bset ?_ (by simp <;> omega) _ | refine bal ?_ _)
    | false =>
      go_enter Try.func47, Try.ntmps47
      go_wp2
      go_ret
      refine ⟨by rw [HS.out]; rfl, ?_⟩
      repeat (first | exact Below.refl _ _ | exact hB0 | refine Below.drew ?_ | refine below_drewN ?_ _ | refine bset ?_ (by simp <;> omega) _ | refine bal ?_ _)
end Go.Proofs.Ytefoljempkpmgaa
