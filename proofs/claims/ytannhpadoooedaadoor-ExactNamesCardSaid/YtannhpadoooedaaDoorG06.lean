/- Texts of this seat, laid together: IntD, IntE. Each opens with its own remark, which says what it proves, and under which conditions. -/
import Derived.Test.YtannhpadoooedaaDoorG05
/- integer: Times, Sign, Bits. -/
namespace Go.Proofs.YtannhpadoooedaaDoor
open Num
open Go.ChangeShapes Go.WideShapes Go.ChangeAt Go.RowKit
set_option linter.unusedVariables false
set_option linter.unusedSimpArgs false

set_option maxRecDepth 100000 in
set_option maxHeartbeats 2000000 in
theorem times_c (vx : Value) (x c : Int) (k : Nat) (w : World) (hx : IsInt w vx x) (bx : Bd k x) (hk : k ≤ 17179869184) (h1 : -9223372036854775808 ≤ c) (h2 : c ≤ 9223372036854775807) :
    Calls Tryd.prog 73 #[vx, .int .i64 c] w fun e w' => (∃ v, e = .returned v ∧ IsInt w' v (x * c)) ∧ Below w.heap.size w w' := by
  have oc := fun w => of_c c w h1 h2
  have mc := fun vx vy w hx hy => mul_c vx vy x c k 64 w hx hy bx (by unfold Bd; omega) hk (by omega)
  have HX := Lib.hid hx
  obtain ⟨n1, a1, c1, l1, rfl, _, _, _, _⟩ := hx
  clear bx
  unfold iv at *
  have hB0 := Below.refl w.heap.size w
  go_enter Tryd.func73, Tryd.ntmps73
  go_wp2_with fail
  go_region_held3 (fun w' => w'.cell? ⟨w.heap.size, 0, none⟩ = some (.bool n1) ∧ w'.cell? ⟨w.heap.size, 1, none⟩ = some (.slice a1 l1.length c1)) (repeat' (first | assumption | apply And.intro | exact cell_new (by simp) rfl | refine cell_alloc ?_ _ | refine cell_drew ?_ | refine cell_far ?_ (addr_ne (by omega)) _))
    (first | (go_at_call 33; refine (oc _).mono ?_; rintro e w3 ⟨⟨v3, rfl, hi3⟩, hb3⟩; have x0 : w3.cell? ⟨w.heap.size, 0, none⟩ = some (.bool n1) := bkeep hb3 (by first | assumption | exact cell_new (by with_reducible first | rfl | (simp; done) | (simp; omega)) rfl | (repeat (first | assumption | exact cell_new (by with_reducible first | rfl | (simp; done) | (simp; omega)) rfl | refine cell_alloc ?_ _ | refine cell_drew ?_ | refine cell_drewN ?_ _ | refine cell_far ?_ (by simp) _ | (refine cell_far ?_ (by simp <;> omega) _))) | simp [go_sem, *]); have zx0 := cell_lt x0; have x1 : w3.cell? ⟨w.heap.size, 1, none⟩ = some (.slice a1 l1.length c1) := bkeep hb3 (by first | assumption | exact cell_new (by with_reducible first | rfl | (simp; done) | (simp; omega)) rfl | (repeat (first | assumption | exact cell_new (by with_reducible first | rfl | (simp; done) | (simp; omega)) rfl | refine cell_alloc ?_ _ | refine cell_drew ?_ | refine cell_drewN ?_ _ | refine cell_far ?_ (by simp) _ | (refine cell_far ?_ (by simp <;> omega) _))) | simp [go_sem, *]); have r0 : w3.cell? ⟨w.heap.size + 1, 0, none⟩ = some (.bool false) := bkeep hb3 (by first | assumption | exact cell_new (by with_reducible first | rfl | (simp; done) | (simp; omega)) rfl | (repeat (first | assumption | exact cell_new (by with_reducible first | rfl | (simp; done) | (simp; omega)) rfl | refine cell_alloc ?_ _ | refine cell_drew ?_ | refine cell_drewN ?_ _ | refine cell_far ?_ (by simp) _ | (refine cell_far ?_ (by simp <;> omega) _))) | simp [go_sem, *]); have zr0 := cell_lt r0; have r0f : w3.frozen? ⟨w.heap.size + 1, 0, none⟩ = false := bkeepf (v := .bool false) hb3 (by first | assumption | exact cell_new (by with_reducible first | rfl | (simp; done) | (simp; omega)) rfl | (repeat (first | assumption | exact cell_new (by with_reducible first | rfl | (simp; done) | (simp; omega)) rfl | refine cell_alloc ?_ _ | refine cell_drew ?_ | refine cell_drewN ?_ _ | refine cell_far ?_ (by simp) _ | (refine cell_far ?_ (by simp <;> omega) _))) | simp [go_sem, *]) (by first | assumption | (simp <;> assumption) | simp [go_sem, *]); have r1 : w3.cell? ⟨w.heap.size + 1, 1, none⟩ = some (.slice none 0 0) := bkeep hb3 (by first | assumption | exact cell_new (by with_reducible first | rfl | (simp; done) | (simp; omega)) rfl | (repeat (first | assumption | exact cell_new (by with_reducible first | rfl | (simp; done) | (simp; omega)) rfl | refine cell_alloc ?_ _ | refine cell_drew ?_ | refine cell_drewN ?_ _ | refine cell_far ?_ (by simp) _ | (refine cell_far ?_ (by simp <;> omega) _))) | simp [go_sem, *]); have r1f : w3.frozen? ⟨w.heap.size + 1, 1, none⟩ = false := bkeepf (v := .slice none 0 0) hb3 (by first | assumption | exact cell_new (by with_reducible first | rfl | (simp; done) | (simp; omega)) rfl | (repeat (first | assumption | exact cell_new (by with_reducible first | rfl | (simp; done) | (simp; omega)) rfl | refine cell_alloc ?_ _ | refine cell_drew ?_ | refine cell_drewN ?_ _ | refine cell_far ?_ (by simp) _ | (refine cell_far ?_ (by simp <;> omega) _))) | simp [go_sem, *]) (by first | assumption | (simp <;> assumption) | simp [go_sem, *]); have hB : Below w.heap.size w w3 := bthen (by repeat (first | exact Below.refl _ _ | exact hB | refine Below.drew ?_ | refine below_drewN ?_ _ | refine bset ?_ (by simp <;> omega) _ | refine bal ?_ _)) hb3; have hz : w.heap.size ≤ w3.heap.size := hB.size; have HI3 := Lib.hid hi3; have HB3 := Lib.hid hB; obtain ⟨n3, a3, c3, l3, rfl, _, _, _, _⟩ := hi3; unfold iv at *) | (go_at_call 86; refine (mc _ _ _ (HX.out.keep HB3.out) HI3.out).mono ?_; rintro e w4 ⟨⟨v, rfl, hi⟩, hb4⟩; have x0 : w4.cell? ⟨w.heap.size, 0, none⟩ = some (.bool n1) := bkeep hb4 (by first | assumption | exact cell_new (by with_reducible first | rfl | (simp; done) | (simp; omega)) rfl | (repeat (first | assumption | exact cell_new (by with_reducible first | rfl | (simp; done) | (simp; omega)) rfl | refine cell_alloc ?_ _ | refine cell_drew ?_ | refine cell_drewN ?_ _ | refine cell_far ?_ (by simp) _ | (refine cell_far ?_ (by simp <;> omega) _))) | simp [go_sem, *]); have zx0 := cell_lt x0; have x1 : w4.cell? ⟨w.heap.size, 1, none⟩ = some (.slice a1 l1.length c1) := bkeep hb4 (by first | assumption | exact cell_new (by with_reducible first | rfl | (simp; done) | (simp; omega)) rfl | (repeat (first | assumption | exact cell_new (by with_reducible first | rfl | (simp; done) | (simp; omega)) rfl | refine cell_alloc ?_ _ | refine cell_drew ?_ | refine cell_drewN ?_ _ | refine cell_far ?_ (by simp) _ | (refine cell_far ?_ (by simp <;> omega) _))) | simp [go_sem, *]); have r0 : w4.cell? ⟨w.heap.size + 1, 0, none⟩ = some (.bool false) := bkeep hb4 (by first | assumption | exact cell_new (by with_reducible first | rfl | (simp; done) | (simp; omega)) rfl | (repeat (first | assumption | exact cell_new (by with_reducible first | rfl | (simp; done) | (simp; omega)) rfl | refine cell_alloc ?_ _ | refine cell_drew ?_ | refine cell_drewN ?_ _ | refine cell_far ?_ (by simp) _ | (refine cell_far ?_ (by simp <;> omega) _))) | simp [go_sem, *]); have zr0 := cell_lt r0; have r0f : w4.frozen? ⟨w.heap.size + 1, 0, none⟩ = false := bkeepf (v := .bool false) hb4 (by first | assumption | exact cell_new (by with_reducible first | rfl | (simp; done) | (simp; omega)) rfl | (repeat (first | assumption | exact cell_new (by with_reducible first | rfl | (simp; done) | (simp; omega)) rfl | refine cell_alloc ?_ _ | refine cell_drew ?_ | refine cell_drewN ?_ _ | refine cell_far ?_ (by simp) _ | (refine cell_far ?_ (by simp <;> omega) _))) | simp [go_sem, *]) (by first | assumption | (simp <;> assumption) | simp [go_sem, *]); have r1 : w4.cell? ⟨w.heap.size + 1, 1, none⟩ = some (.slice none 0 0) := bkeep hb4 (by first | assumption | exact cell_new (by with_reducible first | rfl | (simp; done) | (simp; omega)) rfl | (repeat (first | assumption | exact cell_new (by with_reducible first | rfl | (simp; done) | (simp; omega)) rfl | refine cell_alloc ?_ _ | refine cell_drew ?_ | refine cell_drewN ?_ _ | refine cell_far ?_ (by simp) _ | (refine cell_far ?_ (by simp <;> omega) _))) | simp [go_sem, *]); have r1f : w4.frozen? ⟨w.heap.size + 1, 1, none⟩ = false := bkeepf (v := .slice none 0 0) hb4 (by first | assumption | exact cell_new (by with_reducible first | rfl | (simp; done) | (simp; omega)) rfl | (repeat (first | assumption | exact cell_new (by with_reducible first | rfl | (simp; done) | (simp; omega)) rfl | refine cell_alloc ?_ _ | refine cell_drew ?_ | refine cell_drewN ?_ _ | refine cell_far ?_ (by simp) _ | (refine cell_far ?_ (by simp <;> omega) _))) | simp [go_sem, *]) (by first | assumption | (simp <;> assumption) | simp [go_sem, *]); have hB : Below w.heap.size w w4 := bthen (by repeat (first | exact Below.refl _ _ | exact hB | refine Below.drew ?_ | refine below_drewN ?_ _ | refine bset ?_ (by simp <;> omega) _ | refine bal ?_ _)) hb4; have hz : w.heap.size ≤ w4.heap.size := hB.size; have HI := Lib.hid hi; have HI2 := Lib.hid (hi.put2 r0 r1); obtain ⟨n4, a4, c4, l4, rfl, _, _, _, _⟩ := hi; unfold iv at *))
  go_wp2
  refine bodyPost_ret (v := .agg #[.bool n4, .slice a4 l4.length c4]) (by simp [results, Tryd.results73, go_sem, *]) rfl ⟨⟨_, rfl, HI2.out _ _⟩, ?_⟩
  repeat (first | exact Below.refl _ _ | exact hB | refine Below.drew ?_ | refine below_drewN ?_ _ | refine bset ?_ (by simp <;> omega) _ | refine bal ?_ _)

theorem sg_sign {neg : Bool} {l : List Nat} (hn : Nrm l) (hs : neg = true → l ≠ []) : (sg neg (val l)).sign = if l.length = 0 then 0 else if neg then -1 else 1 := by
  by_cases h0 : l = []
  · subst h0; cases neg <;> simp [sg, val]
  · have h1 : 0 < val l := Nat.pos_of_ne_zero (fun e => h0 ((val_nil_iff hn).1 e))
    have h2 : l.length ≠ 0 := by simpa using h0
    rw [if_neg h2]
    cases neg with
    | true => simp only [sg, if_true]; rw [Int.sign_neg, Int.sign_eq_one_of_pos (by omega)]
    | false => simp only [sg]; exact Int.sign_eq_one_of_pos (by simp; omega)

set_option maxRecDepth 100000 in
set_option maxHeartbeats 1000000 in
theorem sign_c (vx : Value) (x : Int) (w : World) (hx : IsInt w vx x) :
    Calls Tryd.prog 89 #[vx] w fun e w' => e = .returned (.int .i64 x.sign) ∧ Below w.heap.size w w' := by
  obtain ⟨n1, a1, c1, l1, rfl, u1, g1, s1, rfl⟩ := hx
  have HS := Lib.hid (sg_sign g1 s1)
  generalize (sg n1 (val l1)).sign = z at *
  clear g1 s1 u1
  unfold iv
  generalize hk : l1.length = k at *
  clear hk
  have hB0 := Below.refl w.heap.size w
  cases k with
  | zero =>
    go_enter Tryd.func89, Tryd.ntmps89
    go_wp2
    go_ret
    refine ⟨by rw [HS.out]; rfl, ?_⟩
    repeat (first | exact Below.refl _ _ | exact hB0 | refine Below.drew ?_ | refine below_drewN ?_ _ | refine bset ?_ (by simp <;> omega) _ | refine bal ?_ _)
  | succ k =>
    cases n1 with
    | true =>
      go_enter Tryd.func89, Tryd.ntmps89
      go_wp2
      go_ret
      refine ⟨by rw [HS.out]; rfl, ?_⟩
      repeat (first | exact Below.refl _ _ | exact hB0 | refine Below.drew ?_ | refine below_drewN ?_ _ | refine bset ?_ (by simp <;> omega) _ | refine bal ?_ _)
    | false =>
      go_enter Tryd.func89, Tryd.ntmps89
      go_wp2
      go_ret
      refine ⟨by rw [HS.out]; rfl, ?_⟩
      repeat (first | exact Below.refl _ _ | exact hB0 | refine Below.drew ?_ | refine below_drewN ?_ _ | refine bset ?_ (by simp <;> omega) _ | refine bal ?_ _)
end Go.Proofs.YtannhpadoooedaaDoor
/- integer: Cmp. -/
namespace Go.Proofs.YtannhpadoooedaaDoor
open Num
open Go.ChangeShapes Go.WideShapes Go.ChangeAt Go.RowKit
set_option linter.unusedVariables false
set_option linter.unusedSimpArgs false
namespace Num
/-- less, like, more -/
def cmpI (x y : Int) : Int := if x < y then -1 else if x = y then 0 else 1
theorem cmpI_nn (m n : Nat) : cmpI (sg true m) (sg true n) = cmpN n m := by
  simp only [cmpI, cmpN, sg, if_true]
  (repeat' split) <;> first | rfl | omega
theorem cmpI_pp (m n : Nat) : cmpI (sg false m) (sg false n) = cmpN m n := by
  have e : ∀ k : Nat, sg false k = (k : Int) := fun _ => rfl
  rw [e, e]
  unfold cmpI cmpN
  (repeat' split) <;> first | rfl | omega
theorem cmpI_np (m n : Nat) (h : 0 < m) : cmpI (sg true m) (sg false n) = -1 := by
  have e : sg false n = (n : Int) := rfl
  have e' : sg true m = -(m : Int) := rfl
  rw [e, e']
  unfold cmpI; rw [if_pos (by omega)]
theorem cmpI_pn (m n : Nat) (h : 0 < n) : cmpI (sg false m) (sg true n) = 1 := by
  have e : sg false m = (m : Int) := rfl
  have e' : sg true n = -(n : Int) := rfl
  rw [e, e']
  unfold cmpI; rw [if_neg (by omega), if_neg (by omega)]
end Num

set_option maxRecDepth 100000 in
set_option maxHeartbeats 1000000 in
theorem cmp_c (vx vy : Value) (x y : Int) (w : World) (hx : IsInt w vx x) (hy : IsInt w vy y) :
    Calls Tryd.prog 12 #[vx, vy] w fun e w' => e = .returned (.int .i64 (cmpI x y)) ∧ Below w.heap.size w w' := by
  obtain ⟨n1, a1, c1, l1, rfl, u1, g1, s1, rfl⟩ := hx
  obtain ⟨n2, a2, c2, l2, rfl, u2, g2, s2, rfl⟩ := hy
  have hB0 := Below.refl w.heap.size w
  unfold iv
  cases n1 with
  | true =>
    have p1 : 0 < val l1 := Nat.pos_of_ne_zero (fun e => s1 rfl ((val_nil_iff g1).1 e))
    cases n2 with
    | true =>
      have HC := Lib.hid (cmpI_nn (val l1) (val l2))
      have cc := fun w hx hy => limbCmp_c a2 a1 c2 c1 l2 l1 w hx hy
      generalize cmpN (val l2) (val l1) = z at *
      clear g1 g2 s1 s2 p1
      go_enter Tryd.func12, Tryd.ntmps12
      go_wp2_with (go_at_call 36; refine (cc _ (u2.keep (by repeat (first | exact Below.refl _ _ | exact hB0 | refine Below.drew ?_ | refine below_drewN ?_ _ | refine bset ?_ (by simp <;> omega) _ | refine bal ?_ _))) (u1.keep (by repeat (first | exact Below.refl _ _ | exact hB0 | refine Below.drew ?_ | refine below_drewN ?_ _ | refine bset ?_ (by simp <;> omega) _ | refine bal ?_ _)))).mono ?_; rintro e w1 ⟨rfl, hb1⟩)
      go_ret
      refine ⟨by rw [HC.out]; rfl, ?_⟩
      refine bthen ?_ hb1
      repeat (first | exact Below.refl _ _ | exact hB0 | refine Below.drew ?_ | refine below_drewN ?_ _ | refine bset ?_ (by simp <;> omega) _ | refine bal ?_ _)
    | false =>
      have HC := Lib.hid (cmpI_np (val l1) (val l2) p1)
      clear g1 g2 s1 s2 p1
      go_enter Tryd.func12, Tryd.ntmps12
      go_wp2
      go_ret
      refine ⟨by rw [HC.out]; rfl, ?_⟩
      repeat (first | exact Below.refl _ _ | exact hB0 | refine Below.drew ?_ | refine below_drewN ?_ _ | refine bset ?_ (by simp <;> omega) _ | refine bal ?_ _)
  | false =>
    cases n2 with
    | true =>
      have p2 : 0 < val l2 := Nat.pos_of_ne_zero (fun e => s2 rfl ((val_nil_iff g2).1 e))
      have HC := Lib.hid (cmpI_pn (val l1) (val l2) p2)
      clear g1 g2 s1 s2 p2
      go_enter Tryd.func12, Tryd.ntmps12
      go_wp2
      go_ret
      refine ⟨by rw [HC.out]; rfl, ?_⟩
      repeat (first | exact Below.refl _ _ | exact hB0 | refine Below.drew ?_ | refine below_drewN ?_ _ | refine bset ?_ (by simp <;> omega) _ | refine bal ?_ _)
    | false =>
      have HC := Lib.hid (cmpI_pp (val l1) (val l2))
      have cc := fun w hx hy => limbCmp_c a1 a2 c1 c2 l1 l2 w hx hy
      generalize cmpN (val l1) (val l2) = z at *
      clear g1 g2 s1 s2
      go_enter Tryd.func12, Tryd.ntmps12
      go_wp2_with (go_at_call 36; refine (cc _ (u1.keep (by repeat (first | exact Below.refl _ _ | exact hB0 | refine Below.drew ?_ | refine below_drewN ?_ _ | refine bset ?_ (by simp <;> omega) _ | refine bal ?_ _))) (u2.keep (by repeat (first | exact Below.refl _ _ | exact hB0 | refine Below.drew ?_ | refine below_drewN ?_ _ | refine bset ?_ (by simp <;> omega) _ | refine bal ?_ _)))).mono ?_; rintro e w1 ⟨rfl, hb1⟩)
      go_ret
      refine ⟨by rw [HC.out]; rfl, ?_⟩
      refine bthen ?_ hb1
      repeat (first | exact Below.refl _ _ | exact hB0 | refine Below.drew ?_ | refine below_drewN ?_ _ | refine bset ?_ (by simp <;> omega) _ | refine bal ?_ _)
end Go.Proofs.YtannhpadoooedaaDoor
