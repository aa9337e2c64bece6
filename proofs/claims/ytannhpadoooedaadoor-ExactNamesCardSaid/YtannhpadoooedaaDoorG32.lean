/- Texts of this seat, laid together: VmB, VmC. Each opens with its own remark, which says what it proves, and under which conditions. -/
import Derived.Test.YtannhpadoooedaaDoorG23
import Derived.Test.YtannhpadoooedaaDoorG11
import Derived.Test.YtannhpadoooedaaDoorG22
import Derived.Test.YtannhpadoooedaaDoorG16
import Derived.Test.YtannhpadoooedaaDoorG18
import Derived.Shelf.Abstract
import Derived.Laws.EntriesVeiled
import Derived.Test.YtannhpadoooedaaDoorG14
/- vm: what each function value does that 'does' hands back. -/
namespace Go.Proofs.YtannhpadoooedaaDoor
open Num
open Go.ChangeShapes Go.WideShapes Go.ChangeAt Go.RowKit
set_option linter.unusedVariables false
set_option linter.unusedSimpArgs false
/-- answers the number z -/
def AnsI (z : Int) (w : World) (e : Ending) (w' : World) : Prop := (∃ v, e = .returned v ∧ IsInt w' v z) ∧ Below w.heap.size w w'
/-- answers z and true, or something and false -/
def AnsO (z : Option Int) (w : World) (e : Ending) (w' : World) : Prop :=
  (match z with
    | some x => ∃ v, e = .returned (.tuple #[v, .bool true]) ∧ IsInt w' v x
    | none => e = .returned (.tuple #[.agg #[.bool false, .slice none 0 0], .bool false])) ∧ Below w.heap.size w w'

set_option maxRecDepth 100000 in
set_option maxHeartbeats 1000000 in
theorem fneg_c (va vb : Value) (a b : Int) (w : World) (hx : IsInt w va a) (hy : IsInt w vb b) : Calls Tryd.prog 69 #[va, vb] w (AnsI (-a) w) := by
  have HX := Lib.hid hx
  have HY := Lib.hid hy
  obtain ⟨n1, a1, c1, l1, rfl, _, _, _, _⟩ := hx
  obtain ⟨n2, a2, c2, l2, rfl, _, _, _, _⟩ := hy
  unfold iv at *
  have hB0 := Below.refl w.heap.size w
  have nc := fun W (h : Below w.heap.size w W) => neg_c _ a W (HX.out.keep h)
  go_enter Tryd.func69, Tryd.ntmps69
  go_wp2_with fail
  refine (nc _ (by repeat (first | exact Below.refl _ _ | exact hB0 | refine Below.drew ?_ | refine below_drewN ?_ _ | refine bset ?_ (by simp <;> omega) _ | refine bal ?_ _))).mono ?_
  rintro e w1 ⟨⟨v, rfl, hi⟩, hb1⟩
  have r0 : w1.cell? ⟨w.heap.size + 2, 0, none⟩ = some (.bool false) := bkeep hb1 (by first | assumption | exact cell_new (by with_reducible first | rfl | (simp; done) | (simp; omega)) rfl | (repeat (first | assumption | exact cell_new (by with_reducible first | rfl | (simp; done) | (simp; omega)) rfl | refine cell_alloc ?_ _ | refine cell_drew ?_ | refine cell_drewN ?_ _ | refine cell_far ?_ (by simp) _ | (refine cell_far ?_ (by simp <;> omega) _))) | simp [go_sem, *])
  have zr0 := cell_lt r0
  have r0f : w1.frozen? ⟨w.heap.size + 2, 0, none⟩ = false := bkeepf (v := .bool false) hb1 (by first | assumption | exact cell_new (by with_reducible first | rfl | (simp; done) | (simp; omega)) rfl | (repeat (first | assumption | exact cell_new (by with_reducible first | rfl | (simp; done) | (simp; omega)) rfl | refine cell_alloc ?_ _ | refine cell_drew ?_ | refine cell_drewN ?_ _ | refine cell_far ?_ (by simp) _ | (refine cell_far ?_ (by simp <;> omega) _))) | simp [go_sem, *]) (by first | assumption | (simp <;> assumption) | simp [go_sem, *])
  have r1 : w1.cell? ⟨w.heap.size + 2, 1, none⟩ = some (.slice none 0 0) := bkeep hb1 (by first | assumption | exact cell_new (by with_reducible first | rfl | (simp; done) | (simp; omega)) rfl | (repeat (first | assumption | exact cell_new (by with_reducible first | rfl | (simp; done) | (simp; omega)) rfl | refine cell_alloc ?_ _ | refine cell_drew ?_ | refine cell_drewN ?_ _ | refine cell_far ?_ (by simp) _ | (refine cell_far ?_ (by simp <;> omega) _))) | simp [go_sem, *])
  have r1f : w1.frozen? ⟨w.heap.size + 2, 1, none⟩ = false := bkeepf (v := .slice none 0 0) hb1 (by first | assumption | exact cell_new (by with_reducible first | rfl | (simp; done) | (simp; omega)) rfl | (repeat (first | assumption | exact cell_new (by with_reducible first | rfl | (simp; done) | (simp; omega)) rfl | refine cell_alloc ?_ _ | refine cell_drew ?_ | refine cell_drewN ?_ _ | refine cell_far ?_ (by simp) _ | (refine cell_far ?_ (by simp <;> omega) _))) | simp [go_sem, *]) (by first | assumption | (simp <;> assumption) | simp [go_sem, *])
  have hB : Below w.heap.size w w1 := bthen (by repeat (first | exact Below.refl _ _ | exact hB | refine Below.drew ?_ | refine below_drewN ?_ _ | refine bset ?_ (by simp <;> omega) _ | refine bal ?_ _)) hb1
  have hz : w.heap.size ≤ w1.heap.size := hB.size
  have HI2 := Lib.hid (hi.put2 r0 r1)
  obtain ⟨n4, a4, c4, l4, rfl, _, _, _, _⟩ := hi
  unfold iv at *
  go_wp2
  refine bodyPost_ret (v := .agg #[.bool n4, .slice a4 l4.length c4]) (by simp [results, Tryd.results69, go_sem, *]) rfl ⟨⟨_, rfl, HI2.out _ _⟩, ?_⟩
  repeat (first | exact Below.refl _ _ | exact hB | refine Below.drew ?_ | refine below_drewN ?_ _ | refine bset ?_ (by simp <;> omega) _ | refine bal ?_ _)
set_option maxRecDepth 100000 in
set_option maxHeartbeats 1000000 in
theorem fsame_c (va vb : Value) (a b : Int) (w : World) (hx : IsInt w va a) (hy : IsInt w vb b) : Calls Tryd.prog 80 #[va, vb] w (AnsI a w) := by
  have HX := Lib.hid hx
  have HY := Lib.hid hy
  obtain ⟨n1, a1, c1, l1, rfl, _, _, _, _⟩ := hx
  obtain ⟨n2, a2, c2, l2, rfl, _, _, _, _⟩ := hy
  unfold iv at *
  have hB0 := Below.refl w.heap.size w
  go_enter Tryd.func80, Tryd.ntmps80
  go_wp2
  refine bodyPost_ret (v := .agg #[.bool n1, .slice a1 l1.length c1]) (by simp [results, Tryd.results80, go_sem, *]) rfl ⟨⟨_, rfl, HX.out.keep ?_⟩, ?_⟩
  all_goals repeat (first | exact Below.refl _ _ | exact hB0 | refine Below.drew ?_ | refine below_drewN ?_ _ | refine bset ?_ (by simp <;> omega) _ | refine bal ?_ _)
set_option maxRecDepth 100000 in
set_option maxHeartbeats 1000000 in
theorem ftimes_c (B : Nat) (c : Int) (k : Nat) (va vb : Value) (a b : Int) (w : World) (hc : w.cell? ⟨B, 4, none⟩ = some (.int .i64 c)) (hx : IsInt w va a) (hy : IsInt w vb b) (bx : Bd k a) (hk : k ≤ 17179869184) (h1 : -9223372036854775808 ≤ c) (h2 : c ≤ 9223372036854775807) :
    Calls Tryd.prog 72 #[va, vb, .pointer (some ⟨B, 0, none⟩)] w (AnsI (a * c) w) := by
  have HX := Lib.hid hx
  have HY := Lib.hid hy
  obtain ⟨n1, a1, c1, l1, rfl, _, _, _, _⟩ := hx
  obtain ⟨n2, a2, c2, l2, rfl, _, _, _, _⟩ := hy
  unfold iv at *
  have hB0 := Below.refl w.heap.size w
  have nc := fun W (h : Below w.heap.size w W) => times_c _ a c k W (HX.out.keep h) bx hk h1 h2
  have zB := cell_lt hc
  have zB1 : B < w.heap.size + 1 := by omega
  have zB2 : B < w.heap.size + 1 + 1 := by omega
  go_enter Tryd.func72, Tryd.ntmps72
  go_wp2_with fail
  refine (nc _ (by repeat (first | exact Below.refl _ _ | exact hB0 | refine Below.drew ?_ | refine below_drewN ?_ _ | refine bset ?_ (by simp <;> omega) _ | refine bal ?_ _))).mono ?_
  rintro e w1 ⟨⟨v, rfl, hi⟩, hb1⟩
  have r0 : w1.cell? ⟨w.heap.size + 2, 0, none⟩ = some (.bool false) := bkeep hb1 (by first | assumption | exact cell_new (by with_reducible first | rfl | (simp; done) | (simp; omega)) rfl | (repeat (first | assumption | exact cell_new (by with_reducible first | rfl | (simp; done) | (simp; omega)) rfl | refine cell_alloc ?_ _ | refine cell_drew ?_ | refine cell_drewN ?_ _ | refine cell_far ?_ (by simp) _ | (refine cell_far ?_ (by simp <;> omega) _))) | simp [go_sem, *])
  have zr0 := cell_lt r0
  have r0f : w1.frozen? ⟨w.heap.size + 2, 0, none⟩ = false := bkeepf (v := .bool false) hb1 (by first | assumption | exact cell_new (by with_reducible first | rfl | (simp; done) | (simp; omega)) rfl | (repeat (first | assumption | exact cell_new (by with_reducible first | rfl | (simp; done) | (simp; omega)) rfl | refine cell_alloc ?_ _ | refine cell_drew ?_ | refine cell_drewN ?_ _ | refine cell_far ?_ (by simp) _ | (refine cell_far ?_ (by simp <;> omega) _))) | simp [go_sem, *]) (by first | assumption | (simp <;> assumption) | simp [go_sem, *])
  have r1 : w1.cell? ⟨w.heap.size + 2, 1, none⟩ = some (.slice none 0 0) := bkeep hb1 (by first | assumption | exact cell_new (by with_reducible first | rfl | (simp; done) | (simp; omega)) rfl | (repeat (first | assumption | exact cell_new (by with_reducible first | rfl | (simp; done) | (simp; omega)) rfl | refine cell_alloc ?_ _ | refine cell_drew ?_ | refine cell_drewN ?_ _ | refine cell_far ?_ (by simp) _ | (refine cell_far ?_ (by simp <;> omega) _))) | simp [go_sem, *])
  have r1f : w1.frozen? ⟨w.heap.size + 2, 1, none⟩ = false := bkeepf (v := .slice none 0 0) hb1 (by first | assumption | exact cell_new (by with_reducible first | rfl | (simp; done) | (simp; omega)) rfl | (repeat (first | assumption | exact cell_new (by with_reducible first | rfl | (simp; done) | (simp; omega)) rfl | refine cell_alloc ?_ _ | refine cell_drew ?_ | refine cell_drewN ?_ _ | refine cell_far ?_ (by simp) _ | (refine cell_far ?_ (by simp <;> omega) _))) | simp [go_sem, *]) (by first | assumption | (simp <;> assumption) | simp [go_sem, *])
  have hB : Below w.heap.size w w1 := bthen (by repeat (first | exact Below.refl _ _ | exact hB | refine Below.drew ?_ | refine below_drewN ?_ _ | refine bset ?_ (by simp <;> omega) _ | refine bal ?_ _)) hb1
  have hz : w.heap.size ≤ w1.heap.size := hB.size
  have HI2 := Lib.hid (hi.put2 r0 r1)
  obtain ⟨n4, a4, c4, l4, rfl, _, _, _, _⟩ := hi
  unfold iv at *
  go_wp2
  refine bodyPost_ret (v := .agg #[.bool n4, .slice a4 l4.length c4]) (by simp [results, Tryd.results72, go_sem, *]) rfl ⟨⟨_, rfl, HI2.out _ _⟩, ?_⟩
  repeat (first | exact Below.refl _ _ | exact hB | refine Below.drew ?_ | refine below_drewN ?_ _ | refine bset ?_ (by simp <;> omega) _ | refine bal ?_ _)

set_option maxRecDepth 100000 in
set_option maxHeartbeats 1000000 in
theorem fshl_c (B : Nat) (c k : Nat) (va vb : Value) (a b : Int) (w : World) (hc : w.cell? ⟨B, 4, none⟩ = some (.int .i64 (c : Int))) (hx : IsInt w va a) (hy : IsInt w vb b) (bx : Bd k a) (hk : k ≤ 17179869184) (h1 : c ≤ 65536) :
    Calls Tryd.prog 76 #[va, vb, .pointer (some ⟨B, 0, none⟩)] w (AnsI (a * 2 ^ c) w) := by
  have HX := Lib.hid hx
  have HY := Lib.hid hy
  obtain ⟨n1, a1, c1, l1, rfl, _, _, _, _⟩ := hx
  obtain ⟨n2, a2, c2, l2, rfl, _, _, _, _⟩ := hy
  unfold iv at *
  have hB0 := Below.refl w.heap.size w
  have nc := fun W (h : Below w.heap.size w W) => shlI_c _ a k c W (HX.out.keep h) bx hk h1
  have zB := cell_lt hc
  have zB1 : B < w.heap.size + 1 := by omega
  have zB2 : B < w.heap.size + 1 + 1 := by omega
  go_enter Tryd.func76, Tryd.ntmps76
  go_wp2_with fail
  refine (nc _ (by repeat (first | exact Below.refl _ _ | exact hB0 | refine Below.drew ?_ | refine below_drewN ?_ _ | refine bset ?_ (by simp <;> omega) _ | refine bal ?_ _))).mono ?_
  rintro e w1 ⟨⟨v, rfl, hi⟩, hb1⟩
  have r0 : w1.cell? ⟨w.heap.size + 2, 0, none⟩ = some (.bool false) := bkeep hb1 (by first | assumption | exact cell_new (by with_reducible first | rfl | (simp; done) | (simp; omega)) rfl | (repeat (first | assumption | exact cell_new (by with_reducible first | rfl | (simp; done) | (simp; omega)) rfl | refine cell_alloc ?_ _ | refine cell_drew ?_ | refine cell_drewN ?_ _ | refine cell_far ?_ (by simp) _ | (refine cell_far ?_ (by simp <;> omega) _))) | simp [go_sem, *])
  have zr0 := cell_lt r0
  have r0f : w1.frozen? ⟨w.heap.size + 2, 0, none⟩ = false := bkeepf (v := .bool false) hb1 (by first | assumption | exact cell_new (by with_reducible first | rfl | (simp; done) | (simp; omega)) rfl | (repeat (first | assumption | exact cell_new (by with_reducible first | rfl | (simp; done) | (simp; omega)) rfl | refine cell_alloc ?_ _ | refine cell_drew ?_ | refine cell_drewN ?_ _ | refine cell_far ?_ (by simp) _ | (refine cell_far ?_ (by simp <;> omega) _))) | simp [go_sem, *]) (by first | assumption | (simp <;> assumption) | simp [go_sem, *])
  have r1 : w1.cell? ⟨w.heap.size + 2, 1, none⟩ = some (.slice none 0 0) := bkeep hb1 (by first | assumption | exact cell_new (by with_reducible first | rfl | (simp; done) | (simp; omega)) rfl | (repeat (first | assumption | exact cell_new (by with_reducible first | rfl | (simp; done) | (simp; omega)) rfl | refine cell_alloc ?_ _ | refine cell_drew ?_ | refine cell_drewN ?_ _ | refine cell_far ?_ (by simp) _ | (refine cell_far ?_ (by simp <;> omega) _))) | simp [go_sem, *])
  have r1f : w1.frozen? ⟨w.heap.size + 2, 1, none⟩ = false := bkeepf (v := .slice none 0 0) hb1 (by first | assumption | exact cell_new (by with_reducible first | rfl | (simp; done) | (simp; omega)) rfl | (repeat (first | assumption | exact cell_new (by with_reducible first | rfl | (simp; done) | (simp; omega)) rfl | refine cell_alloc ?_ _ | refine cell_drew ?_ | refine cell_drewN ?_ _ | refine cell_far ?_ (by simp) _ | (refine cell_far ?_ (by simp <;> omega) _))) | simp [go_sem, *]) (by first | assumption | (simp <;> assumption) | simp [go_sem, *])
  have hB : Below w.heap.size w w1 := bthen (by repeat (first | exact Below.refl _ _ | exact hB | refine Below.drew ?_ | refine below_drewN ?_ _ | refine bset ?_ (by simp <;> omega) _ | refine bal ?_ _)) hb1
  have hz : w.heap.size ≤ w1.heap.size := hB.size
  have HI := Lib.hid hi
  obtain ⟨n4, a4, c4, l4, rfl, _, _, _, _⟩ := hi
  unfold iv at *
  go_wp2
  refine bodyPost_ret (v := .agg #[.bool n4, .slice a4 l4.length c4]) (by simp [results, Tryd.results76, go_sem, *]) rfl ⟨⟨_, rfl, (HI.out.put2 r0 r1 _ _).keep (bal (Below.refl _ _) _)⟩, ?_⟩
  repeat (first | exact Below.refl _ _ | exact hB | refine Below.drew ?_ | refine below_drewN ?_ _ | refine bset ?_ (by simp <;> omega) _ | refine bal ?_ _)
set_option maxRecDepth 100000 in
set_option maxHeartbeats 1000000 in
theorem fover_yes (B : Nat) (c : Int) (k : Nat) (va vb : Value) (a b : Int) (w : World) (hc : w.cell? ⟨B, 4, none⟩ = some (.int .i64 c)) (hx : IsInt w va a) (hy : IsInt w vb b) (bx : Bd k a) (hk : k ≤ 4294967296) (hc0 : c ≠ 0) (h1 : -9223372036854775808 ≤ c) (h2 : c ≤ 9223372036854775807) (hd : a % c = 0) :
    Calls Tryd.prog 74 #[va, vb, .pointer (some ⟨B, 0, none⟩)] w (AnsO (some (a / c)) w) := by
  have nc0 := fun va W (h : IsInt W va a) => overI_yes va a c k W h bx hk hc0 h1 h2 hd
  clear hd hc0 h1 h2
  have HX := Lib.hid hx
  have HY := Lib.hid hy
  obtain ⟨n1, a1, c1, l1, rfl, _, _, _, _⟩ := hx
  obtain ⟨n2, a2, c2, l2, rfl, _, _, _, _⟩ := hy
  unfold iv at *
  have hB0 := Below.refl w.heap.size w
  have nc := fun W (h : Below w.heap.size w W) => nc0 _ W (HX.out.keep h)
  clear nc0
  have zB := cell_lt hc
  have zB1 : B < w.heap.size + 1 := by omega
  have zB2 : B < w.heap.size + 1 + 1 := by omega
  go_enter Tryd.func74, Tryd.ntmps74
  go_wp2_with fail
  refine (nc _ (by repeat (first | exact Below.refl _ _ | exact hB0 | refine Below.drew ?_ | refine below_drewN ?_ _ | refine bset ?_ (by simp <;> omega) _ | refine bal ?_ _))).mono ?_
  rintro e w1 ⟨⟨v, rfl, hi⟩, hb1⟩
  have r0 : w1.cell? ⟨w.heap.size + 2, 0, none⟩ = some (.bool false) := bkeep hb1 (by first | assumption | exact cell_new (by with_reducible first | rfl | (simp; done) | (simp; omega)) rfl | (repeat (first | assumption | exact cell_new (by with_reducible first | rfl | (simp; done) | (simp; omega)) rfl | refine cell_alloc ?_ _ | refine cell_drew ?_ | refine cell_drewN ?_ _ | refine cell_far ?_ (by simp) _ | (refine cell_far ?_ (by simp <;> omega) _))) | simp [go_sem, *])
  have zr0 := cell_lt r0
  have r0f : w1.frozen? ⟨w.heap.size + 2, 0, none⟩ = false := bkeepf (v := .bool false) hb1 (by first | assumption | exact cell_new (by with_reducible first | rfl | (simp; done) | (simp; omega)) rfl | (repeat (first | assumption | exact cell_new (by with_reducible first | rfl | (simp; done) | (simp; omega)) rfl | refine cell_alloc ?_ _ | refine cell_drew ?_ | refine cell_drewN ?_ _ | refine cell_far ?_ (by simp) _ | (refine cell_far ?_ (by simp <;> omega) _))) | simp [go_sem, *]) (by first | assumption | (simp <;> assumption) | simp [go_sem, *])
  have r1 : w1.cell? ⟨w.heap.size + 2, 1, none⟩ = some (.slice none 0 0) := bkeep hb1 (by first | assumption | exact cell_new (by with_reducible first | rfl | (simp; done) | (simp; omega)) rfl | (repeat (first | assumption | exact cell_new (by with_reducible first | rfl | (simp; done) | (simp; omega)) rfl | refine cell_alloc ?_ _ | refine cell_drew ?_ | refine cell_drewN ?_ _ | refine cell_far ?_ (by simp) _ | (refine cell_far ?_ (by simp <;> omega) _))) | simp [go_sem, *])
  have r1f : w1.frozen? ⟨w.heap.size + 2, 1, none⟩ = false := bkeepf (v := .slice none 0 0) hb1 (by first | assumption | exact cell_new (by with_reducible first | rfl | (simp; done) | (simp; omega)) rfl | (repeat (first | assumption | exact cell_new (by with_reducible first | rfl | (simp; done) | (simp; omega)) rfl | refine cell_alloc ?_ _ | refine cell_drew ?_ | refine cell_drewN ?_ _ | refine cell_far ?_ (by simp) _ | (refine cell_far ?_ (by simp <;> omega) _))) | simp [go_sem, *]) (by first | assumption | (simp <;> assumption) | simp [go_sem, *])
  have hB : Below w.heap.size w w1 := bthen (by repeat (first | exact Below.refl _ _ | exact hB | refine Below.drew ?_ | refine below_drewN ?_ _ | refine bset ?_ (by simp <;> omega) _ | refine bal ?_ _)) hb1
  have hz : w.heap.size ≤ w1.heap.size := hB.size
  have HI := Lib.hid hi
  obtain ⟨n4, a4, c4, l4, rfl, _, _, _, _⟩ := hi
  unfold iv at *
  go_wp2
  refine bodyPost_ret (v := .tuple #[.agg #[.bool n4, .slice a4 l4.length c4], .bool true]) (by simp [results, Tryd.results74, go_sem, *]) rfl ⟨⟨_, rfl, (HI.out.put2 r0 r1 _ _).keep (bal (Below.refl _ _) _)⟩, ?_⟩
  repeat (first | exact Below.refl _ _ | exact hB | refine Below.drew ?_ | refine below_drewN ?_ _ | refine bset ?_ (by simp <;> omega) _ | refine bal ?_ _)
set_option maxRecDepth 100000 in
set_option maxHeartbeats 1000000 in
theorem fover_no (B : Nat) (c : Int) (k : Nat) (va vb : Value) (a b : Int) (w : World) (hc : w.cell? ⟨B, 4, none⟩ = some (.int .i64 c)) (hx : IsInt w va a) (hy : IsInt w vb b) (bx : Bd k a) (hk : k ≤ 4294967296) (hc0 : c ≠ 0) (h1 : -9223372036854775808 ≤ c) (h2 : c ≤ 9223372036854775807) (hd : a % c ≠ 0) :
    Calls Tryd.prog 74 #[va, vb, .pointer (some ⟨B, 0, none⟩)] w (AnsO none w) := by
  have nc0 := fun va W (h : IsInt W va a) => overI_no va a c k W h bx hk hc0 h1 h2 hd
  clear hd hc0 h1 h2
  have HX := Lib.hid hx
  have HY := Lib.hid hy
  obtain ⟨n1, a1, c1, l1, rfl, _, _, _, _⟩ := hx
  obtain ⟨n2, a2, c2, l2, rfl, _, _, _, _⟩ := hy
  unfold iv at *
  have hB0 := Below.refl w.heap.size w
  have nc := fun W (h : Below w.heap.size w W) => nc0 _ W (HX.out.keep h)
  clear nc0
  have zB := cell_lt hc
  have zB1 : B < w.heap.size + 1 := by omega
  have zB2 : B < w.heap.size + 1 + 1 := by omega
  go_enter Tryd.func74, Tryd.ntmps74
  go_wp2_with fail
  refine (nc _ (by repeat (first | exact Below.refl _ _ | exact hB0 | refine Below.drew ?_ | refine below_drewN ?_ _ | refine bset ?_ (by simp <;> omega) _ | refine bal ?_ _))).mono ?_
  rintro e w1 ⟨rfl, hb1⟩
  have r0 : w1.cell? ⟨w.heap.size + 2, 0, none⟩ = some (.bool false) := bkeep hb1 (by first | assumption | exact cell_new (by with_reducible first | rfl | (simp; done) | (simp; omega)) rfl | (repeat (first | assumption | exact cell_new (by with_reducible first | rfl | (simp; done) | (simp; omega)) rfl | refine cell_alloc ?_ _ | refine cell_drew ?_ | refine cell_drewN ?_ _ | refine cell_far ?_ (by simp) _ | (refine cell_far ?_ (by simp <;> omega) _))) | simp [go_sem, *])
  have zr0 := cell_lt r0
  have r0f : w1.frozen? ⟨w.heap.size + 2, 0, none⟩ = false := bkeepf (v := .bool false) hb1 (by first | assumption | exact cell_new (by with_reducible first | rfl | (simp; done) | (simp; omega)) rfl | (repeat (first | assumption | exact cell_new (by with_reducible first | rfl | (simp; done) | (simp; omega)) rfl | refine cell_alloc ?_ _ | refine cell_drew ?_ | refine cell_drewN ?_ _ | refine cell_far ?_ (by simp) _ | (refine cell_far ?_ (by simp <;> omega) _))) | simp [go_sem, *]) (by first | assumption | (simp <;> assumption) | simp [go_sem, *])
  have r1 : w1.cell? ⟨w.heap.size + 2, 1, none⟩ = some (.slice none 0 0) := bkeep hb1 (by first | assumption | exact cell_new (by with_reducible first | rfl | (simp; done) | (simp; omega)) rfl | (repeat (first | assumption | exact cell_new (by with_reducible first | rfl | (simp; done) | (simp; omega)) rfl | refine cell_alloc ?_ _ | refine cell_drew ?_ | refine cell_drewN ?_ _ | refine cell_far ?_ (by simp) _ | (refine cell_far ?_ (by simp <;> omega) _))) | simp [go_sem, *])
  have r1f : w1.frozen? ⟨w.heap.size + 2, 1, none⟩ = false := bkeepf (v := .slice none 0 0) hb1 (by first | assumption | exact cell_new (by with_reducible first | rfl | (simp; done) | (simp; omega)) rfl | (repeat (first | assumption | exact cell_new (by with_reducible first | rfl | (simp; done) | (simp; omega)) rfl | refine cell_alloc ?_ _ | refine cell_drew ?_ | refine cell_drewN ?_ _ | refine cell_far ?_ (by simp) _ | (refine cell_far ?_ (by simp <;> omega) _))) | simp [go_sem, *]) (by first | assumption | (simp <;> assumption) | simp [go_sem, *])
  have hB : Below w.heap.size w w1 := bthen (by repeat (first | exact Below.refl _ _ | exact hB | refine Below.drew ?_ | refine below_drewN ?_ _ | refine bset ?_ (by simp <;> omega) _ | refine bal ?_ _)) hb1
  have hz : w.heap.size ≤ w1.heap.size := hB.size
  go_wp2
  refine bodyPost_ret (v := .tuple #[.agg #[.bool false, .slice none 0 0], .bool false]) (by simp [results, Tryd.results74, go_sem, *]) rfl ⟨rfl, ?_⟩
  repeat (first | exact Below.refl _ _ | exact hB | refine Below.drew ?_ | refine below_drewN ?_ _ | refine bset ?_ (by simp <;> omega) _ | refine bal ?_ _)
set_option maxRecDepth 100000 in
set_option maxHeartbeats 1000000 in
theorem fshr_yes (B : Nat) (c : Nat) (k : Nat) (va vb : Value) (a b : Int) (w : World) (hc : w.cell? ⟨B, 4, none⟩ = some (.int .i64 (c : Int))) (hx : IsInt w va a) (hy : IsInt w vb b) (bx : Bd k a) (hk : k ≤ 17179869184) (h1 : c ≤ 65536) (hd : a % 2 ^ c = 0) (hT : Tz32 w) :
    Calls Tryd.prog 78 #[va, vb, .pointer (some ⟨B, 0, none⟩)] w (AnsO (some (a / 2 ^ c)) w) := by
  have nc0 := fun va W (h : IsInt W va a) hT => shrI_yes va a k c W h bx hk h1 hd hT
  have HT := Lib.hid hT
  clear hd h1 hT
  have HX := Lib.hid hx
  have HY := Lib.hid hy
  obtain ⟨n1, a1, c1, l1, rfl, _, _, _, _⟩ := hx
  obtain ⟨n2, a2, c2, l2, rfl, _, _, _, _⟩ := hy
  unfold iv at *
  have hB0 := Below.refl w.heap.size w
  have nc := fun W (h : Below w.heap.size w W) => nc0 _ W (HX.out.keep h) (HT.out.keep h)
  clear nc0
  have zB := cell_lt hc
  have zB1 : B < w.heap.size + 1 := by omega
  have zB2 : B < w.heap.size + 1 + 1 := by omega
  go_enter Tryd.func78, Tryd.ntmps78
  go_wp2_with fail
  refine (nc _ (by repeat (first | exact Below.refl _ _ | exact hB0 | refine Below.drew ?_ | refine below_drewN ?_ _ | refine bset ?_ (by simp <;> omega) _ | refine bal ?_ _))).mono ?_
  rintro e w1 ⟨⟨v, rfl, hi⟩, hb1⟩
  have r0 : w1.cell? ⟨w.heap.size + 2, 0, none⟩ = some (.bool false) := bkeep hb1 (by first | assumption | exact cell_new (by with_reducible first | rfl | (simp; done) | (simp; omega)) rfl | (repeat (first | assumption | exact cell_new (by with_reducible first | rfl | (simp; done) | (simp; omega)) rfl | refine cell_alloc ?_ _ | refine cell_drew ?_ | refine cell_drewN ?_ _ | refine cell_far ?_ (by simp) _ | (refine cell_far ?_ (by simp <;> omega) _))) | simp [go_sem, *])
  have zr0 := cell_lt r0
  have r0f : w1.frozen? ⟨w.heap.size + 2, 0, none⟩ = false := bkeepf (v := .bool false) hb1 (by first | assumption | exact cell_new (by with_reducible first | rfl | (simp; done) | (simp; omega)) rfl | (repeat (first | assumption | exact cell_new (by with_reducible first | rfl | (simp; done) | (simp; omega)) rfl | refine cell_alloc ?_ _ | refine cell_drew ?_ | refine cell_drewN ?_ _ | refine cell_far ?_ (by simp) _ | (refine cell_far ?_ (by simp <;> omega) _))) | simp [go_sem, *]) (by first | assumption | (simp <;> assumption) | simp [go_sem, *])
  have r1 : w1.cell? ⟨w.heap.size + 2, 1, none⟩ = some (.slice none 0 0) := bkeep hb1 (by first | assumption | exact cell_new (by with_reducible first | rfl | (simp; done) | (simp; omega)) rfl | (repeat (first | assumption | exact cell_new (by with_reducible first | rfl | (simp; done) | (simp; omega)) rfl | refine cell_alloc ?_ _ | refine cell_drew ?_ | refine cell_drewN ?_ _ | refine cell_far ?_ (by simp) _ | (refine cell_far ?_ (by simp <;> omega) _))) | simp [go_sem, *])
  have r1f : w1.frozen? ⟨w.heap.size + 2, 1, none⟩ = false := bkeepf (v := .slice none 0 0) hb1 (by first | assumption | exact cell_new (by with_reducible first | rfl | (simp; done) | (simp; omega)) rfl | (repeat (first | assumption | exact cell_new (by with_reducible first | rfl | (simp; done) | (simp; omega)) rfl | refine cell_alloc ?_ _ | refine cell_drew ?_ | refine cell_drewN ?_ _ | refine cell_far ?_ (by simp) _ | (refine cell_far ?_ (by simp <;> omega) _))) | simp [go_sem, *]) (by first | assumption | (simp <;> assumption) | simp [go_sem, *])
  have hB : Below w.heap.size w w1 := bthen (by repeat (first | exact Below.refl _ _ | exact hB | refine Below.drew ?_ | refine below_drewN ?_ _ | refine bset ?_ (by simp <;> omega) _ | refine bal ?_ _)) hb1
  have hz : w.heap.size ≤ w1.heap.size := hB.size
  have HI := Lib.hid hi
  obtain ⟨n4, a4, c4, l4, rfl, _, _, _, _⟩ := hi
  unfold iv at *
  go_wp2
  refine bodyPost_ret (v := .tuple #[.agg #[.bool n4, .slice a4 l4.length c4], .bool true]) (by simp [results, Tryd.results78, go_sem, *]) rfl ⟨⟨_, rfl, (HI.out.put2 r0 r1 _ _).keep (bal (Below.refl _ _) _)⟩, ?_⟩
  repeat (first | exact Below.refl _ _ | exact hB | refine Below.drew ?_ | refine below_drewN ?_ _ | refine bset ?_ (by simp <;> omega) _ | refine bal ?_ _)
set_option maxRecDepth 100000 in
set_option maxHeartbeats 1000000 in
theorem fshr_no (B : Nat) (c : Nat) (k : Nat) (va vb : Value) (a b : Int) (w : World) (hc : w.cell? ⟨B, 4, none⟩ = some (.int .i64 (c : Int))) (hx : IsInt w va a) (hy : IsInt w vb b) (bx : Bd k a) (hk : k ≤ 17179869184) (h1 : c ≤ 65536) (hd : a % 2 ^ c ≠ 0) (hT : Tz32 w) :
    Calls Tryd.prog 78 #[va, vb, .pointer (some ⟨B, 0, none⟩)] w (AnsO none w) := by
  have nc0 := fun va W (h : IsInt W va a) hT => shrI_no va a k c W h bx hk h1 hd hT
  have HT := Lib.hid hT
  clear hd h1 hT
  have HX := Lib.hid hx
  have HY := Lib.hid hy
  obtain ⟨n1, a1, c1, l1, rfl, _, _, _, _⟩ := hx
  obtain ⟨n2, a2, c2, l2, rfl, _, _, _, _⟩ := hy
  unfold iv at *
  have hB0 := Below.refl w.heap.size w
  have nc := fun W (h : Below w.heap.size w W) => nc0 _ W (HX.out.keep h) (HT.out.keep h)
  clear nc0
  have zB := cell_lt hc
  have zB1 : B < w.heap.size + 1 := by omega
  have zB2 : B < w.heap.size + 1 + 1 := by omega
  go_enter Tryd.func78, Tryd.ntmps78
  go_wp2_with fail
  refine (nc _ (by repeat (first | exact Below.refl _ _ | exact hB0 | refine Below.drew ?_ | refine below_drewN ?_ _ | refine bset ?_ (by simp <;> omega) _ | refine bal ?_ _))).mono ?_
  rintro e w1 ⟨rfl, hb1⟩
  have r0 : w1.cell? ⟨w.heap.size + 2, 0, none⟩ = some (.bool false) := bkeep hb1 (by first | assumption | exact cell_new (by with_reducible first | rfl | (simp; done) | (simp; omega)) rfl | (repeat (first | assumption | exact cell_new (by with_reducible first | rfl | (simp; done) | (simp; omega)) rfl | refine cell_alloc ?_ _ | refine cell_drew ?_ | refine cell_drewN ?_ _ | refine cell_far ?_ (by simp) _ | (refine cell_far ?_ (by simp <;> omega) _))) | simp [go_sem, *])
  have zr0 := cell_lt r0
  have r0f : w1.frozen? ⟨w.heap.size + 2, 0, none⟩ = false := bkeepf (v := .bool false) hb1 (by first | assumption | exact cell_new (by with_reducible first | rfl | (simp; done) | (simp; omega)) rfl | (repeat (first | assumption | exact cell_new (by with_reducible first | rfl | (simp; done) | (simp; omega)) rfl | refine cell_alloc ?_ _ | refine cell_drew ?_ | refine cell_drewN ?_ _ | refine cell_far ?_ (by simp) _ | (refine cell_far ?_ (by simp <;> omega) _))) | simp [go_sem, *]) (by first | assumption | (simp <;> assumption) | simp [go_sem, *])
  have r1 : w1.cell? ⟨w.heap.size + 2, 1, none⟩ = some (.slice none 0 0) := bkeep hb1 (by first | assumption | exact cell_new (by with_reducible first | rfl | (simp; done) | (simp; omega)) rfl | (repeat (first | assumption | exact cell_new (by with_reducible first | rfl | (simp; done) | (simp; omega)) rfl | refine cell_alloc ?_ _ | refine cell_drew ?_ | refine cell_drewN ?_ _ | refine cell_far ?_ (by simp) _ | (refine cell_far ?_ (by simp <;> omega) _))) | simp [go_sem, *])
  have r1f : w1.frozen? ⟨w.heap.size + 2, 1, none⟩ = false := bkeepf (v := .slice none 0 0) hb1 (by first | assumption | exact cell_new (by with_reducible first | rfl | (simp; done) | (simp; omega)) rfl | (repeat (first | assumption | exact cell_new (by with_reducible first | rfl | (simp; done) | (simp; omega)) rfl | refine cell_alloc ?_ _ | refine cell_drew ?_ | refine cell_drewN ?_ _ | refine cell_far ?_ (by simp) _ | (refine cell_far ?_ (by simp <;> omega) _))) | simp [go_sem, *]) (by first | assumption | (simp <;> assumption) | simp [go_sem, *])
  have hB : Below w.heap.size w w1 := bthen (by repeat (first | exact Below.refl _ _ | exact hB | refine Below.drew ?_ | refine below_drewN ?_ _ | refine bset ?_ (by simp <;> omega) _ | refine bal ?_ _)) hb1
  have hz : w.heap.size ≤ w1.heap.size := hB.size
  go_wp2
  refine bodyPost_ret (v := .tuple #[.agg #[.bool false, .slice none 0 0], .bool false]) (by simp [results, Tryd.results78, go_sem, *]) rfl ⟨rfl, ?_⟩
  repeat (first | exact Below.refl _ _ | exact hB | refine Below.drew ?_ | refine below_drewN ?_ _ | refine bset ?_ (by simp <;> omega) _ | refine bal ?_ _)
end Go.Proofs.YtannhpadoooedaaDoor
/- vm: 'always', and what does hands back. -/
namespace Go.Proofs.YtannhpadoooedaaDoor
open Num
open Go.ChangeShapes Go.WideShapes Go.ChangeAt Go.RowKit
set_option linter.unusedVariables false
set_option linter.unusedSimpArgs false
/-- a function value that does an instruction, from the world w on, on numbers of so many bits -/
def FnI (i : Ins) (k : Nat) (w : World) (F : Nat) (caps : Array Value) : Prop :=
  ∀ W va vb a b, Below w.heap.size w W → IsInt W va a → IsInt W vb b → Bd k a → Bd k b → Calls Tryd.prog F (#[va, vb] ++ caps) W (AnsO (opI i a b) W)
/-- a function value that answers a number, whatever comes -/
def FnA (f : Int → Int → Int) (k : Nat) (w : World) (G : Nat) (caps : Array Value) : Prop :=
  ∀ W va vb a b, Below w.heap.size w W → IsInt W va a → IsInt W vb b → Bd k a → Bd k b → Calls Tryd.prog G (#[va, vb] ++ caps) W (AnsI (f a b) W)
set_option maxRecDepth 100000 in
set_option maxHeartbeats 1000000 in
theorem falways_c (B G : Nat) (caps : Array Value) (f : Int → Int → Int) (k : Nat) (va vb : Value) (a b : Int) (w0 w : World) (hc : w.cell? ⟨B, 0, none⟩ = some (.func (.func G) #[] caps)) (hG : FnA f k w0 G caps) (eG : Enters Tryd.prog G) (hw : Below w0.heap.size w0 w)
    (hx : IsInt w va a) (hy : IsInt w vb b) (bx : Bd k a) (bY : Bd k b) :
    Calls Tryd.prog 68 #[va, vb, .pointer (some ⟨B, 0, none⟩)] w (AnsO (some (f a b)) w) := by
  have HX := Lib.hid hx
  have HY := Lib.hid hy
  obtain ⟨n1, a1, c1, l1, rfl, _, _, _, _⟩ := hx
  obtain ⟨n2, a2, c2, l2, rfl, _, _, _, _⟩ := hy
  unfold iv at *
  have hB0 := Below.refl w.heap.size w
  have gc := fun W (h : Below w.heap.size w W) => hG W _ _ a b (bthen hw h) (HX.out.keep h) (HY.out.keep h) bx bY
  clear hG bx bY hw
  have zB := cell_lt hc
  have zB1 : B < w.heap.size + 1 := by omega
  have zB2 : B < w.heap.size + 1 + 1 := by omega
  unfold Enters at eG
  go_enter Tryd.func68, Tryd.ntmps68
  go_wp2_with fail
  refine (gc _ (by repeat (first | exact Below.refl _ _ | exact hB0 | refine Below.drew ?_ | refine below_drewN ?_ _ | refine bset ?_ (by simp <;> omega) _ | refine bal ?_ _))).mono ?_
  rintro e w1 ⟨⟨v, rfl, hi⟩, hb1⟩
  have r0 : w1.cell? ⟨w.heap.size + 2, 0, none⟩ = some (.bool false) := bkeep hb1 (by first | assumption | exact cell_new (by with_reducible first | rfl | (simp; done) | (simp; omega)) rfl | (repeat (first | assumption | exact cell_new (by with_reducible first | rfl | (simp; done) | (simp; omega)) rfl | refine cell_alloc ?_ _ | refine cell_drew ?_ | refine cell_drewN ?_ _ | refine cell_far ?_ (by simp) _ | (refine cell_far ?_ (by simp <;> omega) _))) | simp [go_sem, *])
  have zr0 := cell_lt r0
  have r0f : w1.frozen? ⟨w.heap.size + 2, 0, none⟩ = false := bkeepf (v := .bool false) hb1 (by first | assumption | exact cell_new (by with_reducible first | rfl | (simp; done) | (simp; omega)) rfl | (repeat (first | assumption | exact cell_new (by with_reducible first | rfl | (simp; done) | (simp; omega)) rfl | refine cell_alloc ?_ _ | refine cell_drew ?_ | refine cell_drewN ?_ _ | refine cell_far ?_ (by simp) _ | (refine cell_far ?_ (by simp <;> omega) _))) | simp [go_sem, *]) (by first | assumption | (simp <;> assumption) | simp [go_sem, *])
  have r1 : w1.cell? ⟨w.heap.size + 2, 1, none⟩ = some (.slice none 0 0) := bkeep hb1 (by first | assumption | exact cell_new (by with_reducible first | rfl | (simp; done) | (simp; omega)) rfl | (repeat (first | assumption | exact cell_new (by with_reducible first | rfl | (simp; done) | (simp; omega)) rfl | refine cell_alloc ?_ _ | refine cell_drew ?_ | refine cell_drewN ?_ _ | refine cell_far ?_ (by simp) _ | (refine cell_far ?_ (by simp <;> omega) _))) | simp [go_sem, *])
  have r1f : w1.frozen? ⟨w.heap.size + 2, 1, none⟩ = false := bkeepf (v := .slice none 0 0) hb1 (by first | assumption | exact cell_new (by with_reducible first | rfl | (simp; done) | (simp; omega)) rfl | (repeat (first | assumption | exact cell_new (by with_reducible first | rfl | (simp; done) | (simp; omega)) rfl | refine cell_alloc ?_ _ | refine cell_drew ?_ | refine cell_drewN ?_ _ | refine cell_far ?_ (by simp) _ | (refine cell_far ?_ (by simp <;> omega) _))) | simp [go_sem, *]) (by first | assumption | (simp <;> assumption) | simp [go_sem, *])
  have hB : Below w.heap.size w w1 := bthen (by repeat (first | exact Below.refl _ _ | exact hB | refine Below.drew ?_ | refine below_drewN ?_ _ | refine bset ?_ (by simp <;> omega) _ | refine bal ?_ _)) hb1
  have hz : w.heap.size ≤ w1.heap.size := hB.size
  have HI2 := Lib.hid (hi.put2 r0 r1)
  obtain ⟨n4, a4, c4, l4, rfl, _, _, _, _⟩ := hi
  unfold iv at *
  go_wp2
  refine bodyPost_ret (v := .tuple #[.agg #[.bool n4, .slice a4 l4.length c4], .bool true]) (by simp [results, Tryd.results68, go_sem, *]) rfl ⟨⟨_, rfl, HI2.out _ _⟩, ?_⟩
  repeat (first | exact Below.refl _ _ | exact hB | refine Below.drew ?_ | refine below_drewN ?_ _ | refine bset ?_ (by simp <;> omega) _ | refine bal ?_ _)
/-- always: a function value of one way makes one that tells that it goes -/
def fv (F : Nat) (caps : Array Value) : Value := .func (.func F) #[] caps
set_option maxRecDepth 100000 in
set_option maxHeartbeats 1000000 in
theorem always_c (G : Nat) (caps : Array Value) (w : World) : Calls Tryd.prog 67 #[.func (.func G) #[] caps] w fun e w' => e = .returned (fv 68 #[.pointer (some ⟨w.heap.size, 0, none⟩)]) ∧ w'.cell? ⟨w.heap.size, 0, none⟩ = some (.func (.func G) #[] caps) ∧ Below w.heap.size w w' := by
  go_enter Tryd.func67, Tryd.ntmps67
  go_wp2
  go_ret
  exact ⟨rfl, cell_new rfl rfl, bal (Below.refl _ _) _⟩
theorem ens {f : Nat} {fn : Func} {c : Code} (hf : Tryd.prog.funcs[f]? = some fn) (hn : (fn.name == "runtime.NumGoroutine") = false) (hb : fn.body = some c) : Enters Tryd.prog f := enters_of hf hn hb
set_option maxRecDepth 100000 in
set_option maxHeartbeats 4000000 in
theorem does_c (i : Ins) (k : Nat) (w : World) (h1 : 1 ≤ i.op) (h2 : i.op ≤ 8) (hc : constB i.op i.c = true) (hk : k ≤ 4294967296) (hT : Tz32 w) :
    Calls Tryd.prog 43 #[i.v] w fun e w' => ∃ F caps, e = .returned (fv F caps) ∧ Enters Tryd.prog F ∧ FnI i k w' F caps ∧ Below w.heap.size w w' := by
  obtain ⟨op, t, a, b, c⟩ := i
  dsimp only at h1 h2 hc
  unfold Ins.v
  dsimp only
  have HC := Lib.hid hc
  have HT := Lib.hid hT
  clear hc hT
  have hB0 := Below.refl w.heap.size w
  have hop : op = 1 ∨ op = 2 ∨ op = 3 ∨ op = 4 ∨ op = 5 ∨ op = 6 ∨ op = 7 ∨ op = 8 := by omega
  clear h1 h2
  rcases hop with rfl | rfl | rfl | rfl | rfl | rfl | rfl | rfl
  ·
    go_enter Tryd.func43, Tryd.ntmps43
    go_wp2_with fail
    refine (always_c _ _ _).mono ?_
    rintro e w1 ⟨rfl, hc1, hb1⟩
    simp only [World.size_alloc] at hc1
    have zc := cell_lt hc1
    unfold fv
    go_wp2
    go_ret
    refine ⟨_, _, rfl, ens Tryd.func68 (by kernel_rfl) rfl, ?_, bthen (by repeat (first | exact Below.refl _ _ | exact hB0 | refine Below.drew ?_ | refine below_drewN ?_ _ | refine bset ?_ (by simp <;> omega) _ | refine bal ?_ _)) hb1⟩
    intro W va vb x y hW hx hy bx bY
    have e : opI ⟨1, t, a, b, c⟩ x y = some x := by simp [opI]
    rw [e]
    exact falways_c (w.heap.size + 1) _ #[] (fun x _ => x) k va vb x y w1 W (bkeep hW hc1) (fun W va vb x y hW hx hy bx bY => fsame_c va vb x y W hx hy) (ens Tryd.func80 (by kernel_rfl) rfl) hW hx hy bx bY
  ·
    go_enter Tryd.func43, Tryd.ntmps43
    go_wp2_with fail
    refine (always_c _ _ _).mono ?_
    rintro e w1 ⟨rfl, hc1, hb1⟩
    simp only [World.size_alloc] at hc1
    have zc := cell_lt hc1
    unfold fv
    go_wp2
    go_ret
    refine ⟨_, _, rfl, ens Tryd.func68 (by kernel_rfl) rfl, ?_, bthen (by repeat (first | exact Below.refl _ _ | exact hB0 | refine Below.drew ?_ | refine below_drewN ?_ _ | refine bset ?_ (by simp <;> omega) _ | refine bal ?_ _)) hb1⟩
    intro W va vb x y hW hx hy bx bY
    have e : opI ⟨2, t, a, b, c⟩ x y = some (-x) := by simp [opI]
    rw [e]
    exact falways_c (w.heap.size + 1) _ #[] (fun x _ => -x) k va vb x y w1 W (bkeep hW hc1) (fun W va vb x y hW hx hy bx bY => fneg_c va vb x y W hx hy) (ens Tryd.func69 (by kernel_rfl) rfl) hW hx hy bx bY
  ·
    go_enter Tryd.func43, Tryd.ntmps43
    go_wp2_with fail
    refine (always_c _ _ _).mono ?_
    rintro e w1 ⟨rfl, hc1, hb1⟩
    simp only [World.size_alloc] at hc1
    have zc := cell_lt hc1
    unfold fv
    go_wp2
    go_ret
    refine ⟨_, _, rfl, ens Tryd.func68 (by kernel_rfl) rfl, ?_, bthen (by repeat (first | exact Below.refl _ _ | exact hB0 | refine Below.drew ?_ | refine below_drewN ?_ _ | refine bset ?_ (by simp <;> omega) _ | refine bal ?_ _)) hb1⟩
    intro W va vb x y hW hx hy bx bY
    have e : opI ⟨3, t, a, b, c⟩ x y = some (x + y) := by simp [opI]
    rw [e]
    exact falways_c (w.heap.size + 1) _ #[] (fun x y => x + y) k va vb x y w1 W (bkeep hW hc1) (fun W va vb x y hW hx hy bx bY => addI_c va vb x y k W hx hy bx bY (by omega)) (ens Tryd.func10 (by kernel_rfl) rfl) hW hx hy bx bY
  ·
    go_enter Tryd.func43, Tryd.ntmps43
    go_wp2_with fail
    refine (always_c _ _ _).mono ?_
    rintro e w1 ⟨rfl, hc1, hb1⟩
    simp only [World.size_alloc] at hc1
    have zc := cell_lt hc1
    unfold fv
    go_wp2
    go_ret
    refine ⟨_, _, rfl, ens Tryd.func68 (by kernel_rfl) rfl, ?_, bthen (by repeat (first | exact Below.refl _ _ | exact hB0 | refine Below.drew ?_ | refine below_drewN ?_ _ | refine bset ?_ (by simp <;> omega) _ | refine bal ?_ _)) hb1⟩
    intro W va vb x y hW hx hy bx bY
    have e : opI ⟨4, t, a, b, c⟩ x y = some (x - y) := by simp [opI]
    rw [e]
    exact falways_c (w.heap.size + 1) _ #[] (fun x y => x - y) k va vb x y w1 W (bkeep hW hc1) (fun W va vb x y hW hx hy bx bY => subI_c va vb x y k W hx hy bx bY (by omega)) (ens Tryd.func71 (by kernel_rfl) rfl) hW hx hy bx bY
  · rw [constB_mul (.inl rfl)] at HC
    have hc := HC.out
    simp at hc
    have hI := cell_new (w := w) (c := #[.int .i64 5, .int .i64 t, .int .i64 a, .int .i64 b, .int .i64 c]) (t := 81) (b := w.heap.size) (i := 4) (v := .int .i64 c) rfl rfl
    have HH := Lib.hid hc
    clear hc
    go_enter Tryd.func43, Tryd.ntmps43
    go_wp2_with fail
    refine (always_c _ _ _).mono ?_
    rintro e w1 ⟨rfl, hc1, hb1⟩
    simp only [World.size_alloc] at hc1
    have zc := cell_lt hc1
    unfold fv
    go_wp2
    go_ret
    refine ⟨_, _, rfl, ens Tryd.func68 (by kernel_rfl) rfl, ?_, bthen (by repeat (first | exact Below.refl _ _ | exact hB0 | refine Below.drew ?_ | refine below_drewN ?_ _ | refine bset ?_ (by simp <;> omega) _ | refine bal ?_ _)) hb1⟩
    have hI1 := bkeep hb1 hI
    intro W va vb x y hW hx hy bx bY
    have e : opI ⟨5, t, a, b, c⟩ x y = some (x * c) := by simp [opI]
    rw [e]
    exact falways_c (w.heap.size + 1) _ _ (fun x _ => x * c) k va vb x y w1 W (bkeep hW hc1) (fun W va vb x y hW hx hy bx bY => ftimes_c w.heap.size c k va vb x y W (bkeep hW hI1) hx hy bx (by omega) (by have := HH.out; omega) (by have := HH.out; omega)) (ens Tryd.func72 (by kernel_rfl) rfl) hW hx hy bx bY
  · rw [constB_mul (.inr rfl)] at HC
    have hc := HC.out
    simp at hc
    have hI := cell_new (w := w) (c := #[.int .i64 6, .int .i64 t, .int .i64 a, .int .i64 b, .int .i64 c]) (t := 81) (b := w.heap.size) (i := 4) (v := .int .i64 c) rfl rfl
    have HH := Lib.hid hc
    clear hc
    go_enter Tryd.func43, Tryd.ntmps43
    go_wp2
    go_ret
    refine ⟨_, _, rfl, ens Tryd.func74 (by kernel_rfl) rfl, ?_, by repeat (first | exact Below.refl _ _ | exact hB0 | refine Below.drew ?_ | refine below_drewN ?_ _ | refine bset ?_ (by simp <;> omega) _ | refine bal ?_ _)⟩
    intro W va vb x y hW hx hy bx bY
    have hcc := HH.out
    by_cases hd : x % c = 0
    · have e : opI ⟨6, t, a, b, c⟩ x y = some (x / c) := by simp [opI, hd]
      rw [e]
      exact fover_yes w.heap.size c k va vb x y W (bkeep hW hI) hx hy bx hk (by omega) (by omega) (by omega) hd
    · have e : opI ⟨6, t, a, b, c⟩ x y = none := by simp [opI, hd]
      rw [e]
      exact fover_no w.heap.size c k va vb x y W (bkeep hW hI) hx hy bx hk (by omega) (by omega) (by omega) hd
  · rw [constB_shift (.inl rfl)] at HC
    have hc := HC.out
    simp at hc
    obtain ⟨n, rfl⟩ : ∃ n : Nat, c = n := ⟨c.toNat, by omega⟩
    have hI := cell_new (w := w) (c := #[.int .i64 7, .int .i64 t, .int .i64 a, .int .i64 b, .int .i64 n]) (t := 81) (b := w.heap.size) (i := 4) (v := .int .i64 n) rfl rfl
    have HH := Lib.hid hc
    clear hc
    go_enter Tryd.func43, Tryd.ntmps43
    go_wp2_with fail
    refine (always_c _ _ _).mono ?_
    rintro e w1 ⟨rfl, hc1, hb1⟩
    simp only [World.size_alloc] at hc1
    have zc := cell_lt hc1
    unfold fv
    go_wp2
    go_ret
    refine ⟨_, _, rfl, ens Tryd.func68 (by kernel_rfl) rfl, ?_, bthen (by repeat (first | exact Below.refl _ _ | exact hB0 | refine Below.drew ?_ | refine below_drewN ?_ _ | refine bset ?_ (by simp <;> omega) _ | refine bal ?_ _)) hb1⟩
    have hI1 := bkeep hb1 hI
    intro W va vb x y hW hx hy bx bY
    have e : opI ⟨7, t, a, b, n⟩ x y = some (x * 2 ^ n) := by simp [opI]
    rw [e]
    exact falways_c (w.heap.size + 1) _ _ (fun x _ => x * 2 ^ n) k va vb x y w1 W (bkeep hW hc1) (fun W va vb x y hW hx hy bx bY => fshl_c w.heap.size n k va vb x y W (bkeep hW hI1) hx hy bx (by omega) (by have := HH.out; omega)) (ens Tryd.func76 (by kernel_rfl) rfl) hW hx hy bx bY
  · rw [constB_shift (.inr rfl)] at HC
    have hc := HC.out
    simp at hc
    obtain ⟨n, rfl⟩ : ∃ n : Nat, c = n := ⟨c.toNat, by omega⟩
    have hI := cell_new (w := w) (c := #[.int .i64 8, .int .i64 t, .int .i64 a, .int .i64 b, .int .i64 n]) (t := 81) (b := w.heap.size) (i := 4) (v := .int .i64 n) rfl rfl
    have HH := Lib.hid hc
    clear hc
    go_enter Tryd.func43, Tryd.ntmps43
    go_wp2
    go_ret
    refine ⟨_, _, rfl, ens Tryd.func78 (by kernel_rfl) rfl, ?_, by repeat (first | exact Below.refl _ _ | exact hB0 | refine Below.drew ?_ | refine below_drewN ?_ _ | refine bset ?_ (by simp <;> omega) _ | refine bal ?_ _)⟩
    intro W va vb x y hW hx hy bx bY
    have hcc := HH.out
    have hT2 : Tz32 W := HT.out.keep (bthen (by repeat (first | exact Below.refl _ _ | exact hB0 | refine Below.drew ?_ | refine below_drewN ?_ _ | refine bset ?_ (by simp <;> omega) _ | refine bal ?_ _)) hW)
    by_cases hd : x % 2 ^ n = 0
    · have e : opI ⟨8, t, a, b, n⟩ x y = some (x / 2 ^ n) := by simp [opI, hd]
      rw [e]
      exact fshr_yes w.heap.size n k va vb x y W (bkeep hW hI) hx hy bx (by omega) (by omega) hd hT2
    · have e : opI ⟨8, t, a, b, n⟩ x y = none := by simp [opI, hd]
      rw [e]
      exact fshr_no w.heap.size n k va vb x y W (bkeep hW hI) hx hy bx (by omega) (by omega) hd hT2
end Go.Proofs.YtannhpadoooedaaDoor
