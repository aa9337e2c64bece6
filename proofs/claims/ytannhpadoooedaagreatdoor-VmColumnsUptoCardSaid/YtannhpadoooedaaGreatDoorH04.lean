/- Texts of this seat, laid together: ExA, Bdc. Each opens with its own remark, which says what it proves, and under which conditions. -/
import Derived.Test.YtannhpadoooedaaGreatDoorH03
import Derived.Test.YtannhpadoooedaaGreatDoorG32
import Derived.Test.YtannhpadoooedaaGreatDoorG35
import Derived.Deep.RegionLaw
import Derived.Test.YtannhpadoooedaaGreatDoorG22
set_option linter.unusedVariables false
set_option linter.unusedSimpArgs false
/- exact: numbers' over, power; what an instruction does to numbers. -/
namespace Go.Proofs.YtannhpadoooedaaGreatDoor
open Num
open Go.ChangeShapes Go.WideShapes Go.ChangeAt Go.RowKit
set_option linter.unusedVariables false
set_option linter.unusedSimpArgs false
attribute [local go_sem ↓] Go.wp_at_zero Go.wp_at_succ
/-- answers z and true, or a number and false -/
def AnsP (z : Option Int) (w : World) (e : Ending) (w' : World) : Prop :=
  (match z with
    | some x => ∃ v, e = .returned (.tuple #[v, .bool true]) ∧ IsInt w' v x
    | none => ∃ v x, e = .returned (.tuple #[v, .bool false]) ∧ IsInt w' v x) ∧ Below w.heap.size w w'
theorem ansP_some {z : Option Int} {x : Int} {v : Value} {w w' : World} (h : z = some x) (hv : IsInt w' v x) (hb : Below w.heap.size w w') : AnsP z w (.returned (.tuple #[v, .bool true])) w' := by
  subst h; exact ⟨⟨v, rfl, hv⟩, hb⟩
theorem ansP_none {z : Option Int} {x : Int} {v : Value} {w w' : World} (h : z = none) (hv : IsInt w' v x) (hb : Below w.heap.size w w') : AnsP z w (.returned (.tuple #[v, .bool false])) w' := by
  subst h; exact ⟨⟨v, x, rfl, hv⟩, hb⟩
set_option maxRecDepth 100000 in
set_option maxHeartbeats 2000000 in
theorem power_c (n : Nat) (w : World) (hn : n ≤ 65536) :
    Calls Tryz.prog 155 #[.int .i64 (n : Int)] w fun e w' => (∃ v, e = .returned v ∧ IsInt w' v (2 ^ n)) ∧ Below w.heap.size w w' := by
  have oc := fun W => of_c 1 W (by omega) (by omega)
  have sc := fun v W (h : IsInt W v 1) => shlI_c v 1 1 n W h (by unfold Bd; decide) (by omega) hn
  have HE := Lib.hid (show (1 : Int) * 2 ^ n = 2 ^ n by rw [Int.one_mul])
  have hB := Below.refl w.heap.size w
  go_enter Tryz.func155, Tryz.ntmps155
  go_wp2_with fail
  refine (oc _).mono ?_
  rintro e w1 ⟨⟨v1, rfl, hi1⟩, hb1⟩
  have r0 : w1.cell? ⟨w.heap.size, 0, none⟩ = some (.bool false) := bkeep hb1 (by first | assumption | exact cell_new (by with_reducible first | rfl | (simp; done) | (simp; omega)) rfl | (repeat (first | assumption | exact cell_new (by with_reducible first | rfl | (simp; done) | (simp; omega)) rfl | refine cell_alloc ?_ _ | refine cell_drew ?_ | refine cell_drewN ?_ _ | refine cell_far ?_ (by simp) _ | (refine cell_far ?_ (by simp <;> omega) _))) | simp [go_sem, *])
  have zr0 := cell_lt r0
  have r0f : w1.frozen? ⟨w.heap.size, 0, none⟩ = false := bkeepf (v := .bool false) hb1 (by first | assumption | exact cell_new (by with_reducible first | rfl | (simp; done) | (simp; omega)) rfl | (repeat (first | assumption | exact cell_new (by with_reducible first | rfl | (simp; done) | (simp; omega)) rfl | refine cell_alloc ?_ _ | refine cell_drew ?_ | refine cell_drewN ?_ _ | refine cell_far ?_ (by simp) _ | (refine cell_far ?_ (by simp <;> omega) _))) | simp [go_sem, *]) (by first | assumption | (simp <;> assumption) | simp [go_sem, *])
  have r1 : w1.cell? ⟨w.heap.size, 1, none⟩ = some (.slice none 0 0) := bkeep hb1 (by first | assumption | exact cell_new (by with_reducible first | rfl | (simp; done) | (simp; omega)) rfl | (repeat (first | assumption | exact cell_new (by with_reducible first | rfl | (simp; done) | (simp; omega)) rfl | refine cell_alloc ?_ _ | refine cell_drew ?_ | refine cell_drewN ?_ _ | refine cell_far ?_ (by simp) _ | (refine cell_far ?_ (by simp <;> omega) _))) | simp [go_sem, *])
  have r1f : w1.frozen? ⟨w.heap.size, 1, none⟩ = false := bkeepf (v := .slice none 0 0) hb1 (by first | assumption | exact cell_new (by with_reducible first | rfl | (simp; done) | (simp; omega)) rfl | (repeat (first | assumption | exact cell_new (by with_reducible first | rfl | (simp; done) | (simp; omega)) rfl | refine cell_alloc ?_ _ | refine cell_drew ?_ | refine cell_drewN ?_ _ | refine cell_far ?_ (by simp) _ | (refine cell_far ?_ (by simp <;> omega) _))) | simp [go_sem, *]) (by first | assumption | (simp <;> assumption) | simp [go_sem, *])
  have hB : Below w.heap.size w w1 := bthen (by repeat (first | exact Below.refl _ _ | exact hB | refine Below.drew ?_ | refine below_drewN ?_ _ | refine bset ?_ (by simp <;> omega) _ | refine bal ?_ _)) hb1
  have hz : w.heap.size ≤ w1.heap.size := hB.size
  have HI1 := Lib.hid hi1
  obtain ⟨n1, a1, c1, l1, rfl, -⟩ := hi1
  unfold iv at *
  go_wp2_with fail
  refine (sc _ _ HI1.out).mono ?_
  rintro e w2 ⟨⟨v2, rfl, hi2⟩, hb2⟩
  have r0 : w2.cell? ⟨w.heap.size, 0, none⟩ = some (.bool false) := bkeep hb2 (by first | assumption | exact cell_new (by with_reducible first | rfl | (simp; done) | (simp; omega)) rfl | (repeat (first | assumption | exact cell_new (by with_reducible first | rfl | (simp; done) | (simp; omega)) rfl | refine cell_alloc ?_ _ | refine cell_drew ?_ | refine cell_drewN ?_ _ | refine cell_far ?_ (by simp) _ | (refine cell_far ?_ (by simp <;> omega) _))) | simp [go_sem, *])
  have zr0 := cell_lt r0
  have r0f : w2.frozen? ⟨w.heap.size, 0, none⟩ = false := bkeepf (v := .bool false) hb2 (by first | assumption | exact cell_new (by with_reducible first | rfl | (simp; done) | (simp; omega)) rfl | (repeat (first | assumption | exact cell_new (by with_reducible first | rfl | (simp; done) | (simp; omega)) rfl | refine cell_alloc ?_ _ | refine cell_drew ?_ | refine cell_drewN ?_ _ | refine cell_far ?_ (by simp) _ | (refine cell_far ?_ (by simp <;> omega) _))) | simp [go_sem, *]) (by first | assumption | (simp <;> assumption) | simp [go_sem, *])
  have r1 : w2.cell? ⟨w.heap.size, 1, none⟩ = some (.slice none 0 0) := bkeep hb2 (by first | assumption | exact cell_new (by with_reducible first | rfl | (simp; done) | (simp; omega)) rfl | (repeat (first | assumption | exact cell_new (by with_reducible first | rfl | (simp; done) | (simp; omega)) rfl | refine cell_alloc ?_ _ | refine cell_drew ?_ | refine cell_drewN ?_ _ | refine cell_far ?_ (by simp) _ | (refine cell_far ?_ (by simp <;> omega) _))) | simp [go_sem, *])
  have r1f : w2.frozen? ⟨w.heap.size, 1, none⟩ = false := bkeepf (v := .slice none 0 0) hb2 (by first | assumption | exact cell_new (by with_reducible first | rfl | (simp; done) | (simp; omega)) rfl | (repeat (first | assumption | exact cell_new (by with_reducible first | rfl | (simp; done) | (simp; omega)) rfl | refine cell_alloc ?_ _ | refine cell_drew ?_ | refine cell_drewN ?_ _ | refine cell_far ?_ (by simp) _ | (refine cell_far ?_ (by simp <;> omega) _))) | simp [go_sem, *]) (by first | assumption | (simp <;> assumption) | simp [go_sem, *])
  have hB : Below w.heap.size w w2 := bthen (by repeat (first | exact Below.refl _ _ | exact hB | refine Below.drew ?_ | refine below_drewN ?_ _ | refine bset ?_ (by simp <;> omega) _ | refine bal ?_ _)) hb2
  have hz : w.heap.size ≤ w2.heap.size := hB.size
  rw [HE.out] at hi2
  have HI2 := Lib.hid (hi2.put2 r0 r1)
  obtain ⟨n2, a2, c2, l2, rfl, -⟩ := hi2
  have zr1 : w.heap.size < w2.heap.size + 1 := by omega
  unfold iv at *
  clear oc sc
  go_wp2
  refine bodyPost_ret (v := .agg #[.bool n2, .slice a2 l2.length c2]) (by simp [results, Tryz.results155, go_sem, *]) rfl ⟨⟨_, rfl, ?_⟩, ?_⟩
  · refine IsInt.keep (HI2.out (.bool n2) (.slice a2 l2.length c2)) ?_
    repeat (first | exact Below.refl _ _ | exact hB | refine Below.drew ?_ | refine below_drewN ?_ _ | refine bset ?_ (by simp <;> omega) _ | refine bal ?_ _)
  ·
    repeat (first | exact Below.refl _ _ | exact hB | refine Below.drew ?_ | refine below_drewN ?_ _ | refine bset ?_ (by simp <;> omega) _ | refine bal ?_ _)
set_option maxRecDepth 100000 in
set_option maxHeartbeats 2000000 in
theorem nover_yes (va vc : Value) (a c : Int) (k : Nat) (w : World) (hx : IsInt w va a) (hy : IsInt w vc c) (bx : Bd k a) (bY : Bd k c) (hk : k ≤ 17179869184) (h0 : c ≠ 0) (hd : a % c = 0) :
    Calls Tryz.prog 104 #[va, vc] w (AnsP (some (a / c)) w) := by
  have dc := fun W (h : Below w.heap.size w W) => divmod_c va vc a c k W (hx.keep h) (hy.keep h) bx bY hk h0
  obtain ⟨n1, a1, c1, l1, rfl, -⟩ := hx
  obtain ⟨n2, a2, c2, l2, rfl, -⟩ := hy
  unfold iv at *
  have HD := Lib.hid hd
  clear bx bY hk h0 hd
  have hB := Below.refl w.heap.size w
  go_enter Tryz.func104, Tryz.ntmps104
  go_wp2_with fail
  refine (dc _ (by repeat (first | exact Below.refl _ _ | exact hB | refine Below.drew ?_ | refine below_drewN ?_ _ | refine bset ?_ (by simp <;> omega) _ | refine bal ?_ _))).mono ?_
  rintro e w1 ⟨⟨u, v, rfl, hu, hv⟩, hb1⟩
  have r0 : w1.cell? ⟨w.heap.size + 2, 0, none⟩ = some (.bool false) := bkeep hb1 (by first | assumption | exact cell_new (by with_reducible first | rfl | (simp; done) | (simp; omega)) rfl | (repeat (first | assumption | exact cell_new (by with_reducible first | rfl | (simp; done) | (simp; omega)) rfl | refine cell_alloc ?_ _ | refine cell_drew ?_ | refine cell_drewN ?_ _ | refine cell_far ?_ (by simp) _ | (refine cell_far ?_ (by simp <;> omega) _))) | simp [go_sem, *])
  have zr0 := cell_lt r0
  have r0f : w1.frozen? ⟨w.heap.size + 2, 0, none⟩ = false := bkeepf (v := .bool false) hb1 (by first | assumption | exact cell_new (by with_reducible first | rfl | (simp; done) | (simp; omega)) rfl | (repeat (first | assumption | exact cell_new (by with_reducible first | rfl | (simp; done) | (simp; omega)) rfl | refine cell_alloc ?_ _ | refine cell_drew ?_ | refine cell_drewN ?_ _ | refine cell_far ?_ (by simp) _ | (refine cell_far ?_ (by simp <;> omega) _))) | simp [go_sem, *]) (by first | assumption | (simp <;> assumption) | simp [go_sem, *])
  have r1 : w1.cell? ⟨w.heap.size + 2, 1, none⟩ = some (.slice none 0 0) := bkeep hb1 (by first | assumption | exact cell_new (by with_reducible first | rfl | (simp; done) | (simp; omega)) rfl | (repeat (first | assumption | exact cell_new (by with_reducible first | rfl | (simp; done) | (simp; omega)) rfl | refine cell_alloc ?_ _ | refine cell_drew ?_ | refine cell_drewN ?_ _ | refine cell_far ?_ (by simp) _ | (refine cell_far ?_ (by simp <;> omega) _))) | simp [go_sem, *])
  have r1f : w1.frozen? ⟨w.heap.size + 2, 1, none⟩ = false := bkeepf (v := .slice none 0 0) hb1 (by first | assumption | exact cell_new (by with_reducible first | rfl | (simp; done) | (simp; omega)) rfl | (repeat (first | assumption | exact cell_new (by with_reducible first | rfl | (simp; done) | (simp; omega)) rfl | refine cell_alloc ?_ _ | refine cell_drew ?_ | refine cell_drewN ?_ _ | refine cell_far ?_ (by simp) _ | (refine cell_far ?_ (by simp <;> omega) _))) | simp [go_sem, *]) (by first | assumption | (simp <;> assumption) | simp [go_sem, *])
  have hB : Below w.heap.size w w1 := bthen (by repeat (first | exact Below.refl _ _ | exact hB | refine Below.drew ?_ | refine below_drewN ?_ _ | refine bset ?_ (by simp <;> omega) _ | refine bal ?_ _)) hb1
  have hz : w.heap.size ≤ w1.heap.size := hB.size
  clear dc
  have HU := Lib.hid hu
  have sx := fun W (h : Below w1.heap.size w1 W) => sign_c v _ W (hv.keep h)
  rw [HD.out, Int.sign_zero] at sx
  obtain ⟨nu, au, cu, lu, rfl, -⟩ := hu
  obtain ⟨nv, av, cv, lv, rfl, -⟩ := hv
  unfold iv at *
  have zr1 : w.heap.size + 2 < w1.heap.size + 1 := by omega
  have zr2 : w.heap.size + 2 < w1.heap.size + 1 + 1 := by omega
  go_wp2
  refine wp_name fun w3 hW3 => ?_
  have hb3 : Below w1.heap.size w1 w3 := by rw [hW3]; exact bal (bal (Below.refl _ _) _) _
  have q0 : w3.cell? ⟨w1.heap.size, 0, none⟩ = some (.bool nu) := by rw [hW3]; exact cell_alloc (cell_new rfl rfl) _
  have q1 : w3.cell? ⟨w1.heap.size, 1, none⟩ = some (.slice au lu.length cu) := by rw [hW3]; exact cell_alloc (cell_new rfl rfl) _
  have s0 : w3.cell? ⟨w1.heap.size + 1, 0, none⟩ = some (.bool nv) := by rw [hW3]; exact cell_new (by simp) rfl
  have s1 : w3.cell? ⟨w1.heap.size + 1, 1, none⟩ = some (.slice av lv.length cv) := by rw [hW3]; exact cell_new (by simp) rfl
  clear hW3
  have r0f := bkeepf hb3 r0 r0f
  have r1f := bkeepf hb3 r1 r1f
  replace r0 := bkeep hb3 r0
  replace r1 := bkeep hb3 r1
  have HU3 := Lib.hid (HU.out.keep hb3)
  have sx3 := fun W (h : Below w3.heap.size w3 W) => sx W (bthen hb3 h)
  have hB3 := bthen hB hb3
  have hBw := Below.refl w3.heap.size w3
  clear sx
  go_region_law (go_simp; go_wp2_with (go_at_call 48; refine (sx3 _ ?_).mono ?_; (repeat (first | exact Below.refl _ _ | exact hBw | refine Below.drew ?_ | refine below_drewN ?_ _ | refine bset ?_ (by simp <;> omega) _ | refine bal ?_ _)); rintro e w5 ⟨rfl, hb5⟩; have hB5 : Below w3.heap.size w3 w5 := bthen (by repeat (first | exact Below.refl _ _ | exact hBw | refine Below.drew ?_ | refine below_drewN ?_ _ | refine bset ?_ (by simp <;> omega) _ | refine bal ?_ _)) hb5; have q05 := bkeep hB5 q0; have q15 := bkeep hB5 q1; have r05f := bkeepf hB5 r0 r0f; have r15f := bkeepf hB5 r1 r1f; have r05 := bkeep hB5 r0; have r15 := bkeep hB5 r1))
  all_goals
    go_wp2
    have hB9 := bthen hB3 hB5
    refine bodyPost_ret (v := .tuple #[.agg #[.bool nu, .slice au lu.length cu], .bool true]) (by simp [results, Tryz.results104, go_sem, *]) rfl (ansP_some rfl (HU3.out.keep hB5 |>.put2 r05 r15 _ _) ?_)
    repeat (first | exact Below.refl _ _ | exact hB9 | refine Below.drew ?_ | refine below_drewN ?_ _ | refine bset ?_ (by simp <;> omega) _ | refine bal ?_ _)
set_option maxRecDepth 100000 in
set_option maxHeartbeats 2000000 in
theorem nover_no (va vc : Value) (a c : Int) (k : Nat) (w : World) (hx : IsInt w va a) (hy : IsInt w vc c) (bx : Bd k a) (bY : Bd k c) (hk : k ≤ 17179869184) (h0 : c ≠ 0) (hd : a % c ≠ 0) :
    Calls Tryz.prog 104 #[va, vc] w (AnsP none w) := by
  have dc := fun W (h : Below w.heap.size w W) => divmod_c va vc a c k W (hx.keep h) (hy.keep h) bx bY hk h0
  obtain ⟨n1, a1, c1, l1, rfl, -⟩ := hx
  obtain ⟨n2, a2, c2, l2, rfl, -⟩ := hy
  unfold iv at *
  have HD := Lib.hid hd
  clear bx bY hk h0 hd
  have hB := Below.refl w.heap.size w
  go_enter Tryz.func104, Tryz.ntmps104
  go_wp2_with fail
  refine (dc _ (by repeat (first | exact Below.refl _ _ | exact hB | refine Below.drew ?_ | refine below_drewN ?_ _ | refine bset ?_ (by simp <;> omega) _ | refine bal ?_ _))).mono ?_
  rintro e w1 ⟨⟨u, v, rfl, hu, hv⟩, hb1⟩
  have r0 : w1.cell? ⟨w.heap.size + 2, 0, none⟩ = some (.bool false) := bkeep hb1 (by first | assumption | exact cell_new (by with_reducible first | rfl | (simp; done) | (simp; omega)) rfl | (repeat (first | assumption | exact cell_new (by with_reducible first | rfl | (simp; done) | (simp; omega)) rfl | refine cell_alloc ?_ _ | refine cell_drew ?_ | refine cell_drewN ?_ _ | refine cell_far ?_ (by simp) _ | (refine cell_far ?_ (by simp <;> omega) _))) | simp [go_sem, *])
  have zr0 := cell_lt r0
  have r0f : w1.frozen? ⟨w.heap.size + 2, 0, none⟩ = false := bkeepf (v := .bool false) hb1 (by first | assumption | exact cell_new (by with_reducible first | rfl | (simp; done) | (simp; omega)) rfl | (repeat (first | assumption | exact cell_new (by with_reducible first | rfl | (simp; done) | (simp; omega)) rfl | refine cell_alloc ?_ _ | refine cell_drew ?_ | refine cell_drewN ?_ _ | refine cell_far ?_ (by simp) _ | (refine cell_far ?_ (by simp <;> omega) _))) | simp [go_sem, *]) (by first | assumption | (simp <;> assumption) | simp [go_sem, *])
  have r1 : w1.cell? ⟨w.heap.size + 2, 1, none⟩ = some (.slice none 0 0) := bkeep hb1 (by first | assumption | exact cell_new (by with_reducible first | rfl | (simp; done) | (simp; omega)) rfl | (repeat (first | assumption | exact cell_new (by with_reducible first | rfl | (simp; done) | (simp; omega)) rfl | refine cell_alloc ?_ _ | refine cell_drew ?_ | refine cell_drewN ?_ _ | refine cell_far ?_ (by simp) _ | (refine cell_far ?_ (by simp <;> omega) _))) | simp [go_sem, *])
  have r1f : w1.frozen? ⟨w.heap.size + 2, 1, none⟩ = false := bkeepf (v := .slice none 0 0) hb1 (by first | assumption | exact cell_new (by with_reducible first | rfl | (simp; done) | (simp; omega)) rfl | (repeat (first | assumption | exact cell_new (by with_reducible first | rfl | (simp; done) | (simp; omega)) rfl | refine cell_alloc ?_ _ | refine cell_drew ?_ | refine cell_drewN ?_ _ | refine cell_far ?_ (by simp) _ | (refine cell_far ?_ (by simp <;> omega) _))) | simp [go_sem, *]) (by first | assumption | (simp <;> assumption) | simp [go_sem, *])
  have hB : Below w.heap.size w w1 := bthen (by repeat (first | exact Below.refl _ _ | exact hB | refine Below.drew ?_ | refine below_drewN ?_ _ | refine bset ?_ (by simp <;> omega) _ | refine bal ?_ _)) hb1
  have hz : w.heap.size ≤ w1.heap.size := hB.size
  clear dc
  have HU := Lib.hid hu
  have sx := fun W (h : Below w1.heap.size w1 W) => sign_c v _ W (hv.keep h)
  obtain ⟨sg, hsg, hsgE⟩ : ∃ s : Int, s ≠ 0 ∧ (a % c).sign = s := ⟨_, (fun e => HD.out (Int.sign_eq_zero_iff_zero.1 e)), rfl⟩; rw [hsgE] at sx; clear hsgE; have hsb : (sg == 0) = false := by simpa using hsg
  obtain ⟨nu, au, cu, lu, rfl, -⟩ := hu
  obtain ⟨nv, av, cv, lv, rfl, -⟩ := hv
  unfold iv at *
  have zr1 : w.heap.size + 2 < w1.heap.size + 1 := by omega
  have zr2 : w.heap.size + 2 < w1.heap.size + 1 + 1 := by omega
  go_wp2
  refine wp_name fun w3 hW3 => ?_
  have hb3 : Below w1.heap.size w1 w3 := by rw [hW3]; exact bal (bal (Below.refl _ _) _) _
  have q0 : w3.cell? ⟨w1.heap.size, 0, none⟩ = some (.bool nu) := by rw [hW3]; exact cell_alloc (cell_new rfl rfl) _
  have q1 : w3.cell? ⟨w1.heap.size, 1, none⟩ = some (.slice au lu.length cu) := by rw [hW3]; exact cell_alloc (cell_new rfl rfl) _
  have s0 : w3.cell? ⟨w1.heap.size + 1, 0, none⟩ = some (.bool nv) := by rw [hW3]; exact cell_new (by simp) rfl
  have s1 : w3.cell? ⟨w1.heap.size + 1, 1, none⟩ = some (.slice av lv.length cv) := by rw [hW3]; exact cell_new (by simp) rfl
  clear hW3
  have r0f := bkeepf hb3 r0 r0f
  have r1f := bkeepf hb3 r1 r1f
  replace r0 := bkeep hb3 r0
  replace r1 := bkeep hb3 r1
  have HU3 := Lib.hid (HU.out.keep hb3)
  have sx3 := fun W (h : Below w3.heap.size w3 W) => sx W (bthen hb3 h)
  have hB3 := bthen hB hb3
  have hBw := Below.refl w3.heap.size w3
  clear sx
  go_region_law (go_simp; go_wp2_with (go_at_call 48; refine (sx3 _ ?_).mono ?_; (repeat (first | exact Below.refl _ _ | exact hBw | refine Below.drew ?_ | refine below_drewN ?_ _ | refine bset ?_ (by simp <;> omega) _ | refine bal ?_ _)); rintro e w5 ⟨rfl, hb5⟩; have hB5 : Below w3.heap.size w3 w5 := bthen (by repeat (first | exact Below.refl _ _ | exact hBw | refine Below.drew ?_ | refine below_drewN ?_ _ | refine bset ?_ (by simp <;> omega) _ | refine bal ?_ _)) hb5; have q05 := bkeep hB5 q0; have q15 := bkeep hB5 q1; have r05f := bkeepf hB5 r0 r0f; have r15f := bkeepf hB5 r1 r1f; have r05 := bkeep hB5 r0; have r15 := bkeep hB5 r1))
  all_goals
    go_wp2
    have hB9 := bthen hB3 hB5
    refine bodyPost_ret (v := .tuple #[.agg #[.bool nu, .slice au lu.length cu], .bool false]) (by simp [results, Tryz.results104, go_sem, *]) rfl (ansP_none rfl (HU3.out.keep hB5 |>.put2 r05 r15 _ _) ?_)
    repeat (first | exact Below.refl _ _ | exact hB9 | refine Below.drew ?_ | refine below_drewN ?_ _ | refine bset ?_ (by simp <;> omega) _ | refine bal ?_ _)
end Go.Proofs.YtannhpadoooedaaGreatDoor
/- How many bits constants have. -/
namespace Go.Proofs.YtannhpadoooedaaGreatDoor
open Num
theorem pow2_bd {n k : Nat} (h : n < k) : Bd k ((2 : Int) ^ n) := by
  unfold Bd
  rw [Int.natAbs_pow]
  exact Nat.pow_lt_pow_right (by decide) h
theorem const_bd {c : Int} {k : Nat} (h1 : -512 ≤ c) (h2 : c ≤ 512) (hk : 10 ≤ k) : Bd k c := by
  unfold Bd
  exact Nat.lt_of_lt_of_le (show c.natAbs < 2 ^ 10 by omega) (Nat.pow_le_pow_right (by decide) hk)
theorem p2_ne (n : Nat) : (2 : Int) ^ n ≠ 0 := by
  have := Nat.pow_pos (n := n) (show 0 < 2 by omega)
  have e : ((2 ^ n : Nat) : Int) = (2 : Int) ^ n := by rw [Int.natCast_pow]; rfl
  rw [← e]; omega
end Go.Proofs.YtannhpadoooedaaGreatDoor
