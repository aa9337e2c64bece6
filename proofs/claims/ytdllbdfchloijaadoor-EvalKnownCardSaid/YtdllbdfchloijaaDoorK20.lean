/- Texts of this seat, laid together: EvA, EvB, EvC, EvE. Each opens with its own remark, which says what it proves, and under which conditions. -/
import Derived.Test.YtdllbdfchloijaaDoorK19
import Derived.Test.YtdllbdfchloijaaDoorK06
import Derived.Test.YtdllbdfchloijaaDoorK03
import Derived.Test.YtdllbdfchloijaaDoorK12
import Derived.Deep.LoopGhost
import Derived.Deep.DeepCutAuto
import Derived.Test.YtdllbdfchloijaaDoorK14
set_option linter.unusedVariables false
set_option linter.unusedSimpArgs false
/- math/bits.TrailingZeros, laid from the shelf (its laying is printed by wip/bin/mk_lay.py); eval.times. -/
namespace Go.Proofs.YtdllbdfchloijaaDoor
open Num
open Go.ChangeShapes Go.WideShapes Go.ChangeAt Go.RowKit
set_option linter.unusedVariables false
set_option linter.unusedSimpArgs false
def sh_lay27_ren : Go.Shelf.Ren := ⟨fun | 27 => 50 | 28 => 70 | 29 => 71 | n => n, fun | 0 => 0 | 3 => 3 | 4 => 4 | 5 => 5 | 22 => 82 | 25 => 84 | 27 => 83 | 53 => 136 | 54 => 137 | n => n, fun | 0 => 0 | 1 => 1 | n => n⟩
theorem sh_lay27 : Go.Proofs.Lays7.n27 Tryd.prog sh_lay27_ren := {
  mixed := by kernel_rfl
  f27 := Tryd.func50.trans (congrArg some (by kernel_rfl))
  f28 := Tryd.func70.trans (congrArg some (by kernel_rfl))
  f29 := Tryd.func71.trans (congrArg some (by kernel_rfl))
  t0 := Tryd.underlying0
  a0 := Tryd.isAgg0
  z0 := Tryd.sizeOf0
  v0 := Tryd.zeroValue0
  i0 := by kernel_rfl
  t3 := Tryd.underlying3
  a3 := Tryd.isAgg3
  z3 := Tryd.sizeOf3
  v3 := Tryd.zeroValue3
  i3 := by kernel_rfl
  t4 := Tryd.underlying4
  a4 := Tryd.isAgg4
  z4 := Tryd.sizeOf4
  v4 := Tryd.zeroValue4
  i4 := by kernel_rfl
  t5 := Tryd.underlying5
  a5 := Tryd.isAgg5
  z5 := Tryd.sizeOf5
  v5 := Tryd.zeroValue5
  i5 := by kernel_rfl
  t22 := Tryd.underlying82
  a22 := Tryd.isAgg82
  z22 := Tryd.sizeOf82
  v22 := Tryd.zeroValue82
  i22 := by kernel_rfl
  t25 := Tryd.underlying84
  a25 := Tryd.isAgg84
  z25 := Tryd.sizeOf84
  v25 := Tryd.zeroValue84
  i25 := by kernel_rfl
  t27 := Tryd.underlying83
  a27 := Tryd.isAgg83
  z27 := Tryd.sizeOf83
  v27 := Tryd.zeroValue83
  i27 := by kernel_rfl
  t53 := Tryd.underlying136
  a53 := Tryd.isAgg136
  z53 := Tryd.sizeOf136
  v53 := Tryd.zeroValue136
  i53 := by kernel_rfl
  t54 := Tryd.underlying137
  a54 := Tryd.isAgg137
  z54 := Tryd.sizeOf137
  g0 := by kernel_rfl
  g1 := by kernel_rfl }
/-- the library's table of trailing noughts of 64 bits lies there -/
def Tz64 (w : World) : Prop := TabAt 1 Lib.deBruijn64tab w
theorem Tz64.keep {w w' : World} (h : Tz64 w) (hb : Below w.heap.size w w') : Tz64 w' := fun j hj => bkeep hb (h j hj)
theorem tz64_c (x n : Nat) (w : World) (hx : x < 18446744073709551616) (hT : Tz64 w) (hn : Lib.ctz 64 x = n) :
    Calls Tryd.prog 50 #[.int .u64 (x : Int)] w fun e w' => e = .returned (.int .i64 n) ∧ Below w.heap.size w w' := by
  subst hn
  refine (Go.Proofs.Any7.bits_TrailingZeros sh_lay27 x hx w (fun _ => hT)).mono ?_
  rintro e w' ⟨rfl, rfl⟩
  exact ⟨rfl, Below.refl _ _⟩
theorem tz64_z (x n : Nat) (z m : Int) (w : World) (hx : x < 18446744073709551616) (hT : Tz64 w) (hn : Lib.ctz 64 x = n) (hz : (x : Int) = z) (hm : (n : Int) = m) :
    Calls Tryd.prog 50 #[.int .u64 z] w fun e w' => e = .returned (.int .i64 m) ∧ Below w.heap.size w w' := by
  subst hz hm
  exact tz64_c x n w hx hT hn
set_option maxRecDepth 100000 in
set_option maxHeartbeats 8000000 in
theorem times_1 (t a : Int) (w : World) : Calls Tryd.prog 37 #[.int .i64 t, .int .i64 a, .int .i64 1] w fun e w' => e = .returned (Ins.v ⟨1, t, a, 0, 0⟩) ∧ Below w.heap.size w w' := by
  have hB := Below.refl w.heap.size w
  go_enter Tryd.func37, Tryd.ntmps37
  go_wp2
  refine bodyPost_ret (v := Ins.v ⟨1, t, a, 0, 0⟩) (by simp [results, Tryd.results37, go_sem, Ins.v]) rfl ⟨rfl, by repeat (first | exact Below.refl _ _ | exact hB | refine Below.drew ?_ | refine below_drewN ?_ _ | refine bset ?_ (by simp <;> omega) _ | refine bal ?_ _)⟩
set_option maxRecDepth 100000 in
set_option maxHeartbeats 8000000 in
theorem times_n1 (t a : Int) (w : World) : Calls Tryd.prog 37 #[.int .i64 t, .int .i64 a, .int .i64 (-1)] w fun e w' => e = .returned (Ins.v ⟨2, t, a, 0, 0⟩) ∧ Below w.heap.size w w' := by
  have hB := Below.refl w.heap.size w
  go_enter Tryd.func37, Tryd.ntmps37
  go_wp2
  refine bodyPost_ret (v := Ins.v ⟨2, t, a, 0, 0⟩) (by simp [results, Tryd.results37, go_sem, Ins.v]) rfl ⟨rfl, by repeat (first | exact Below.refl _ _ | exact hB | refine Below.drew ?_ | refine below_drewN ?_ _ | refine bset ?_ (by simp <;> omega) _ | refine bal ?_ _)⟩
set_option maxRecDepth 100000 in
set_option maxHeartbeats 8000000 in
theorem times_2 (t a : Int) (w : World) (hT : Tz64 w) : Calls Tryd.prog 37 #[.int .i64 t, .int .i64 a, .int .i64 2] w fun e w' => e = .returned (Ins.v ⟨7, t, a, 0, 1⟩) ∧ Below w.heap.size w w' := by
  have hB := Below.refl w.heap.size w
  have tc := fun W (h : Below w.heap.size w W) => tz64_z 2 1 2 1 W (by decide) (hT.keep h) (by decide) rfl rfl
  go_enter Tryd.func37, Tryd.ntmps37
  go_wp2_with fail
  (with_reducible refine (tc _ ?_).mono ?_); (repeat (first | exact Below.refl _ _ | exact hB | refine Below.drew ?_ | refine below_drewN ?_ _ | refine bset ?_ (by simp <;> omega) _ | refine bal ?_ _))
  rintro e w1 ⟨rfl, hb1⟩
  have hB1 : Below w.heap.size w w1 := bthen (by repeat (first | exact Below.refl _ _ | exact hB | refine Below.drew ?_ | refine below_drewN ?_ _ | refine bset ?_ (by simp <;> omega) _ | refine bal ?_ _)) hb1
  have r0 : w1.cell? ⟨w.heap.size, 0, none⟩ = some (.int .i64 0) := bkeep hb1 (by simp [go_sem])
  have r1 : w1.cell? ⟨w.heap.size, 1, none⟩ = some (.int .i64 0) := bkeep hb1 (by simp [go_sem])
  have r2 : w1.cell? ⟨w.heap.size, 2, none⟩ = some (.int .i64 0) := bkeep hb1 (by simp [go_sem])
  have r3 : w1.cell? ⟨w.heap.size, 3, none⟩ = some (.int .i64 0) := bkeep hb1 (by simp [go_sem])
  have r4 : w1.cell? ⟨w.heap.size, 4, none⟩ = some (.int .i64 0) := bkeep hb1 (by simp [go_sem])
  have r0f := bkeepf (p := ⟨w.heap.size, 0, none⟩) hb1 (v := .int .i64 0) (by simp [go_sem]) (by simp [go_sem])
  have r1f := bkeepf (p := ⟨w.heap.size, 1, none⟩) hb1 (v := .int .i64 0) (by simp [go_sem]) (by simp [go_sem])
  have r2f := bkeepf (p := ⟨w.heap.size, 2, none⟩) hb1 (v := .int .i64 0) (by simp [go_sem]) (by simp [go_sem])
  have r3f := bkeepf (p := ⟨w.heap.size, 3, none⟩) hb1 (v := .int .i64 0) (by simp [go_sem]) (by simp [go_sem])
  have r4f := bkeepf (p := ⟨w.heap.size, 4, none⟩) hb1 (v := .int .i64 0) (by simp [go_sem]) (by simp [go_sem])
  clear tc hb1
  go_wp2
  refine bodyPost_ret (v := Ins.v ⟨7, t, a, 0, 1⟩) (by simp [results, Tryd.results37, go_sem, Ins.v, *]) rfl ⟨rfl, by repeat (first | exact Below.refl _ _ | exact hB1 | refine Below.drew ?_ | refine below_drewN ?_ _ | refine bset ?_ (by simp <;> omega) _ | refine bal ?_ _)⟩
set_option maxRecDepth 100000 in
set_option maxHeartbeats 8000000 in
theorem times_4 (t a : Int) (w : World) (hT : Tz64 w) : Calls Tryd.prog 37 #[.int .i64 t, .int .i64 a, .int .i64 4] w fun e w' => e = .returned (Ins.v ⟨7, t, a, 0, 2⟩) ∧ Below w.heap.size w w' := by
  have hB := Below.refl w.heap.size w
  have tc := fun W (h : Below w.heap.size w W) => tz64_z 4 2 4 2 W (by decide) (hT.keep h) (by decide) rfl rfl
  go_enter Tryd.func37, Tryd.ntmps37
  go_wp2_with fail
  (with_reducible refine (tc _ ?_).mono ?_); (repeat (first | exact Below.refl _ _ | exact hB | refine Below.drew ?_ | refine below_drewN ?_ _ | refine bset ?_ (by simp <;> omega) _ | refine bal ?_ _))
  rintro e w1 ⟨rfl, hb1⟩
  have hB1 : Below w.heap.size w w1 := bthen (by repeat (first | exact Below.refl _ _ | exact hB | refine Below.drew ?_ | refine below_drewN ?_ _ | refine bset ?_ (by simp <;> omega) _ | refine bal ?_ _)) hb1
  have r0 : w1.cell? ⟨w.heap.size, 0, none⟩ = some (.int .i64 0) := bkeep hb1 (by simp [go_sem])
  have r1 : w1.cell? ⟨w.heap.size, 1, none⟩ = some (.int .i64 0) := bkeep hb1 (by simp [go_sem])
  have r2 : w1.cell? ⟨w.heap.size, 2, none⟩ = some (.int .i64 0) := bkeep hb1 (by simp [go_sem])
  have r3 : w1.cell? ⟨w.heap.size, 3, none⟩ = some (.int .i64 0) := bkeep hb1 (by simp [go_sem])
  have r4 : w1.cell? ⟨w.heap.size, 4, none⟩ = some (.int .i64 0) := bkeep hb1 (by simp [go_sem])
  have r0f := bkeepf (p := ⟨w.heap.size, 0, none⟩) hb1 (v := .int .i64 0) (by simp [go_sem]) (by simp [go_sem])
  have r1f := bkeepf (p := ⟨w.heap.size, 1, none⟩) hb1 (v := .int .i64 0) (by simp [go_sem]) (by simp [go_sem])
  have r2f := bkeepf (p := ⟨w.heap.size, 2, none⟩) hb1 (v := .int .i64 0) (by simp [go_sem]) (by simp [go_sem])
  have r3f := bkeepf (p := ⟨w.heap.size, 3, none⟩) hb1 (v := .int .i64 0) (by simp [go_sem]) (by simp [go_sem])
  have r4f := bkeepf (p := ⟨w.heap.size, 4, none⟩) hb1 (v := .int .i64 0) (by simp [go_sem]) (by simp [go_sem])
  clear tc hb1
  go_wp2
  refine bodyPost_ret (v := Ins.v ⟨7, t, a, 0, 2⟩) (by simp [results, Tryd.results37, go_sem, Ins.v, *]) rfl ⟨rfl, by repeat (first | exact Below.refl _ _ | exact hB1 | refine Below.drew ?_ | refine below_drewN ?_ _ | refine bset ?_ (by simp <;> omega) _ | refine bal ?_ _)⟩
set_option maxRecDepth 100000 in
set_option maxHeartbeats 8000000 in
theorem times_8 (t a : Int) (w : World) (hT : Tz64 w) : Calls Tryd.prog 37 #[.int .i64 t, .int .i64 a, .int .i64 8] w fun e w' => e = .returned (Ins.v ⟨7, t, a, 0, 3⟩) ∧ Below w.heap.size w w' := by
  have hB := Below.refl w.heap.size w
  have tc := fun W (h : Below w.heap.size w W) => tz64_z 8 3 8 3 W (by decide) (hT.keep h) (by decide) rfl rfl
  go_enter Tryd.func37, Tryd.ntmps37
  go_wp2_with fail
  (with_reducible refine (tc _ ?_).mono ?_); (repeat (first | exact Below.refl _ _ | exact hB | refine Below.drew ?_ | refine below_drewN ?_ _ | refine bset ?_ (by simp <;> omega) _ | refine bal ?_ _))
  rintro e w1 ⟨rfl, hb1⟩
  have hB1 : Below w.heap.size w w1 := bthen (by repeat (first | exact Below.refl _ _ | exact hB | refine Below.drew ?_ | refine below_drewN ?_ _ | refine bset ?_ (by simp <;> omega) _ | refine bal ?_ _)) hb1
  have r0 : w1.cell? ⟨w.heap.size, 0, none⟩ = some (.int .i64 0) := bkeep hb1 (by simp [go_sem])
  have r1 : w1.cell? ⟨w.heap.size, 1, none⟩ = some (.int .i64 0) := bkeep hb1 (by simp [go_sem])
  have r2 : w1.cell? ⟨w.heap.size, 2, none⟩ = some (.int .i64 0) := bkeep hb1 (by simp [go_sem])
  have r3 : w1.cell? ⟨w.heap.size, 3, none⟩ = some (.int .i64 0) := bkeep hb1 (by simp [go_sem])
  have r4 : w1.cell? ⟨w.heap.size, 4, none⟩ = some (.int .i64 0) := bkeep hb1 (by simp [go_sem])
  have r0f := bkeepf (p := ⟨w.heap.size, 0, none⟩) hb1 (v := .int .i64 0) (by simp [go_sem]) (by simp [go_sem])
  have r1f := bkeepf (p := ⟨w.heap.size, 1, none⟩) hb1 (v := .int .i64 0) (by simp [go_sem]) (by simp [go_sem])
  have r2f := bkeepf (p := ⟨w.heap.size, 2, none⟩) hb1 (v := .int .i64 0) (by simp [go_sem]) (by simp [go_sem])
  have r3f := bkeepf (p := ⟨w.heap.size, 3, none⟩) hb1 (v := .int .i64 0) (by simp [go_sem]) (by simp [go_sem])
  have r4f := bkeepf (p := ⟨w.heap.size, 4, none⟩) hb1 (v := .int .i64 0) (by simp [go_sem]) (by simp [go_sem])
  clear tc hb1
  go_wp2
  refine bodyPost_ret (v := Ins.v ⟨7, t, a, 0, 3⟩) (by simp [results, Tryd.results37, go_sem, Ins.v, *]) rfl ⟨rfl, by repeat (first | exact Below.refl _ _ | exact hB1 | refine Below.drew ?_ | refine below_drewN ?_ _ | refine bset ?_ (by simp <;> omega) _ | refine bal ?_ _)⟩
set_option maxRecDepth 100000 in
set_option maxHeartbeats 8000000 in
theorem times_16 (t a : Int) (w : World) (hT : Tz64 w) : Calls Tryd.prog 37 #[.int .i64 t, .int .i64 a, .int .i64 16] w fun e w' => e = .returned (Ins.v ⟨7, t, a, 0, 4⟩) ∧ Below w.heap.size w w' := by
  have hB := Below.refl w.heap.size w
  have tc := fun W (h : Below w.heap.size w W) => tz64_z 16 4 16 4 W (by decide) (hT.keep h) (by decide) rfl rfl
  go_enter Tryd.func37, Tryd.ntmps37
  go_wp2_with fail
  (with_reducible refine (tc _ ?_).mono ?_); (repeat (first | exact Below.refl _ _ | exact hB | refine Below.drew ?_ | refine below_drewN ?_ _ | refine bset ?_ (by simp <;> omega) _ | refine bal ?_ _))
  rintro e w1 ⟨rfl, hb1⟩
  have hB1 : Below w.heap.size w w1 := bthen (by repeat (first | exact Below.refl _ _ | exact hB | refine Below.drew ?_ | refine below_drewN ?_ _ | refine bset ?_ (by simp <;> omega) _ | refine bal ?_ _)) hb1
  have r0 : w1.cell? ⟨w.heap.size, 0, none⟩ = some (.int .i64 0) := bkeep hb1 (by simp [go_sem])
  have r1 : w1.cell? ⟨w.heap.size, 1, none⟩ = some (.int .i64 0) := bkeep hb1 (by simp [go_sem])
  have r2 : w1.cell? ⟨w.heap.size, 2, none⟩ = some (.int .i64 0) := bkeep hb1 (by simp [go_sem])
  have r3 : w1.cell? ⟨w.heap.size, 3, none⟩ = some (.int .i64 0) := bkeep hb1 (by simp [go_sem])
  have r4 : w1.cell? ⟨w.heap.size, 4, none⟩ = some (.int .i64 0) := bkeep hb1 (by simp [go_sem])
  have r0f := bkeepf (p := ⟨w.heap.size, 0, none⟩) hb1 (v := .int .i64 0) (by simp [go_sem]) (by simp [go_sem])
  have r1f := bkeepf (p := ⟨w.heap.size, 1, none⟩) hb1 (v := .int .i64 0) (by simp [go_sem]) (by simp [go_sem])
  have r2f := bkeepf (p := ⟨w.heap.size, 2, none⟩) hb1 (v := .int .i64 0) (by simp [go_sem]) (by simp [go_sem])
  have r3f := bkeepf (p := ⟨w.heap.size, 3, none⟩) hb1 (v := .int .i64 0) (by simp [go_sem]) (by simp [go_sem])
  have r4f := bkeepf (p := ⟨w.heap.size, 4, none⟩) hb1 (v := .int .i64 0) (by simp [go_sem]) (by simp [go_sem])
  clear tc hb1
  go_wp2
  refine bodyPost_ret (v := Ins.v ⟨7, t, a, 0, 4⟩) (by simp [results, Tryd.results37, go_sem, Ins.v, *]) rfl ⟨rfl, by repeat (first | exact Below.refl _ _ | exact hB1 | refine Below.drew ?_ | refine below_drewN ?_ _ | refine bset ?_ (by simp <;> omega) _ | refine bal ?_ _)⟩
theorem bits_odd {c : Int} (h1 : 0 < c) (h2 : c ≤ 16) (n1 : c ≠ 1) (n2 : c ≠ 2) (n4 : c ≠ 4) (n8 : c ≠ 8) (n16 : c ≠ 16) : ¬ bits .and .i64 c (c - 1) = 0 := by
  rcases (show c = 3 ∨ c = 5 ∨ c = 6 ∨ c = 7 ∨ c = 9 ∨ c = 10 ∨ c = 11 ∨ c = 12 ∨ c = 13 ∨ c = 14 ∨ c = 15 by omega) with rfl | rfl | rfl | rfl | rfl | rfl | rfl | rfl | rfl | rfl | rfl <;> decide
set_option maxRecDepth 100000 in
set_option maxHeartbeats 8000000 in
theorem times_m (t a c : Int) (w : World) (h1 : c ≠ 1) (h2 : c ≠ -1) (hp : ¬ (0 < c ∧ bits .and .i64 c (c - 1) = 0)) (hc : Smn c) :
    Calls Tryd.prog 37 #[.int .i64 t, .int .i64 a, .int .i64 c] w fun e w' => e = .returned (Ins.v ⟨5, t, a, 0, c⟩) ∧ Below w.heap.size w w' := by
  have hB := Below.refl w.heap.size w
  have e1 : (c == 1) = false := by simpa using h1
  have e2 : (c == -1) = false := by simpa using h2
  have e3 : wrap64 (c - 1) = c - 1 := by unfold wrap64; have := hc.2; omega
  by_cases h0 : 0 < c
  · have hz : (bits .and .i64 c (c - 1) == 0) = false := by
      have : ¬ bits .and .i64 c (c - 1) = 0 := fun e => hp ⟨h0, e⟩
      simpa using this
    go_enter Tryd.func37, Tryd.ntmps37
    go_wp2
    refine bodyPost_ret (v := Ins.v ⟨5, t, a, 0, c⟩) (by simp [results, Tryd.results37, go_sem, Ins.v]) rfl ⟨rfl, by repeat (first | exact Below.refl _ _ | exact hB | refine Below.drew ?_ | refine below_drewN ?_ _ | refine bset ?_ (by simp <;> omega) _ | refine bal ?_ _)⟩
  ·
    go_enter Tryd.func37, Tryd.ntmps37
    go_wp2
    refine bodyPost_ret (v := Ins.v ⟨5, t, a, 0, c⟩) (by simp [results, Tryd.results37, go_sem, Ins.v]) rfl ⟨rfl, by repeat (first | exact Below.refl _ _ | exact hB | refine Below.drew ?_ | refine below_drewN ?_ _ | refine bset ?_ (by simp <;> omega) _ | refine bal ?_ _)⟩
theorem timesI_c (t a c : Int) (w : World) (hc : Smn c) (hT : Tz64 w) :
    Calls Tryd.prog 37 #[.int .i64 t, .int .i64 a, .int .i64 c] w fun e w' => e = .returned (timesI t a c).v ∧ Below w.heap.size w w' := by
  unfold timesI
  split
  · rename_i h; subst h; exact times_1 t a w
  split
  · rename_i h; subst h; exact times_n1 t a w
  split
  · rename_i h; subst h; exact times_2 t a w hT
  split
  · rename_i h; subst h; exact times_4 t a w hT
  split
  · rename_i h; subst h; exact times_8 t a w hT
  split
  · rename_i h; subst h; exact times_16 t a w hT
  · rename_i h1 h2 h3 h4 h5 h6
    exact times_m t a c w h1 h2 (fun h => bits_odd h.1 hc.2.2 h1 h3 h4 h5 h6 h.2) hc
end Go.Proofs.YtdllbdfchloijaaDoor

/- eval: Program's add and scaled: a program in the making, to which instructions are added. -/
namespace Go.Proofs.YtdllbdfchloijaaDoor
open Num
open Go.ChangeShapes Go.WideShapes Go.ChangeAt Go.RowKit
set_option linter.unusedVariables false
set_option linter.unusedSimpArgs false
theorem measE {N c : Nat} (h : c < N) {a b : Value} (ha : a = .int .i64 ((c + 1 : Nat) : Int)) (hb : b = .int .i64 (c : Nat)) : N - (intOf a).toNat < N - (intOf b).toNat := by
  subst ha hb
  simp [intOf]
  omega
section
variable {P : Program} {T E : TypeId} {size bytes : Nat} {ops : Array Oper} {rest : List Oper} {o : Oper} {a : Act} {Q : Exit → Act → World → Prop} {base : Nat} {wr : World} {v : Value} {n : Nat} {xs C : List Value} {t : TypeId} {s x : Operand}
/-- append of what lies in a new block, to a row that lies from base on -/
theorem app_litB (el : Elt P T E size bytes) (hgd : o.guard = none)
    (ho : o.op = .call { callee := .builtin .append, args := #[s, x], argTypes := #[T, T] }) (hO : wr.ownsRow base E size v n xs) (hbase : base ≤ wr.heap.size) (hs : a.eval s = v)
    {m c g : Nat} (hx : a.eval x = .slice (some ⟨g, 0, none⟩) m c) (hg : g = wr.heap.size) (hl : C.length = m * size) (h1 : ∀ u ∈ C, u.oneCell' = true) (hn : n + m ≤ 1099511627776)
    (h : ∀ v' w', w'.ownsRow base E size v' (n + m) (xs ++ C) → Kp (· ≠ E) wr w' → Below base wr w' → wpList P ops Q rest (a.put o.dst v') w') : wpList P ops Q (o :: rest) a (wr.alloc (.cells C.toArray t)) := by
  subst hg
  obtain ⟨i, z, hi, hz, hsize, hby, hzs⟩ := el.info
  have hb : (n + m) * bytes ≤ 1099511627776 * 128 := Nat.mul_le_mul hn el.small
  have hA : (wr.alloc (.cells C.toArray t)).ownsRow base E size v n xs := hO.alloc _
  refine wpList_append_own _ hgd s x T ho base E i z size bytes el.ht hi hz hsize hby hzs el.pos v n xs hs hA ⟨wr.heap.size, 0, none⟩ m c C hx hl (cells_new wr C t) h1 (by unfold maxLen; omega) (by omega) (by simp; omega) ?_
  intro v' w' hown hg _
  refine h v' w' hown (((Kp.refl _ wr).alloc _).grown hg fun q hg' t' ht hne => hne (by rw [own_typ' hA hg'] at ht; exact (Option.some.inj ht).symm)) ?_
  exact (((Out.refl (fun k => base ≤ k) wr).alloc _).grown hg fun k hk' _ => (hA.lt k hk').1).to_below (fun k hk _ h => by omega) hbase
end
theorem owns_ex {w : World} {base n size : Nat} {T : TypeId} {v : Value} {xs : List Value} (h : w.ownsRow base T size v n xs) : ∃ a c, v = .slice a n c := by
  rcases h.2 with ⟨rfl, rfl⟩ | ⟨g, c, _, rfl, _⟩
  · exact ⟨_, _, rfl⟩
  · exact ⟨_, _, rfl⟩
/-- a program in the making, in the block pb; its rows lie above -/
structure EvB (pb : Nat) (k R : Int) (L : List Ins) (O : List Int) (w : World) : Prop where
  ty : typOf w pb = some 50
  fr : Free w pb
  c0 : w.cell? ⟨pb, 0, none⟩ = some (.int .i64 k)
  c1 : w.cell? ⟨pb, 1, none⟩ = some (.int .i64 R)
  code : ∃ v, w.cell? ⟨pb, 2, none⟩ = some v ∧ w.ownsRow (pb + 1) 53 5 v L.length (pcel L)
  outs : ∃ v, w.cell? ⟨pb, 3, none⟩ = some v ∧ w.ownsRow (pb + 1) 3 1 v O.length (icel O)
/-- what the adding of instructions leaves -/
structure Fr (pb : Nat) (w w' : World) : Prop where
  kp : Kp (fun t => t ≠ 53 ∧ t ≠ 50) w w'
  bel : Below pb w w'
theorem Fr.refl (pb : Nat) (w : World) : Fr pb w w := ⟨Kp.refl _ _, Below.refl _ _⟩
theorem Fr.trans {pb : Nat} {a b c : World} (h : Fr pb a b) (k : Fr pb b c) : Fr pb a c := ⟨h.kp.trans k.kp, h.bel.trans k.bel⟩
theorem Fr.below {pb : Nat} {a b c : World} (h : Fr pb a b) (k : Below b.heap.size b c) (hp : pb ≤ b.heap.size) : Fr pb a c := ⟨h.kp.below k, h.bel.trans (k.mono hp)⟩
theorem bkeepN {B : Nat} {W w1 : World} (hb : Below B W w1) {p : Addr} {v : Value} (h : W.cell? p = some v) (hp : p.block < B) : w1.cell? p = some v := by
  unfold World.cell? at h ⊢
  rw [hb.block _ hp]
  exact h
theorem EvB.below {pb : Nat} {k R : Int} {L : List Ins} {O : List Int} {w w' : World} (h : EvB pb k R L O w) (hb : Below w.heap.size w w') : EvB pb k R L O w' := by
  obtain ⟨v, hv, hr⟩ := h.code
  obtain ⟨u, hu, hs⟩ := h.outs
  exact ⟨typ_keep h.ty hb, h.fr.keep hb, bkeep hb h.c0, bkeep hb h.c1, ⟨v, bkeep hb hv, owns_kp (S := fun _ => True) hr (Kp.of_below _ hb) trivial⟩, ⟨u, bkeep hb hu, owns_kp (S := fun _ => True) hs (Kp.of_below _ hb) trivial⟩⟩
/-- the code's row becomes another -/
theorem EvB.put {pb : Nat} {k R : Int} {L M : List Ins} {O : List Int} {w w' : World} {v : Value} (h : EvB pb k R L O w) (hr : w'.ownsRow (pb + 1) 53 5 v M.length (pcel M)) (hk : Kp (· ≠ 53) w w') (hb : Below (pb + 1) w w') :
    EvB pb k R M O (w'.setCell ⟨pb, 2, none⟩ v) ∧ Fr pb w (w'.setCell ⟨pb, 2, none⟩ v) := by
  obtain ⟨v0, hv0, _⟩ := h.code
  obtain ⟨u, hu, hs⟩ := h.outs
  have hlt : pb < pb + 1 := Nat.lt_succ_self _
  have hty := hk.typ h.ty (by decide)
  have hnb : ∀ {x : Value} {T : TypeId} {size n : Nat} {xs : List Value}, w'.ownsRow (pb + 1) T size x n xs → (w'.setCell ⟨pb, 2, none⟩ v).ownsRow (pb + 1) T size x n xs := fun hO => ownsRow_setCell_other hO (fun hb => by have h := (hO.lt _ hb).1; dsimp only at h; omega) v
  refine ⟨⟨by rw [typ_set]; exact hty, ?_, ?_, ?_, ⟨v, cell_here (bkeepN hb hv0 hlt) _, hnb hr⟩, ⟨u, cell_far (bkeepN hb hu hlt) (by simp) _, hnb (owns_kp hs hk (by decide))⟩⟩, ?_, ?_⟩
  · refine Free.set ⟨Nat.lt_of_lt_of_le h.fr.1 hb.size, fun j => ?_⟩ _ _
    rw [World.frozen?_of_block (w := w) (hb.block pb hlt)]; exact h.fr.2 j
  · exact cell_far (bkeepN hb h.c0 hlt) (by simp) _
  · exact cell_far (bkeepN hb h.c1 hlt) (by simp) _
  · refine (hk.weak fun t ht => ht.1).set (fun t ht hs => ?_) _
    rw [hty] at ht
    exact hs.2 (Option.some.inj ht).symm
  · exact (hb.mono (Nat.le_succ _)).setCell (Nat.le_refl _) _
theorem pcel_app (L M : List Ins) : pcel (L ++ M) = pcel L ++ pcel M := by simp [pcel]
theorem EvB.ext {pb : Nat} {k R : Int} {L M : List Ins} {O : List Int} {w : World} (h : EvB pb k R L O w) (e : L = M) : EvB pb k R M O w := e ▸ h
set_option maxRecDepth 100000 in
set_option maxHeartbeats 8000000 in
theorem add_c (pb : Nat) (k R : Int) (L : List Ins) (O : List Int) (i : Ins) (w : World) (h : EvB pb k R L O w) (hl : L.length ≤ 100000) :
    Calls Tryd.prog 35 #[i.v, .pointer (some ⟨pb, 0, none⟩)] w fun e w' => e = .returned (.tuple #[]) ∧ EvB pb k R (L ++ addI i) O w' ∧ Fr pb w w' := by
  obtain ⟨op, t, ia, ib, ic⟩ := i
  have hB := Below.refl w.heap.size w
  have HE := Lib.hid h
  simp only [Ins.v]
  by_cases hno : op = 1 ∧ t = ia
  · have HI := Lib.hid (show addI ⟨op, t, ia, ib, ic⟩ = [] from if_pos hno)
    obtain ⟨rfl, rfl⟩ := hno
    go_enter Tryd.func35, Tryd.ntmps35
    go_wp2
    refine bodyPost_end (v := .tuple #[]) (by simp [results, Tryd.results35, go_sem]) rfl ?_
    exact ⟨rfl, by rw [HI.out, List.append_nil]; exact HE.out.below (by repeat (first | exact Below.refl _ _ | exact hB | refine Below.drew ?_ | refine below_drewN ?_ _ | refine bset ?_ (by simp <;> omega) _ | refine bal ?_ _)), (Fr.refl pb w).below (by repeat (first | exact Below.refl _ _ | exact hB | refine Below.drew ?_ | refine below_drewN ?_ _ | refine bset ?_ (by simp <;> omega) _ | refine bal ?_ _)) (Nat.le_of_lt HE.out.fr.1)⟩
  · have HI := Lib.hid (show addI ⟨op, t, ia, ib, ic⟩ = [⟨op, t, ia, ib, ic⟩] from if_neg hno)
    obtain ⟨v, p2, hr⟩ := h.code
    obtain ⟨va, vc, rfl⟩ := owns_ex hr
    have p2f := h.fr.2 2
    have hpb := h.fr.1
    have HR := Lib.hid hr
    have HL := Lib.hid (show L.length + 1 ≤ 1099511627776 by omega)
    have HP := Lib.hid (show ∀ w1 v' w', Below w.heap.size w w1 → w'.ownsRow (pb + 1) 53 5 v' (L.length + 1) (pcel L ++ [.int .i64 op, .int .i64 t, .int .i64 ia, .int .i64 ib, .int .i64 ic]) → Kp (· ≠ 53) w1 w' → Below (pb + 1) w1 w' → EvB pb k R (L ++ addI ⟨op, t, ia, ib, ic⟩) O (w'.setCell ⟨pb, 2, none⟩ v') ∧ Fr pb w (w'.setCell ⟨pb, 2, none⟩ v') from fun w1 v' w' h1 h2 h3 h4 => by
      have h5 := (HE.out.below h1).put (M := L ++ [⟨op, t, ia, ib, ic⟩]) (v := v') (by rw [pcel_app, List.length_append]; exact h2) h3 h4
      rw [HI.out]
      exact ⟨h5.1, ((Fr.refl pb w).below h1 (Nat.le_of_lt hpb)).trans h5.2⟩)
    have zp := cell_lt p2
    have hzp : pb < w.heap.size + 1 := by omega
    have hop : (op != 1) = true ∨ ((op != 1) = false ∧ (t != ia) = true) := by
      by_cases e : op = 1
      · exact .inr ⟨by simpa using e, by simpa using fun e2 => hno ⟨e, e2⟩⟩
      · exact .inl (by simpa using e)
    clear hr h hno HE HI
    rcases hop with h1 | ⟨h1, h2⟩
    all_goals
      go_enter Tryd.func35, Tryd.ntmps35
      go_wp2_with (at_builtin; refine app_litB (base := pb + 1) (v := .slice va L.length vc) (n := L.length) (xs := pcel L) (g := w.heap.size + 1) (m := 1) (c := 1) (C := [.int .i64 op, .int .i64 t, .int .i64 ia, .int .i64 ib, .int .i64 ic]) elP (by rfl) (by rfl) ?_ ?_ (by rfl) (by rfl) ?_ rfl (pcel_one [⟨op, t, ia, ib, ic⟩]) HL.out ?_; (exact owns_kp (S := fun _ => True) HR.out (Kp.of_below _ (bal hB _)) trivial); (simp; omega); (simp))
      intro v' w8 hO hK hBe
      obtain ⟨va2, vc2, rfl⟩ := owns_ex hO
      have HF := Lib.hid (HP.out _ (.slice va2 (L.length + 1) vc2) w8 (by repeat (first | exact Below.refl _ _ | exact hB | refine Below.drew ?_ | refine below_drewN ?_ _ | refine bset ?_ (by simp <;> omega) _ | refine bal ?_ _)) hO hK hBe)
      have p8 := bkeepN hBe (show _ = some (.slice va L.length vc) from bkeep (show Below w.heap.size w _ by repeat (first | exact Below.refl _ _ | exact hB | refine Below.drew ?_ | refine below_drewN ?_ _ | refine bset ?_ (by simp <;> omega) _ | refine bal ?_ _)) p2) (Nat.lt_succ_self pb)
      have p8f : w8.frozen? ⟨pb, 2, none⟩ = false := by
        rw [World.frozen?_of_block (w := _) (hBe.block pb (Nat.lt_succ_self pb))]
        exact bkeepf (show Below w.heap.size w _ by repeat (first | exact Below.refl _ _ | exact hB | refine Below.drew ?_ | refine below_drewN ?_ _ | refine bset ?_ (by simp <;> omega) _ | refine bal ?_ _)) p2 p2f
      clear hO hK hBe HP HR
      go_wp2
      refine bodyPost_end (v := .tuple #[]) (by simp [results, Tryd.results35, go_sem]) rfl ?_
      exact ⟨rfl, HF.out.1, HF.out.2⟩
end Go.Proofs.YtdllbdfchloijaaDoor

/- eval: Program's scaled: so many powers of a number. -/
namespace Go.Proofs.YtdllbdfchloijaaDoor
open Num
open Go.ChangeShapes Go.WideShapes Go.ChangeAt Go.RowKit
set_option linter.unusedVariables false
set_option linter.unusedSimpArgs false
attribute [local go_sem ↓] Go.wp_at_zero Go.wp_at_succ
/-- the function value that adds -/
def addV (pb : Nat) : Value := .func (.func 35) #[] #[.pointer (some ⟨pb, 0, none⟩)]
/-- the table of trailing noughts lies ahead of the program in the making -/
def TzAt (pb : Nat) (w : World) : Prop := Tz64 w ∧ 1 < pb
theorem TzAt.keep {pb : Nat} {w w' : World} (h : TzAt pb w) (hb : Below w.heap.size w w') : TzAt pb w' := ⟨h.1.keep hb, h.2⟩
theorem TzAt.fr {pb : Nat} {w w' : World} (h : TzAt pb w) (hb : Fr pb w w') : TzAt pb w' := ⟨fun j hj => bkeepN hb.bel (h.1 j hj) h.2, h.2⟩
theorem scaledL_succ (t : Int) {n j : Nat} (h : j < n) (a c : Int) : scaledL t (n - j) a c = addI (timesI t a c) ++ scaledL t (n - (j + 1)) t c := by
  obtain ⟨m, hm⟩ : ∃ m, n - j = m + 1 := ⟨n - j - 1, by omega⟩
  rw [hm, show n - (j + 1) = m by omega]; rfl
set_option maxRecDepth 100000 in
set_option maxHeartbeats 8000000 in
theorem scaled_c (pb fb : Nat) (k R : Int) (L : List Ins) (O : List Int) (t a c : Int) (n : Nat) (w : World) (h : EvB pb k R L O w) (hf : w.cell? ⟨fb, 0, none⟩ = some (addV pb)) (hft : typOf w fb = some 79) (hc : Smn c) (hT : TzAt pb w) (hn : n ≤ 100) (hl : L.length ≤ 10000) :
    Calls Tryd.prog 36 #[.int .i64 t, .int .i64 a, .int .i64 c, .int .i64 n, .pointer (some ⟨fb, 0, none⟩)] w fun e w' => e = .returned (.tuple #[]) ∧ EvB pb k R (L ++ scaledL t n a c) O w' ∧ Fr pb w w' := by
  have HE := Lib.hid h
  have HF := Lib.hid (show ∀ W, Fr pb w W → W.cell? ⟨fb, 0, none⟩ = some (addV pb) from fun W q => q.kp.cell hft (by decide) hf)
  have HT := Lib.hid hT
  have HC := Lib.hid hc
  clear h hf hft hT hc
  go_enter Tryd.func36, Tryd.ntmps36
  go_wp2
  go_loopw [1, 10] (fun a' x wr => ∃ (j : Nat) (ai : Int) (Lj : List Ins), j ≤ n ∧ x = .int .i64 j ∧ a' = .int .i64 ai ∧ Hid (EvB pb k R Lj O wr) ∧ Hid (Lj ++ scaledL t (n - j) ai c = L ++ scaledL t n a c ∧ Lj.length ≤ L.length + j) ∧ Hid (Fr pb w wr)) (fun _ x _ => n - (intOf x).toNat)
  case atStart => exact ⟨0, a, L, Nat.zero_le _, rfl, rfl, HE, Lib.hid ⟨by rw [Nat.sub_zero], by omega⟩, Lib.hid (Fr.refl _ _)⟩
  case round =>
    obtain ⟨j, ai, Lj, hj, rfl, rfl, hE, hL, hR⟩ := hrel
    by_cases hlt : j < n
    · have hltI : (j : Int) < (n : Int) := by omega
      have f0 := HF.out wr hR.out
      unfold addV at f0
      have HS := Lib.hid (show ∀ V, Below wr.heap.size wr V → V.cell? ⟨fb, 0, none⟩ = some (.func (.func 35) #[] #[.pointer (some ⟨pb, 0, none⟩)]) from fun V q => bkeep q f0)
      have TC := Lib.hid (fun V (q : Below wr.heap.size wr V) => timesI_c t ai c V HC.out ((HT.out.fr hR.out).keep q).1)
      have AC := Lib.hid (fun V (q : Below wr.heap.size wr V) => add_c pb k R Lj O (timesI t ai c) V (hE.out.below q) (by have := hL.out.2; omega))
      have HL1 := Lib.hid (show (Lj ++ addI (timesI t ai c)) ++ scaledL t (n - (j + 1)) t c = L ++ scaledL t n a c ∧ (Lj ++ addI (timesI t ai c)).length ≤ L.length + (j + 1) from ⟨by rw [List.append_assoc, ← scaledL_succ t hlt, hL.out.1], by
        have h1 := hL.out.2
        have h2 := addI_le (timesI t ai c)
        rw [List.length_append]; omega⟩)
      have HPB := Lib.hid (show pb ≤ wr.heap.size from Nat.le_of_lt hE.out.fr.1)
      obtain ⟨iv, hiv⟩ : ∃ i, (timesI t ai c).v = i := ⟨_, rfl⟩
      rw [hiv] at TC AC
      have zf := cell_lt f0
      have hBc := Below.refl wr.heap.size wr
      have HLT := Lib.hid hlt
      clear hL hE hlt hiv
      go_wp2
      go_region_held3 (fun V => V.cell? ⟨fb, 0, none⟩ = some (.func (.func 35) #[] #[.pointer (some ⟨pb, 0, none⟩)]))
        (first | (refine HS.out _ ?_; (repeat (first | exact Below.refl _ _ | exact hBc | refine Below.drew ?_ | refine below_drewN ?_ _ | refine bset ?_ (by simp <;> omega) _ | refine bal ?_ _)); done) | exact hfc | fail)
        (first
          | (go_at_call 37; refine (TC.out _ ?_).mono ?_; (repeat (first | exact Below.refl _ _ | exact hBc | refine Below.drew ?_ | refine below_drewN ?_ _ | refine bset ?_ (by simp <;> omega) _ | refine bal ?_ _)); rintro e w5 ⟨rfl, hb5⟩; (have hBd : Below wr.heap.size wr w5 := bthen (by repeat (first | exact Below.refl _ _ | exact hBc | refine Below.drew ?_ | refine below_drewN ?_ _ | refine bset ?_ (by simp <;> omega) _ | refine bal ?_ _)) hb5; clear hBc; have hBc := hBd; clear hBd))
          | (go_at_call 35; refine (AC.out _ ?_).mono ?_; (repeat (first | exact Below.refl _ _ | exact hBc | refine Below.drew ?_ | refine below_drewN ?_ _ | refine bset ?_ (by simp <;> omega) _ | refine bal ?_ _)); rintro e w6 ⟨rfl, hE6, hF6⟩; have HE6 := Lib.hid hE6; have HF6 := Lib.hid ((hR.out.below (show Below wr.heap.size wr _ by repeat (first | exact Below.refl _ _ | exact hBc | refine Below.drew ?_ | refine below_drewN ?_ _ | refine bset ?_ (by simp <;> omega) _ | refine bal ?_ _)) HPB.out).trans hF6); have hfc := HF.out w6 HF6.out; unfold addV at hfc; clear hE6 hF6)
          | fail)
      all_goals
        have hl := HLT.out
        go_wp2
        exact ⟨⟨j + 1, t, _, hl, by go_num, rfl, HE6, HL1, HF6⟩, measE hl (by go_num) rfl⟩
    · obtain rfl : n = j := by omega
      have hltI : ¬ (n : Int) < (n : Int) := by omega
      go_wp2
      refine bodyPost_end (v := .tuple #[]) (by simp [results, Tryd.results36, go_sem]) rfl ?_
      have e := hL.out.1
      rw [Nat.sub_self] at e
      refine ⟨rfl, ?_, hR.out⟩
      rw [← e]
      show EvB pb k R (Lj ++ []) O wr
      rw [List.append_nil]
      exact hE.out
theorem add_l (pb : Nat) (k R : Int) (L : List Ins) (O : List Int) (op t a b c : Int) (w : World) (h : EvB pb k R L O w) (hl : L.length ≤ 100000) :
    Calls Tryd.prog 35 #[.agg #[.int .i64 op, .int .i64 t, .int .i64 a, .int .i64 b, .int .i64 c], .pointer (some ⟨pb, 0, none⟩)] w fun e w' => e = .returned (.tuple #[]) ∧ EvB pb k R (L ++ addI ⟨op, t, a, b, c⟩) O w' ∧ Fr pb w w' := add_c pb k R L O ⟨op, t, a, b, c⟩ w h hl
theorem scaled_z (pb fb : Nat) (k R : Int) (L : List Ins) (O : List Int) (t a c N : Int) (n : Nat) (w : World) (h : EvB pb k R L O w) (hf : w.cell? ⟨fb, 0, none⟩ = some (.func (.func 35) #[] #[.pointer (some ⟨pb, 0, none⟩)])) (hft : typOf w fb = some 79) (hc : Smn c) (hT : TzAt pb w) (hn : n ≤ 100) (hl : L.length ≤ 10000) (hN : N = (n : Int)) :
    Calls Tryd.prog 36 #[.int .i64 t, .int .i64 a, .int .i64 c, .int .i64 N, .pointer (some ⟨fb, 0, none⟩)] w fun e w' => e = .returned (.tuple #[]) ∧ EvB pb k R (L ++ scaledL t n a c) O w' ∧ Fr pb w w' := by
  subst hN
  exact scaled_c pb fb k R L O t a c n w h hf hft hc hT hn hl
end Go.Proofs.YtdllbdfchloijaaDoor

/- eval: Program: the program that evaluates. -/
namespace Go.Proofs.YtdllbdfchloijaaDoor
open Pt
open Num
open Go.ChangeShapes Go.WideShapes Go.ChangeAt Go.RowKit
set_option linter.unusedVariables false
set_option linter.unusedSimpArgs false
attribute [local go_sem ↓] Go.wp_at_zero Go.wp_at_succ
theorem owns_set1 {w : World} {base n i g cap : Nat} {e : TypeId} {xs : List Value} (h : w.ownsRow base e 1 (.slice (some ⟨g, 0, none⟩) n cap) n xs) (u : Value) : (w.setCell ⟨g, i, none⟩ u).ownsRow base e 1 (.slice (some ⟨g, 0, none⟩) n cap) n (xs.set i u) := by
  refine ⟨by rw [List.length_set]; exact h.1, .inr ?_⟩
  rcases h.2 with ⟨hv, _⟩ | ⟨g', cap', cur, hv, hg, hh, h1, h2, h3, h4⟩
  · cases hv
  · cases hv
    refine ⟨g, cap, cur.setIfInBounds i u, rfl, hg, ?_, h1, h2, by simpa using h3, ?_⟩
    · simp [World.setCell, Array.getElem?_modify, hh]
    · rw [← h4]; simp [List.take_set]
/-- the outs' row becomes another -/
theorem EvB.putO {pb : Nat} {k R : Int} {L : List Ins} {O N : List Int} {w w' : World} {v : Value} (h : EvB pb k R L O w) (hr : w'.ownsRow (pb + 1) 3 1 v N.length (icel N)) (hk : Kp (· ≠ 3) w w') (hb : Below (pb + 1) w w') :
    EvB pb k R L N (w'.setCell ⟨pb, 3, none⟩ v) ∧ Kp (fun t => t ≠ 3 ∧ t ≠ 50) w (w'.setCell ⟨pb, 3, none⟩ v) ∧ Below pb w (w'.setCell ⟨pb, 3, none⟩ v) := by
  obtain ⟨v0, hv0, hs⟩ := h.code
  obtain ⟨u, hu, _⟩ := h.outs
  have hlt : pb < pb + 1 := Nat.lt_succ_self _
  have hty := hk.typ h.ty (by decide)
  have hnb : ∀ {x : Value} {T : TypeId} {size n : Nat} {xs : List Value}, w'.ownsRow (pb + 1) T size x n xs → (w'.setCell ⟨pb, 3, none⟩ v).ownsRow (pb + 1) T size x n xs := fun hO => ownsRow_setCell_other hO (fun hb => by have h := (hO.lt _ hb).1; dsimp only at h; omega) v
  refine ⟨⟨by rw [typ_set]; exact hty, ?_, ?_, ?_, ⟨v0, cell_far (bkeepN hb hv0 hlt) (by simp) _, hnb (owns_kp hs hk (by decide))⟩, ⟨v, cell_here (bkeepN hb hu hlt) _, hnb hr⟩⟩, ?_, ?_⟩
  · refine Free.set ⟨Nat.lt_of_lt_of_le h.fr.1 hb.size, fun j => ?_⟩ _ _
    rw [World.frozen?_of_block (w := w) (hb.block pb hlt)]; exact h.fr.2 j
  · exact cell_far (bkeepN hb h.c0 hlt) (by simp) _
  · exact cell_far (bkeepN hb h.c1 hlt) (by simp) _
  · refine (hk.weak fun t ht => ht.1).set (fun t ht hs => ?_) _
    rw [hty] at ht
    exact hs.2 (Option.some.inj ht).symm
  · exact (hb.mono (Nat.le_succ _)).setCell (Nat.le_refl _) _
theorem icel_app (L M : List Int) : icel (L ++ M) = icel L ++ icel M := by simp [icel]
theorem icel_set (L : List Int) (i : Nat) (x : Int) : (icel L).set i (.int .i64 x) = icel (L.set i x) := by simp [icel, List.map_set]
/-- one of the outs becomes another -/
theorem EvB.setO {pb i g cap : Nat} {k R x : Int} {L : List Ins} {O : List Int} {w : World} (h : EvB pb k R L O w) (hc : w.cell? ⟨pb, 3, none⟩ = some (.slice (some ⟨g, 0, none⟩) O.length cap)) :
    EvB pb k R L (O.set i x) (w.setCell ⟨g, i, none⟩ (.int .i64 x)) ∧ Kp (fun t => t ≠ 3 ∧ t ≠ 50) w (w.setCell ⟨g, i, none⟩ (.int .i64 x)) ∧ Below pb w (w.setCell ⟨g, i, none⟩ (.int .i64 x)) ∧ typOf w g = some 3 ∧ pb < g := by
  obtain ⟨v0, hv0, hs⟩ := h.code
  obtain ⟨u, hu, ho⟩ := h.outs
  rw [hc] at hu
  cases hu
  have hg : pb + 1 ≤ g := (ho.lt g rfl).1
  have hty : typOf w g = some 3 := own_typ' ho rfl
  have hne : ∀ o : Nat, (⟨g, i, none⟩ : Addr) ≠ ⟨pb, o, none⟩ := fun o e => by cases e; omega
  have hcode : v0.ownBlock ≠ some g := fun e => by
    have := own_typ' hs e
    rw [hty] at this
    exact absurd this (by decide)
  refine ⟨⟨by rw [typ_set]; exact h.ty, h.fr.set _ _, cell_far h.c0 (hne 0) _, cell_far h.c1 (hne 1) _, ⟨v0, cell_far hv0 (hne 2) _, ownsRow_setCell_other hs hcode _⟩, ⟨_, cell_far hc (hne 3) _, ?_⟩⟩, ?_, ?_, hty, hg⟩
  · rw [List.length_set, ← icel_set]
    exact owns_set1 ho _
  · refine (Kp.refl _ _).set (fun t ht hs => ?_) _
    dsimp only at ht
    rw [hty] at ht
    exact hs.1 (Option.some.inj ht).symm
  · exact (Below.refl _ _).setCell (by dsimp only; omega) _
/-- Program at work: so many points are done -/
structure EvS (w : World) (pb fb k n : Nat) (f : Nat → Int × Int) (i : Nat) (wr : World) : Prop where
  ev : EvB pb k ((k + n + 1 : Nat) : Int) (codeL k n f i) (outsL k i) wr
  fn : wr.cell? ⟨fb, 0, none⟩ = some (addV pb)
  ft : typOf wr fb = some 79
  bel : Below w.heap.size w wr
  lo : w.heap.size < pb
  r0 : wr.cell? ⟨w.heap.size, 0, none⟩ = some (.int .i64 0)
  r1 : wr.cell? ⟨w.heap.size, 1, none⟩ = some (.int .i64 0)
  r2 : wr.cell? ⟨w.heap.size, 2, none⟩ = some (.slice none 0 0)
  r3 : wr.cell? ⟨w.heap.size, 3, none⟩ = some (.slice none 0 0)
  rf : ∀ j, wr.frozen? ⟨w.heap.size, j, none⟩ = false
  tz : TzAt pb wr
/-- what Program's own stores leave -/
structure Fr2 (pb : Nat) (w w' : World) : Prop where
  kp : Kp (fun t => t ≠ 3 ∧ t ≠ 50 ∧ t ≠ 53) w w'
  bel : Below pb w w'
theorem Fr.fr2 {pb : Nat} {w w' : World} (h : Fr pb w w') : Fr2 pb w w' := ⟨h.kp.weak fun t ht => ⟨ht.2.2, ht.2.1⟩, h.bel⟩
theorem Fr2.trans {pb : Nat} {a b c : World} (h : Fr2 pb a b) (k : Fr2 pb b c) : Fr2 pb a c := ⟨h.kp.trans k.kp, h.bel.trans k.bel⟩
theorem Fr2.below {pb : Nat} {a b c : World} (h : Fr2 pb a b) (k : Below b.heap.size b c) (hp : pb ≤ b.heap.size) : Fr2 pb a c := ⟨h.kp.below k, h.bel.trans (k.mono hp)⟩
theorem Fr2.refl (pb : Nat) (w : World) : Fr2 pb w w := ⟨Kp.refl _ _, Below.refl _ _⟩
theorem EvS.next {w wr wq : World} {pb fb k n i : Nat} {f : Nat → Int × Int} (h : EvS w pb fb k n f i wr) (hf : Fr2 pb wr wq) (he : EvB pb k ((k + n + 1 : Nat) : Int) (codeL k n f (i + 1)) (outsL k (i + 1)) wq) : EvS w pb fb k n f (i + 1) wq where
  ev := he
  fn := hf.kp.cell h.ft (by decide) h.fn
  ft := hf.kp.typ h.ft (by decide)
  bel := h.bel.trans (hf.bel.mono (Nat.le_of_lt h.lo))
  lo := h.lo
  r0 := bkeepN hf.bel h.r0 h.lo
  r1 := bkeepN hf.bel h.r1 h.lo
  r2 := bkeepN hf.bel h.r2 h.lo
  r3 := bkeepN hf.bel h.r3 h.lo
  rf := fun j => by rw [World.frozen?_of_block (w := wr) (hf.bel.block _ h.lo)]; exact h.rf j
  tz := ⟨fun j hj => bkeepN hf.bel (h.tz.1 j hj) h.tz.2, h.tz.2⟩
theorem outsL_one (n : Nat) : (outsL 1 n ++ [((1 + n : Nat) : Int)]).set n 0 = outsL 1 (n + 1) := by
  rw [outsL_succ]
  have : (outsL 1 n).length = n := outsL_len 1 n
  rw [List.set_append_right _ _ (by omega), this, Nat.sub_self]
  rfl
theorem codeL_succ (k n : Nat) (f : Nat → Int × Int) (i : Nat) : codeL k n f (i + 1) = codeL k n f i ++ pointL k ((k + i : Nat) : Int) ((k + n : Nat) : Int) (f i) := rfl
end Go.Proofs.YtdllbdfchloijaaDoor

