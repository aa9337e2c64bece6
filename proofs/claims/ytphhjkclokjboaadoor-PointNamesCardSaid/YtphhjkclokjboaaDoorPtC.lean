/- Norm, One, Det and what the reference says of them. -/
import Derived.Test.YtphhjkclokjboaaDoorPtB
import Derived.Deep.RegionWith
namespace Go.Proofs.YtphhjkclokjboaaDoor
open Pt
open Go.ChangeShapes Go.WideShapes Go.ChangeAt Go.RowKit
set_option linter.unusedVariables false
set_option linter.unusedSimpArgs false

theorem ptNorm_no (a b : Int) (w : World) (h : ¬ PIn a b) :
    Calls Tryd.prog 11 #[pv a b] w fun e w' => e = .returned (.tuple #[pv 0 0, .int .i64 2]) ∧ Below w.heap.size w w' := by
  have hi := inB_no h
  have cc : ∀ w, Calls Tryd.prog 20 #[pv a b] w fun e w' => e = .returned (.bool false) ∧ Below w.heap.size w w' := fun w => by rw [← hi]; exact ptIn_c a b w
  clear hi h
  go_enter Tryd.func11, Tryd.ntmps11
  go_wp2_with fail
  refine (cc _).mono ?_
  rintro e w1 ⟨rfl, hb1⟩
  obtain ⟨hc1, hf1⟩ := bcell hb1
  have hs1 := hb1.size
  try simp only [World.size_alloc, World.size_drew, size_drewN, World.size_setCell] at hs1
  have z1_0 : w.heap.size < w1.heap.size := by omega
  have z1_1 : w.heap.size + 1 < w1.heap.size := by omega
  go_wp2
  refine bodyPost_ret (v := .tuple #[pv 0 0, .int .i64 2]) (by simp [results, Tryd.results11, go_sem, *]) rfl ⟨rfl, ?_⟩
  repeat (first | exact Below.refl _ _ | exact bthen (bal (bal (Below.refl _ _) _) _) hb1 | refine Below.drew ?_ | refine below_drewN ?_ _ | refine bset ?_ (by simp <;> omega) _ | refine bal ?_ _)

theorem ptNorm_yes (a b : Int) (w : World) (h : PIn a b) :
    Calls Tryd.prog 11 #[pv a b] w fun e w' => e = .returned (.tuple #[nv a b, .int .i64 0]) ∧ Below w.heap.size w w' := by
  have hi := inB_yes h
  have cc : ∀ w, Calls Tryd.prog 20 #[pv a b] w fun e w' => e = .returned (.bool true) ∧ Below w.heap.size w w' := fun w => by rw [← hi]; exact ptIn_c a b w
  have nc : ∀ w, Calls Tryd.prog 21 #[pv a b] w fun e w' => e = .returned (pv (nrm a b).1 (nrm a b).2) ∧ Below w.heap.size w w' := fun w => norm_c a b w h
  clear hi h
  unfold nv
  generalize (nrm a b).1 = x at *
  generalize (nrm a b).2 = y at *
  go_enter Tryd.func11, Tryd.ntmps11
  go_wp2_with fail
  refine (cc _).mono ?_
  rintro e w1 ⟨rfl, hb1⟩
  obtain ⟨hc1, hf1⟩ := bcell hb1
  have hs1 := hb1.size
  try simp only [World.size_alloc, World.size_drew, size_drewN, World.size_setCell] at hs1
  have z1_0 : w.heap.size < w1.heap.size := by omega
  have z1_1 : w.heap.size + 1 < w1.heap.size := by omega
  clear cc
  go_wp2_with fail
  refine (nc _).mono ?_
  rintro e w2 ⟨rfl, hb2⟩
  obtain ⟨hc2, hf2⟩ := bcell hb2
  have hs2 := hb2.size
  try simp only [World.size_alloc, World.size_drew, size_drewN, World.size_setCell] at hs2
  have z2_0 : w.heap.size < w2.heap.size := by omega
  have z2_1 : w.heap.size + 1 < w2.heap.size := by omega
  clear nc
  go_wp2
  refine bodyPost_ret (v := .tuple #[pv x y, .int .i64 0]) (by simp [results, Tryd.results11, go_sem, *]) rfl ⟨rfl, ?_⟩
  repeat (first | exact Below.refl _ _ | exact bthen (bthen (bal (bal (Below.refl _ _) _) _) hb1) hb2 | refine Below.drew ?_ | refine below_drewN ?_ _ | refine bset ?_ (by simp <;> omega) _ | refine bal ?_ _)

theorem mul_bd (x y : Int) (a1 : -16 ≤ x) (a2 : x ≤ 16) (b1 : -16 ≤ y) (b2 : y ≤ 16) : -256 ≤ x * y ∧ x * y ≤ 256 := by
  have := Int.natAbs_mul x y
  have h : x.natAbs * y.natAbs ≤ 16 * 16 := Nat.mul_le_mul (by omega) (by omega)
  omega

end Go.Proofs.YtphhjkclokjboaaDoor
