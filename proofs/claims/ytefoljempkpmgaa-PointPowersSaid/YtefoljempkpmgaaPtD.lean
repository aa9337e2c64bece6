/- One; the reference's Common, Norm, One, Det. -/
import Derived.Test.YtefoljempkpmgaaPtC
import Derived.Deep.RegionHeld3
namespace Go.Proofs.Ytefoljempkpmgaa
open Pt
open Go.ChangeShapes Go.WideShapes Go.ChangeAt Go.RowKit
set_option linter.unusedVariables false
set_option linter.unusedSimpArgs false

theorem ptOne_no (a b c d : Int) (w : World) (h : ¬ (PIn a b ∧ PIn c d)) :
    Calls Try.prog 14 #[pv a b, pv c d] w fun e w' => e = .returned (.tuple #[.bool false, .int .i64 2]) ∧ Below w.heap.size w w' := by
  by_cases h1 : PIn a b
  · have hi := inB_yes h1
    have cc : ∀ w, Calls Try.prog 10 #[pv a b] w fun e w' => e = .returned (.bool true) ∧ Below w.heap.size w w' := fun w => by rw [← hi]; exact ptIn_c a b w
    have hj := inB_no (fun k => h ⟨h1, k⟩)
    have cd : ∀ w, Calls Try.prog 10 #[pv c d] w fun e w' => e = .returned (.bool false) ∧ Below w.heap.size w w' := fun w => by rw [← hj]; exact ptIn_c c d w
    clear hi hj h h1
    go_enter Try.func14, Try.ntmps14
    go_wp2_with fail
    refine (cc _).mono ?_
    rintro e w1 ⟨rfl, hb1⟩
    obtain ⟨hc1, hf1⟩ := bcell hb1
    have hs1 := hb1.size
    try simp only [World.size_alloc, World.size_drew, size_drewN, World.size_setCell] at hs1
    have z1_0 : w.heap.size < w1.heap.size := by omega
    have z1_1 : w.heap.size + 1 < w1.heap.size := by omega
    clear cc
    go_wp2_with fail
    refine (cd _).mono ?_
    rintro e w2 ⟨rfl, hb2⟩
    obtain ⟨hc2, hf2⟩ := bcell hb2
    have hs2 := hb2.size
    try simp only [World.size_alloc, World.size_drew, size_drewN, World.size_setCell] at hs2
    have z2_0 : w.heap.size < w2.heap.size := by omega
    have z2_1 : w.heap.size + 1 < w2.heap.size := by omega
    clear cd
    go_wp2
    go_ret2
    exact ⟨rfl, bthen (bthen (bal (bal (Below.refl _ _) _) _) hb1) hb2⟩
  · have hi := inB_no h1
    have cc : ∀ w, Calls Try.prog 10 #[pv a b] w fun e w' => e = .returned (.bool false) ∧ Below w.heap.size w w' := fun w => by rw [← hi]; exact ptIn_c a b w
    clear hi h h1
    go_enter Try.func14, Try.ntmps14
    go_wp2_with fail
    refine (cc _).mono ?_
    rintro e w1 ⟨rfl, hb1⟩
    obtain ⟨hc1, hf1⟩ := bcell hb1
    have hs1 := hb1.size
    try simp only [World.size_alloc, World.size_drew, size_drewN, World.size_setCell] at hs1
    have z1_0 : w.heap.size < w1.heap.size := by omega
    have z1_1 : w.heap.size + 1 < w1.heap.size := by omega
    clear cc
    go_wp2
    go_ret2
    exact ⟨rfl, bthen (bal (bal (Below.refl _ _) _) _) hb1⟩

theorem norm_pv (a b : Int) (w : World) (h : PIn a b) :
    Calls Try.prog 33 #[pv a b] w fun e w' => e = .returned (pv (nrm a b).1 (nrm a b).2) ∧ Below w.heap.size w w' := norm_c a b w h


theorem eq_pv (x y u v : Int) (w : World) : (binOp .eql 23 (.agg #[.int .i64 x, .int .i64 y]) (.agg #[.int .i64 u, .int .i64 v])).run Try.prog w = .ok (.bool (x == u && y == v)) w := by
  by_cases h : x = u
  · subst h
    simp [go_sem]
    by_cases h : y = v
    · subst h; simp
    · simp [h]
  · simp [go_sem, h]
theorem ptOne_yes (a b c d : Int) (w : World) (h1 : PIn a b) (h2 : PIn c d) :
    Calls Try.prog 14 #[pv a b, pv c d] w fun e w' => e = .returned (.tuple #[.bool (one a b c d), .int .i64 0]) ∧ Below w.heap.size w w' := by
  have hi := inB_yes h1
  have cc : ∀ w, Calls Try.prog 10 #[pv a b] w fun e w' => e = .returned (.bool true) ∧ Below w.heap.size w w' := fun w => by rw [← hi]; exact ptIn_c a b w
  have hj := inB_yes h2
  have cd : ∀ w, Calls Try.prog 10 #[pv c d] w fun e w' => e = .returned (.bool true) ∧ Below w.heap.size w w' := fun w => by rw [← hj]; exact ptIn_c c d w
  have HO := Lib.hid (one_nrm a b c d h1 h2)
  clear hi hj
  go_enter Try.func14, Try.ntmps14
  go_wp2_with fail
  refine (cc _).mono ?_
  rintro e w1 ⟨rfl, hb1⟩
  have g0 : w1.cell? ⟨w.heap.size, 0, none⟩ = some (.int .i64 a) := bkeep hb1 (by first | assumption | exact cell_new (by with_reducible first | rfl | (simp; done) | (simp; omega)) rfl | (repeat (first | assumption | exact cell_new (by with_reducible first | rfl | (simp; done) | (simp; omega)) rfl | refine cell_alloc ?_ _ | refine cell_drew ?_ | refine cell_drewN ?_ _ | refine cell_far ?_ (by simp) _ | (refine cell_far ?_ (by simp <;> omega) _))) | simp [go_sem, *])
  have zg0 := cell_lt g0
  have g1 : w1.cell? ⟨w.heap.size, 1, none⟩ = some (.int .i64 b) := bkeep hb1 (by first | assumption | exact cell_new (by with_reducible first | rfl | (simp; done) | (simp; omega)) rfl | (repeat (first | assumption | exact cell_new (by with_reducible first | rfl | (simp; done) | (simp; omega)) rfl | refine cell_alloc ?_ _ | refine cell_drew ?_ | refine cell_drewN ?_ _ | refine cell_far ?_ (by simp) _ | (refine cell_far ?_ (by simp <;> omega) _))) | simp [go_sem, *])
  have g2 : w1.cell? ⟨w.heap.size + 1, 0, none⟩ = some (.int .i64 c) := bkeep hb1 (by first | assumption | exact cell_new (by with_reducible first | rfl | (simp; done) | (simp; omega)) rfl | (repeat (first | assumption | exact cell_new (by with_reducible first | rfl | (simp; done) | (simp; omega)) rfl | refine cell_alloc ?_ _ | refine cell_drew ?_ | refine cell_drewN ?_ _ | refine cell_far ?_ (by simp) _ | (refine cell_far ?_ (by simp <;> omega) _))) | simp [go_sem, *])
  have zg2 := cell_lt g2
  have g3 : w1.cell? ⟨w.heap.size + 1, 1, none⟩ = some (.int .i64 d) := bkeep hb1 (by first | assumption | exact cell_new (by with_reducible first | rfl | (simp; done) | (simp; omega)) rfl | (repeat (first | assumption | exact cell_new (by with_reducible first | rfl | (simp; done) | (simp; omega)) rfl | refine cell_alloc ?_ _ | refine cell_drew ?_ | refine cell_drewN ?_ _ | refine cell_far ?_ (by simp) _ | (refine cell_far ?_ (by simp <;> omega) _))) | simp [go_sem, *])
  have hB : Below w.heap.size w w1 := bthen (by repeat (first | exact Below.refl _ _ | exact hB | refine Below.drew ?_ | refine below_drewN ?_ _ | refine bset ?_ (by simp <;> omega) _ | refine bal ?_ _)) hb1
  have hz : w.heap.size ≤ w1.heap.size := hB.size
  clear cc
  go_wp2_with fail
  refine (cd _).mono ?_
  rintro e w2 ⟨rfl, hb2⟩
  have g0 : w2.cell? ⟨w.heap.size, 0, none⟩ = some (.int .i64 a) := bkeep hb2 (by first | assumption | exact cell_new (by with_reducible first | rfl | (simp; done) | (simp; omega)) rfl | (repeat (first | assumption | exact cell_new (by with_reducible first | rfl | (simp; done) | (simp; omega)) rfl | refine cell_alloc ?_ _ | refine cell_drew ?_ | refine cell_drewN ?_ _ | refine cell_far ?_ (by simp) _ | (refine cell_far ?_ (by simp <;> omega) _))) | simp [go_sem, *])
  have zg0 := cell_lt g0
  have g1 : w2.cell? ⟨w.heap.size, 1, none⟩ = some (.int .i64 b) := bkeep hb2 (by first | assumption | exact cell_new (by with_reducible first | rfl | (simp; done) | (simp; omega)) rfl | (repeat (first | assumption | exact cell_new (by with_reducible first | rfl | (simp; done) | (simp; omega)) rfl | refine cell_alloc ?_ _ | refine cell_drew ?_ | refine cell_drewN ?_ _ | refine cell_far ?_ (by simp) _ | (refine cell_far ?_ (by simp <;> omega) _))) | simp [go_sem, *])
  have g2 : w2.cell? ⟨w.heap.size + 1, 0, none⟩ = some (.int .i64 c) := bkeep hb2 (by first | assumption | exact cell_new (by with_reducible first | rfl | (simp; done) | (simp; omega)) rfl | (repeat (first | assumption | exact cell_new (by with_reducible first | rfl | (simp; done) | (simp; omega)) rfl | refine cell_alloc ?_ _ | refine cell_drew ?_ | refine cell_drewN ?_ _ | refine cell_far ?_ (by simp) _ | (refine cell_far ?_ (by simp <;> omega) _))) | simp [go_sem, *])
  have zg2 := cell_lt g2
  have g3 : w2.cell? ⟨w.heap.size + 1, 1, none⟩ = some (.int .i64 d) := bkeep hb2 (by first | assumption | exact cell_new (by with_reducible first | rfl | (simp; done) | (simp; omega)) rfl | (repeat (first | assumption | exact cell_new (by with_reducible first | rfl | (simp; done) | (simp; omega)) rfl | refine cell_alloc ?_ _ | refine cell_drew ?_ | refine cell_drewN ?_ _ | refine cell_far ?_ (by simp) _ | (refine cell_far ?_ (by simp <;> omega) _))) | simp [go_sem, *])
  have hB : Below w.heap.size w w2 := bthen (by repeat (first | exact Below.refl _ _ | exact hB | refine Below.drew ?_ | refine below_drewN ?_ _ | refine bset ?_ (by simp <;> omega) _ | refine bal ?_ _)) hb2
  have hz : w.heap.size ≤ w2.heap.size := hB.size
  clear cd
  go_wp2_with fail
  have he := fun w => eq_pv (nrm a b).1 (nrm a b).2 (nrm c d).1 (nrm c d).2 w
  have heq : ((nrm a b).1 == (nrm c d).1 && (nrm a b).2 == (nrm c d).2) = one a b c d := by
    rw [HO.out]; rw [Bool.eq_iff_iff]; simp [Prod.ext_iff]
  rw [heq] at he
  clear heq
  go_region_held3 (fun w' => w'.cell? ⟨w.heap.size, 0, none⟩ = some (.int .i64 a) ∧ w'.cell? ⟨w.heap.size, 1, none⟩ = some (.int .i64 b) ∧ w'.cell? ⟨w.heap.size + 1, 0, none⟩ = some (.int .i64 c) ∧ w'.cell? ⟨w.heap.size + 1, 1, none⟩ = some (.int .i64 d)) (go_keep)
    (first | (go_at_call 33; refine (norm_pv _ _ _ (by assumption)).mono ?_; rintro e w3 ⟨rfl, hb3⟩; have g0 : w3.cell? ⟨w.heap.size, 0, none⟩ = some (.int .i64 a) := bkeep hb3 (by first | assumption | exact cell_new (by with_reducible first | rfl | (simp; done) | (simp; omega)) rfl | (repeat (first | assumption | exact cell_new (by with_reducible first | rfl | (simp; done) | (simp; omega)) rfl | refine cell_alloc ?_ _ | refine cell_drew ?_ | refine cell_drewN ?_ _ | refine cell_far ?_ (by simp) _ | (refine cell_far ?_ (by simp <;> omega) _))) | simp [go_sem, *]); have zg0 := cell_lt g0; have g1 : w3.cell? ⟨w.heap.size, 1, none⟩ = some (.int .i64 b) := bkeep hb3 (by first | assumption | exact cell_new (by with_reducible first | rfl | (simp; done) | (simp; omega)) rfl | (repeat (first | assumption | exact cell_new (by with_reducible first | rfl | (simp; done) | (simp; omega)) rfl | refine cell_alloc ?_ _ | refine cell_drew ?_ | refine cell_drewN ?_ _ | refine cell_far ?_ (by simp) _ | (refine cell_far ?_ (by simp <;> omega) _))) | simp [go_sem, *]); have g2 : w3.cell? ⟨w.heap.size + 1, 0, none⟩ = some (.int .i64 c) := bkeep hb3 (by first | assumption | exact cell_new (by with_reducible first | rfl | (simp; done) | (simp; omega)) rfl | (repeat (first | assumption | exact cell_new (by with_reducible first | rfl | (simp; done) | (simp; omega)) rfl | refine cell_alloc ?_ _ | refine cell_drew ?_ | refine cell_drewN ?_ _ | refine cell_far ?_ (by simp) _ | (refine cell_far ?_ (by simp <;> omega) _))) | simp [go_sem, *]); have zg2 := cell_lt g2; have g3 : w3.cell? ⟨w.heap.size + 1, 1, none⟩ = some (.int .i64 d) := bkeep hb3 (by first | assumption | exact cell_new (by with_reducible first | rfl | (simp; done) | (simp; omega)) rfl | (repeat (first | assumption | exact cell_new (by with_reducible first | rfl | (simp; done) | (simp; omega)) rfl | refine cell_alloc ?_ _ | refine cell_drew ?_ | refine cell_drewN ?_ _ | refine cell_far ?_ (by simp) _ | (refine cell_far ?_ (by simp <;> omega) _))) | simp [go_sem, *]); have hB : Below w.heap.size w w3 := bthen (by repeat (first | exact Below.refl _ _ | exact hB | refine Below.drew ?_ | refine below_drewN ?_ _ | refine bset ?_ (by simp <;> omega) _ | refine bal ?_ _)) hb3; have hz : w.heap.size ≤ w3.heap.size := hB.size))

  all_goals go_wp2
  all_goals go_ret2
  all_goals exact ⟨rfl, by assumption⟩

theorem refCommon_c (a b : Int) (w : World) :
    Calls Try.prog 34 #[pv a b] w fun e w' => e = .returned (.int .i64 (cm a b 16)) ∧ Below w.heap.size w w' := by
  go_enter Try.func34, Try.ntmps34
  go_wp2
  go_loopw [3, 4] (fun g d wr => ∃ k : Nat, k ≤ 16 ∧ d = .int .i64 ((k : Int) + 1) ∧ g = .int .i64 (cm a b k) ∧ wr.cell? ⟨w.heap.size, 0, none⟩ = some (.int .i64 a) ∧ wr.cell? ⟨w.heap.size, 1, none⟩ = some (.int .i64 b) ∧ w.heap.size < wr.heap.size ∧ Below w.heap.size w wr) (fun _ d _ => 17 - (intOf d).toNat)
  case atStart => exact ⟨0, by omega, rfl, rfl, by simp, by simp, by simp, bal (Below.refl _ _) _⟩
  case round =>
    obtain ⟨k, hk, rfl, rfl, hca, hcb, hz, hb⟩ := hrel
    have C1 := Lib.hid (show cm a b (k + 1) = if a.tmod ((k : Int) + 1) = 0 ∧ b.tmod ((k : Int) + 1) = 0 ∧ (!nn a b) = true then (k : Int) + 1 else cm a b k from rfl)
    have cb := cm_bd a b k
    by_cases hlt : k < 16
    · go_wp2_with (go_at_call 12; refine (refNone_c _ _ _).mono ?_; rintro e w3 ⟨rfl, hb3⟩; obtain ⟨hc3, hf3⟩ := bcell hb3; have z3 : w.heap.size < w3.heap.size := bfar hb3 hz; have b3 : Below w.heap.size w w3 := bthen hb hb3)
      all_goals have := C1.out
      all_goals refine ⟨⟨k + 1, by omega, by go_num, ?_, by first | exact hca | (rw [hc3 _ _ hz]; exact hca), by first | exact hcb | (rw [hc3 _ _ hz]; exact hcb), by assumption, by assumption⟩, by simp [intOf]; omega⟩
      all_goals (rw [this]; first | (rw [if_pos ⟨by assumption, by assumption, by assumption⟩]) | (rw [if_neg (by rintro ⟨k1, k2, k3⟩; first | contradiction | exact absurd (k3.symm.trans (by assumption : (!nn a b) = false)) (by decide))]))
    · obtain rfl : k = 16 := by omega
      go_wp2
      go_ret
      exact ⟨rfl, hb⟩
end Go.Proofs.Ytefoljempkpmgaa
