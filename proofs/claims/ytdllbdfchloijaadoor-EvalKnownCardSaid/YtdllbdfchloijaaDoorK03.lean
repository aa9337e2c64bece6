/- Texts of this seat, laid together: PrgB, PrgC, PrgD, PrgE, PrgF. Each opens with its own remark, which says what it proves, and under which conditions. -/
import Derived.Test.YtdllbdfchloijaaDoorK02
import Derived.Laws.AppendOwn
import Derived.Deep.RegionWith
set_option linter.unusedVariables false
set_option linter.unusedSimpArgs false
/- prog: may. -/
namespace Go.Proofs.YtdllbdfchloijaaDoor
open Go.ChangeShapes Go.WideShapes Go.ChangeAt Go.RowKit
set_option linter.unusedVariables false
set_option linter.unusedSimpArgs false
def mayB (op t a b c regs : Int) : Bool := decide (1 ≤ op ∧ op ≤ 8 ∧ 0 ≤ t ∧ t < regs ∧ (twoB op = false → b = 0) ∧ constB op c = true ∧ 0 ≤ a ∧ a < regs ∧ (twoB op = true → 0 ≤ b ∧ b < regs))
theorem mayB_iff (op t a b c regs : Int) : mayB op t a b c regs = true ↔ (1 ≤ op ∧ op ≤ 8 ∧ 0 ≤ t ∧ t < regs ∧ (twoB op = false → b = 0) ∧ constB op c = true ∧ 0 ≤ a ∧ a < regs ∧ (twoB op = true → 0 ≤ b ∧ b < regs)) := by unfold mayB; exact decide_eq_true_iff
theorem mayB_no {op t a b c regs : Int} (h : ¬ (1 ≤ op ∧ op ≤ 8 ∧ 0 ≤ t ∧ t < regs ∧ (twoB op = false → b = 0) ∧ constB op c = true ∧ 0 ≤ a ∧ a < regs ∧ (twoB op = true → 0 ≤ b ∧ b < regs))) : mayB op t a b c regs = false := by
  rw [Bool.eq_false_iff]; exact fun k => h ((mayB_iff ..).1 k)

set_option maxRecDepth 100000 in
set_option maxHeartbeats 8000000 in
theorem may_c (op t a b c regs : Int) (w : World) : Calls Tryd.prog 45 #[.agg #[.int .i64 op, .int .i64 t, .int .i64 a, .int .i64 b, .int .i64 c], .int .i64 regs] w fun e w' => e = .returned (.bool (mayB op t a b c regs)) ∧ Below w.heap.size w w' := by
  by_cases h1 : op < 1
  · have HM := Lib.hid (show mayB op t a b c regs = false from mayB_no (by omega))
    go_enter Tryd.func45, Tryd.ntmps45
    go_wp2
    go_ret
    exact ⟨bret (by rw [HM.out]), by repeat (first | exact Below.refl _ _ | assumption | refine bset ?_ (by simp) _ | refine bal ?_ _)⟩
  by_cases h2 : 8 < op
  · have HM := Lib.hid (show mayB op t a b c regs = false from mayB_no (by omega))
    go_enter Tryd.func45, Tryd.ntmps45
    go_wp2
    go_ret
    exact ⟨bret (by rw [HM.out]), by repeat (first | exact Below.refl _ _ | assumption | refine bset ?_ (by simp) _ | refine bal ?_ _)⟩
  by_cases h3 : t < 0
  · have HM := Lib.hid (show mayB op t a b c regs = false from mayB_no (by omega))
    go_enter Tryd.func45, Tryd.ntmps45
    go_wp2
    go_ret
    exact ⟨bret (by rw [HM.out]), by repeat (first | exact Below.refl _ _ | assumption | refine bset ?_ (by simp) _ | refine bal ?_ _)⟩
  by_cases h4 : regs ≤ t
  · have HM := Lib.hid (show mayB op t a b c regs = false from mayB_no (by omega))
    go_enter Tryd.func45, Tryd.ntmps45
    go_wp2
    go_ret
    exact ⟨bret (by rw [HM.out]), by repeat (first | exact Below.refl _ _ | assumption | refine bset ?_ (by simp) _ | refine bal ?_ _)⟩
  have hB := Below.refl w.heap.size w
  have tc : ∀ v, twoB op = v → ∀ W, Calls Tryd.prog 57 #[.int .i64 op] W fun e w' => e = .returned (.bool v) ∧ Below W.heap.size W w' := fun v hv W => (two_c op W).mono fun e w' ⟨he, hw⟩ => ⟨by rw [he, hv], by rw [hw]; exact Below.refl _ _⟩
  have cc : ∀ v, constB op c = v → ∀ W, Calls Tryd.prog 58 #[.agg #[.int .i64 op, .int .i64 t, .int .i64 a, .int .i64 b, .int .i64 c]] W fun e w' => e = .returned (.bool v) ∧ Below W.heap.size W w' := fun v hv W => by rw [← hv]; exact constant_c op t a b c W
  cases hT : twoB op with
  | false =>
    have tc := tc _ hT
    by_cases hb : b = 0
    · have hbz : (b != 0) = false := by simpa using hb
      cases hC : constB op c with
      | false =>
        have HM := Lib.hid (show mayB op t a b c regs = false from mayB_no (by rw [hC]; simp))
        have cc := cc _ hC
        clear hT hC hb
        go_enter Tryd.func45, Tryd.ntmps45
        go_wp2_with fail
        refine (tc _).mono ?_
        rintro e w1 ⟨rfl, hb1⟩
        have i0 : w1.cell? ⟨w.heap.size, 0, none⟩ = some (.int .i64 op) := bkc hb1
        have zi0 := cell_lt i0
        have i1 : w1.cell? ⟨w.heap.size, 1, none⟩ = some (.int .i64 t) := bkc hb1
        have i2 : w1.cell? ⟨w.heap.size, 2, none⟩ = some (.int .i64 a) := bkc hb1
        have i3 : w1.cell? ⟨w.heap.size, 3, none⟩ = some (.int .i64 b) := bkc hb1
        have i4 : w1.cell? ⟨w.heap.size, 4, none⟩ = some (.int .i64 c) := bkc hb1
        have hB : Below w.heap.size w w1 := bthen (by repeat (first | exact Below.refl _ _ | exact hB | refine Below.drew ?_ | refine below_drewN ?_ _ | refine bset ?_ (by simp <;> omega) _ | refine bal ?_ _)) hb1
        have hz : w.heap.size ≤ w1.heap.size := hB.size
        go_wp2_with fail
        refine (cc _).mono ?_
        rintro e w2 ⟨rfl, hb2⟩
        have i0 : w2.cell? ⟨w.heap.size, 0, none⟩ = some (.int .i64 op) := bkc hb2
        have zi0 := cell_lt i0
        have i1 : w2.cell? ⟨w.heap.size, 1, none⟩ = some (.int .i64 t) := bkc hb2
        have i2 : w2.cell? ⟨w.heap.size, 2, none⟩ = some (.int .i64 a) := bkc hb2
        have i3 : w2.cell? ⟨w.heap.size, 3, none⟩ = some (.int .i64 b) := bkc hb2
        have i4 : w2.cell? ⟨w.heap.size, 4, none⟩ = some (.int .i64 c) := bkc hb2
        have hB : Below w.heap.size w w2 := bthen (by repeat (first | exact Below.refl _ _ | exact hB | refine Below.drew ?_ | refine below_drewN ?_ _ | refine bset ?_ (by simp <;> omega) _ | refine bal ?_ _)) hb2
        have hz : w.heap.size ≤ w2.heap.size := hB.size
        go_wp2
        go_ret
        exact ⟨bret (by rw [HM.out]), hB⟩
      | true =>
        have cc := cc _ hC
        have ac := fun W => asks_one op t a b c W (by omega) (by omega) hT
        by_cases hr : 0 ≤ a ∧ a < regs
        · have HM := Lib.hid (show mayB op t a b c regs = true from (mayB_iff ..).2 ⟨by omega, by omega, by omega, by omega, fun _ => hb, hC, hr.1, hr.2, fun h => by rw [hT] at h; cases h⟩)
          obtain ⟨r1, r2⟩ := hr
          have r1' : ¬ a < 0 := by omega
          have r2' : ¬ regs ≤ a := by omega
          clear hT hC hb
          go_enter Tryd.func45, Tryd.ntmps45
          go_wp2_with fail
          refine (tc _).mono ?_
          rintro e w1 ⟨rfl, hb1⟩
          have i0 : w1.cell? ⟨w.heap.size, 0, none⟩ = some (.int .i64 op) := bkc hb1
          have zi0 := cell_lt i0
          have i1 : w1.cell? ⟨w.heap.size, 1, none⟩ = some (.int .i64 t) := bkc hb1
          have i2 : w1.cell? ⟨w.heap.size, 2, none⟩ = some (.int .i64 a) := bkc hb1
          have i3 : w1.cell? ⟨w.heap.size, 3, none⟩ = some (.int .i64 b) := bkc hb1
          have i4 : w1.cell? ⟨w.heap.size, 4, none⟩ = some (.int .i64 c) := bkc hb1
          have hB : Below w.heap.size w w1 := bthen (by repeat (first | exact Below.refl _ _ | exact hB | refine Below.drew ?_ | refine below_drewN ?_ _ | refine bset ?_ (by simp <;> omega) _ | refine bal ?_ _)) hb1
          have hz : w.heap.size ≤ w1.heap.size := hB.size
          go_wp2_with fail
          refine (cc _).mono ?_
          rintro e w2 ⟨rfl, hb2⟩
          have i0 : w2.cell? ⟨w.heap.size, 0, none⟩ = some (.int .i64 op) := bkc hb2
          have zi0 := cell_lt i0
          have i1 : w2.cell? ⟨w.heap.size, 1, none⟩ = some (.int .i64 t) := bkc hb2
          have i2 : w2.cell? ⟨w.heap.size, 2, none⟩ = some (.int .i64 a) := bkc hb2
          have i3 : w2.cell? ⟨w.heap.size, 3, none⟩ = some (.int .i64 b) := bkc hb2
          have i4 : w2.cell? ⟨w.heap.size, 4, none⟩ = some (.int .i64 c) := bkc hb2
          have hB : Below w.heap.size w w2 := bthen (by repeat (first | exact Below.refl _ _ | exact hB | refine Below.drew ?_ | refine below_drewN ?_ _ | refine bset ?_ (by simp <;> omega) _ | refine bal ?_ _)) hb2
          have hz : w.heap.size ≤ w2.heap.size := hB.size
          go_wp2_with fail
          refine (ac _).mono ?_
          rintro e w3 ⟨rfl, q0, hb3⟩
          have i0 : w3.cell? ⟨w.heap.size, 0, none⟩ = some (.int .i64 op) := bkc hb3
          have zi0 := cell_lt i0
          have i1 : w3.cell? ⟨w.heap.size, 1, none⟩ = some (.int .i64 t) := bkc hb3
          have i2 : w3.cell? ⟨w.heap.size, 2, none⟩ = some (.int .i64 a) := bkc hb3
          have i3 : w3.cell? ⟨w.heap.size, 3, none⟩ = some (.int .i64 b) := bkc hb3
          have i4 : w3.cell? ⟨w.heap.size, 4, none⟩ = some (.int .i64 c) := bkc hb3
          have hB : Below w.heap.size w w3 := bthen (by repeat (first | exact Below.refl _ _ | exact hB | refine Below.drew ?_ | refine below_drewN ?_ _ | refine bset ?_ (by simp <;> omega) _ | refine bal ?_ _)) hb3
          have hz : w.heap.size ≤ w3.heap.size := hB.size
          go_wp2
          refine wp_loop_rounds 2 ?_
          rw [rounds_succ]
          go_wp2
          rw [rounds_succ]
          go_wp2
          go_ret
          exact ⟨bret (by rw [HM.out]), hB⟩
        · have HM := Lib.hid (show mayB op t a b c regs = false from mayB_no (fun k => hr ⟨k.2.2.2.2.2.2.1, k.2.2.2.2.2.2.2.1⟩))
          clear hT hC hb
          by_cases r1 : a < 0
          ·
            go_enter Tryd.func45, Tryd.ntmps45
            go_wp2_with fail
            refine (tc _).mono ?_
            rintro e w1 ⟨rfl, hb1⟩
            have i0 : w1.cell? ⟨w.heap.size, 0, none⟩ = some (.int .i64 op) := bkc hb1
            have zi0 := cell_lt i0
            have i1 : w1.cell? ⟨w.heap.size, 1, none⟩ = some (.int .i64 t) := bkc hb1
            have i2 : w1.cell? ⟨w.heap.size, 2, none⟩ = some (.int .i64 a) := bkc hb1
            have i3 : w1.cell? ⟨w.heap.size, 3, none⟩ = some (.int .i64 b) := bkc hb1
            have i4 : w1.cell? ⟨w.heap.size, 4, none⟩ = some (.int .i64 c) := bkc hb1
            have hB : Below w.heap.size w w1 := bthen (by repeat (first | exact Below.refl _ _ | exact hB | refine Below.drew ?_ | refine below_drewN ?_ _ | refine bset ?_ (by simp <;> omega) _ | refine bal ?_ _)) hb1
            have hz : w.heap.size ≤ w1.heap.size := hB.size
            go_wp2_with fail
            refine (cc _).mono ?_
            rintro e w2 ⟨rfl, hb2⟩
            have i0 : w2.cell? ⟨w.heap.size, 0, none⟩ = some (.int .i64 op) := bkc hb2
            have zi0 := cell_lt i0
            have i1 : w2.cell? ⟨w.heap.size, 1, none⟩ = some (.int .i64 t) := bkc hb2
            have i2 : w2.cell? ⟨w.heap.size, 2, none⟩ = some (.int .i64 a) := bkc hb2
            have i3 : w2.cell? ⟨w.heap.size, 3, none⟩ = some (.int .i64 b) := bkc hb2
            have i4 : w2.cell? ⟨w.heap.size, 4, none⟩ = some (.int .i64 c) := bkc hb2
            have hB : Below w.heap.size w w2 := bthen (by repeat (first | exact Below.refl _ _ | exact hB | refine Below.drew ?_ | refine below_drewN ?_ _ | refine bset ?_ (by simp <;> omega) _ | refine bal ?_ _)) hb2
            have hz : w.heap.size ≤ w2.heap.size := hB.size
            go_wp2_with fail
            refine (ac _).mono ?_
            rintro e w3 ⟨rfl, q0, hb3⟩
            have i0 : w3.cell? ⟨w.heap.size, 0, none⟩ = some (.int .i64 op) := bkc hb3
            have zi0 := cell_lt i0
            have i1 : w3.cell? ⟨w.heap.size, 1, none⟩ = some (.int .i64 t) := bkc hb3
            have i2 : w3.cell? ⟨w.heap.size, 2, none⟩ = some (.int .i64 a) := bkc hb3
            have i3 : w3.cell? ⟨w.heap.size, 3, none⟩ = some (.int .i64 b) := bkc hb3
            have i4 : w3.cell? ⟨w.heap.size, 4, none⟩ = some (.int .i64 c) := bkc hb3
            have hB : Below w.heap.size w w3 := bthen (by repeat (first | exact Below.refl _ _ | exact hB | refine Below.drew ?_ | refine below_drewN ?_ _ | refine bset ?_ (by simp <;> omega) _ | refine bal ?_ _)) hb3
            have hz : w.heap.size ≤ w3.heap.size := hB.size
            go_wp2
            refine wp_loop_rounds 2 ?_
            rw [rounds_succ]
            go_wp2
            go_ret
            exact ⟨bret (by rw [HM.out]), hB⟩
          · have r2 : regs ≤ a := by omega
            go_enter Tryd.func45, Tryd.ntmps45
            go_wp2_with fail
            refine (tc _).mono ?_
            rintro e w1 ⟨rfl, hb1⟩
            have i0 : w1.cell? ⟨w.heap.size, 0, none⟩ = some (.int .i64 op) := bkc hb1
            have zi0 := cell_lt i0
            have i1 : w1.cell? ⟨w.heap.size, 1, none⟩ = some (.int .i64 t) := bkc hb1
            have i2 : w1.cell? ⟨w.heap.size, 2, none⟩ = some (.int .i64 a) := bkc hb1
            have i3 : w1.cell? ⟨w.heap.size, 3, none⟩ = some (.int .i64 b) := bkc hb1
            have i4 : w1.cell? ⟨w.heap.size, 4, none⟩ = some (.int .i64 c) := bkc hb1
            have hB : Below w.heap.size w w1 := bthen (by repeat (first | exact Below.refl _ _ | exact hB | refine Below.drew ?_ | refine below_drewN ?_ _ | refine bset ?_ (by simp <;> omega) _ | refine bal ?_ _)) hb1
            have hz : w.heap.size ≤ w1.heap.size := hB.size
            go_wp2_with fail
            refine (cc _).mono ?_
            rintro e w2 ⟨rfl, hb2⟩
            have i0 : w2.cell? ⟨w.heap.size, 0, none⟩ = some (.int .i64 op) := bkc hb2
            have zi0 := cell_lt i0
            have i1 : w2.cell? ⟨w.heap.size, 1, none⟩ = some (.int .i64 t) := bkc hb2
            have i2 : w2.cell? ⟨w.heap.size, 2, none⟩ = some (.int .i64 a) := bkc hb2
            have i3 : w2.cell? ⟨w.heap.size, 3, none⟩ = some (.int .i64 b) := bkc hb2
            have i4 : w2.cell? ⟨w.heap.size, 4, none⟩ = some (.int .i64 c) := bkc hb2
            have hB : Below w.heap.size w w2 := bthen (by repeat (first | exact Below.refl _ _ | exact hB | refine Below.drew ?_ | refine below_drewN ?_ _ | refine bset ?_ (by simp <;> omega) _ | refine bal ?_ _)) hb2
            have hz : w.heap.size ≤ w2.heap.size := hB.size
            go_wp2_with fail
            refine (ac _).mono ?_
            rintro e w3 ⟨rfl, q0, hb3⟩
            have i0 : w3.cell? ⟨w.heap.size, 0, none⟩ = some (.int .i64 op) := bkc hb3
            have zi0 := cell_lt i0
            have i1 : w3.cell? ⟨w.heap.size, 1, none⟩ = some (.int .i64 t) := bkc hb3
            have i2 : w3.cell? ⟨w.heap.size, 2, none⟩ = some (.int .i64 a) := bkc hb3
            have i3 : w3.cell? ⟨w.heap.size, 3, none⟩ = some (.int .i64 b) := bkc hb3
            have i4 : w3.cell? ⟨w.heap.size, 4, none⟩ = some (.int .i64 c) := bkc hb3
            have hB : Below w.heap.size w w3 := bthen (by repeat (first | exact Below.refl _ _ | exact hB | refine Below.drew ?_ | refine below_drewN ?_ _ | refine bset ?_ (by simp <;> omega) _ | refine bal ?_ _)) hb3
            have hz : w.heap.size ≤ w3.heap.size := hB.size
            go_wp2
            refine wp_loop_rounds 2 ?_
            rw [rounds_succ]
            go_wp2
            go_ret
            exact ⟨bret (by rw [HM.out]), hB⟩
    · have hbz : (b != 0) = true := by simpa using hb
      have HM := Lib.hid (show mayB op t a b c regs = false from mayB_no (fun k => hb (k.2.2.2.2.1 hT)))
      clear hT hb cc
      go_enter Tryd.func45, Tryd.ntmps45
      go_wp2_with fail
      refine (tc _).mono ?_
      rintro e w1 ⟨rfl, hb1⟩
      have i0 : w1.cell? ⟨w.heap.size, 0, none⟩ = some (.int .i64 op) := bkc hb1
      have zi0 := cell_lt i0
      have i1 : w1.cell? ⟨w.heap.size, 1, none⟩ = some (.int .i64 t) := bkc hb1
      have i2 : w1.cell? ⟨w.heap.size, 2, none⟩ = some (.int .i64 a) := bkc hb1
      have i3 : w1.cell? ⟨w.heap.size, 3, none⟩ = some (.int .i64 b) := bkc hb1
      have i4 : w1.cell? ⟨w.heap.size, 4, none⟩ = some (.int .i64 c) := bkc hb1
      have hB : Below w.heap.size w w1 := bthen (by repeat (first | exact Below.refl _ _ | exact hB | refine Below.drew ?_ | refine below_drewN ?_ _ | refine bset ?_ (by simp <;> omega) _ | refine bal ?_ _)) hb1
      have hz : w.heap.size ≤ w1.heap.size := hB.size
      go_wp2
      go_ret
      exact ⟨bret (by rw [HM.out]), hB⟩
  | true =>
    have tc := tc _ hT
    have h34 : op = 3 ∨ op = 4 := by simpa [twoB] using hT
    cases hC : constB op c with
    | false =>
      have HM := Lib.hid (show mayB op t a b c regs = false from mayB_no (by rw [hC]; simp))
      have cc := cc _ hC
      clear hT hC h34
      go_enter Tryd.func45, Tryd.ntmps45
      go_wp2_with fail
      refine (tc _).mono ?_
      rintro e w1 ⟨rfl, hb1⟩
      have i0 : w1.cell? ⟨w.heap.size, 0, none⟩ = some (.int .i64 op) := bkc hb1
      have zi0 := cell_lt i0
      have i1 : w1.cell? ⟨w.heap.size, 1, none⟩ = some (.int .i64 t) := bkc hb1
      have i2 : w1.cell? ⟨w.heap.size, 2, none⟩ = some (.int .i64 a) := bkc hb1
      have i3 : w1.cell? ⟨w.heap.size, 3, none⟩ = some (.int .i64 b) := bkc hb1
      have i4 : w1.cell? ⟨w.heap.size, 4, none⟩ = some (.int .i64 c) := bkc hb1
      have hB : Below w.heap.size w w1 := bthen (by repeat (first | exact Below.refl _ _ | exact hB | refine Below.drew ?_ | refine below_drewN ?_ _ | refine bset ?_ (by simp <;> omega) _ | refine bal ?_ _)) hb1
      have hz : w.heap.size ≤ w1.heap.size := hB.size
      go_wp2_with fail
      refine (cc _).mono ?_
      rintro e w2 ⟨rfl, hb2⟩
      have i0 : w2.cell? ⟨w.heap.size, 0, none⟩ = some (.int .i64 op) := bkc hb2
      have zi0 := cell_lt i0
      have i1 : w2.cell? ⟨w.heap.size, 1, none⟩ = some (.int .i64 t) := bkc hb2
      have i2 : w2.cell? ⟨w.heap.size, 2, none⟩ = some (.int .i64 a) := bkc hb2
      have i3 : w2.cell? ⟨w.heap.size, 3, none⟩ = some (.int .i64 b) := bkc hb2
      have i4 : w2.cell? ⟨w.heap.size, 4, none⟩ = some (.int .i64 c) := bkc hb2
      have hB : Below w.heap.size w w2 := bthen (by repeat (first | exact Below.refl _ _ | exact hB | refine Below.drew ?_ | refine below_drewN ?_ _ | refine bset ?_ (by simp <;> omega) _ | refine bal ?_ _)) hb2
      have hz : w.heap.size ≤ w2.heap.size := hB.size
      go_wp2
      go_ret
      exact ⟨bret (by rw [HM.out]), hB⟩
    | true =>
      have cc := cc _ hC
      have ac := fun W => asks_two op t a b c W h34
      have HM := Lib.hid (show mayB op t a b c regs = decide (0 ≤ a ∧ a < regs ∧ 0 ≤ b ∧ b < regs) by
        rw [Bool.eq_iff_iff, mayB_iff, decide_eq_true_iff, hT, hC]
        constructor
        · exact fun k => ⟨k.2.2.2.2.2.2.1, k.2.2.2.2.2.2.2.1, (k.2.2.2.2.2.2.2.2 rfl).1, (k.2.2.2.2.2.2.2.2 rfl).2⟩
        · exact fun k => ⟨by omega, by omega, by omega, by omega, fun h => by (cases h), rfl, k.1, k.2.1, fun _ => k.2.2⟩)
      clear hT hC h34
      go_enter Tryd.func45, Tryd.ntmps45
      go_wp2_with fail
      refine (tc _).mono ?_
      rintro e w1 ⟨rfl, hb1⟩
      have i0 : w1.cell? ⟨w.heap.size, 0, none⟩ = some (.int .i64 op) := bkc hb1
      have zi0 := cell_lt i0
      have i1 : w1.cell? ⟨w.heap.size, 1, none⟩ = some (.int .i64 t) := bkc hb1
      have i2 : w1.cell? ⟨w.heap.size, 2, none⟩ = some (.int .i64 a) := bkc hb1
      have i3 : w1.cell? ⟨w.heap.size, 3, none⟩ = some (.int .i64 b) := bkc hb1
      have i4 : w1.cell? ⟨w.heap.size, 4, none⟩ = some (.int .i64 c) := bkc hb1
      have hB : Below w.heap.size w w1 := bthen (by repeat (first | exact Below.refl _ _ | exact hB | refine Below.drew ?_ | refine below_drewN ?_ _ | refine bset ?_ (by simp <;> omega) _ | refine bal ?_ _)) hb1
      have hz : w.heap.size ≤ w1.heap.size := hB.size
      go_wp2_with fail
      refine (cc _).mono ?_
      rintro e w2 ⟨rfl, hb2⟩
      have i0 : w2.cell? ⟨w.heap.size, 0, none⟩ = some (.int .i64 op) := bkc hb2
      have zi0 := cell_lt i0
      have i1 : w2.cell? ⟨w.heap.size, 1, none⟩ = some (.int .i64 t) := bkc hb2
      have i2 : w2.cell? ⟨w.heap.size, 2, none⟩ = some (.int .i64 a) := bkc hb2
      have i3 : w2.cell? ⟨w.heap.size, 3, none⟩ = some (.int .i64 b) := bkc hb2
      have i4 : w2.cell? ⟨w.heap.size, 4, none⟩ = some (.int .i64 c) := bkc hb2
      have hB : Below w.heap.size w w2 := bthen (by repeat (first | exact Below.refl _ _ | exact hB | refine Below.drew ?_ | refine below_drewN ?_ _ | refine bset ?_ (by simp <;> omega) _ | refine bal ?_ _)) hb2
      have hz : w.heap.size ≤ w2.heap.size := hB.size
      go_wp2_with fail
      refine (ac _).mono ?_
      rintro e w3 ⟨rfl, q0, q1, hb3⟩
      have i0 : w3.cell? ⟨w.heap.size, 0, none⟩ = some (.int .i64 op) := bkc hb3
      have zi0 := cell_lt i0
      have i1 : w3.cell? ⟨w.heap.size, 1, none⟩ = some (.int .i64 t) := bkc hb3
      have i2 : w3.cell? ⟨w.heap.size, 2, none⟩ = some (.int .i64 a) := bkc hb3
      have i3 : w3.cell? ⟨w.heap.size, 3, none⟩ = some (.int .i64 b) := bkc hb3
      have i4 : w3.cell? ⟨w.heap.size, 4, none⟩ = some (.int .i64 c) := bkc hb3
      have hB : Below w.heap.size w w3 := bthen (by repeat (first | exact Below.refl _ _ | exact hB | refine Below.drew ?_ | refine below_drewN ?_ _ | refine bset ?_ (by simp <;> omega) _ | refine bal ?_ _)) hb3
      have hz : w.heap.size ≤ w3.heap.size := hB.size
      go_wp2
      refine wp_loop_rounds 3 ?_
      rw [rounds_succ]
      go_wp2
      all_goals first | go_ret | (rw [rounds_succ]; go_wp2)
      all_goals first | (exact ⟨bret (by rw [HM.out, eq_comm, decide_eq_false_iff_not]; omega), hB⟩) | go_ret | (rw [rounds_succ]; go_wp2)
      all_goals first | (exact ⟨bret (by rw [HM.out, eq_comm, decide_eq_false_iff_not]; omega), hB⟩) | (exact ⟨bret (by rw [HM.out, eq_comm, decide_eq_true_iff]; omega), hB⟩) | (go_ret; exact ⟨bret (by rw [HM.out, eq_comm, decide_eq_true_iff]; omega), hB⟩)
end Go.Proofs.YtdllbdfchloijaaDoor

/- prog: Check. -/
namespace Go.Proofs.YtdllbdfchloijaaDoor
open Go.ChangeShapes Go.WideShapes Go.ChangeAt Go.RowKit
set_option linter.unusedVariables false
set_option linter.unusedSimpArgs false
/-- a list of ints in memory -/
def IntsV (w : World) (a : Option Addr) (cap : Nat) (L : List Int) : Prop := L = [] ∨ ∃ b off, a = some ⟨b, off, none⟩ ∧ L.length ≤ cap ∧ ∀ k, k < L.length → w.cell? ⟨b, off + k, none⟩ = some (.int .i64 (L.getD k 0))
theorem IntsV.keep {w w' : World} {a : Option Addr} {cap : Nat} {L : List Int} (h : IntsV w a cap L) (hb : Below w.heap.size w w') : IntsV w' a cap L := by
  rcases h with h | ⟨b, off, h1, h2, h3⟩
  · exact .inl h
  · exact .inr ⟨b, off, h1, h2, fun k hk => bkeep hb (h3 k hk)⟩
/-- a list of instructions in memory -/
structure InsAt (w : World) (b off : Nat) (i : Ins) : Prop where
  c0 : w.cell? ⟨b, off, none⟩ = some (.int .i64 i.op)
  c1 : w.cell? ⟨b, off + 1, none⟩ = some (.int .i64 i.to)
  c2 : w.cell? ⟨b, off + 2, none⟩ = some (.int .i64 i.a)
  c3 : w.cell? ⟨b, off + 3, none⟩ = some (.int .i64 i.b)
  c4 : w.cell? ⟨b, off + 4, none⟩ = some (.int .i64 i.c)
def InsV (w : World) (a : Option Addr) (cap : Nat) (L : List Ins) : Prop := L = [] ∨ ∃ b off, a = some ⟨b, off, none⟩ ∧ L.length ≤ cap ∧ ∀ k, k < L.length → InsAt w b (off + k * 5) (L.getD k default)
theorem InsAt.keep {w w' : World} {b off : Nat} {i : Ins} (h : InsAt w b off i) (hb : Below w.heap.size w w') : InsAt w' b off i := ⟨bkeep hb h.c0, bkeep hb h.c1, bkeep hb h.c2, bkeep hb h.c3, bkeep hb h.c4⟩
theorem InsV.keep {w w' : World} {a : Option Addr} {cap : Nat} {L : List Ins} (h : InsV w a cap L) (hb : Below w.heap.size w w') : InsV w' a cap L := by
  rcases h with h | ⟨b, off, h1, h2, h3⟩
  · exact .inl h
  · exact .inr ⟨b, off, h1, h2, fun k hk => (h3 k hk).keep hb⟩
/-- a slice's address: in a block of the type t, from B on -/
def FromA (B : Nat) (t : TypeId) (w : World) (a : Option Addr) : Prop := ∀ p, a = some p → B ≤ p.block ∧ typOf w p.block = some t
theorem FromA.nil (B : Nat) (t : TypeId) (w : World) : FromA B t w none := fun _ e => by cases e
theorem FromA.keep {B : Nat} {t : TypeId} {w w' : World} {a : Option Addr} (h : FromA B t w a) (hb : Below w.heap.size w w') : FromA B t w' a := fun p e => ⟨(h p e).1, typ_keep (h p e).2 hb⟩
theorem FromA.mono {B C : Nat} {t : TypeId} {w : World} {a : Option Addr} (h : FromA B t w a) (hc : C ≤ B) : FromA C t w a := fun p e => ⟨Nat.le_trans hc (h p e).1, (h p e).2⟩
theorem FromA.set {B : Nat} {t : TypeId} {w : World} {a : Option Addr} (h : FromA B t w a) (q : Addr) (v : Value) : FromA B t (w.setCell q v) a := fun p e => ⟨(h p e).1, by rw [typ_set]; exact (h p e).2⟩
theorem IntsV.far {w : World} {a : Option Addr} {cap : Nat} {L : List Int} (h : IntsV w a cap L) {q : Addr} (hq : ∀ p, a = some p → p.block ≠ q.block) (v : Value) : IntsV (w.setCell q v) a cap L := by
  rcases h with h | ⟨b, off, h1, h2, h3⟩
  · exact .inl h
  · exact .inr ⟨b, off, h1, h2, fun k hk => cell_far (h3 k hk) (fun e => hq _ h1 (by rw [e])) v⟩
theorem InsV.far {w : World} {a : Option Addr} {cap : Nat} {L : List Ins} (h : InsV w a cap L) {q : Addr} (hq : ∀ p, a = some p → p.block ≠ q.block) (v : Value) : InsV (w.setCell q v) a cap L := by
  rcases h with h | ⟨b, off, h1, h2, h3⟩
  · exact .inl h
  · refine .inr ⟨b, off, h1, h2, fun k hk => ?_⟩
    have hn : ∀ o, q ≠ (⟨b, o, Option.none⟩ : Addr) := fun o e => hq _ h1 (by rw [e])
    obtain ⟨c0, c1, c2, c3, c4⟩ := h3 k hk
    exact ⟨cell_far c0 (hn _) v, cell_far c1 (hn _) v, cell_far c2 (hn _) v, cell_far c3 (hn _) v, cell_far c4 (hn _) v⟩
/-- what Check asks of a program -/
structure ProgOk (ins regs : Int) (code : List Ins) (outs : List Int) : Prop where
  i1 : 1 ≤ ins
  i2 : ins ≤ regs
  r1 : regs ≤ 128
  c1 : code.length ≤ 16384
  o1 : 1 ≤ outs.length
  o2 : outs.length ≤ 128
  os : ∀ k, k < outs.length → 0 ≤ outs.getD k 0 ∧ outs.getD k 0 < regs
  cs : ∀ k, k < code.length → mayB (code.getD k default).op (code.getD k default).to (code.getD k default).a (code.getD k default).b (code.getD k default).c regs = true

set_option maxRecDepth 100000 in
set_option maxHeartbeats 8000000 in
theorem check_c (ins regs : Int) (ca oa : Option Addr) (cc oc : Nat) (code : List Ins) (outs : List Int) (w : World) (hc : InsV w ca cc code) (ho : IntsV w oa oc outs) :
    Calls Tryd.prog 32 #[.agg #[.int .i64 ins, .int .i64 regs, .slice ca code.length cc, .slice oa outs.length oc]] w fun e w' => ∃ r s : Int, e = .returned (.tuple #[.int .i64 r, .int .i64 s]) ∧ ((ProgOk ins regs code outs ∧ r = 0 ∧ s = 0) ∨ (¬ ProgOk ins regs code outs ∧ s = 80)) ∧ Below w.heap.size w w' := by
  by_cases h1 : ins < 1
  · have HM := Lib.hid (show ¬ ProgOk ins regs code outs from fun k => by have := k.i1; omega)
    go_enter Tryd.func32, Tryd.ntmps32
    go_wp2
    refine bodyPost_ret (v := .tuple #[.int .i64 (-1), .int .i64 80]) (by simp [results, Tryd.results32, go_sem]) rfl ⟨_, _, rfl, .inr ⟨HM.out, rfl⟩, ?_⟩
    repeat (first | exact Below.refl _ _ | assumption | refine bal ?_ _)
  by_cases h2 : regs < ins
  · have HM := Lib.hid (show ¬ ProgOk ins regs code outs from fun k => by have := k.i2; omega)
    go_enter Tryd.func32, Tryd.ntmps32
    go_wp2
    refine bodyPost_ret (v := .tuple #[.int .i64 (-1), .int .i64 80]) (by simp [results, Tryd.results32, go_sem]) rfl ⟨_, _, rfl, .inr ⟨HM.out, rfl⟩, ?_⟩
    repeat (first | exact Below.refl _ _ | assumption | refine bal ?_ _)
  by_cases h3 : 128 < regs
  · have HM := Lib.hid (show ¬ ProgOk ins regs code outs from fun k => by have := k.r1; omega)
    go_enter Tryd.func32, Tryd.ntmps32
    go_wp2
    refine bodyPost_ret (v := .tuple #[.int .i64 (-1), .int .i64 80]) (by simp [results, Tryd.results32, go_sem]) rfl ⟨_, _, rfl, .inr ⟨HM.out, rfl⟩, ?_⟩
    repeat (first | exact Below.refl _ _ | assumption | refine bal ?_ _)
  by_cases h4 : (16384 : Int) < (code.length : Int)
  · have HM := Lib.hid (show ¬ ProgOk ins regs code outs from fun k => by have := k.c1; omega)
    go_enter Tryd.func32, Tryd.ntmps32
    go_wp2
    refine bodyPost_ret (v := .tuple #[.int .i64 (-1), .int .i64 80]) (by simp [results, Tryd.results32, go_sem]) rfl ⟨_, _, rfl, .inr ⟨HM.out, rfl⟩, ?_⟩
    repeat (first | exact Below.refl _ _ | assumption | refine bal ?_ _)
  by_cases h5 : (outs.length : Int) < 1
  · have HM := Lib.hid (show ¬ ProgOk ins regs code outs from fun k => by have := k.o1; omega)
    go_enter Tryd.func32, Tryd.ntmps32
    go_wp2
    refine bodyPost_ret (v := .tuple #[.int .i64 (-1), .int .i64 80]) (by simp [results, Tryd.results32, go_sem]) rfl ⟨_, _, rfl, .inr ⟨HM.out, rfl⟩, ?_⟩
    repeat (first | exact Below.refl _ _ | assumption | refine bal ?_ _)
  by_cases h6 : (128 : Int) < (outs.length : Int)
  · have HM := Lib.hid (show ¬ ProgOk ins regs code outs from fun k => by have := k.o2; omega)
    go_enter Tryd.func32, Tryd.ntmps32
    go_wp2
    refine bodyPost_ret (v := .tuple #[.int .i64 (-1), .int .i64 80]) (by simp [results, Tryd.results32, go_sem]) rfl ⟨_, _, rfl, .inr ⟨HM.out, rfl⟩, ?_⟩
    repeat (first | exact Below.refl _ _ | assumption | refine bal ?_ _)
  have HH := Lib.hid (And.intro (show 1 ≤ ins ∧ ins ≤ regs ∧ regs ≤ 128 by omega) (show code.length ≤ 16384 ∧ 1 ≤ outs.length ∧ outs.length ≤ 128 by omega))
  have hB := Below.refl w.heap.size w
  go_enter Tryd.func32, Tryd.ntmps32
  go_wp2
  refine wp_name fun w0 hW0 => ?_
  have p0 : w0.cell? ⟨w.heap.size, 0, none⟩ = some (.int .i64 ins) := by rw [hW0]; exact (by first | assumption | exact cell_new (by with_reducible first | rfl | (simp; done) | (simp; omega)) rfl | (repeat (first | assumption | exact cell_new (by with_reducible first | rfl | (simp; done) | (simp; omega)) rfl | refine cell_alloc ?_ _ | refine cell_drew ?_ | refine cell_drewN ?_ _ | refine cell_far ?_ (by simp) _ | (refine cell_far ?_ (by simp <;> omega) _))) | simp [go_sem, *])
  have zp0 := cell_lt p0
  have p1 : w0.cell? ⟨w.heap.size, 1, none⟩ = some (.int .i64 regs) := by rw [hW0]; exact (by first | assumption | exact cell_new (by with_reducible first | rfl | (simp; done) | (simp; omega)) rfl | (repeat (first | assumption | exact cell_new (by with_reducible first | rfl | (simp; done) | (simp; omega)) rfl | refine cell_alloc ?_ _ | refine cell_drew ?_ | refine cell_drewN ?_ _ | refine cell_far ?_ (by simp) _ | (refine cell_far ?_ (by simp <;> omega) _))) | simp [go_sem, *])
  have p2 : w0.cell? ⟨w.heap.size, 2, none⟩ = some (.slice ca code.length cc) := by rw [hW0]; exact (by first | assumption | exact cell_new (by with_reducible first | rfl | (simp; done) | (simp; omega)) rfl | (repeat (first | assumption | exact cell_new (by with_reducible first | rfl | (simp; done) | (simp; omega)) rfl | refine cell_alloc ?_ _ | refine cell_drew ?_ | refine cell_drewN ?_ _ | refine cell_far ?_ (by simp) _ | (refine cell_far ?_ (by simp <;> omega) _))) | simp [go_sem, *])
  have p3 : w0.cell? ⟨w.heap.size, 3, none⟩ = some (.slice oa outs.length oc) := by rw [hW0]; exact (by first | assumption | exact cell_new (by with_reducible first | rfl | (simp; done) | (simp; omega)) rfl | (repeat (first | assumption | exact cell_new (by with_reducible first | rfl | (simp; done) | (simp; omega)) rfl | refine cell_alloc ?_ _ | refine cell_drew ?_ | refine cell_drewN ?_ _ | refine cell_far ?_ (by simp) _ | (refine cell_far ?_ (by simp <;> omega) _))) | simp [go_sem, *])
  have hB : Below w.heap.size w w0 := by rw [hW0]; repeat (first | exact Below.refl _ _ | exact hB | refine Below.drew ?_ | refine below_drewN ?_ _ | refine bset ?_ (by simp <;> omega) _ | refine bal ?_ _)
  have hz : w.heap.size ≤ w0.heap.size := hB.size
  clear hW0
  clear h1 h2 h3 h4 h5 h6
  go_loopw [44] (fun x wr => ∃ k : Nat, k ≤ outs.length ∧ x = .int .i64 k ∧ wr = w0 ∧ Hid (∀ j, j < k → 0 ≤ outs.getD j 0 ∧ outs.getD j 0 < regs)) (fun x _ => outs.length - (intOf x).toNat)
  case atStart => exact ⟨0, Nat.zero_le _, rfl, rfl, Lib.hid (fun j hj => by omega)⟩
  case round =>
    obtain ⟨k, hk, rfl, rfl, hall⟩ := hrel
    have hk8 : outs.length ≤ 128 := HH.out.2.2.2
    by_cases hlt : k < outs.length
    · rcases ho.keep hB with h0 | ⟨b, off, rfl, hcap, hcell⟩
      · rw [h0] at hlt; simp at hlt
      have q0 := hcell k hlt
      have HK := Lib.hid (show ∀ v, v = outs.getD k 0 → ¬ (0 ≤ v ∧ v < regs) → ¬ ProgOk ins regs code outs from fun v hv h hp => h (by rw [hv]; exact hp.os k hlt))
      have HS := Lib.hid (show ∀ v, v = outs.getD k 0 → (0 ≤ v ∧ v < regs) → ∀ j, j < k + 1 → 0 ≤ outs.getD j 0 ∧ outs.getD j 0 < regs from fun v hv h j hj => by
        by_cases e : j = k
        · subst e; rw [← hv]; exact h
        · exact hall.out j (by omega))
      obtain ⟨r, hr⟩ : ∃ r, r = outs.getD k 0 := ⟨_, rfl⟩
      rw [← hr] at q0
      have HR := Lib.hid hr
      clear hr hcell
      by_cases r1 : r < 0
      · have HM := Lib.hid (HK.out r HR.out (by omega))
        go_wp2
        refine bodyPost_ret (v := .tuple #[.int .i64 (-1), .int .i64 80]) (by simp [results, Tryd.results32, go_sem]) rfl ⟨_, _, rfl, .inr ⟨HM.out, rfl⟩, ?_⟩
        repeat (first | exact Below.refl _ _ | assumption | refine bal ?_ _)
      by_cases r2 : regs ≤ r
      · have HM := Lib.hid (HK.out r HR.out (by omega))
        go_wp2
        refine bodyPost_ret (v := .tuple #[.int .i64 (-1), .int .i64 80]) (by simp [results, Tryd.results32, go_sem]) rfl ⟨_, _, rfl, .inr ⟨HM.out, rfl⟩, ?_⟩
        repeat (first | exact Below.refl _ _ | assumption | refine bal ?_ _)
      go_wp2
      exact ⟨⟨k + 1, by omega, by go_num, by first | rfl | trivial, Lib.hid (HS.out r HR.out (by omega))⟩, by simp [intOf]; omega⟩
    · obtain rfl : k = outs.length := by omega
      have HO := Lib.hid hall.out
      clear hall hlt hk
      have hrl : wr.heap.size = wr.heap.size := rfl
      go_wp2
      go_loopw [60] (fun x wi => ∃ k : Nat, k ≤ code.length ∧ x = .int .i64 k ∧ Below wr.heap.size wr wi ∧ Hid (∀ j, j < k → mayB (code.getD j default).op (code.getD j default).to (code.getD j default).a (code.getD j default).b (code.getD j default).c regs = true)) (fun x _ => code.length - (intOf x).toNat)
      case atStart => exact ⟨0, Nat.zero_le _, rfl, Below.refl _ _, Lib.hid (fun j hj => by omega)⟩
      case round =>
        rename World => wi
        obtain ⟨k, hk, rfl, hBi, hall⟩ := hrel
        have hk9 : code.length ≤ 16384 := HH.out.2.1
        have hBB := bthen hB hBi
        have p0 := bkeep hBi p0
        have p1 := bkeep hBi p1
        have zp := cell_lt p0
        by_cases hlt : k < code.length
        · rcases hc.keep hBB with h0 | ⟨b, off, rfl, hcap, hcell⟩
          · rw [h0] at hlt; simp at hlt
          obtain ⟨q0, q1, q2, q3, q4⟩ := hcell k hlt
          have HK := Lib.hid (show ∀ i : Ins, i = code.getD k default → mayB i.op i.to i.a i.b i.c regs = false → ¬ ProgOk ins regs code outs from fun i hi h hp => by
            have := hp.cs k hlt
            rw [← hi, h] at this; cases this)
          have HS := Lib.hid (show ∀ i : Ins, i = code.getD k default → mayB i.op i.to i.a i.b i.c regs = true → ∀ j, j < k + 1 → mayB (code.getD j default).op (code.getD j default).to (code.getD j default).a (code.getD j default).b (code.getD j default).c regs = true from fun i hi h j hj => by
            by_cases e : j = k
            · subst e; rw [← hi]; exact h
            · exact hall.out j (by omega))
          obtain ⟨i, hi⟩ : ∃ i, i = code.getD k default := ⟨_, rfl⟩
          rw [← hi] at q0 q1 q2 q3 q4
          have HI := Lib.hid hi
          clear hi hcell
          obtain ⟨op, t, ia, ib, ic⟩ := i
          dsimp only at q0 q1 q2 q3 q4
          have hmc := fun W => may_c op t ia ib ic regs W
          cases hm : mayB op t ia ib ic regs with
          | true =>
            have HSM := Lib.hid (HS.out _ HI.out hm)
            rw [hm] at hmc
            clear hm
            go_wp2_with fail
            refine (hmc _).mono ?_
            rintro e w5 ⟨rfl, hb5⟩
            have hB5 := bthen (bal hBi _) hb5
            go_wp2
            exact ⟨⟨k + 1, by omega, by go_num, hB5, HSM⟩, by simp [intOf]; omega⟩
          | false =>
            have HM := Lib.hid (HK.out _ HI.out hm)
            rw [hm] at hmc
            clear hm
            go_wp2_with fail
            refine (hmc _).mono ?_
            rintro e w5 ⟨rfl, hb5⟩
            have hB5 := bthen (bal hBi _) hb5
            go_wp2
            refine bodyPost_ret (v := .tuple #[.int .i64 k, .int .i64 80]) (by simp [results, Tryd.results32, go_sem]) rfl ⟨_, _, rfl, .inr ⟨HM.out, rfl⟩, bthen hB hB5⟩
        · obtain rfl : k = code.length := by omega
          have HM := Lib.hid (show ProgOk ins regs code outs from ⟨HH.out.1.1, HH.out.1.2.1, HH.out.1.2.2, HH.out.2.1, HH.out.2.2.1, HH.out.2.2.2, HO.out, hall.out⟩)
          go_wp2
          refine bodyPost_ret (v := .tuple #[.int .i64 0, .int .i64 0]) (by simp [results, Tryd.results32, go_sem]) rfl ⟨_, _, rfl, .inl ⟨HM.out, rfl, rfl⟩, hBB⟩
end Go.Proofs.YtdllbdfchloijaaDoor

/- slices.Clone at []int. -/
namespace Go.Proofs.YtdllbdfchloijaaDoor
open Go.ChangeShapes Go.WideShapes Go.ChangeAt Go.RowKit
set_option linter.unusedVariables false
set_option linter.unusedSimpArgs false
def icel (L : List Int) : List Value := L.map fun x => .int .i64 x
theorem icel_len (L : List Int) : (icel L).length = L.length := by simp [icel]
theorem icel_get (L : List Int) (k : Nat) (h : k < L.length) : (icel L)[k]? = some (.int .i64 (L.getD k 0)) := by simp [icel, h]
theorem icel_one (L : List Int) : ∀ v ∈ icel L, v.oneCell' = true := by
  intro v hv; simp only [icel, List.mem_map] at hv; obtain ⟨x, _, rfl⟩ := hv; rfl
theorem infoI : (Tryd.prog.info? 3).map (fun i => (i.zero, i.size, i.bytes)) = some (some (.int .i64 0), 1, 8) := by kernel_rfl
theorem elI : Elt Tryd.prog 48 3 1 8 := Elt.mk' Tryd.underlying48 infoI rfl (by decide) (by decide)
theorem own_ints {w : World} {base : Nat} {v : Value} {n : Nat} {L : List Int} (h : w.ownsRow base 3 1 v n (icel L)) : ∃ a c, v = .slice a L.length c ∧ IntsV w a c L ∧ FromA base 3 w a := by
  have hn : L.length = n := by have := h.1; rw [icel_len] at this; omega
  subst hn
  have h' := h
  rcases h.2 with ⟨rfl, h1⟩ | ⟨g, cap, cur, rfl, hb, hgg, hc, _⟩
  · exact ⟨none, 0, by rw [h1], .inl (List.length_eq_zero_iff.1 h1), FromA.nil _ _ _⟩
  · refine ⟨_, _, rfl, .inr ⟨g, 0, rfl, hc, fun k hk => ?_⟩, fun p e => by cases e; exact ⟨hb, by unfold typOf; rw [hgg]⟩⟩
    rw [Nat.zero_add, World.ownsRow.cellAt h' k (by omega), icel_get L k hk]
end Go.Proofs.YtdllbdfchloijaaDoor

/- slices.Clone at []Instr. -/
namespace Go.Proofs.YtdllbdfchloijaaDoor
open Go.ChangeShapes Go.WideShapes Go.ChangeAt Go.RowKit
set_option linter.unusedVariables false
set_option linter.unusedSimpArgs false
def Ins.cel (i : Ins) : List Value := [.int .i64 i.op, .int .i64 i.to, .int .i64 i.a, .int .i64 i.b, .int .i64 i.c]
def pcel (L : List Ins) : List Value := L.flatMap Ins.cel
theorem pcel_len (L : List Ins) : (pcel L).length = L.length * 5 := by
  induction L with
  | nil => rfl
  | cons i L ih => simp only [pcel, List.flatMap_cons, List.length_append, List.length_cons] at ih ⊢; rw [ih]; simp [Ins.cel]; omega
theorem pcel_get (L : List Ins) : ∀ k r, k < L.length → r < 5 → (pcel L)[k * 5 + r]? = (Ins.cel (L.getD k default))[r]? := by
  induction L with
  | nil => intro k r hk; simp at hk
  | cons x L ih =>
    intro k r hk hr
    cases k with
    | zero =>
      have e : pcel (x :: L) = Ins.cel x ++ pcel L := rfl
      rw [e, Nat.zero_mul, Nat.zero_add, List.getElem?_append_left (by simp [Ins.cel]; omega)]; rfl
    | succ k =>
      have e : pcel (x :: L) = Ins.cel x ++ pcel L := rfl
      have h5 : (Ins.cel x).length = 5 := rfl
      rw [e, List.getElem?_append_right (by rw [h5]; omega), h5, show (k + 1) * 5 + r - 5 = k * 5 + r by omega, ih k r (by simpa using hk) hr]
      rfl
theorem pcel_one (L : List Ins) : ∀ v ∈ pcel L, v.oneCell' = true := by
  intro v hv
  simp only [pcel, List.mem_flatMap] at hv
  obtain ⟨x, _, hx⟩ := hv
  simp [Ins.cel] at hx
  rcases hx with rfl | rfl | rfl | rfl | rfl <;> rfl
theorem InsAt.at {w : World} {b off : Nat} {i : Ins} (h : InsAt w b off i) {r : Nat} (hr : r < 5) {u : Value} (hu : (Ins.cel i)[r]? = some u) : w.cell? ⟨b, off + r, none⟩ = some u := by
  have : r = 0 ∨ r = 1 ∨ r = 2 ∨ r = 3 ∨ r = 4 := by omega
  rcases this with rfl | rfl | rfl | rfl | rfl <;> (simp [Ins.cel] at hu; subst hu)
  · exact h.c0
  · exact h.c1
  · exact h.c2
  · exact h.c3
  · exact h.c4
theorem infoP : (Tryd.prog.info? 53).map (fun i => (i.zero, i.size, i.bytes)) = some (some (.agg #[.int .i64 0, .int .i64 0, .int .i64 0, .int .i64 0, .int .i64 0]), 5, 40) := by kernel_rfl
theorem elP : Elt Tryd.prog 47 53 5 40 := Elt.mk' Tryd.underlying47 infoP rfl (by decide) (by decide)
theorem own_ins {w : World} {base : Nat} {v : Value} {n : Nat} {L : List Ins} (h : w.ownsRow base 53 5 v n (pcel L)) : ∃ a c, v = .slice a L.length c ∧ InsV w a c L ∧ FromA base 53 w a := by
  have hn : L.length = n := by have := h.1; rw [pcel_len] at this; omega
  subst hn
  have h' := h
  rcases h.2 with ⟨rfl, h1⟩ | ⟨g, cap, cur, rfl, hb, hgg, hc, _⟩
  · exact ⟨none, 0, by rw [h1], .inl (List.length_eq_zero_iff.1 h1), FromA.nil _ _ _⟩
  · refine ⟨_, _, rfl, .inr ⟨g, 0, rfl, hc, fun k hk => ?_⟩, fun p e => by cases e; exact ⟨hb, by unfold typOf; rw [hgg]⟩⟩
    have key : ∀ r, r < 5 → w.cell? ⟨g, 0 + k * 5 + r, none⟩ = (Ins.cel (L.getD k default))[r]? := fun r hr => by
      rw [Nat.zero_add, World.ownsRow.cellAt h' (k * 5 + r) (by omega), pcel_get L k r hk hr]
    exact ⟨key 0 (by omega), key 1 (by omega), key 2 (by omega), key 3 (by omega), key 4 (by omega)⟩
end Go.Proofs.YtdllbdfchloijaaDoor

/- prog: Copy. -/
namespace Go.Proofs.YtdllbdfchloijaaDoor
open Go.ChangeShapes Go.WideShapes Go.ChangeAt Go.RowKit
set_option linter.unusedVariables false
set_option linter.unusedSimpArgs false
section
variable {w w0 : World} {a : Option Addr} {cap B C : Nat} {t : TypeId}
end
end Go.Proofs.YtdllbdfchloijaaDoor

