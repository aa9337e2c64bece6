/- Texts of this seat, laid together: PrgB, PrgC, NumS, LimbE. What each theorem proves, and under which conditions, its statement says. -/
import Derived.Test.YtbmaffijncapiaaGreatDoorB02
set_option maxRecDepth 100000
set_option maxHeartbeats 32000000
set_option linter.unusedVariables false
set_option linter.unusedSimpArgs false
namespace Go.Proofs.YtbmaffijncapiaaGreatDoor
open Go.ChangeShapes Go.WideShapes Go.ChangeAt Go.RowKit
def mayB (op t a b c regs : Int) : Bool := decide (1 ≤ op ∧ op ≤ 8 ∧ 0 ≤ t ∧ t < regs ∧ (twoB op = false → b = 0) ∧ constB op c = true ∧ 0 ≤ a ∧ a < regs ∧ (twoB op = true → 0 ≤ b ∧ b < regs))
theorem mayB_iff (op t a b c regs : Int) : mayB op t a b c regs = true ↔ (1 ≤ op ∧ op ≤ 8 ∧ 0 ≤ t ∧ t < regs ∧ (twoB op = false → b = 0) ∧ constB op c = true ∧ 0 ≤ a ∧ a < regs ∧ (twoB op = true → 0 ≤ b ∧ b < regs)) := by unfold mayB; exact decide_eq_true_iff
theorem mayB_no {op t a b c regs : Int} (h : ¬ (1 ≤ op ∧ op ≤ 8 ∧ 0 ≤ t ∧ t < regs ∧ (twoB op = false → b = 0) ∧ constB op c = true ∧ 0 ≤ a ∧ a < regs ∧ (twoB op = true → 0 ≤ b ∧ b < regs))) : mayB op t a b c regs = false := by
 rw [Bool.eq_false_iff]; exact fun k => h ((mayB_iff ..).1 k)

theorem may_c (op t a b c regs : Int) (w : World) : Calls Tryz.prog 189 #[.agg #[.int .i64 op, .int .i64 t, .int .i64 a, .int .i64 b, .int .i64 c], .int .i64 regs] w fun e w' => e = .returned (.bool (mayB op t a b c regs)) ∧ Below w.heap.size w w' := by
 by_cases h1 : op < 1
 · have HM := hZ (show mayB op t a b c regs = false from mayB_no (by omega))
   go_enter Tryz.func189, Tryz.ntmps189
   go_wp2
   go_ret
   exact ⟨bret (by rw [HM.out]), by repeat (first | exact Below.refl _ _ | assumption | refine bset ?_ (by simp) _ | refine bal ?_ _)⟩
 by_cases h2 : 8 < op
 · have HM := hZ (show mayB op t a b c regs = false from mayB_no (by omega))
   go_enter Tryz.func189, Tryz.ntmps189
   go_wp2
   go_ret
   exact ⟨bret (by rw [HM.out]), by repeat (first | exact Below.refl _ _ | assumption | refine bset ?_ (by simp) _ | refine bal ?_ _)⟩
 by_cases h3 : t < 0
 · have HM := hZ (show mayB op t a b c regs = false from mayB_no (by omega))
   go_enter Tryz.func189, Tryz.ntmps189
   go_wp2
   go_ret
   exact ⟨bret (by rw [HM.out]), by repeat (first | exact Below.refl _ _ | assumption | refine bset ?_ (by simp) _ | refine bal ?_ _)⟩
 by_cases h4 : regs ≤ t
 · have HM := hZ (show mayB op t a b c regs = false from mayB_no (by omega))
   go_enter Tryz.func189, Tryz.ntmps189
   go_wp2
   go_ret
   exact ⟨bret (by rw [HM.out]), by repeat (first | exact Below.refl _ _ | assumption | refine bset ?_ (by simp) _ | refine bal ?_ _)⟩
 have hB := Below.refl w.heap.size w
 have tc : ∀ v, twoB op = v → ∀ W, Calls Tryz.prog 216 #[.int .i64 op] W fun e w' => e = .returned (.bool v) ∧ Below W.heap.size W w' := fun v hv W => (two_c op W).mono fun e w' ⟨he, hw⟩ => ⟨by rw [he, hv], by rw [hw]; exact Below.refl _ _⟩
 have cc : ∀ v, constB op c = v → ∀ W, Calls Tryz.prog 238 #[.agg #[.int .i64 op, .int .i64 t, .int .i64 a, .int .i64 b, .int .i64 c]] W fun e w' => e = .returned (.bool v) ∧ Below W.heap.size W w' := fun v hv W => by rw [← hv]; exact constant_c op t a b c W
 cases hT : twoB op with
 | false =>
  have tc := tc _ hT
  by_cases hb : b = 0
  · have hbz : (b != 0) = false := by simpa using hb
    cases hC : constB op c with
    | false =>
     have HM := hZ (show mayB op t a b c regs = false from mayB_no (by rw [hC]; simp))
     have cc := cc _ hC
     clear hT hC hb
     go_enter Tryz.func189, Tryz.ntmps189
     go_wp2_with fail
     refine (tc _).mono ?_
     rintro e w1 ⟨rfl, hb1⟩
     have i0 : w1.cell? ⟨w.heap.size, 0, none⟩ = some (.int .i64 op) := bkc hb1
     have zi0 := cell_lt i0
     have i1 : w1.cell? ⟨w.heap.size, 1, none⟩ = some (.int .i64 t) := bkc hb1
     have i2 : w1.cell? ⟨w.heap.size, 2, none⟩ = some (.int .i64 a) := bkc hb1
     have i3 : w1.cell? ⟨w.heap.size, 3, none⟩ = some (.int .i64 b) := bkc hb1
     have i4 : w1.cell? ⟨w.heap.size, 4, none⟩ = some (.int .i64 c) := bkc hb1
     have hB : Below w.heap.size w w1 := bthen bZ hb1
     have hz := hB.size
     go_wp2_with fail
     refine (cc _).mono ?_
     rintro e w2 ⟨rfl, hb2⟩
     have i0 : w2.cell? ⟨w.heap.size, 0, none⟩ = some (.int .i64 op) := bkc hb2
     have zi0 := cell_lt i0
     have i1 : w2.cell? ⟨w.heap.size, 1, none⟩ = some (.int .i64 t) := bkc hb2
     have i2 : w2.cell? ⟨w.heap.size, 2, none⟩ = some (.int .i64 a) := bkc hb2
     have i3 : w2.cell? ⟨w.heap.size, 3, none⟩ = some (.int .i64 b) := bkc hb2
     have i4 : w2.cell? ⟨w.heap.size, 4, none⟩ = some (.int .i64 c) := bkc hb2
     have hB : Below w.heap.size w w2 := bthen bZ hb2
     have hz := hB.size
     go_wp2
     go_ret
     exact ⟨bret (by rw [HM.out]), hB⟩
    | true =>
     have cc := cc _ hC
     have ac := fun W => asks_one op t a b c W (by omega) (by omega) hT
     by_cases hr : 0 ≤ a ∧ a < regs
     · have HM := hZ (show mayB op t a b c regs = true from (mayB_iff ..).2 ⟨by omega, by omega, by omega, by omega, fun _ => hb, hC, hr.1, hr.2, fun h => by rw [hT] at h; cases h⟩)
       obtain ⟨r1, r2⟩ := hr
       have r1' : ¬ a < 0 := by omega
       have r2' : ¬ regs ≤ a := by omega
       clear hT hC hb
       go_enter Tryz.func189, Tryz.ntmps189
       go_wp2_with fail
       refine (tc _).mono ?_
       rintro e w1 ⟨rfl, hb1⟩
       have i0 : w1.cell? ⟨w.heap.size, 0, none⟩ = some (.int .i64 op) := bkc hb1
       have zi0 := cell_lt i0
       have i1 : w1.cell? ⟨w.heap.size, 1, none⟩ = some (.int .i64 t) := bkc hb1
       have i2 : w1.cell? ⟨w.heap.size, 2, none⟩ = some (.int .i64 a) := bkc hb1
       have i3 : w1.cell? ⟨w.heap.size, 3, none⟩ = some (.int .i64 b) := bkc hb1
       have i4 : w1.cell? ⟨w.heap.size, 4, none⟩ = some (.int .i64 c) := bkc hb1
       have hB : Below w.heap.size w w1 := bthen bZ hb1
       have hz := hB.size
       go_wp2_with fail
       refine (cc _).mono ?_
       rintro e w2 ⟨rfl, hb2⟩
       have i0 : w2.cell? ⟨w.heap.size, 0, none⟩ = some (.int .i64 op) := bkc hb2
       have zi0 := cell_lt i0
       have i1 : w2.cell? ⟨w.heap.size, 1, none⟩ = some (.int .i64 t) := bkc hb2
       have i2 : w2.cell? ⟨w.heap.size, 2, none⟩ = some (.int .i64 a) := bkc hb2
       have i3 : w2.cell? ⟨w.heap.size, 3, none⟩ = some (.int .i64 b) := bkc hb2
       have i4 : w2.cell? ⟨w.heap.size, 4, none⟩ = some (.int .i64 c) := bkc hb2
       have hB : Below w.heap.size w w2 := bthen bZ hb2
       have hz := hB.size
       go_wp2_with fail
       refine (ac _).mono ?_
       rintro e w3 ⟨rfl, q0, hb3⟩
       have i0 : w3.cell? ⟨w.heap.size, 0, none⟩ = some (.int .i64 op) := bkc hb3
       have zi0 := cell_lt i0
       have i1 : w3.cell? ⟨w.heap.size, 1, none⟩ = some (.int .i64 t) := bkc hb3
       have i2 : w3.cell? ⟨w.heap.size, 2, none⟩ = some (.int .i64 a) := bkc hb3
       have i3 : w3.cell? ⟨w.heap.size, 3, none⟩ = some (.int .i64 b) := bkc hb3
       have i4 : w3.cell? ⟨w.heap.size, 4, none⟩ = some (.int .i64 c) := bkc hb3
       have hB : Below w.heap.size w w3 := bthen bZ hb3
       have hz := hB.size
       go_wp2
       refine wp_loop_rounds 2 ?_
       rw [rounds_succ]
       go_wp2
       rw [rounds_succ]
       go_wp2
       go_ret
       exact ⟨bret (by rw [HM.out]), hB⟩
     · have HM := hZ (show mayB op t a b c regs = false from mayB_no (fun k => hr ⟨k.2.2.2.2.2.2.1, k.2.2.2.2.2.2.2.1⟩))
       clear hT hC hb
       by_cases r1 : a < 0
       ·
        go_enter Tryz.func189, Tryz.ntmps189
        go_wp2_with fail
        refine (tc _).mono ?_
        rintro e w1 ⟨rfl, hb1⟩
        have i0 : w1.cell? ⟨w.heap.size, 0, none⟩ = some (.int .i64 op) := bkc hb1
        have zi0 := cell_lt i0
        have i1 : w1.cell? ⟨w.heap.size, 1, none⟩ = some (.int .i64 t) := bkc hb1
        have i2 : w1.cell? ⟨w.heap.size, 2, none⟩ = some (.int .i64 a) := bkc hb1
        have i3 : w1.cell? ⟨w.heap.size, 3, none⟩ = some (.int .i64 b) := bkc hb1
        have i4 : w1.cell? ⟨w.heap.size, 4, none⟩ = some (.int .i64 c) := bkc hb1
        have hB : Below w.heap.size w w1 := bthen bZ hb1
        have hz := hB.size
        go_wp2_with fail
        refine (cc _).mono ?_
        rintro e w2 ⟨rfl, hb2⟩
        have i0 : w2.cell? ⟨w.heap.size, 0, none⟩ = some (.int .i64 op) := bkc hb2
        have zi0 := cell_lt i0
        have i1 : w2.cell? ⟨w.heap.size, 1, none⟩ = some (.int .i64 t) := bkc hb2
        have i2 : w2.cell? ⟨w.heap.size, 2, none⟩ = some (.int .i64 a) := bkc hb2
        have i3 : w2.cell? ⟨w.heap.size, 3, none⟩ = some (.int .i64 b) := bkc hb2
        have i4 : w2.cell? ⟨w.heap.size, 4, none⟩ = some (.int .i64 c) := bkc hb2
        have hB : Below w.heap.size w w2 := bthen bZ hb2
        have hz := hB.size
        go_wp2_with fail
        refine (ac _).mono ?_
        rintro e w3 ⟨rfl, q0, hb3⟩
        have i0 : w3.cell? ⟨w.heap.size, 0, none⟩ = some (.int .i64 op) := bkc hb3
        have zi0 := cell_lt i0
        have i1 : w3.cell? ⟨w.heap.size, 1, none⟩ = some (.int .i64 t) := bkc hb3
        have i2 : w3.cell? ⟨w.heap.size, 2, none⟩ = some (.int .i64 a) := bkc hb3
        have i3 : w3.cell? ⟨w.heap.size, 3, none⟩ = some (.int .i64 b) := bkc hb3
        have i4 : w3.cell? ⟨w.heap.size, 4, none⟩ = some (.int .i64 c) := bkc hb3
        have hB : Below w.heap.size w w3 := bthen bZ hb3
        have hz := hB.size
        go_wp2
        refine wp_loop_rounds 2 ?_
        rw [rounds_succ]
        go_wp2
        go_ret
        exact ⟨bret (by rw [HM.out]), hB⟩
       · have r2 : regs ≤ a := by omega
         go_enter Tryz.func189, Tryz.ntmps189
         go_wp2_with fail
         refine (tc _).mono ?_
         rintro e w1 ⟨rfl, hb1⟩
         have i0 : w1.cell? ⟨w.heap.size, 0, none⟩ = some (.int .i64 op) := bkc hb1
         have zi0 := cell_lt i0
         have i1 : w1.cell? ⟨w.heap.size, 1, none⟩ = some (.int .i64 t) := bkc hb1
         have i2 : w1.cell? ⟨w.heap.size, 2, none⟩ = some (.int .i64 a) := bkc hb1
         have i3 : w1.cell? ⟨w.heap.size, 3, none⟩ = some (.int .i64 b) := bkc hb1
         have i4 : w1.cell? ⟨w.heap.size, 4, none⟩ = some (.int .i64 c) := bkc hb1
         have hB : Below w.heap.size w w1 := bthen bZ hb1
         have hz := hB.size
         go_wp2_with fail
         refine (cc _).mono ?_
         rintro e w2 ⟨rfl, hb2⟩
         have i0 : w2.cell? ⟨w.heap.size, 0, none⟩ = some (.int .i64 op) := bkc hb2
         have zi0 := cell_lt i0
         have i1 : w2.cell? ⟨w.heap.size, 1, none⟩ = some (.int .i64 t) := bkc hb2
         have i2 : w2.cell? ⟨w.heap.size, 2, none⟩ = some (.int .i64 a) := bkc hb2
         have i3 : w2.cell? ⟨w.heap.size, 3, none⟩ = some (.int .i64 b) := bkc hb2
         have i4 : w2.cell? ⟨w.heap.size, 4, none⟩ = some (.int .i64 c) := bkc hb2
         have hB : Below w.heap.size w w2 := bthen bZ hb2
         have hz := hB.size
         go_wp2_with fail
         refine (ac _).mono ?_
         rintro e w3 ⟨rfl, q0, hb3⟩
         have i0 : w3.cell? ⟨w.heap.size, 0, none⟩ = some (.int .i64 op) := bkc hb3
         have zi0 := cell_lt i0
         have i1 : w3.cell? ⟨w.heap.size, 1, none⟩ = some (.int .i64 t) := bkc hb3
         have i2 : w3.cell? ⟨w.heap.size, 2, none⟩ = some (.int .i64 a) := bkc hb3
         have i3 : w3.cell? ⟨w.heap.size, 3, none⟩ = some (.int .i64 b) := bkc hb3
         have i4 : w3.cell? ⟨w.heap.size, 4, none⟩ = some (.int .i64 c) := bkc hb3
         have hB : Below w.heap.size w w3 := bthen bZ hb3
         have hz := hB.size
         go_wp2
         refine wp_loop_rounds 2 ?_
         rw [rounds_succ]
         go_wp2
         go_ret
         exact ⟨bret (by rw [HM.out]), hB⟩
  · have hbz : (b != 0) = true := by simpa using hb
    have HM := hZ (show mayB op t a b c regs = false from mayB_no (fun k => hb (k.2.2.2.2.1 hT)))
    clear hT hb cc
    go_enter Tryz.func189, Tryz.ntmps189
    go_wp2_with fail
    refine (tc _).mono ?_
    rintro e w1 ⟨rfl, hb1⟩
    have i0 : w1.cell? ⟨w.heap.size, 0, none⟩ = some (.int .i64 op) := bkc hb1
    have zi0 := cell_lt i0
    have i1 : w1.cell? ⟨w.heap.size, 1, none⟩ = some (.int .i64 t) := bkc hb1
    have i2 : w1.cell? ⟨w.heap.size, 2, none⟩ = some (.int .i64 a) := bkc hb1
    have i3 : w1.cell? ⟨w.heap.size, 3, none⟩ = some (.int .i64 b) := bkc hb1
    have i4 : w1.cell? ⟨w.heap.size, 4, none⟩ = some (.int .i64 c) := bkc hb1
    have hB : Below w.heap.size w w1 := bthen bZ hb1
    have hz := hB.size
    go_wp2
    go_ret
    exact ⟨bret (by rw [HM.out]), hB⟩
 | true =>
  have tc := tc _ hT
  have h34 : op = 3 ∨ op = 4 := by simpa [twoB] using hT
  cases hC : constB op c with
  | false =>
   have HM := hZ (show mayB op t a b c regs = false from mayB_no (by rw [hC]; simp))
   have cc := cc _ hC
   clear hT hC h34
   go_enter Tryz.func189, Tryz.ntmps189
   go_wp2_with fail
   refine (tc _).mono ?_
   rintro e w1 ⟨rfl, hb1⟩
   have i0 : w1.cell? ⟨w.heap.size, 0, none⟩ = some (.int .i64 op) := bkc hb1
   have zi0 := cell_lt i0
   have i1 : w1.cell? ⟨w.heap.size, 1, none⟩ = some (.int .i64 t) := bkc hb1
   have i2 : w1.cell? ⟨w.heap.size, 2, none⟩ = some (.int .i64 a) := bkc hb1
   have i3 : w1.cell? ⟨w.heap.size, 3, none⟩ = some (.int .i64 b) := bkc hb1
   have i4 : w1.cell? ⟨w.heap.size, 4, none⟩ = some (.int .i64 c) := bkc hb1
   have hB : Below w.heap.size w w1 := bthen bZ hb1
   have hz := hB.size
   go_wp2_with fail
   refine (cc _).mono ?_
   rintro e w2 ⟨rfl, hb2⟩
   have i0 : w2.cell? ⟨w.heap.size, 0, none⟩ = some (.int .i64 op) := bkc hb2
   have zi0 := cell_lt i0
   have i1 : w2.cell? ⟨w.heap.size, 1, none⟩ = some (.int .i64 t) := bkc hb2
   have i2 : w2.cell? ⟨w.heap.size, 2, none⟩ = some (.int .i64 a) := bkc hb2
   have i3 : w2.cell? ⟨w.heap.size, 3, none⟩ = some (.int .i64 b) := bkc hb2
   have i4 : w2.cell? ⟨w.heap.size, 4, none⟩ = some (.int .i64 c) := bkc hb2
   have hB : Below w.heap.size w w2 := bthen bZ hb2
   have hz := hB.size
   go_wp2
   go_ret
   exact ⟨bret (by rw [HM.out]), hB⟩
  | true =>
   have cc := cc _ hC
   have ac := fun W => asks_two op t a b c W h34
   have HM := hZ (show mayB op t a b c regs = decide (0 ≤ a ∧ a < regs ∧ 0 ≤ b ∧ b < regs) by
    rw [Bool.eq_iff_iff, mayB_iff, decide_eq_true_iff, hT, hC]
    constructor
    · exact fun k => ⟨k.2.2.2.2.2.2.1, k.2.2.2.2.2.2.2.1, (k.2.2.2.2.2.2.2.2 rfl).1, (k.2.2.2.2.2.2.2.2 rfl).2⟩
    · exact fun k => ⟨by omega, by omega, by omega, by omega, fun h => by (cases h), rfl, k.1, k.2.1, fun _ => k.2.2⟩)
   clear hT hC h34
   go_enter Tryz.func189, Tryz.ntmps189
   go_wp2_with fail
   refine (tc _).mono ?_
   rintro e w1 ⟨rfl, hb1⟩
   have i0 : w1.cell? ⟨w.heap.size, 0, none⟩ = some (.int .i64 op) := bkc hb1
   have zi0 := cell_lt i0
   have i1 : w1.cell? ⟨w.heap.size, 1, none⟩ = some (.int .i64 t) := bkc hb1
   have i2 : w1.cell? ⟨w.heap.size, 2, none⟩ = some (.int .i64 a) := bkc hb1
   have i3 : w1.cell? ⟨w.heap.size, 3, none⟩ = some (.int .i64 b) := bkc hb1
   have i4 : w1.cell? ⟨w.heap.size, 4, none⟩ = some (.int .i64 c) := bkc hb1
   have hB : Below w.heap.size w w1 := bthen bZ hb1
   have hz := hB.size
   go_wp2_with fail
   refine (cc _).mono ?_
   rintro e w2 ⟨rfl, hb2⟩
   have i0 : w2.cell? ⟨w.heap.size, 0, none⟩ = some (.int .i64 op) := bkc hb2
   have zi0 := cell_lt i0
   have i1 : w2.cell? ⟨w.heap.size, 1, none⟩ = some (.int .i64 t) := bkc hb2
   have i2 : w2.cell? ⟨w.heap.size, 2, none⟩ = some (.int .i64 a) := bkc hb2
   have i3 : w2.cell? ⟨w.heap.size, 3, none⟩ = some (.int .i64 b) := bkc hb2
   have i4 : w2.cell? ⟨w.heap.size, 4, none⟩ = some (.int .i64 c) := bkc hb2
   have hB : Below w.heap.size w w2 := bthen bZ hb2
   have hz := hB.size
   go_wp2_with fail
   refine (ac _).mono ?_
   rintro e w3 ⟨rfl, q0, q1, hb3⟩
   have i0 : w3.cell? ⟨w.heap.size, 0, none⟩ = some (.int .i64 op) := bkc hb3
   have zi0 := cell_lt i0
   have i1 : w3.cell? ⟨w.heap.size, 1, none⟩ = some (.int .i64 t) := bkc hb3
   have i2 : w3.cell? ⟨w.heap.size, 2, none⟩ = some (.int .i64 a) := bkc hb3
   have i3 : w3.cell? ⟨w.heap.size, 3, none⟩ = some (.int .i64 b) := bkc hb3
   have i4 : w3.cell? ⟨w.heap.size, 4, none⟩ = some (.int .i64 c) := bkc hb3
   have hB : Below w.heap.size w w3 := bthen bZ hb3
   have hz := hB.size
   go_wp2
   refine wp_loop_rounds 3 ?_
   rw [rounds_succ]
   go_wp2
   all_goals first | go_ret | (rw [rounds_succ]; go_wp2)
   all_goals first | (exact ⟨bret (by rw [HM.out, eq_comm, decide_eq_false_iff_not]; omega), hB⟩) | go_ret | (rw [rounds_succ]; go_wp2)
   all_goals first | (exact ⟨bret (by rw [HM.out, eq_comm, decide_eq_false_iff_not]; omega), hB⟩) | (exact ⟨bret (by rw [HM.out, eq_comm, decide_eq_true_iff]; omega), hB⟩) | (go_ret; exact ⟨bret (by rw [HM.out, eq_comm, decide_eq_true_iff]; omega), hB⟩)
def IntsV (w : World) (a : Option Addr) (cap : Nat) (L : List Int) : Prop := L = [] ∨ ∃ b off, a = some ⟨b, off, none⟩ ∧ L.length ≤ cap ∧ ∀ k, k < L.length → w.cell? ⟨b, off + k, none⟩ = some (.int .i64 (L.getD k 0))
theorem IntsV.keep {w w' : World} {a : Option Addr} {cap : Nat} {L : List Int} (h : IntsV w a cap L) (hb : Below w.heap.size w w') : IntsV w' a cap L := by
 rcases h with h | ⟨b, off, h1, h2, h3⟩
 · exact .inl h
 · exact .inr ⟨b, off, h1, h2, fun k hk => bkeep hb (h3 k hk)⟩
structure InsAt (w : World) (b off : Nat) (i : Ins) : Prop where
 c0 : w.cell? ⟨b, off, none⟩ = some (.int .i64 i.op)
 c1 : w.cell? ⟨b, off + 1, none⟩ = some (.int .i64 i.to)
 c2 : w.cell? ⟨b, off + 2, none⟩ = some (.int .i64 i.a)
 c3 : w.cell? ⟨b, off + 3, none⟩ = some (.int .i64 i.b)
 c4 : w.cell? ⟨b, off + 4, none⟩ = some (.int .i64 i.c)
def InsV (w : World) (a : Option Addr) (cap : Nat) (L : List Ins) : Prop := L = [] ∨ ∃ b off, a = some ⟨b, off, none⟩ ∧ L.length ≤ cap ∧ ∀ k, k < L.length → InsAt w b (off + k * 5) (L.getD k default)
theorem InsAt.keep {w w' : World} {b off : Nat} {i : Ins} (h : InsAt w b off i) (hb : Below w.heap.size w w') : InsAt w' b off i := ⟨bkeep hb h.c0, bkeep hb h.c1, bkeep hb h.c2, bkeep hb h.c3, bkeep hb h.c4⟩
theorem InsV.keep {w w' : World} {a : Option Addr} {cap : Nat} {L : List Ins} (h : InsV w a cap L) (hb : Below w.heap.size w w') : InsV w' a cap L := by
 rcases h with h | ⟨b, off, h1, h2, h3⟩
 · exact .inl h
 · exact .inr ⟨b, off, h1, h2, fun k hk => (h3 k hk).keep hb⟩
structure ProgOk (ins regs : Int) (code : List Ins) (outs : List Int) : Prop where
 i1 : 1 ≤ ins
 i2 : ins ≤ regs
 r1 : regs ≤ 128
 c1 : code.length ≤ 16384
 o1 : 1 ≤ outs.length
 o2 : outs.length ≤ 128
 os : ∀ k, k < outs.length → 0 ≤ outs.getD k 0 ∧ outs.getD k 0 < regs
 cs : ∀ k, k < code.length → mayB (code.getD k default).op (code.getD k default).to (code.getD k default).a (code.getD k default).b (code.getD k default).c regs = true

theorem check_c (ins regs : Int) (ca oa : Option Addr) (cc oc : Nat) (code : List Ins) (outs : List Int) (w : World) (hc : InsV w ca cc code) (ho : IntsV w oa oc outs) :
 Calls Tryz.prog 94 #[.agg #[.int .i64 ins, .int .i64 regs, .slice ca code.length cc, .slice oa outs.length oc]] w fun e w' => ∃ r s : Int, e = .returned (.tuple #[.int .i64 r, .int .i64 s]) ∧ ((ProgOk ins regs code outs ∧ r = 0 ∧ s = 0) ∨ (¬ ProgOk ins regs code outs ∧ s = 80)) ∧ Below w.heap.size w w' := by
 by_cases h1 : ins < 1
 · have HM := hZ (show ¬ ProgOk ins regs code outs from fun k => by have := k.i1; omega)
   go_enter Tryz.func94, Tryz.ntmps94
   go_wp2
   refine bodyPost_ret (v := .tuple #[.int .i64 (-1), .int .i64 80]) (by simp [results, Tryz.results94, go_sem]) rfl ⟨_, _, rfl, .inr ⟨HM.out, rfl⟩, ?_⟩
   repeat (first | exact Below.refl _ _ | assumption | refine bal ?_ _)
 by_cases h2 : regs < ins
 · have HM := hZ (show ¬ ProgOk ins regs code outs from fun k => by have := k.i2; omega)
   go_enter Tryz.func94, Tryz.ntmps94
   go_wp2
   refine bodyPost_ret (v := .tuple #[.int .i64 (-1), .int .i64 80]) (by simp [results, Tryz.results94, go_sem]) rfl ⟨_, _, rfl, .inr ⟨HM.out, rfl⟩, ?_⟩
   repeat (first | exact Below.refl _ _ | assumption | refine bal ?_ _)
 by_cases h3 : 128 < regs
 · have HM := hZ (show ¬ ProgOk ins regs code outs from fun k => by have := k.r1; omega)
   go_enter Tryz.func94, Tryz.ntmps94
   go_wp2
   refine bodyPost_ret (v := .tuple #[.int .i64 (-1), .int .i64 80]) (by simp [results, Tryz.results94, go_sem]) rfl ⟨_, _, rfl, .inr ⟨HM.out, rfl⟩, ?_⟩
   repeat (first | exact Below.refl _ _ | assumption | refine bal ?_ _)
 by_cases h4 : (16384 : Int) < (code.length : Int)
 · have HM := hZ (show ¬ ProgOk ins regs code outs from fun k => by have := k.c1; omega)
   go_enter Tryz.func94, Tryz.ntmps94
   go_wp2
   refine bodyPost_ret (v := .tuple #[.int .i64 (-1), .int .i64 80]) (by simp [results, Tryz.results94, go_sem]) rfl ⟨_, _, rfl, .inr ⟨HM.out, rfl⟩, ?_⟩
   repeat (first | exact Below.refl _ _ | assumption | refine bal ?_ _)
 by_cases h5 : (outs.length : Int) < 1
 · have HM := hZ (show ¬ ProgOk ins regs code outs from fun k => by have := k.o1; omega)
   go_enter Tryz.func94, Tryz.ntmps94
   go_wp2
   refine bodyPost_ret (v := .tuple #[.int .i64 (-1), .int .i64 80]) (by simp [results, Tryz.results94, go_sem]) rfl ⟨_, _, rfl, .inr ⟨HM.out, rfl⟩, ?_⟩
   repeat (first | exact Below.refl _ _ | assumption | refine bal ?_ _)
 by_cases h6 : (128 : Int) < (outs.length : Int)
 · have HM := hZ (show ¬ ProgOk ins regs code outs from fun k => by have := k.o2; omega)
   go_enter Tryz.func94, Tryz.ntmps94
   go_wp2
   refine bodyPost_ret (v := .tuple #[.int .i64 (-1), .int .i64 80]) (by simp [results, Tryz.results94, go_sem]) rfl ⟨_, _, rfl, .inr ⟨HM.out, rfl⟩, ?_⟩
   repeat (first | exact Below.refl _ _ | assumption | refine bal ?_ _)
 have HH := hZ (And.intro (show 1 ≤ ins ∧ ins ≤ regs ∧ regs ≤ 128 by omega) (show code.length ≤ 16384 ∧ 1 ≤ outs.length ∧ outs.length ≤ 128 by omega))
 have hB := Below.refl w.heap.size w
 go_enter Tryz.func94, Tryz.ntmps94
 go_wp2
 refine wp_name fun w0 hW0 => ?_
 have p0 : w0.cell? ⟨w.heap.size, 0, none⟩ = some (.int .i64 ins) := bkn hW0
 have zp0 := cell_lt p0
 have p1 : w0.cell? ⟨w.heap.size, 1, none⟩ = some (.int .i64 regs) := bkn hW0
 have p2 : w0.cell? ⟨w.heap.size, 2, none⟩ = some (.slice ca code.length cc) := bkn hW0
 have p3 : w0.cell? ⟨w.heap.size, 3, none⟩ = some (.slice oa outs.length oc) := bkn hW0
 have hB : Below w.heap.size w w0 := by rw [hW0]; repeat (first|exact bzR _ _|exact hB|refine bzD ?_|refine bzN ?_|refine bzS ?_|refine bzA ?_)
 have hz := hB.size
 clear hW0
 clear h1 h2 h3 h4 h5 h6
 go_loopw [44] (fun x wr => ∃ k : Nat, k ≤ outs.length ∧ x = .int .i64 k ∧ wr = w0 ∧ Hid (∀ j, j < k → 0 ≤ outs.getD j 0 ∧ outs.getD j 0 < regs)) (fun x _ => outs.length - (intOf x).toNat)
 case atStart => exact ⟨0, Nat.zero_le _, rfl, rfl, hZ (fun j hj => by omega)⟩
 case round =>
  obtain ⟨k, hk, rfl, rfl, hall⟩ := hrel
  have hk8 : outs.length ≤ 128 := HH.out.2.2.2
  by_cases hlt : k < outs.length
  · rcases ho.keep hB with h0 | ⟨b, off, rfl, hcap, hcell⟩
    · rw [h0] at hlt; simp at hlt
    have q0 := hcell k hlt
    have HK := hZ (show ∀ v, v = outs.getD k 0 → ¬ (0 ≤ v ∧ v < regs) → ¬ ProgOk ins regs code outs from fun v hv h hp => h (by rw [hv]; exact hp.os k hlt))
    have HS := hZ (show ∀ v, v = outs.getD k 0 → (0 ≤ v ∧ v < regs) → ∀ j, j < k + 1 → 0 ≤ outs.getD j 0 ∧ outs.getD j 0 < regs from fun v hv h j hj => by
     by_cases e : j = k
     · subst e; rw [← hv]; exact h
     · exact hall.out j (by omega))
    obtain ⟨r, hr⟩ : ∃ r, r = outs.getD k 0 := ⟨_, rfl⟩
    rw [← hr] at q0
    have HR := hZ hr
    clear hr hcell
    by_cases r1 : r < 0
    · have HM := hZ (HK.out r HR.out (by omega))
      go_wp2
      refine bodyPost_ret (v := .tuple #[.int .i64 (-1), .int .i64 80]) (by simp [results, Tryz.results94, go_sem]) rfl ⟨_, _, rfl, .inr ⟨HM.out, rfl⟩, ?_⟩
      repeat (first | exact Below.refl _ _ | assumption | refine bal ?_ _)
    by_cases r2 : regs ≤ r
    · have HM := hZ (HK.out r HR.out (by omega))
      go_wp2
      refine bodyPost_ret (v := .tuple #[.int .i64 (-1), .int .i64 80]) (by simp [results, Tryz.results94, go_sem]) rfl ⟨_, _, rfl, .inr ⟨HM.out, rfl⟩, ?_⟩
      repeat (first | exact Below.refl _ _ | assumption | refine bal ?_ _)
    go_wp2
    exact ⟨⟨k + 1, by omega, by go_num, by first | rfl | trivial, hZ (HS.out r HR.out (by omega))⟩, by simp [intOf]; omega⟩
  · obtain rfl : k = outs.length := by omega
    have HO := hZ hall.out
    clear hall hlt hk
    have hrl : wr.heap.size = wr.heap.size := rfl
    go_wp2
    go_loopw [60] (fun x wi => ∃ k : Nat, k ≤ code.length ∧ x = .int .i64 k ∧ Below wr.heap.size wr wi ∧ Hid (∀ j, j < k → mayB (code.getD j default).op (code.getD j default).to (code.getD j default).a (code.getD j default).b (code.getD j default).c regs = true)) (fun x _ => code.length - (intOf x).toNat)
    case atStart => exact ⟨0, Nat.zero_le _, rfl, Below.refl _ _, hZ (fun j hj => by omega)⟩
    case round =>
     rename World => wi
     obtain ⟨k, hk, rfl, hBi, hall⟩ := hrel
     have hk9 : code.length ≤ 16384 := HH.out.2.1
     have hBB := bthen hB hBi
     have p0 := bkeep hBi p0
     have p1 := bkeep hBi p1
     have zp := cell_lt p0
     by_cases hlt : k < code.length
     · rcases hc.keep hBB with h0 | ⟨b, off, rfl, hcap, hcell⟩
       · rw [h0] at hlt; simp at hlt
       obtain ⟨q0, q1, q2, q3, q4⟩ := hcell k hlt
       have HK := hZ (show ∀ i : Ins, i = code.getD k default → mayB i.op i.to i.a i.b i.c regs = false → ¬ ProgOk ins regs code outs from fun i hi h hp => by
        have := hp.cs k hlt
        rw [← hi, h] at this; cases this)
       have HS := hZ (show ∀ i : Ins, i = code.getD k default → mayB i.op i.to i.a i.b i.c regs = true → ∀ j, j < k + 1 → mayB (code.getD j default).op (code.getD j default).to (code.getD j default).a (code.getD j default).b (code.getD j default).c regs = true from fun i hi h j hj => by
        by_cases e : j = k
        · subst e; rw [← hi]; exact h
        · exact hall.out j (by omega))
       obtain ⟨i, hi⟩ : ∃ i, i = code.getD k default := ⟨_, rfl⟩
       rw [← hi] at q0 q1 q2 q3 q4
       have HI := hZ hi
       clear hi hcell
       obtain ⟨op, t, ia, ib, ic⟩ := i
       dsimp only at q0 q1 q2 q3 q4
       have hmc := fun W => may_c op t ia ib ic regs W
       cases hm : mayB op t ia ib ic regs with
       | true =>
        have HSM := hZ (HS.out _ HI.out hm)
        rw [hm] at hmc
        clear hm
        go_wp2_with fail
        refine (hmc _).mono ?_
        rintro e w5 ⟨rfl, hb5⟩
        have hB5 := bthen (bal hBi _) hb5
        go_wp2
        exact ⟨⟨k + 1, by omega, by go_num, hB5, HSM⟩, by simp [intOf]; omega⟩
       | false =>
        have HM := hZ (HK.out _ HI.out hm)
        rw [hm] at hmc
        clear hm
        go_wp2_with fail
        refine (hmc _).mono ?_
        rintro e w5 ⟨rfl, hb5⟩
        have hB5 := bthen (bal hBi _) hb5
        go_wp2
        refine bodyPost_ret (v := .tuple #[.int .i64 k, .int .i64 80]) (by simp [results, Tryz.results94, go_sem]) rfl ⟨_, _, rfl, .inr ⟨HM.out, rfl⟩, bthen hB hB5⟩
     · obtain rfl : k = code.length := by omega
       have HM := hZ (show ProgOk ins regs code outs from ⟨HH.out.1.1, HH.out.1.2.1, HH.out.1.2.2, HH.out.2.1, HH.out.2.2.1, HH.out.2.2.2, HO.out, hall.out⟩)
       go_wp2
       refine bodyPost_ret (v := .tuple #[.int .i64 0, .int .i64 0]) (by simp [results, Tryz.results94, go_sem]) rfl ⟨_, _, rfl, .inl ⟨HM.out, rfl, rfl⟩, hBB⟩
end Go.Proofs.YtbmaffijncapiaaGreatDoor
namespace Go.Proofs.YtbmaffijncapiaaGreatDoor.Num

theorem val_set0 {l : List Nat} {k : Nat} (x : Nat) (hk : k < l.length) (h0 : l.getD k 0 = 0) : val (l.set k x) = val l + x * BB ^ k := by
 have := val_set x hk
 rw [h0] at this
 omega
theorem take_over {l : List Nat} {k : Nat} (hk : l.length ≤ k) : val (l.take (k + 1)) = val (l.take k) := by
 rw [List.take_of_length_le hk, List.take_of_length_le (by omega)]
theorem getD_set_ne {l : List Nat} {i j x : Nat} (h : i ≠ j) : (l.set i x).getD j 0 = l.getD j 0 := by
 simp [List.getD_eq_getElem?_getD, List.getElem?_set_ne h]
theorem add_step {O A B : List Nat} {i c t : Nat} (hO : i < O.length) (h0 : O.getD i 0 = 0) (hA : i < A.length) (ht : t = c + A.getD i 0 + B.getD i 0)
 (h : val O + c * BB ^ i = val (A.take i) + val (B.take i)) : val (O.set i (t % BB)) + t / BB * BB ^ (i + 1) = val (A.take (i + 1)) + val (B.take (i + 1)) := by
 have hB : val (B.take (i + 1)) = val (B.take i) + B.getD i 0 * BB ^ i := by
  by_cases hb : i < B.length
  · exact val_take_succ hb
  · rw [take_over (by omega)]; simp [hb]
 rw [val_set0 _ hO h0, val_take_succ hA, hB]
 have e : t * BB ^ i = t / BB * BB ^ (i + 1) + t % BB * BB ^ i := by
  conv => lhs; rw [← Nat.div_add_mod t BB, Nat.add_mul]
  rw [Nat.pow_succ]
  congr 1
  ac_rfl
 have e2 : t * BB ^ i = c * BB ^ i + A.getD i 0 * BB ^ i + B.getD i 0 * BB ^ i := by rw [ht]; simp only [Nat.add_mul]
 omega
theorem sub_step {O A B : List Nat} {i br r br' : Nat} (hO : i < O.length) (h0 : O.getD i 0 = 0) (hA : i < A.length) (hr : r + (br + B.getD i 0) = A.getD i 0 + br' * BB)
 (h : val O + val (B.take i) = val (A.take i) - 0 + br * BB ^ i) : val (O.set i r) + val (B.take (i + 1)) = val (A.take (i + 1)) - 0 + br' * BB ^ (i + 1) := by
 have hB : val (B.take (i + 1)) = val (B.take i) + B.getD i 0 * BB ^ i := by
  by_cases hb : i < B.length
  · exact val_take_succ hb
  · rw [take_over (by omega)]; simp [hb]
 rw [val_set0 _ hO h0, val_take_succ hA, hB]
 have e := congrArg (· * BB ^ i) hr
 simp only [Nat.add_mul] at e
 have e2 : br' * BB * BB ^ i = br' * BB ^ (i + 1) := by rw [Nat.pow_succ]; ac_rfl
 omega
theorem sub_end {A B : List Nat} {V br : Nat} (hA : Limbs A) (hle : val B ≤ val A) (h : V + val (B.take A.length) = val (A.take A.length) - 0 + br * BB ^ A.length) (hV : V < BB ^ A.length) : V + val B = val A := by
 rw [List.take_length] at h
 have hlt := val_lt hA
 have hsplit : val B = val (B.take A.length) + BB ^ A.length * val (B.drop A.length) := by
  by_cases hb : A.length ≤ B.length
  · conv => lhs; rw [← List.take_append_drop A.length B, val_append]
    rw [List.length_take, Nat.min_eq_left hb]
  · rw [List.take_of_length_le (by omega), List.drop_eq_nil_of_le (by omega)]; simp [val]
 have hd : val (B.drop A.length) = 0 := by
  apply Nat.eq_zero_of_not_pos
  intro hp
  have : BB ^ A.length * 1 ≤ BB ^ A.length * val (B.drop A.length) := Nat.mul_le_mul_left _ hp
  omega
 rw [hd] at hsplit
 simp at hsplit
 rw [hsplit]
 cases br with
 | zero => omega
 | succ n =>
  exfalso
  have : BB ^ A.length * 1 ≤ BB ^ A.length * (n + 1) := Nat.mul_le_mul_left _ (by omega)
  rw [Nat.mul_comm] at h
  have e : (n + 1) * BB ^ A.length = BB ^ A.length * (n + 1) := Nat.mul_comm _ _
  omega
theorem div_step {O A : List Nat} {j c rest : Nat} (hO : j < O.length) (h0 : O.getD j 0 = 0) (hA : j < A.length)
 (h : val O * c + rest * BB ^ (j + 1) + val (A.take (j + 1)) = val A) :
 val (O.set j ((rest * BB + A.getD j 0) / c)) * c + (rest * BB + A.getD j 0) % c * BB ^ j + val (A.take j) = val A := by
 rw [val_set0 _ hO h0, ← h, val_take_succ hA, Nat.add_mul]
 have e : (rest * BB + A.getD j 0) * BB ^ j = (rest * BB + A.getD j 0) / c * BB ^ j * c + (rest * BB + A.getD j 0) % c * BB ^ j := by
  conv => lhs; rw [← Nat.div_add_mod (rest * BB + A.getD j 0) c, Nat.add_mul]
  congr 1
  ac_rfl
 have e2 : (rest * BB + A.getD j 0) * BB ^ j = rest * BB ^ (j + 1) + A.getD j 0 * BB ^ j := by rw [Nat.add_mul, Nat.pow_succ, Nat.mul_assoc, Nat.mul_comm BB (BB ^ j)]
 omega
theorem div_lt {rest x c : Nat} (hr : rest < c) (hx : x < BB) : (rest * BB + x) / c < BB := by
 apply Nat.div_lt_of_lt_mul
 have : (rest + 1) * BB ≤ c * BB := Nat.mul_le_mul_right _ hr
 rw [Nat.add_mul] at this
 omega
theorem shl_step {O A : List Nat} {i m p x : Nat} (hO : i + m + 1 < O.length) (h0 : O.getD (i + m + 1) 0 = 0) (hA : i < A.length) (hx : x = A.getD i 0)
 (h : val O = val (A.take i) * (p * BB ^ m)) : val ((O.set (i + m) (O.getD (i + m) 0 + x * p % BB)).set (i + m + 1) (x * p / BB)) = val (A.take (i + 1)) * (p * BB ^ m) := by
 have h1 : (O.set (i + m) (O.getD (i + m) 0 + x * p % BB)).getD (i + m + 1) 0 = 0 := by rw [getD_set_ne (by omega), h0]
 rw [val_set0 _ (by simpa using hO) h1]
 have h2 := val_set (l := O) (k := i + m) (O.getD (i + m) 0 + x * p % BB) (by omega)
 rw [Nat.add_mul (O.getD (i + m) 0)] at h2
 rw [val_take_succ hA, ← hx, Nat.add_mul, ← h]
 have e : x * p * BB ^ (i + m) = x * p / BB * BB ^ (i + m + 1) + x * p % BB * BB ^ (i + m) := by
  conv => lhs; rw [← Nat.div_add_mod (x * p) BB, Nat.add_mul]
  rw [Nat.pow_succ]
  congr 1
  ac_rfl
 have e2 : x * BB ^ i * (p * BB ^ m) = x * p * BB ^ (i + m) := by rw [Nat.pow_add]; ac_rfl
 omega
theorem or_low {x k o : Nat} (ho : o < 2 ^ k) (hk : k ≤ 32) : (x * 2 ^ k % BB) ||| o = o + x * 2 ^ k % BB := by
 have e : BB = 2 ^ k * 2 ^ (32 - k) := by rw [← Nat.pow_add, Nat.add_sub_cancel' hk]; rfl
 have e2 : x * 2 ^ k % BB = 2 ^ k * (x % 2 ^ (32 - k)) := by rw [e, Nat.mul_comm x, Nat.mul_mod_mul_left]
 rw [e2, ← Nat.two_pow_add_eq_or_of_lt ho]
 omega
theorem shl_hi {x k : Nat} (hx : x < BB) : x * 2 ^ k / BB < 2 ^ k := by
 apply Nat.div_lt_of_lt_mul
 rw [Nat.mul_comm BB, Nat.mul_comm]
 exact Nat.mul_lt_mul_of_pos_left hx (Nat.pow_pos (by omega))
theorem shl_lo {x k o : Nat} (ho : o < 2 ^ k) (hk : k ≤ 32) : o + x * 2 ^ k % BB < BB := by
 have e : BB = 2 ^ k * 2 ^ (32 - k) := by rw [← Nat.pow_add, Nat.add_sub_cancel' hk]; rfl
 have e2 : x * 2 ^ k % BB = 2 ^ k * (x % 2 ^ (32 - k)) := by rw [e, Nat.mul_comm x, Nat.mul_mod_mul_left]
 rw [e2, e]
 have h1 : x % 2 ^ (32 - k) < 2 ^ (32 - k) := Nat.mod_lt _ (Nat.pow_pos (by omega))
 have h2 : 2 ^ k * (x % 2 ^ (32 - k) + 1) ≤ 2 ^ k * 2 ^ (32 - k) := Nat.mul_le_mul_left _ h1
 rw [Nat.mul_add] at h2
 omega
def shrL (k : Nat) : List Nat → List Nat
 | [] => []
 | x :: l => (x + l.getD 0 0 * BB) / 2 ^ k % BB :: shrL k l
theorem shrL_len (k : Nat) (l : List Nat) : (shrL k l).length = l.length := by
 induction l with
 | nil => rfl
 | cons x l ih => simp [shrL, ih]
theorem shrL_get (k : Nat) (l : List Nat) (i : Nat) (hi : i < l.length) : (shrL k l).getD i 0 = (l.getD i 0 + l.getD (i + 1) 0 * BB) / 2 ^ k % BB := by
 induction l generalizing i with
 | nil => simp at hi
 | cons x l ih =>
  cases i with
  | zero => rw [shrL, List.getD_cons_zero, List.getD_cons_zero, List.getD_cons_succ]
  | succ i => rw [shrL, List.getD_cons_succ, List.getD_cons_succ, List.getD_cons_succ]; exact ih i (by simpa using hi)
theorem shrL_limbs (k : Nat) (l : List Nat) : Limbs (shrL k l) := by
 induction l with
 | nil => intro x hx; cases hx
 | cons x l ih =>
  intro y hy
  rcases List.mem_cons.1 hy with rfl | h
  · exact Nat.mod_lt _ BB_pos
  · exact ih y h
theorem shr_arith {B b K x V y : Nat} (e : B = b * K) (hp : 0 < b) (hx : x < B) (hmod : V % b = y % b) : (x + y * B) / b % B + B * (V / b) = (x + B * V) / b := by
 have h1 : (x + B * V) / b = x / b + K * V := by rw [e, Nat.mul_assoc, Nat.add_mul_div_left _ _ hp]
 have h2 : (x + y * B) / b = x / b + K * y := by rw [e, show y * (b * K) = b * (K * y) from by ac_rfl, Nat.add_mul_div_left _ _ hp]
 rw [h1, h2]
 have hxb : x / b < K := Nat.div_lt_of_lt_mul (by rw [← e]; exact hx)
 have key : ∀ z, (x / b + K * z) % B = x / b + K * (z % b) := fun z => by
  have e3 : K * z = B * (z / b) + K * (z % b) := by
   conv => lhs; rw [← Nat.div_add_mod z b, Nat.mul_add]
   rw [e]
   congr 1
   ac_rfl
  rw [e3, show x / b + (B * (z / b) + K * (z % b)) = x / b + K * (z % b) + B * (z / b) from by omega, Nat.add_mul_mod_self_left]
  apply Nat.mod_eq_of_lt
  have h5 : z % b + 1 ≤ b := Nat.mod_lt _ hp
  have h6 : K * (z % b + 1) ≤ K * b := Nat.mul_le_mul_left _ h5
  rw [Nat.mul_add] at h6
  rw [e, Nat.mul_comm b K]
  omega
 rw [key, ← hmod]
 have e4 : K * V = B * (V / b) + K * (V % b) := by
  conv => lhs; rw [← Nat.div_add_mod V b, Nat.mul_add]
  rw [e]
  congr 1
  ac_rfl
 omega
theorem BB_split {k : Nat} (hk : k ≤ 32) : BB = 2 ^ k * 2 ^ (32 - k) := by rw [← Nat.pow_add, Nat.add_sub_cancel' hk]; rfl
theorem val_mod (k : Nat) (hk : k ≤ 32) (l : List Nat) : val l % 2 ^ k = l.getD 0 0 % 2 ^ k := by
 cases l with
 | nil => rfl
 | cons y l =>
  rw [val, BB_split hk, Nat.mul_assoc, Nat.add_mul_mod_self_left]
  rfl
theorem shrL_val (k : Nat) (hk : k < 32) (l : List Nat) (hl : Limbs l) : val (shrL k l) = val l / 2 ^ k := by
 induction l with
 | nil => simp [shrL, val]
 | cons x l ih =>
  have hx := hl x (by simp)
  have ih := ih (fun y hy => hl y (by simp [hy]))
  rw [shrL, val, val, ih]
  exact shr_arith (BB_split (by omega)) (Nat.pow_pos (by omega)) hx (val_mod k (by omega) l)
theorem val_drop {l : List Nat} {m : Nat} (hl : Limbs l) (hm : m ≤ l.length) : val (l.drop m) = val l / BB ^ m := by
 have h : val l = val (l.take m) + BB ^ m * val (l.drop m) := by
  conv => lhs; rw [← List.take_append_drop m l, val_append]
  rw [List.length_take, Nat.min_eq_left hm]
 have h2 := val_lt (limbs_take hl m)
 rw [List.length_take, Nat.min_eq_left hm] at h2
 rw [h, Nat.add_mul_div_left _ _ (Nat.pow_pos BB_pos), Nat.div_eq_of_lt h2, Nat.zero_add]
end Go.Proofs.YtbmaffijncapiaaGreatDoor.Num
namespace Go.Proofs.YtbmaffijncapiaaGreatDoor
open Num
open Go.ChangeShapes Go.WideShapes Go.ChangeAt Go.RowKit
def NewL (w' : World) (u : Value) (v : Nat) : Prop := ∃ a n L, u = .slice a n n ∧ n = List.length L ∧ U32 w' a n L ∧ Nrm L ∧ val L = v


theorem limbAdd_c (a b : Option Addr) (ca cb : Nat) (l m : List Nat) (w : World) (ha : U32 w a ca l) (hb : U32 w b cb m) (h1 : l.length ≤ 1099511627776) (h2 : m.length ≤ 1099511627776) :
 Calls Tryz.prog 123 #[.slice a l.length ca, .slice b m.length cb] w fun e w' => (∃ u, e = .returned u ∧ NewL w' u (val l + val m)) ∧ Below w.heap.size w w' := by
 by_cases hll : l.length < m.length
 ·
  have hmk := mk32 (m.length + 1) (by omega)
  have ec : ((m.length + 1 : Nat) : Int) = (m.length : Int) + 1 := by omega
  rw [ec] at hmk
  clear ec
  go_enter Tryz.func123, Tryz.ntmps123
  go_wp2
  clear hmk
  go_loopw [6, 22] (fun cv x wr => ∃ (i c : Nat) (O : List Nat), i ≤ m.length ∧ x = .int .i64 i ∧ cv = .int .u64 c ∧ c ≤ 1 ∧ Blk wr w.heap.size O ∧ Hid (O.length = m.length + 1) ∧ Limbs O ∧ (∀ j, i ≤ j → O.getD j 0 = 0) ∧ Hid (val O + c * BB ^ i = val (m.take i) + val (l.take i)) ∧ Below w.heap.size w wr) (fun _ x _ => m.length - (intOf x).toNat)
  case atStart => exact ⟨0, 0, List.replicate (m.length + 1) 0, by omega, rfl, rfl, by omega, blk_new w _, hZ (by simp), (fun y hy => by simp at hy; rw [hy]; exact BB_pos), (fun j hj => by simp [List.getElem?_replicate]; split <;> rfl), hZ (by simp [val, val_zeros]), bal (Below.refl _ _) _⟩
  case round =>
   obtain ⟨i, c, O, hi, rfl, rfl, hc1, hO, hOl, hOL, hO0, hV, hB⟩ := hrel
   have hol := hOl.out
   by_cases hlt : i < m.length
   · rcases hb.2.2.2 with hl0 | ⟨ba, oa, rfl, hca⟩
     · subst hl0; simp at hlt
     have c0 := bkeep hB (hca i hlt)
     have hx := limb_get hb.2.2.1 i
     have q0 := hO.cell i (by omega)
     have qf := hO.frozen i
     have HS := hZ (add_step (O := O) (A := m) (B := l) (i := i) (c := c) (t := c + m.getD i 0 + l.getD i 0) (by omega) (hO0 i (Nat.le_refl _)) hlt rfl hV.out)
     by_cases hlm : i < l.length
     · rcases ha.2.2.2 with hm0 | ⟨bb, ob, rfl, hcb⟩
       · subst hm0; simp at hlm
       have d0 := bkeep hB (hcb i hlm)
       have hy := limb_get ha.2.2.1 i
       generalize m.getD i 0 = x at *
       generalize l.getD i 0 = y at *
       generalize O.getD i 0 = o at *
       have e1 := w64 (BB_sq x hx)
       have e2 := w64 (BB_sq y hy)
       have e3 : IntKind.u64.wrap ((c : Int) + (x : Int)) = ((c + x : Nat) : Int) := by rw [← Int.natCast_add]; exact w64 (by unfold BB at *; omega)
       have e4 : IntKind.u64.wrap (((c + x : Nat) : Int) + (y : Int)) = ((c + x + y : Nat) : Int) := by rw [← Int.natCast_add]; exact w64 (by unfold BB at *; omega)
       have ht : c + x + y < 2 * BB := by omega
       generalize c + x = t1 at e3 e4 HS ht
       generalize t1 + y = t at e4 HS ht
       have qb := hO.set i (t % BB)
       have ql := limbs_set hOL (k := i) (Nat.mod_lt t BB_pos)
       have eqb : ((t % BB : Nat) : Int) = (t : Int) % 4294967296 := by unfold BB; omega
       rw [eqb] at qb
       have bs := bset hB (p := ⟨w.heap.size, i, none⟩) (Nat.le_refl _) (.int .u32 ((t : Int) % 4294967296))
       clear hol eqb
       go_wp2
       refine ⟨⟨i + 1, t / BB, O.set i (t % BB), by omega, rfl, by unfold BB; simp, by unfold BB at *; omega, qb, hZ (by simpa using hOl.out), ql, ?_, HS, bs⟩, by simp [intOf] <;> omega⟩
       intro j hj
       rw [Num.getD_set_ne (by omega)]
       exact hO0 j (by omega)
     · have hy0 : l.getD i 0 = 0 := by simp [hlm]
       rw [hy0] at HS
       have hlm' : decide (i < l.length) = false := by simp; omega
       generalize m.getD i 0 = x at *
       generalize O.getD i 0 = o at *
       have e1 := w64 (BB_sq x hx)
       have e3 : IntKind.u64.wrap ((c : Int) + (x : Int)) = ((c + x : Nat) : Int) := by rw [← Int.natCast_add]; exact w64 (by unfold BB at *; omega)
       have ht : c + x + 0 < 2 * BB := by omega
       rw [Nat.add_zero] at HS ht
       clear hy0
       generalize c + x = t at e3 HS ht
       have qb := hO.set i (t % BB)
       have ql := limbs_set hOL (k := i) (Nat.mod_lt t BB_pos)
       have eqb : ((t % BB : Nat) : Int) = (t : Int) % 4294967296 := by unfold BB; omega
       rw [eqb] at qb
       have bs := bset hB (p := ⟨w.heap.size, i, none⟩) (Nat.le_refl _) (.int .u32 ((t : Int) % 4294967296))
       clear hol eqb
       go_wp2
       refine ⟨⟨i + 1, t / BB, O.set i (t % BB), by omega, rfl, by unfold BB; simp, by unfold BB at *; omega, qb, hZ (by simpa using hOl.out), ql, ?_, HS, bs⟩, by simp [intOf] <;> omega⟩
       intro j hj
       rw [Num.getD_set_ne (by omega)]
       exact hO0 j (by omega)
   · obtain rfl : i = m.length := by omega
     have hV2 := val_set0 c (show m.length < O.length by omega) (hO0 _ (Nat.le_refl _))
     have q0 := hO.cell m.length (by omega)
     have qf := hO.frozen m.length
     have qb := hO.set m.length c
     have ql := limbs_set hOL (k := m.length) (x := c) (by unfold BB; omega)
     have ec : (c : Int) % 4294967296 = c := by omega
     have hm2 : val (l.take m.length) = val l := by rw [List.take_of_length_le (by omega)]
     have HV := hZ (show val (O.set m.length c) = val l + val m by have := hV.out; rw [List.take_length, hm2] at this; omega)
     have hu := qb.u32 ql (by simp [hol]; unfold maxLen; omega)
     have tc := trim_c _ _ _ _ hu
     have HT := hZ (val_trim (O.set m.length c))
     have HN := trim_nrm (O.set m.length c)
     have hu2 := hu.trim
     have hl2 : (O.set m.length c).length = m.length + 1 := by simp [hol]
     generalize hOQ : O.set m.length c = Q at *
     generalize trimL Q = T at *
     rw [hl2] at tc
     clear hV2 hm2 hV hOl hOQ hu hl2 hol
     have hB2 := bset hB (p := ⟨w.heap.size, m.length, none⟩) (Nat.le_refl _) (.int .u32 (c : Int))
     go_wp2_with fail
     refine tc.mono ?_
     rintro e w1 ⟨rfl, rfl⟩
     clear tc
     go_wp2
     go_ret
     exact ⟨⟨_, rfl, _, _, T, rfl, rfl, hu2, HN, by rw [HT.out, HV.out]⟩, hB2⟩
 ·
  have hmk := mk32 (l.length + 1) (by omega)
  have ec : ((l.length + 1 : Nat) : Int) = (l.length : Int) + 1 := by omega
  rw [ec] at hmk
  clear ec
  go_enter Tryz.func123, Tryz.ntmps123
  go_wp2
  clear hmk
  go_loopw [6, 22] (fun cv x wr => ∃ (i c : Nat) (O : List Nat), i ≤ l.length ∧ x = .int .i64 i ∧ cv = .int .u64 c ∧ c ≤ 1 ∧ Blk wr w.heap.size O ∧ Hid (O.length = l.length + 1) ∧ Limbs O ∧ (∀ j, i ≤ j → O.getD j 0 = 0) ∧ Hid (val O + c * BB ^ i = val (l.take i) + val (m.take i)) ∧ Below w.heap.size w wr) (fun _ x _ => l.length - (intOf x).toNat)
  case atStart => exact ⟨0, 0, List.replicate (l.length + 1) 0, by omega, rfl, rfl, by omega, blk_new w _, hZ (by simp), (fun y hy => by simp at hy; rw [hy]; exact BB_pos), (fun j hj => by simp [List.getElem?_replicate]; split <;> rfl), hZ (by simp [val, val_zeros]), bal (Below.refl _ _) _⟩
  case round =>
   obtain ⟨i, c, O, hi, rfl, rfl, hc1, hO, hOl, hOL, hO0, hV, hB⟩ := hrel
   have hol := hOl.out
   by_cases hlt : i < l.length
   · rcases ha.2.2.2 with hl0 | ⟨ba, oa, rfl, hca⟩
     · subst hl0; simp at hlt
     have c0 := bkeep hB (hca i hlt)
     have hx := limb_get ha.2.2.1 i
     have q0 := hO.cell i (by omega)
     have qf := hO.frozen i
     have HS := hZ (add_step (O := O) (A := l) (B := m) (i := i) (c := c) (t := c + l.getD i 0 + m.getD i 0) (by omega) (hO0 i (Nat.le_refl _)) hlt rfl hV.out)
     by_cases hlm : i < m.length
     · rcases hb.2.2.2 with hm0 | ⟨bb, ob, rfl, hcb⟩
       · subst hm0; simp at hlm
       have d0 := bkeep hB (hcb i hlm)
       have hy := limb_get hb.2.2.1 i
       generalize l.getD i 0 = x at *
       generalize m.getD i 0 = y at *
       generalize O.getD i 0 = o at *
       have e1 := w64 (BB_sq x hx)
       have e2 := w64 (BB_sq y hy)
       have e3 : IntKind.u64.wrap ((c : Int) + (x : Int)) = ((c + x : Nat) : Int) := by rw [← Int.natCast_add]; exact w64 (by unfold BB at *; omega)
       have e4 : IntKind.u64.wrap (((c + x : Nat) : Int) + (y : Int)) = ((c + x + y : Nat) : Int) := by rw [← Int.natCast_add]; exact w64 (by unfold BB at *; omega)
       have ht : c + x + y < 2 * BB := by omega
       generalize c + x = t1 at e3 e4 HS ht
       generalize t1 + y = t at e4 HS ht
       have qb := hO.set i (t % BB)
       have ql := limbs_set hOL (k := i) (Nat.mod_lt t BB_pos)
       have eqb : ((t % BB : Nat) : Int) = (t : Int) % 4294967296 := by unfold BB; omega
       rw [eqb] at qb
       have bs := bset hB (p := ⟨w.heap.size, i, none⟩) (Nat.le_refl _) (.int .u32 ((t : Int) % 4294967296))
       clear hol eqb
       go_wp2
       refine ⟨⟨i + 1, t / BB, O.set i (t % BB), by omega, rfl, by unfold BB; simp, by unfold BB at *; omega, qb, hZ (by simpa using hOl.out), ql, ?_, HS, bs⟩, by simp [intOf] <;> omega⟩
       intro j hj
       rw [Num.getD_set_ne (by omega)]
       exact hO0 j (by omega)
     · have hy0 : m.getD i 0 = 0 := by simp [hlm]
       rw [hy0] at HS
       have hlm' : decide (i < m.length) = false := by simp; omega
       generalize l.getD i 0 = x at *
       generalize O.getD i 0 = o at *
       have e1 := w64 (BB_sq x hx)
       have e3 : IntKind.u64.wrap ((c : Int) + (x : Int)) = ((c + x : Nat) : Int) := by rw [← Int.natCast_add]; exact w64 (by unfold BB at *; omega)
       have ht : c + x + 0 < 2 * BB := by omega
       rw [Nat.add_zero] at HS ht
       clear hy0
       generalize c + x = t at e3 HS ht
       have qb := hO.set i (t % BB)
       have ql := limbs_set hOL (k := i) (Nat.mod_lt t BB_pos)
       have eqb : ((t % BB : Nat) : Int) = (t : Int) % 4294967296 := by unfold BB; omega
       rw [eqb] at qb
       have bs := bset hB (p := ⟨w.heap.size, i, none⟩) (Nat.le_refl _) (.int .u32 ((t : Int) % 4294967296))
       clear hol eqb
       go_wp2
       refine ⟨⟨i + 1, t / BB, O.set i (t % BB), by omega, rfl, by unfold BB; simp, by unfold BB at *; omega, qb, hZ (by simpa using hOl.out), ql, ?_, HS, bs⟩, by simp [intOf] <;> omega⟩
       intro j hj
       rw [Num.getD_set_ne (by omega)]
       exact hO0 j (by omega)
   · obtain rfl : i = l.length := by omega
     have hV2 := val_set0 c (show l.length < O.length by omega) (hO0 _ (Nat.le_refl _))
     have q0 := hO.cell l.length (by omega)
     have qf := hO.frozen l.length
     have qb := hO.set l.length c
     have ql := limbs_set hOL (k := l.length) (x := c) (by unfold BB; omega)
     have ec : (c : Int) % 4294967296 = c := by omega
     have hm2 : val (m.take l.length) = val m := by rw [List.take_of_length_le (by omega)]
     have HV := hZ (show val (O.set l.length c) = val l + val m by have := hV.out; rw [List.take_length, hm2] at this; omega)
     have hu := qb.u32 ql (by simp [hol]; unfold maxLen; omega)
     have tc := trim_c _ _ _ _ hu
     have HT := hZ (val_trim (O.set l.length c))
     have HN := trim_nrm (O.set l.length c)
     have hu2 := hu.trim
     have hl2 : (O.set l.length c).length = l.length + 1 := by simp [hol]
     generalize hOQ : O.set l.length c = Q at *
     generalize trimL Q = T at *
     rw [hl2] at tc
     clear hV2 hm2 hV hOl hOQ hu hl2 hol
     have hB2 := bset hB (p := ⟨w.heap.size, l.length, none⟩) (Nat.le_refl _) (.int .u32 (c : Int))
     go_wp2_with fail
     refine tc.mono ?_
     rintro e w1 ⟨rfl, rfl⟩
     clear tc
     go_wp2
     go_ret
     exact ⟨⟨_, rfl, _, _, T, rfl, rfl, hu2, HN, by rw [HT.out, HV.out]⟩, hB2⟩
namespace Num
theorem cmpN_ge {x y : Nat} (h : y ≤ x) : ¬ cmpN x y < 0 := by
 unfold cmpN; rw [if_neg (by omega)]; split <;> omega
end Num

theorem limbSub_c (a b : Option Addr) (ca cb : Nat) (l m : List Nat) (w : World) (ha : U32 w a ca l) (hb : U32 w b cb m) (h1 : l.length ≤ 1099511627776) (hle : val m ≤ val l) :
 Calls Tryz.prog 125 #[.slice a l.length ca, .slice b m.length cb] w fun e w' => (∃ u, e = .returned (.tuple #[u, .int .i64 0]) ∧ NewL w' u (val l - val m)) ∧ Below w.heap.size w w' := by
 have hmk := mk32 l.length (by omega)
 have cc := limbCmp_c a b ca cb l m w ha hb
 have hcz : decide (cmpN (val l) (val m) < 0) = false := by simpa using cmpN_ge hle
 have HLE := hZ hle
 clear hle
 generalize cmpN (val l) (val m) = z at *
 go_enter Tryz.func125, Tryz.ntmps125
 go_wp2_with fail
 refine cc.mono ?_
 rintro e w0 ⟨rfl, hb0⟩
 clear cc
 have ha0 := ha.keep hb0
 have hb1 := hb.keep hb0
 have HB0 := hZ hb0
 clear ha hb hb0
 go_wp2
 clear hmk hcz
 go_loopw [7, 21] (fun cv x wr => ∃ (i c : Nat) (O : List Nat), i ≤ l.length ∧ x = .int .i64 i ∧ cv = .int .u64 c ∧ c ≤ 1 ∧ Blk wr w0.heap.size O ∧ Hid (O.length = l.length) ∧ Limbs O ∧ (∀ j, i ≤ j → O.getD j 0 = 0) ∧ Hid (val O + val (m.take i) = val (l.take i) - 0 + c * BB ^ i) ∧ Below w0.heap.size w0 wr) (fun _ x _ => l.length - (intOf x).toNat)
 case atStart => exact ⟨0, 0, List.replicate l.length 0, by omega, rfl, rfl, by omega, blk_new w0 _, hZ (by simp), (fun y hy => by simp at hy; rw [hy.2]; exact BB_pos), (fun j hj => by simp [List.getElem?_replicate]; split <;> rfl), hZ (by simp [val, val_zeros]), bal (Below.refl _ _) _⟩
 case round =>
  obtain ⟨i, c, O, hi, rfl, rfl, hc1, hO, hOl, hOL, hO0, hV, hB⟩ := hrel
  have hol := hOl.out
  by_cases hlt : i < l.length
  · rcases ha0.2.2.2 with hl0 | ⟨ba, oa, rfl, hca⟩
    · subst hl0; simp at hlt
    have c0 := bkeep hB (hca i hlt)
    have hx := limb_get ha0.2.2.1 i
    have q0 := hO.cell i (by omega)
    have qf := hO.frozen i
    have HS := hZ (fun r br' hr => sub_step (O := O) (A := l) (B := m) (i := i) (br := c) (r := r) (br' := br') (by omega) (hO0 i (Nat.le_refl _)) hlt hr hV.out)
    by_cases hlm : i < m.length
    · rcases hb1.2.2.2 with hm0 | ⟨bb, ob, rfl, hcb⟩
      · subst hm0; simp at hlm
      have d0 := bkeep hB (hcb i hlm)
      have hy := limb_get hb1.2.2.1 i
      generalize l.getD i 0 = x at *
      generalize m.getD i 0 = y at *
      generalize O.getD i 0 = o at *
      have e1 := w64 (BB_sq x hx)
      have e2 := w64 (BB_sq y hy)
      have e3 : IntKind.u64.wrap ((c : Int) + (y : Int)) = ((c + y : Nat) : Int) := by rw [← Int.natCast_add]; exact w64 (by unfold BB at *; omega)
      have ht : c + y ≤ BB := by omega
      generalize c + y = y1 at e3 HS ht
      by_cases hlow : y1 ≤ x
      · have e4 : IntKind.u64.wrap ((x : Int) - (y1 : Int)) = ((x - y1 : Nat) : Int) := by rw [show (x : Int) - (y1 : Int) = ((x - y1 : Nat) : Int) by omega]; exact w64 (by unfold BB at *; omega)
        have hr1 : x - y1 < BB := by omega
        have HR := hZ (HS.out (x - y1) 0 (by omega))
        generalize x - y1 = r at *
        have e5 : (r : Int) / 4294967296 = 0 := by unfold BB at hr1; omega
        have e6 : (r : Int) % 4294967296 = (r : Int) := by unfold BB at hr1; omega
        have b0 : bits .and .u64 0 1 = 0 := by rfl
        have qb := hO.set i r
        have ql := limbs_set hOL (k := i) hr1
        have bs := bset hB (p := ⟨w0.heap.size, i, none⟩) (Nat.le_refl _) (.int .u32 (r : Int))
        clear hol
        go_wp2
        refine ⟨⟨i + 1, 0, O.set i r, by omega, by go_num, rfl, by omega, qb, hZ (by simpa using hOl.out), ql, ?_, HR, bs⟩, by simp [intOf] <;> omega⟩
        intro j hj
        rw [Num.getD_set_ne (by omega)]
        exact hO0 j (by omega)
      · have e4 : IntKind.u64.wrap ((x : Int) - (y1 : Int)) = ((18446744073709551616 - (y1 - x) : Nat) : Int) := by
         simp only [IntKind.wrap, IntKind.bits, IntKind.signed]
         simp
         unfold BB at *
         omega
        have hr1 : BB + x - y1 < BB := by omega
        have HR := hZ (HS.out (BB + x - y1) 1 (by omega))
        have e6 : ((18446744073709551616 - (y1 - x) : Nat) : Int) % 4294967296 = ((BB + x - y1 : Nat) : Int) := by unfold BB at *; omega
        have e5 : ((18446744073709551616 - (y1 - x) : Nat) : Int) / 4294967296 = 4294967295 := by unfold BB at *; omega
        have hDD : 18446744073709551616 - (y1 - x) < 18446744073709551616 := by omega
        generalize 18446744073709551616 - (y1 - x) = D at e4 e5 e6 hDD
        generalize BB + x - y1 = r at *
        have b0 : bits .and .u64 4294967295 1 = 1 := by rfl
        have qb := hO.set i r
        have ql := limbs_set hOL (k := i) hr1
        have bs := bset hB (p := ⟨w0.heap.size, i, none⟩) (Nat.le_refl _) (.int .u32 (r : Int))
        clear hol hDD
        go_wp2
        refine ⟨⟨i + 1, 1, O.set i r, by omega, by go_num, rfl, by omega, qb, hZ (by simpa using hOl.out), ql, ?_, HR, bs⟩, by simp [intOf] <;> omega⟩
        intro j hj
        rw [Num.getD_set_ne (by omega)]
        exact hO0 j (by omega)
    · have hy0 : m.getD i 0 = 0 := by simp [hlm]
      rw [hy0] at HS
      have hlm' : decide (i < m.length) = false := by simp; omega
      generalize l.getD i 0 = x at *
      generalize O.getD i 0 = o at *
      have e1 := w64 (BB_sq x hx)
      have ht : c + 0 ≤ BB := by unfold BB; omega
      rw [Nat.add_zero] at HS ht
      obtain ⟨y1, hy1⟩ : ∃ y1, y1 = c := ⟨_, rfl⟩
      subst hy1
      clear hy0
      by_cases hlow : y1 ≤ x
      · have e4 : IntKind.u64.wrap ((x : Int) - (y1 : Int)) = ((x - y1 : Nat) : Int) := by rw [show (x : Int) - (y1 : Int) = ((x - y1 : Nat) : Int) by omega]; exact w64 (by unfold BB at *; omega)
        have hr1 : x - y1 < BB := by omega
        have HR := hZ (HS.out (x - y1) 0 (by omega))
        generalize x - y1 = r at *
        have e5 : (r : Int) / 4294967296 = 0 := by unfold BB at hr1; omega
        have e6 : (r : Int) % 4294967296 = (r : Int) := by unfold BB at hr1; omega
        have b0 : bits .and .u64 0 1 = 0 := by rfl
        have qb := hO.set i r
        have ql := limbs_set hOL (k := i) hr1
        have bs := bset hB (p := ⟨w0.heap.size, i, none⟩) (Nat.le_refl _) (.int .u32 (r : Int))
        clear hol
        go_wp2
        refine ⟨⟨i + 1, 0, O.set i r, by omega, by go_num, rfl, by omega, qb, hZ (by simpa using hOl.out), ql, ?_, HR, bs⟩, by simp [intOf] <;> omega⟩
        intro j hj
        rw [Num.getD_set_ne (by omega)]
        exact hO0 j (by omega)
      · have e4 : IntKind.u64.wrap ((x : Int) - (y1 : Int)) = ((18446744073709551616 - (y1 - x) : Nat) : Int) := by
         simp only [IntKind.wrap, IntKind.bits, IntKind.signed]
         simp
         unfold BB at *
         omega
        have hr1 : BB + x - y1 < BB := by omega
        have HR := hZ (HS.out (BB + x - y1) 1 (by omega))
        have e6 : ((18446744073709551616 - (y1 - x) : Nat) : Int) % 4294967296 = ((BB + x - y1 : Nat) : Int) := by unfold BB at *; omega
        have e5 : ((18446744073709551616 - (y1 - x) : Nat) : Int) / 4294967296 = 4294967295 := by unfold BB at *; omega
        have hDD : 18446744073709551616 - (y1 - x) < 18446744073709551616 := by omega
        generalize 18446744073709551616 - (y1 - x) = D at e4 e5 e6 hDD
        generalize BB + x - y1 = r at *
        have b0 : bits .and .u64 4294967295 1 = 1 := by rfl
        have qb := hO.set i r
        have ql := limbs_set hOL (k := i) hr1
        have bs := bset hB (p := ⟨w0.heap.size, i, none⟩) (Nat.le_refl _) (.int .u32 (r : Int))
        clear hol hDD
        go_wp2
        refine ⟨⟨i + 1, 1, O.set i r, by omega, by go_num, rfl, by omega, qb, hZ (by simpa using hOl.out), ql, ?_, HR, bs⟩, by simp [intOf] <;> omega⟩
        intro j hj
        rw [Num.getD_set_ne (by omega)]
        exact hO0 j (by omega)
  · obtain rfl : i = l.length := by omega
    have hlt2 := val_lt hOL
    rw [hol] at hlt2
    have HV := hZ (show val O = val l - val m by have := sub_end ha0.2.2.1 HLE.out hV.out hlt2; omega)
    have hu := hO.u32 hOL (by rw [hol]; unfold maxLen; omega)
    have tc := trim_c _ _ _ _ hu
    have HT := hZ (val_trim O)
    have HN := trim_nrm O
    have hu2 := hu.trim
    generalize trimL O = T at *
    rw [hol] at tc
    clear hV hOl hu hol hlt2
    have hB2 := bthen HB0.out hB
    go_wp2_with fail
    refine tc.mono ?_
    rintro e w1 ⟨rfl, rfl⟩
    clear tc
    go_wp2
    go_ret2
    exact ⟨⟨_, rfl, _, _, T, rfl, rfl, hu2, HN, by rw [HT.out, HV.out]⟩, hB2⟩
end Go.Proofs.YtbmaffijncapiaaGreatDoor
