/- Texts of this seat, laid together: PrgA, PrgB, PrgC, PrgD. Each opens with its own remark, which says what it proves, and under which conditions. -/
import Derived.Test.YtbmaffijncapiaaGreatDoorL01
import Derived.Test.YtbmaffijncapiaaGreatDoorL02
import Derived.Laws.AppendOwn
set_option linter.unusedVariables false
set_option linter.unusedSimpArgs false
/- prog: an instruction: two, constant, Asks. -/
namespace Go.Proofs.YtbmaffijncapiaaGreatDoor
open Go.ChangeShapes Go.WideShapes Go.ChangeAt Go.RowKit
set_option linter.unusedVariables false
set_option linter.unusedSimpArgs false
theorem bret {a b : Bool} (h : a = b) : Ending.returned (.bool a) = Ending.returned (.bool b) := by rw [h]
structure Ins where
  op : Int
  «to» : Int
  a : Int
  b : Int
  c : Int
deriving Inhabited
def Ins.v (i : Ins) : Value := .agg #[.int .i64 i.op, .int .i64 i.to, .int .i64 i.a, .int .i64 i.b, .int .i64 i.c]
def twoB (op : Int) : Bool := decide (op = 3 ∨ op = 4)
def constB (op c : Int) : Bool := if op = 5 ∨ op = 6 then decide (c ≠ 0 ∧ -512 ≤ c ∧ c ≤ 512) else if op = 7 ∨ op = 8 then decide (1 ≤ c ∧ c ≤ 64) else decide (c = 0)
theorem constB_mul {op c : Int} (h : op = 5 ∨ op = 6) : constB op c = decide (c ≠ 0 ∧ -512 ≤ c ∧ c ≤ 512) := by unfold constB; rw [if_pos h]
theorem constB_shift {op c : Int} (h : op = 7 ∨ op = 8) : constB op c = decide (1 ≤ c ∧ c ≤ 64) := by unfold constB; rw [if_neg (by omega), if_pos h]
theorem constB_else {op c : Int} (h : ¬ (op = 5 ∨ op = 6)) (h2 : ¬ (op = 7 ∨ op = 8)) : constB op c = decide (c = 0) := by unfold constB; rw [if_neg h, if_neg h2]

theorem two_c (op : Int) (w : World) : Calls Tryz.prog 216 #[.int .i64 op] w fun e w' => e = .returned (.bool (twoB op)) ∧ w' = w := by
  go_enter Tryz.func216, Tryz.ntmps216
  go_wp2
  all_goals go_ret
  all_goals exact ⟨bret (by rw [Bool.eq_iff_iff]; simp [twoB] <;> omega), rfl⟩

set_option maxRecDepth 100000 in
theorem constant_c (op t a b c : Int) (w : World) : Calls Tryz.prog 238 #[.agg #[.int .i64 op, .int .i64 t, .int .i64 a, .int .i64 b, .int .i64 c]] w fun e w' => e = .returned (.bool (constB op c)) ∧ Below w.heap.size w w' := by
  by_cases h : op = 5 ∨ op = 6
  · rw [constB_mul h]
    rcases h with rfl | rfl
    all_goals
      go_enter Tryz.func238, Tryz.ntmps238
      go_wp2
      all_goals go_ret
      all_goals exact ⟨bret (by rw [Bool.eq_iff_iff]; simp <;> omega), by repeat (first | exact Below.refl _ _ | assumption | refine bal ?_ _)⟩
  · by_cases h2 : op = 7 ∨ op = 8
    · rw [constB_shift h2]
      rcases h2 with rfl | rfl
      all_goals
        go_enter Tryz.func238, Tryz.ntmps238
        go_wp2
        all_goals go_ret
        all_goals exact ⟨bret (by rw [Bool.eq_iff_iff]; simp <;> omega), by repeat (first | exact Below.refl _ _ | assumption | refine bal ?_ _)⟩
    · rw [constB_else h h2]
      have t5 : (op == 5) = false := by simp; omega
      have t6 : (op == 6) = false := by simp; omega
      have t7 : (op == 7) = false := by simp; omega
      have t8 : (op == 8) = false := by simp; omega
      clear h h2
      go_enter Tryz.func238, Tryz.ntmps238
      go_wp2
      all_goals go_ret
      all_goals exact ⟨bret (by rw [Bool.eq_iff_iff]; simp <;> omega), by repeat (first | exact Below.refl _ _ | assumption | refine bal ?_ _)⟩
theorem asks_two (op t a b c : Int) (w : World) (h : op = 3 ∨ op = 4) : Calls Tryz.prog 239 #[.agg #[.int .i64 op, .int .i64 t, .int .i64 a, .int .i64 b, .int .i64 c]] w fun e w' => e = .returned (.slice (some ⟨w.heap.size + 1, 0, none⟩) 2 2) ∧ w'.cell? ⟨w.heap.size + 1, 0, none⟩ = some (.int .i64 a) ∧ w'.cell? ⟨w.heap.size + 1, 1, none⟩ = some (.int .i64 b) ∧ Below w.heap.size w w' := by
  rcases h with rfl | rfl
  all_goals
    go_enter Tryz.func239, Tryz.ntmps239
    go_wp2
    go_ret
    exact ⟨rfl, cell_new (by simp) rfl, cell_new (by simp) rfl, bal (bal (Below.refl _ _) _) _⟩
theorem asks_one (op t a b c : Int) (w : World) (h1 : 1 ≤ op) (h2 : op ≤ 8) (h : twoB op = false) : Calls Tryz.prog 239 #[.agg #[.int .i64 op, .int .i64 t, .int .i64 a, .int .i64 b, .int .i64 c]] w fun e w' => e = .returned (.slice (some ⟨w.heap.size + 1, 0, none⟩) 1 1) ∧ w'.cell? ⟨w.heap.size + 1, 0, none⟩ = some (.int .i64 a) ∧ Below w.heap.size w w' := by
  have h3 : ¬ (op = 3 ∨ op = 4) := by simpa [twoB] using h
  clear h
  have hc : op = 1 ∨ op = 2 ∨ op = 5 ∨ op = 6 ∨ op = 7 ∨ op = 8 := by omega
  clear h1 h2 h3
  rcases hc with rfl | rfl | rfl | rfl | rfl | rfl
  all_goals
    go_enter Tryz.func239, Tryz.ntmps239
    go_wp2
    go_ret
    exact ⟨rfl, cell_new (by simp) rfl, bal (bal (Below.refl _ _) _) _⟩
end Go.Proofs.YtbmaffijncapiaaGreatDoor

/- prog: may. -/
namespace Go.Proofs.YtbmaffijncapiaaGreatDoor
open Go.ChangeShapes Go.WideShapes Go.ChangeAt Go.RowKit
set_option linter.unusedVariables false
set_option linter.unusedSimpArgs false
def mayB (op t a b c regs : Int) : Bool := decide (1 ≤ op ∧ op ≤ 8 ∧ 0 ≤ t ∧ t < regs ∧ (twoB op = false → b = 0) ∧ constB op c = true ∧ 0 ≤ a ∧ a < regs ∧ (twoB op = true → 0 ≤ b ∧ b < regs))
theorem mayB_iff (op t a b c regs : Int) : mayB op t a b c regs = true ↔ (1 ≤ op ∧ op ≤ 8 ∧ 0 ≤ t ∧ t < regs ∧ (twoB op = false → b = 0) ∧ constB op c = true ∧ 0 ≤ a ∧ a < regs ∧ (twoB op = true → 0 ≤ b ∧ b < regs)) := by unfold mayB; exact decide_eq_true_iff
theorem mayB_no {op t a b c regs : Int} (h : ¬ (1 ≤ op ∧ op ≤ 8 ∧ 0 ≤ t ∧ t < regs ∧ (twoB op = false → b = 0) ∧ constB op c = true ∧ 0 ≤ a ∧ a < regs ∧ (twoB op = true → 0 ≤ b ∧ b < regs))) : mayB op t a b c regs = false := by
  rw [Bool.eq_false_iff]; exact fun k => h ((mayB_iff ..).1 k)

set_option maxRecDepth 100000 in
set_option maxHeartbeats 8000000 in
theorem may_c (op t a b c regs : Int) (w : World) : Calls Tryz.prog 189 #[.agg #[.int .i64 op, .int .i64 t, .int .i64 a, .int .i64 b, .int .i64 c], .int .i64 regs] w fun e w' => e = .returned (.bool (mayB op t a b c regs)) ∧ Below w.heap.size w w' := by
  by_cases h1 : op < 1
  · have HM := Lib.hid (show mayB op t a b c regs = false from mayB_no (by omega))
    go_enter Tryz.func189, Tryz.ntmps189
    go_wp2
    go_ret
    exact ⟨bret (by rw [HM.out]), by repeat (first | exact Below.refl _ _ | assumption | refine bset ?_ (by simp) _ | refine bal ?_ _)⟩
  by_cases h2 : 8 < op
  · have HM := Lib.hid (show mayB op t a b c regs = false from mayB_no (by omega))
    go_enter Tryz.func189, Tryz.ntmps189
    go_wp2
    go_ret
    exact ⟨bret (by rw [HM.out]), by repeat (first | exact Below.refl _ _ | assumption | refine bset ?_ (by simp) _ | refine bal ?_ _)⟩
  by_cases h3 : t < 0
  · have HM := Lib.hid (show mayB op t a b c regs = false from mayB_no (by omega))
    go_enter Tryz.func189, Tryz.ntmps189
    go_wp2
    go_ret
    exact ⟨bret (by rw [HM.out]), by repeat (first | exact Below.refl _ _ | assumption | refine bset ?_ (by simp) _ | refine bal ?_ _)⟩
  by_cases h4 : regs ≤ t
  · have HM := Lib.hid (show mayB op t a b c regs = false from mayB_no (by omega))
    go_enter Tryz.func189, Tryz.ntmps189
    go_wp2
    go_ret
    exact ⟨bret (by rw [HM.out]), by repeat (first | exact Below.refl _ _ | assumption | refine bset ?_ (by simp) _ | refine bal ?_ _)⟩
  have hB := Below.refl w.heap.size w
  have tc : ∀ v, twoB op = v → ∀ W, Calls Tryz.prog 216 #[.int .i64 op] W fun e w' => e = .returned (.bool v) ∧ Below W.heap.size W w' := fun v hv W => (two_c op W).mono fun e w' ⟨he, hw⟩ => ⟨by rw [he, hv], by rw [hw]; exact Below.refl _ _⟩
  have cc : ∀ v, constB op c = v → ∀ W, Calls Tryz.prog 238 #[.agg #[.int .i64 op, .int .i64 t, .int .i64 a, .int .i64 b, .int .i64 c]] W fun e w' => e = .returned (.bool v) ∧ Below W.heap.size W w' := fun v hv W => by rw [← hv]; exact constant_c op t a b c W
  cases hT : twoB op with
  | false =>
    have tc := tc _ hT
    by_cases hb : b = 0
    · have hbz : (b != 0) = false := by simpa using hb
      cases hC : constB op c with
      | false =>
        have HM := Lib.hid (show mayB op t a b c regs = false from mayB_no (by rw [hC]; simp))
        have cc := cc _ hC
        clear hT hC hb
        go_enter Tryz.func189, Tryz.ntmps189
        go_wp2_with fail
        refine (tc _).mono ?_
        rintro e w1 ⟨rfl, hb1⟩
        have i0 : w1.cell? ⟨w.heap.size, 0, none⟩ = some (.int .i64 op) := bkc hb1
        have zi0 := cell_lt i0
        have i1 : w1.cell? ⟨w.heap.size, 1, none⟩ = some (.int .i64 t) := bkc hb1
        have i2 : w1.cell? ⟨w.heap.size, 2, none⟩ = some (.int .i64 a) := bkc hb1
        have i3 : w1.cell? ⟨w.heap.size, 3, none⟩ = some (.int .i64 b) := bkc hb1
        have i4 : w1.cell? ⟨w.heap.size, 4, none⟩ = some (.int .i64 c) := bkc hb1
        have hB : Below w.heap.size w w1 := bthen (by repeat (first|exact bzR _ _|exact hB|refine bzD ?_|refine bzN ?_|refine bzS ?_|refine bzA ?_)) hb1
        have hz : w.heap.size ≤ w1.heap.size := hB.size
        go_wp2_with fail
        refine (cc _).mono ?_
        rintro e w2 ⟨rfl, hb2⟩
        have i0 : w2.cell? ⟨w.heap.size, 0, none⟩ = some (.int .i64 op) := bkc hb2
        have zi0 := cell_lt i0
        have i1 : w2.cell? ⟨w.heap.size, 1, none⟩ = some (.int .i64 t) := bkc hb2
        have i2 : w2.cell? ⟨w.heap.size, 2, none⟩ = some (.int .i64 a) := bkc hb2
        have i3 : w2.cell? ⟨w.heap.size, 3, none⟩ = some (.int .i64 b) := bkc hb2
        have i4 : w2.cell? ⟨w.heap.size, 4, none⟩ = some (.int .i64 c) := bkc hb2
        have hB : Below w.heap.size w w2 := bthen (by repeat (first|exact bzR _ _|exact hB|refine bzD ?_|refine bzN ?_|refine bzS ?_|refine bzA ?_)) hb2
        have hz : w.heap.size ≤ w2.heap.size := hB.size
        go_wp2
        go_ret
        exact ⟨bret (by rw [HM.out]), hB⟩
      | true =>
        have cc := cc _ hC
        have ac := fun W => asks_one op t a b c W (by omega) (by omega) hT
        by_cases hr : 0 ≤ a ∧ a < regs
        · have HM := Lib.hid (show mayB op t a b c regs = true from (mayB_iff ..).2 ⟨by omega, by omega, by omega, by omega, fun _ => hb, hC, hr.1, hr.2, fun h => by rw [hT] at h; cases h⟩)
          obtain ⟨r1, r2⟩ := hr
          have r1' : ¬ a < 0 := by omega
          have r2' : ¬ regs ≤ a := by omega
          clear hT hC hb
          go_enter Tryz.func189, Tryz.ntmps189
          go_wp2_with fail
          refine (tc _).mono ?_
          rintro e w1 ⟨rfl, hb1⟩
          have i0 : w1.cell? ⟨w.heap.size, 0, none⟩ = some (.int .i64 op) := bkc hb1
          have zi0 := cell_lt i0
          have i1 : w1.cell? ⟨w.heap.size, 1, none⟩ = some (.int .i64 t) := bkc hb1
          have i2 : w1.cell? ⟨w.heap.size, 2, none⟩ = some (.int .i64 a) := bkc hb1
          have i3 : w1.cell? ⟨w.heap.size, 3, none⟩ = some (.int .i64 b) := bkc hb1
          have i4 : w1.cell? ⟨w.heap.size, 4, none⟩ = some (.int .i64 c) := bkc hb1
          have hB : Below w.heap.size w w1 := bthen (by repeat (first|exact bzR _ _|exact hB|refine bzD ?_|refine bzN ?_|refine bzS ?_|refine bzA ?_)) hb1
          have hz : w.heap.size ≤ w1.heap.size := hB.size
          go_wp2_with fail
          refine (cc _).mono ?_
          rintro e w2 ⟨rfl, hb2⟩
          have i0 : w2.cell? ⟨w.heap.size, 0, none⟩ = some (.int .i64 op) := bkc hb2
          have zi0 := cell_lt i0
          have i1 : w2.cell? ⟨w.heap.size, 1, none⟩ = some (.int .i64 t) := bkc hb2
          have i2 : w2.cell? ⟨w.heap.size, 2, none⟩ = some (.int .i64 a) := bkc hb2
          have i3 : w2.cell? ⟨w.heap.size, 3, none⟩ = some (.int .i64 b) := bkc hb2
          have i4 : w2.cell? ⟨w.heap.size, 4, none⟩ = some (.int .i64 c) := bkc hb2
          have hB : Below w.heap.size w w2 := bthen (by repeat (first|exact bzR _ _|exact hB|refine bzD ?_|refine bzN ?_|refine bzS ?_|refine bzA ?_)) hb2
          have hz : w.heap.size ≤ w2.heap.size := hB.size
          go_wp2_with fail
          refine (ac _).mono ?_
          rintro e w3 ⟨rfl, q0, hb3⟩
          have i0 : w3.cell? ⟨w.heap.size, 0, none⟩ = some (.int .i64 op) := bkc hb3
          have zi0 := cell_lt i0
          have i1 : w3.cell? ⟨w.heap.size, 1, none⟩ = some (.int .i64 t) := bkc hb3
          have i2 : w3.cell? ⟨w.heap.size, 2, none⟩ = some (.int .i64 a) := bkc hb3
          have i3 : w3.cell? ⟨w.heap.size, 3, none⟩ = some (.int .i64 b) := bkc hb3
          have i4 : w3.cell? ⟨w.heap.size, 4, none⟩ = some (.int .i64 c) := bkc hb3
          have hB : Below w.heap.size w w3 := bthen (by repeat (first|exact bzR _ _|exact hB|refine bzD ?_|refine bzN ?_|refine bzS ?_|refine bzA ?_)) hb3
          have hz : w.heap.size ≤ w3.heap.size := hB.size
          go_wp2
          refine wp_loop_rounds 2 ?_
          rw [rounds_succ]
          go_wp2
          rw [rounds_succ]
          go_wp2
          go_ret
          exact ⟨bret (by rw [HM.out]), hB⟩
        · have HM := Lib.hid (show mayB op t a b c regs = false from mayB_no (fun k => hr ⟨k.2.2.2.2.2.2.1, k.2.2.2.2.2.2.2.1⟩))
          clear hT hC hb
          by_cases r1 : a < 0
          ·
            go_enter Tryz.func189, Tryz.ntmps189
            go_wp2_with fail
            refine (tc _).mono ?_
            rintro e w1 ⟨rfl, hb1⟩
            have i0 : w1.cell? ⟨w.heap.size, 0, none⟩ = some (.int .i64 op) := bkc hb1
            have zi0 := cell_lt i0
            have i1 : w1.cell? ⟨w.heap.size, 1, none⟩ = some (.int .i64 t) := bkc hb1
            have i2 : w1.cell? ⟨w.heap.size, 2, none⟩ = some (.int .i64 a) := bkc hb1
            have i3 : w1.cell? ⟨w.heap.size, 3, none⟩ = some (.int .i64 b) := bkc hb1
            have i4 : w1.cell? ⟨w.heap.size, 4, none⟩ = some (.int .i64 c) := bkc hb1
            have hB : Below w.heap.size w w1 := bthen (by repeat (first|exact bzR _ _|exact hB|refine bzD ?_|refine bzN ?_|refine bzS ?_|refine bzA ?_)) hb1
            have hz : w.heap.size ≤ w1.heap.size := hB.size
            go_wp2_with fail
            refine (cc _).mono ?_
            rintro e w2 ⟨rfl, hb2⟩
            have i0 : w2.cell? ⟨w.heap.size, 0, none⟩ = some (.int .i64 op) := bkc hb2
            have zi0 := cell_lt i0
            have i1 : w2.cell? ⟨w.heap.size, 1, none⟩ = some (.int .i64 t) := bkc hb2
            have i2 : w2.cell? ⟨w.heap.size, 2, none⟩ = some (.int .i64 a) := bkc hb2
            have i3 : w2.cell? ⟨w.heap.size, 3, none⟩ = some (.int .i64 b) := bkc hb2
            have i4 : w2.cell? ⟨w.heap.size, 4, none⟩ = some (.int .i64 c) := bkc hb2
            have hB : Below w.heap.size w w2 := bthen (by repeat (first|exact bzR _ _|exact hB|refine bzD ?_|refine bzN ?_|refine bzS ?_|refine bzA ?_)) hb2
            have hz : w.heap.size ≤ w2.heap.size := hB.size
            go_wp2_with fail
            refine (ac _).mono ?_
            rintro e w3 ⟨rfl, q0, hb3⟩
            have i0 : w3.cell? ⟨w.heap.size, 0, none⟩ = some (.int .i64 op) := bkc hb3
            have zi0 := cell_lt i0
            have i1 : w3.cell? ⟨w.heap.size, 1, none⟩ = some (.int .i64 t) := bkc hb3
            have i2 : w3.cell? ⟨w.heap.size, 2, none⟩ = some (.int .i64 a) := bkc hb3
            have i3 : w3.cell? ⟨w.heap.size, 3, none⟩ = some (.int .i64 b) := bkc hb3
            have i4 : w3.cell? ⟨w.heap.size, 4, none⟩ = some (.int .i64 c) := bkc hb3
            have hB : Below w.heap.size w w3 := bthen (by repeat (first|exact bzR _ _|exact hB|refine bzD ?_|refine bzN ?_|refine bzS ?_|refine bzA ?_)) hb3
            have hz : w.heap.size ≤ w3.heap.size := hB.size
            go_wp2
            refine wp_loop_rounds 2 ?_
            rw [rounds_succ]
            go_wp2
            go_ret
            exact ⟨bret (by rw [HM.out]), hB⟩
          · have r2 : regs ≤ a := by omega
            go_enter Tryz.func189, Tryz.ntmps189
            go_wp2_with fail
            refine (tc _).mono ?_
            rintro e w1 ⟨rfl, hb1⟩
            have i0 : w1.cell? ⟨w.heap.size, 0, none⟩ = some (.int .i64 op) := bkc hb1
            have zi0 := cell_lt i0
            have i1 : w1.cell? ⟨w.heap.size, 1, none⟩ = some (.int .i64 t) := bkc hb1
            have i2 : w1.cell? ⟨w.heap.size, 2, none⟩ = some (.int .i64 a) := bkc hb1
            have i3 : w1.cell? ⟨w.heap.size, 3, none⟩ = some (.int .i64 b) := bkc hb1
            have i4 : w1.cell? ⟨w.heap.size, 4, none⟩ = some (.int .i64 c) := bkc hb1
            have hB : Below w.heap.size w w1 := bthen (by repeat (first|exact bzR _ _|exact hB|refine bzD ?_|refine bzN ?_|refine bzS ?_|refine bzA ?_)) hb1
            have hz : w.heap.size ≤ w1.heap.size := hB.size
            go_wp2_with fail
            refine (cc _).mono ?_
            rintro e w2 ⟨rfl, hb2⟩
            have i0 : w2.cell? ⟨w.heap.size, 0, none⟩ = some (.int .i64 op) := bkc hb2
            have zi0 := cell_lt i0
            have i1 : w2.cell? ⟨w.heap.size, 1, none⟩ = some (.int .i64 t) := bkc hb2
            have i2 : w2.cell? ⟨w.heap.size, 2, none⟩ = some (.int .i64 a) := bkc hb2
            have i3 : w2.cell? ⟨w.heap.size, 3, none⟩ = some (.int .i64 b) := bkc hb2
            have i4 : w2.cell? ⟨w.heap.size, 4, none⟩ = some (.int .i64 c) := bkc hb2
            have hB : Below w.heap.size w w2 := bthen (by repeat (first|exact bzR _ _|exact hB|refine bzD ?_|refine bzN ?_|refine bzS ?_|refine bzA ?_)) hb2
            have hz : w.heap.size ≤ w2.heap.size := hB.size
            go_wp2_with fail
            refine (ac _).mono ?_
            rintro e w3 ⟨rfl, q0, hb3⟩
            have i0 : w3.cell? ⟨w.heap.size, 0, none⟩ = some (.int .i64 op) := bkc hb3
            have zi0 := cell_lt i0
            have i1 : w3.cell? ⟨w.heap.size, 1, none⟩ = some (.int .i64 t) := bkc hb3
            have i2 : w3.cell? ⟨w.heap.size, 2, none⟩ = some (.int .i64 a) := bkc hb3
            have i3 : w3.cell? ⟨w.heap.size, 3, none⟩ = some (.int .i64 b) := bkc hb3
            have i4 : w3.cell? ⟨w.heap.size, 4, none⟩ = some (.int .i64 c) := bkc hb3
            have hB : Below w.heap.size w w3 := bthen (by repeat (first|exact bzR _ _|exact hB|refine bzD ?_|refine bzN ?_|refine bzS ?_|refine bzA ?_)) hb3
            have hz : w.heap.size ≤ w3.heap.size := hB.size
            go_wp2
            refine wp_loop_rounds 2 ?_
            rw [rounds_succ]
            go_wp2
            go_ret
            exact ⟨bret (by rw [HM.out]), hB⟩
    · have hbz : (b != 0) = true := by simpa using hb
      have HM := Lib.hid (show mayB op t a b c regs = false from mayB_no (fun k => hb (k.2.2.2.2.1 hT)))
      clear hT hb cc
      go_enter Tryz.func189, Tryz.ntmps189
      go_wp2_with fail
      refine (tc _).mono ?_
      rintro e w1 ⟨rfl, hb1⟩
      have i0 : w1.cell? ⟨w.heap.size, 0, none⟩ = some (.int .i64 op) := bkc hb1
      have zi0 := cell_lt i0
      have i1 : w1.cell? ⟨w.heap.size, 1, none⟩ = some (.int .i64 t) := bkc hb1
      have i2 : w1.cell? ⟨w.heap.size, 2, none⟩ = some (.int .i64 a) := bkc hb1
      have i3 : w1.cell? ⟨w.heap.size, 3, none⟩ = some (.int .i64 b) := bkc hb1
      have i4 : w1.cell? ⟨w.heap.size, 4, none⟩ = some (.int .i64 c) := bkc hb1
      have hB : Below w.heap.size w w1 := bthen (by repeat (first|exact bzR _ _|exact hB|refine bzD ?_|refine bzN ?_|refine bzS ?_|refine bzA ?_)) hb1
      have hz : w.heap.size ≤ w1.heap.size := hB.size
      go_wp2
      go_ret
      exact ⟨bret (by rw [HM.out]), hB⟩
  | true =>
    have tc := tc _ hT
    have h34 : op = 3 ∨ op = 4 := by simpa [twoB] using hT
    cases hC : constB op c with
    | false =>
      have HM := Lib.hid (show mayB op t a b c regs = false from mayB_no (by rw [hC]; simp))
      have cc := cc _ hC
      clear hT hC h34
      go_enter Tryz.func189, Tryz.ntmps189
      go_wp2_with fail
      refine (tc _).mono ?_
      rintro e w1 ⟨rfl, hb1⟩
      have i0 : w1.cell? ⟨w.heap.size, 0, none⟩ = some (.int .i64 op) := bkc hb1
      have zi0 := cell_lt i0
      have i1 : w1.cell? ⟨w.heap.size, 1, none⟩ = some (.int .i64 t) := bkc hb1
      have i2 : w1.cell? ⟨w.heap.size, 2, none⟩ = some (.int .i64 a) := bkc hb1
      have i3 : w1.cell? ⟨w.heap.size, 3, none⟩ = some (.int .i64 b) := bkc hb1
      have i4 : w1.cell? ⟨w.heap.size, 4, none⟩ = some (.int .i64 c) := bkc hb1
      have hB : Below w.heap.size w w1 := bthen (by repeat (first|exact bzR _ _|exact hB|refine bzD ?_|refine bzN ?_|refine bzS ?_|refine bzA ?_)) hb1
      have hz : w.heap.size ≤ w1.heap.size := hB.size
      go_wp2_with fail
      refine (cc _).mono ?_
      rintro e w2 ⟨rfl, hb2⟩
      have i0 : w2.cell? ⟨w.heap.size, 0, none⟩ = some (.int .i64 op) := bkc hb2
      have zi0 := cell_lt i0
      have i1 : w2.cell? ⟨w.heap.size, 1, none⟩ = some (.int .i64 t) := bkc hb2
      have i2 : w2.cell? ⟨w.heap.size, 2, none⟩ = some (.int .i64 a) := bkc hb2
      have i3 : w2.cell? ⟨w.heap.size, 3, none⟩ = some (.int .i64 b) := bkc hb2
      have i4 : w2.cell? ⟨w.heap.size, 4, none⟩ = some (.int .i64 c) := bkc hb2
      have hB : Below w.heap.size w w2 := bthen (by repeat (first|exact bzR _ _|exact hB|refine bzD ?_|refine bzN ?_|refine bzS ?_|refine bzA ?_)) hb2
      have hz : w.heap.size ≤ w2.heap.size := hB.size
      go_wp2
      go_ret
      exact ⟨bret (by rw [HM.out]), hB⟩
    | true =>
      have cc := cc _ hC
      have ac := fun W => asks_two op t a b c W h34
      have HM := Lib.hid (show mayB op t a b c regs = decide (0 ≤ a ∧ a < regs ∧ 0 ≤ b ∧ b < regs) by
        rw [Bool.eq_iff_iff, mayB_iff, decide_eq_true_iff, hT, hC]
        constructor
        · exact fun k => ⟨k.2.2.2.2.2.2.1, k.2.2.2.2.2.2.2.1, (k.2.2.2.2.2.2.2.2 rfl).1, (k.2.2.2.2.2.2.2.2 rfl).2⟩
        · exact fun k => ⟨by omega, by omega, by omega, by omega, fun h => by (cases h), rfl, k.1, k.2.1, fun _ => k.2.2⟩)
      clear hT hC h34
      go_enter Tryz.func189, Tryz.ntmps189
      go_wp2_with fail
      refine (tc _).mono ?_
      rintro e w1 ⟨rfl, hb1⟩
      have i0 : w1.cell? ⟨w.heap.size, 0, none⟩ = some (.int .i64 op) := bkc hb1
      have zi0 := cell_lt i0
      have i1 : w1.cell? ⟨w.heap.size, 1, none⟩ = some (.int .i64 t) := bkc hb1
      have i2 : w1.cell? ⟨w.heap.size, 2, none⟩ = some (.int .i64 a) := bkc hb1
      have i3 : w1.cell? ⟨w.heap.size, 3, none⟩ = some (.int .i64 b) := bkc hb1
      have i4 : w1.cell? ⟨w.heap.size, 4, none⟩ = some (.int .i64 c) := bkc hb1
      have hB : Below w.heap.size w w1 := bthen (by repeat (first|exact bzR _ _|exact hB|refine bzD ?_|refine bzN ?_|refine bzS ?_|refine bzA ?_)) hb1
      have hz : w.heap.size ≤ w1.heap.size := hB.size
      go_wp2_with fail
      refine (cc _).mono ?_
      rintro e w2 ⟨rfl, hb2⟩
      have i0 : w2.cell? ⟨w.heap.size, 0, none⟩ = some (.int .i64 op) := bkc hb2
      have zi0 := cell_lt i0
      have i1 : w2.cell? ⟨w.heap.size, 1, none⟩ = some (.int .i64 t) := bkc hb2
      have i2 : w2.cell? ⟨w.heap.size, 2, none⟩ = some (.int .i64 a) := bkc hb2
      have i3 : w2.cell? ⟨w.heap.size, 3, none⟩ = some (.int .i64 b) := bkc hb2
      have i4 : w2.cell? ⟨w.heap.size, 4, none⟩ = some (.int .i64 c) := bkc hb2
      have hB : Below w.heap.size w w2 := bthen (by repeat (first|exact bzR _ _|exact hB|refine bzD ?_|refine bzN ?_|refine bzS ?_|refine bzA ?_)) hb2
      have hz : w.heap.size ≤ w2.heap.size := hB.size
      go_wp2_with fail
      refine (ac _).mono ?_
      rintro e w3 ⟨rfl, q0, q1, hb3⟩
      have i0 : w3.cell? ⟨w.heap.size, 0, none⟩ = some (.int .i64 op) := bkc hb3
      have zi0 := cell_lt i0
      have i1 : w3.cell? ⟨w.heap.size, 1, none⟩ = some (.int .i64 t) := bkc hb3
      have i2 : w3.cell? ⟨w.heap.size, 2, none⟩ = some (.int .i64 a) := bkc hb3
      have i3 : w3.cell? ⟨w.heap.size, 3, none⟩ = some (.int .i64 b) := bkc hb3
      have i4 : w3.cell? ⟨w.heap.size, 4, none⟩ = some (.int .i64 c) := bkc hb3
      have hB : Below w.heap.size w w3 := bthen (by repeat (first|exact bzR _ _|exact hB|refine bzD ?_|refine bzN ?_|refine bzS ?_|refine bzA ?_)) hb3
      have hz : w.heap.size ≤ w3.heap.size := hB.size
      go_wp2
      refine wp_loop_rounds 3 ?_
      rw [rounds_succ]
      go_wp2
      all_goals first | go_ret | (rw [rounds_succ]; go_wp2)
      all_goals first | (exact ⟨bret (by rw [HM.out, eq_comm, decide_eq_false_iff_not]; omega), hB⟩) | go_ret | (rw [rounds_succ]; go_wp2)
      all_goals first | (exact ⟨bret (by rw [HM.out, eq_comm, decide_eq_false_iff_not]; omega), hB⟩) | (exact ⟨bret (by rw [HM.out, eq_comm, decide_eq_true_iff]; omega), hB⟩) | (go_ret; exact ⟨bret (by rw [HM.out, eq_comm, decide_eq_true_iff]; omega), hB⟩)
end Go.Proofs.YtbmaffijncapiaaGreatDoor

/- prog: Check. -/
namespace Go.Proofs.YtbmaffijncapiaaGreatDoor
open Go.ChangeShapes Go.WideShapes Go.ChangeAt Go.RowKit
set_option linter.unusedVariables false
set_option linter.unusedSimpArgs false
def IntsV (w : World) (a : Option Addr) (cap : Nat) (L : List Int) : Prop := L = [] ∨ ∃ b off, a = some ⟨b, off, none⟩ ∧ L.length ≤ cap ∧ ∀ k, k < L.length → w.cell? ⟨b, off + k, none⟩ = some (.int .i64 (L.getD k 0))
theorem IntsV.keep {w w' : World} {a : Option Addr} {cap : Nat} {L : List Int} (h : IntsV w a cap L) (hb : Below w.heap.size w w') : IntsV w' a cap L := by
  rcases h with h | ⟨b, off, h1, h2, h3⟩
  · exact .inl h
  · exact .inr ⟨b, off, h1, h2, fun k hk => bkeep hb (h3 k hk)⟩
structure InsAt (w : World) (b off : Nat) (i : Ins) : Prop where
  c0 : w.cell? ⟨b, off, none⟩ = some (.int .i64 i.op)
  c1 : w.cell? ⟨b, off + 1, none⟩ = some (.int .i64 i.to)
  c2 : w.cell? ⟨b, off + 2, none⟩ = some (.int .i64 i.a)
  c3 : w.cell? ⟨b, off + 3, none⟩ = some (.int .i64 i.b)
  c4 : w.cell? ⟨b, off + 4, none⟩ = some (.int .i64 i.c)
def InsV (w : World) (a : Option Addr) (cap : Nat) (L : List Ins) : Prop := L = [] ∨ ∃ b off, a = some ⟨b, off, none⟩ ∧ L.length ≤ cap ∧ ∀ k, k < L.length → InsAt w b (off + k * 5) (L.getD k default)
theorem InsAt.keep {w w' : World} {b off : Nat} {i : Ins} (h : InsAt w b off i) (hb : Below w.heap.size w w') : InsAt w' b off i := ⟨bkeep hb h.c0, bkeep hb h.c1, bkeep hb h.c2, bkeep hb h.c3, bkeep hb h.c4⟩
theorem InsV.keep {w w' : World} {a : Option Addr} {cap : Nat} {L : List Ins} (h : InsV w a cap L) (hb : Below w.heap.size w w') : InsV w' a cap L := by
  rcases h with h | ⟨b, off, h1, h2, h3⟩
  · exact .inl h
  · exact .inr ⟨b, off, h1, h2, fun k hk => (h3 k hk).keep hb⟩
def FromA (B : Nat) (t : TypeId) (w : World) (a : Option Addr) : Prop := ∀ p, a = some p → B ≤ p.block ∧ typOf w p.block = some t
theorem FromA.nil (B : Nat) (t : TypeId) (w : World) : FromA B t w none := fun _ e => by cases e
theorem FromA.keep {B : Nat} {t : TypeId} {w w' : World} {a : Option Addr} (h : FromA B t w a) (hb : Below w.heap.size w w') : FromA B t w' a := fun p e => ⟨(h p e).1, typ_keep (h p e).2 hb⟩
theorem FromA.mono {B C : Nat} {t : TypeId} {w : World} {a : Option Addr} (h : FromA B t w a) (hc : C ≤ B) : FromA C t w a := fun p e => ⟨Nat.le_trans hc (h p e).1, (h p e).2⟩
theorem FromA.set {B : Nat} {t : TypeId} {w : World} {a : Option Addr} (h : FromA B t w a) (q : Addr) (v : Value) : FromA B t (w.setCell q v) a := fun p e => ⟨(h p e).1, by rw [typ_set]; exact (h p e).2⟩
theorem IntsV.far {w : World} {a : Option Addr} {cap : Nat} {L : List Int} (h : IntsV w a cap L) {q : Addr} (hq : ∀ p, a = some p → p.block ≠ q.block) (v : Value) : IntsV (w.setCell q v) a cap L := by
  rcases h with h | ⟨b, off, h1, h2, h3⟩
  · exact .inl h
  · exact .inr ⟨b, off, h1, h2, fun k hk => cell_far (h3 k hk) (fun e => hq _ h1 (by rw [e])) v⟩
theorem InsV.far {w : World} {a : Option Addr} {cap : Nat} {L : List Ins} (h : InsV w a cap L) {q : Addr} (hq : ∀ p, a = some p → p.block ≠ q.block) (v : Value) : InsV (w.setCell q v) a cap L := by
  rcases h with h | ⟨b, off, h1, h2, h3⟩
  · exact .inl h
  · refine .inr ⟨b, off, h1, h2, fun k hk => ?_⟩
    have hn : ∀ o, q ≠ (⟨b, o, Option.none⟩ : Addr) := fun o e => hq _ h1 (by rw [e])
    obtain ⟨c0, c1, c2, c3, c4⟩ := h3 k hk
    exact ⟨cell_far c0 (hn _) v, cell_far c1 (hn _) v, cell_far c2 (hn _) v, cell_far c3 (hn _) v, cell_far c4 (hn _) v⟩
structure ProgOk (ins regs : Int) (code : List Ins) (outs : List Int) : Prop where
  i1 : 1 ≤ ins
  i2 : ins ≤ regs
  r1 : regs ≤ 128
  c1 : code.length ≤ 16384
  o1 : 1 ≤ outs.length
  o2 : outs.length ≤ 128
  os : ∀ k, k < outs.length → 0 ≤ outs.getD k 0 ∧ outs.getD k 0 < regs
  cs : ∀ k, k < code.length → mayB (code.getD k default).op (code.getD k default).to (code.getD k default).a (code.getD k default).b (code.getD k default).c regs = true

set_option maxRecDepth 100000 in
set_option maxHeartbeats 8000000 in
theorem check_c (ins regs : Int) (ca oa : Option Addr) (cc oc : Nat) (code : List Ins) (outs : List Int) (w : World) (hc : InsV w ca cc code) (ho : IntsV w oa oc outs) :
    Calls Tryz.prog 94 #[.agg #[.int .i64 ins, .int .i64 regs, .slice ca code.length cc, .slice oa outs.length oc]] w fun e w' => ∃ r s : Int, e = .returned (.tuple #[.int .i64 r, .int .i64 s]) ∧ ((ProgOk ins regs code outs ∧ r = 0 ∧ s = 0) ∨ (¬ ProgOk ins regs code outs ∧ s = 80)) ∧ Below w.heap.size w w' := by
  by_cases h1 : ins < 1
  · have HM := Lib.hid (show ¬ ProgOk ins regs code outs from fun k => by have := k.i1; omega)
    go_enter Tryz.func94, Tryz.ntmps94
    go_wp2
    refine bodyPost_ret (v := .tuple #[.int .i64 (-1), .int .i64 80]) (by simp [results, Tryz.results94, go_sem]) rfl ⟨_, _, rfl, .inr ⟨HM.out, rfl⟩, ?_⟩
    repeat (first | exact Below.refl _ _ | assumption | refine bal ?_ _)
  by_cases h2 : regs < ins
  · have HM := Lib.hid (show ¬ ProgOk ins regs code outs from fun k => by have := k.i2; omega)
    go_enter Tryz.func94, Tryz.ntmps94
    go_wp2
    refine bodyPost_ret (v := .tuple #[.int .i64 (-1), .int .i64 80]) (by simp [results, Tryz.results94, go_sem]) rfl ⟨_, _, rfl, .inr ⟨HM.out, rfl⟩, ?_⟩
    repeat (first | exact Below.refl _ _ | assumption | refine bal ?_ _)
  by_cases h3 : 128 < regs
  · have HM := Lib.hid (show ¬ ProgOk ins regs code outs from fun k => by have := k.r1; omega)
    go_enter Tryz.func94, Tryz.ntmps94
    go_wp2
    refine bodyPost_ret (v := .tuple #[.int .i64 (-1), .int .i64 80]) (by simp [results, Tryz.results94, go_sem]) rfl ⟨_, _, rfl, .inr ⟨HM.out, rfl⟩, ?_⟩
    repeat (first | exact Below.refl _ _ | assumption | refine bal ?_ _)
  by_cases h4 : (16384 : Int) < (code.length : Int)
  · have HM := Lib.hid (show ¬ ProgOk ins regs code outs from fun k => by have := k.c1; omega)
    go_enter Tryz.func94, Tryz.ntmps94
    go_wp2
    refine bodyPost_ret (v := .tuple #[.int .i64 (-1), .int .i64 80]) (by simp [results, Tryz.results94, go_sem]) rfl ⟨_, _, rfl, .inr ⟨HM.out, rfl⟩, ?_⟩
    repeat (first | exact Below.refl _ _ | assumption | refine bal ?_ _)
  by_cases h5 : (outs.length : Int) < 1
  · have HM := Lib.hid (show ¬ ProgOk ins regs code outs from fun k => by have := k.o1; omega)
    go_enter Tryz.func94, Tryz.ntmps94
    go_wp2
    refine bodyPost_ret (v := .tuple #[.int .i64 (-1), .int .i64 80]) (by simp [results, Tryz.results94, go_sem]) rfl ⟨_, _, rfl, .inr ⟨HM.out, rfl⟩, ?_⟩
    repeat (first | exact Below.refl _ _ | assumption | refine bal ?_ _)
  by_cases h6 : (128 : Int) < (outs.length : Int)
  · have HM := Lib.hid (show ¬ ProgOk ins regs code outs from fun k => by have := k.o2; omega)
    go_enter Tryz.func94, Tryz.ntmps94
    go_wp2
    refine bodyPost_ret (v := .tuple #[.int .i64 (-1), .int .i64 80]) (by simp [results, Tryz.results94, go_sem]) rfl ⟨_, _, rfl, .inr ⟨HM.out, rfl⟩, ?_⟩
    repeat (first | exact Below.refl _ _ | assumption | refine bal ?_ _)
  have HH := Lib.hid (And.intro (show 1 ≤ ins ∧ ins ≤ regs ∧ regs ≤ 128 by omega) (show code.length ≤ 16384 ∧ 1 ≤ outs.length ∧ outs.length ≤ 128 by omega))
  have hB := Below.refl w.heap.size w
  go_enter Tryz.func94, Tryz.ntmps94
  go_wp2
  refine wp_name fun w0 hW0 => ?_
  have p0 : w0.cell? ⟨w.heap.size, 0, none⟩ = some (.int .i64 ins) := by rw [hW0]; exact (by first | assumption | exact cell_new (by with_reducible first | rfl | (simp; done) | (simp; omega)) rfl | (repeat (first | assumption | exact cell_new (by with_reducible first | rfl | (simp; done) | (simp; omega)) rfl | refine cell_alloc ?_ _ | refine cell_drew ?_ | refine cell_drewN ?_ _ | refine cell_far ?_ (by simp) _ | (refine cell_far ?_ (by simp <;> omega) _))) | simp [go_sem, *])
  have zp0 := cell_lt p0
  have p1 : w0.cell? ⟨w.heap.size, 1, none⟩ = some (.int .i64 regs) := by rw [hW0]; exact (by first | assumption | exact cell_new (by with_reducible first | rfl | (simp; done) | (simp; omega)) rfl | (repeat (first | assumption | exact cell_new (by with_reducible first | rfl | (simp; done) | (simp; omega)) rfl | refine cell_alloc ?_ _ | refine cell_drew ?_ | refine cell_drewN ?_ _ | refine cell_far ?_ (by simp) _ | (refine cell_far ?_ (by simp <;> omega) _))) | simp [go_sem, *])
  have p2 : w0.cell? ⟨w.heap.size, 2, none⟩ = some (.slice ca code.length cc) := by rw [hW0]; exact (by first | assumption | exact cell_new (by with_reducible first | rfl | (simp; done) | (simp; omega)) rfl | (repeat (first | assumption | exact cell_new (by with_reducible first | rfl | (simp; done) | (simp; omega)) rfl | refine cell_alloc ?_ _ | refine cell_drew ?_ | refine cell_drewN ?_ _ | refine cell_far ?_ (by simp) _ | (refine cell_far ?_ (by simp <;> omega) _))) | simp [go_sem, *])
  have p3 : w0.cell? ⟨w.heap.size, 3, none⟩ = some (.slice oa outs.length oc) := by rw [hW0]; exact (by first | assumption | exact cell_new (by with_reducible first | rfl | (simp; done) | (simp; omega)) rfl | (repeat (first | assumption | exact cell_new (by with_reducible first | rfl | (simp; done) | (simp; omega)) rfl | refine cell_alloc ?_ _ | refine cell_drew ?_ | refine cell_drewN ?_ _ | refine cell_far ?_ (by simp) _ | (refine cell_far ?_ (by simp <;> omega) _))) | simp [go_sem, *])
  have hB : Below w.heap.size w w0 := by rw [hW0]; repeat (first|exact bzR _ _|exact hB|refine bzD ?_|refine bzN ?_|refine bzS ?_|refine bzA ?_)
  have hz : w.heap.size ≤ w0.heap.size := hB.size
  clear hW0
  clear h1 h2 h3 h4 h5 h6
  go_loopw [44] (fun x wr => ∃ k : Nat, k ≤ outs.length ∧ x = .int .i64 k ∧ wr = w0 ∧ Hid (∀ j, j < k → 0 ≤ outs.getD j 0 ∧ outs.getD j 0 < regs)) (fun x _ => outs.length - (intOf x).toNat)
  case atStart => exact ⟨0, Nat.zero_le _, rfl, rfl, Lib.hid (fun j hj => by omega)⟩
  case round =>
    obtain ⟨k, hk, rfl, rfl, hall⟩ := hrel
    have hk8 : outs.length ≤ 128 := HH.out.2.2.2
    by_cases hlt : k < outs.length
    · rcases ho.keep hB with h0 | ⟨b, off, rfl, hcap, hcell⟩
      · rw [h0] at hlt; simp at hlt
      have q0 := hcell k hlt
      have HK := Lib.hid (show ∀ v, v = outs.getD k 0 → ¬ (0 ≤ v ∧ v < regs) → ¬ ProgOk ins regs code outs from fun v hv h hp => h (by rw [hv]; exact hp.os k hlt))
      have HS := Lib.hid (show ∀ v, v = outs.getD k 0 → (0 ≤ v ∧ v < regs) → ∀ j, j < k + 1 → 0 ≤ outs.getD j 0 ∧ outs.getD j 0 < regs from fun v hv h j hj => by
        by_cases e : j = k
        · subst e; rw [← hv]; exact h
        · exact hall.out j (by omega))
      obtain ⟨r, hr⟩ : ∃ r, r = outs.getD k 0 := ⟨_, rfl⟩
      rw [← hr] at q0
      have HR := Lib.hid hr
      clear hr hcell
      by_cases r1 : r < 0
      · have HM := Lib.hid (HK.out r HR.out (by omega))
        go_wp2
        refine bodyPost_ret (v := .tuple #[.int .i64 (-1), .int .i64 80]) (by simp [results, Tryz.results94, go_sem]) rfl ⟨_, _, rfl, .inr ⟨HM.out, rfl⟩, ?_⟩
        repeat (first | exact Below.refl _ _ | assumption | refine bal ?_ _)
      by_cases r2 : regs ≤ r
      · have HM := Lib.hid (HK.out r HR.out (by omega))
        go_wp2
        refine bodyPost_ret (v := .tuple #[.int .i64 (-1), .int .i64 80]) (by simp [results, Tryz.results94, go_sem]) rfl ⟨_, _, rfl, .inr ⟨HM.out, rfl⟩, ?_⟩
        repeat (first | exact Below.refl _ _ | assumption | refine bal ?_ _)
      go_wp2
      exact ⟨⟨k + 1, by omega, by go_num, by first | rfl | trivial, Lib.hid (HS.out r HR.out (by omega))⟩, by simp [intOf]; omega⟩
    · obtain rfl : k = outs.length := by omega
      have HO := Lib.hid hall.out
      clear hall hlt hk
      have hrl : wr.heap.size = wr.heap.size := rfl
      go_wp2
      go_loopw [60] (fun x wi => ∃ k : Nat, k ≤ code.length ∧ x = .int .i64 k ∧ Below wr.heap.size wr wi ∧ Hid (∀ j, j < k → mayB (code.getD j default).op (code.getD j default).to (code.getD j default).a (code.getD j default).b (code.getD j default).c regs = true)) (fun x _ => code.length - (intOf x).toNat)
      case atStart => exact ⟨0, Nat.zero_le _, rfl, Below.refl _ _, Lib.hid (fun j hj => by omega)⟩
      case round =>
        rename World => wi
        obtain ⟨k, hk, rfl, hBi, hall⟩ := hrel
        have hk9 : code.length ≤ 16384 := HH.out.2.1
        have hBB := bthen hB hBi
        have p0 := bkeep hBi p0
        have p1 := bkeep hBi p1
        have zp := cell_lt p0
        by_cases hlt : k < code.length
        · rcases hc.keep hBB with h0 | ⟨b, off, rfl, hcap, hcell⟩
          · rw [h0] at hlt; simp at hlt
          obtain ⟨q0, q1, q2, q3, q4⟩ := hcell k hlt
          have HK := Lib.hid (show ∀ i : Ins, i = code.getD k default → mayB i.op i.to i.a i.b i.c regs = false → ¬ ProgOk ins regs code outs from fun i hi h hp => by
            have := hp.cs k hlt
            rw [← hi, h] at this; cases this)
          have HS := Lib.hid (show ∀ i : Ins, i = code.getD k default → mayB i.op i.to i.a i.b i.c regs = true → ∀ j, j < k + 1 → mayB (code.getD j default).op (code.getD j default).to (code.getD j default).a (code.getD j default).b (code.getD j default).c regs = true from fun i hi h j hj => by
            by_cases e : j = k
            · subst e; rw [← hi]; exact h
            · exact hall.out j (by omega))
          obtain ⟨i, hi⟩ : ∃ i, i = code.getD k default := ⟨_, rfl⟩
          rw [← hi] at q0 q1 q2 q3 q4
          have HI := Lib.hid hi
          clear hi hcell
          obtain ⟨op, t, ia, ib, ic⟩ := i
          dsimp only at q0 q1 q2 q3 q4
          have hmc := fun W => may_c op t ia ib ic regs W
          cases hm : mayB op t ia ib ic regs with
          | true =>
            have HSM := Lib.hid (HS.out _ HI.out hm)
            rw [hm] at hmc
            clear hm
            go_wp2_with fail
            refine (hmc _).mono ?_
            rintro e w5 ⟨rfl, hb5⟩
            have hB5 := bthen (bal hBi _) hb5
            go_wp2
            exact ⟨⟨k + 1, by omega, by go_num, hB5, HSM⟩, by simp [intOf]; omega⟩
          | false =>
            have HM := Lib.hid (HK.out _ HI.out hm)
            rw [hm] at hmc
            clear hm
            go_wp2_with fail
            refine (hmc _).mono ?_
            rintro e w5 ⟨rfl, hb5⟩
            have hB5 := bthen (bal hBi _) hb5
            go_wp2
            refine bodyPost_ret (v := .tuple #[.int .i64 k, .int .i64 80]) (by simp [results, Tryz.results94, go_sem]) rfl ⟨_, _, rfl, .inr ⟨HM.out, rfl⟩, bthen hB hB5⟩
        · obtain rfl : k = code.length := by omega
          have HM := Lib.hid (show ProgOk ins regs code outs from ⟨HH.out.1.1, HH.out.1.2.1, HH.out.1.2.2, HH.out.2.1, HH.out.2.2.1, HH.out.2.2.2, HO.out, hall.out⟩)
          go_wp2
          refine bodyPost_ret (v := .tuple #[.int .i64 0, .int .i64 0]) (by simp [results, Tryz.results94, go_sem]) rfl ⟨_, _, rfl, .inl ⟨HM.out, rfl, rfl⟩, hBB⟩
end Go.Proofs.YtbmaffijncapiaaGreatDoor

/- slices.Clone at []int. -/
namespace Go.Proofs.YtbmaffijncapiaaGreatDoor
open Go.ChangeShapes Go.WideShapes Go.ChangeAt Go.RowKit
set_option linter.unusedVariables false
set_option linter.unusedSimpArgs false
def icel (L : List Int) : List Value := L.map fun x => .int .i64 x
theorem icel_len (L : List Int) : (icel L).length = L.length := by simp [icel]
theorem icel_get (L : List Int) (k : Nat) (h : k < L.length) : (icel L)[k]? = some (.int .i64 (L.getD k 0)) := by simp [icel, h]
theorem icel_one (L : List Int) : ∀ v ∈ icel L, v.oneCell' = true := by
  intro v hv; simp only [icel, List.mem_map] at hv; obtain ⟨x, _, rfl⟩ := hv; rfl
theorem infoI : (Tryz.prog.info? 3).map (fun i => (i.zero, i.size, i.bytes)) = some (some (.int .i64 0), 1, 8) := by kernel_rfl
theorem elI : Elt Tryz.prog 23 3 1 8 := Elt.mk' Tryz.underlying23 infoI rfl (by decide) (by decide)
theorem own_ints {w : World} {base : Nat} {v : Value} {n : Nat} {L : List Int} (h : w.ownsRow base 3 1 v n (icel L)) : ∃ a c, v = .slice a L.length c ∧ IntsV w a c L ∧ FromA base 3 w a := by
  have hn : L.length = n := by have := h.1; rw [icel_len] at this; omega
  subst hn
  have h' := h
  rcases h.2 with ⟨rfl, h1⟩ | ⟨g, cap, cur, rfl, hb, hgg, hc, _⟩
  · exact ⟨none, 0, by rw [h1], .inl (List.length_eq_zero_iff.1 h1), FromA.nil _ _ _⟩
  · refine ⟨_, _, rfl, .inr ⟨g, 0, rfl, hc, fun k hk => ?_⟩, fun p e => by cases e; exact ⟨hb, by unfold typOf; rw [hgg]⟩⟩
    rw [Nat.zero_add, World.ownsRow.cellAt h' k (by omega), icel_get L k hk]
set_option maxRecDepth 100000 in
set_option maxHeartbeats 1000000 in
theorem cloneInts_c (a : Option Addr) (ca : Nat) (L : List Int) (w : World) (ha : IntsV w a ca L) (hn : a = none → L = []) (h1 : L.length ≤ 1099511627776) :
    Calls Tryz.prog 215 #[.slice a L.length ca] w fun e w' => (∃ a' c', e = .returned (.slice a' L.length c') ∧ IntsV w' a' c' L ∧ FromA w.heap.size 3 w' a') ∧ Below w.heap.size w w' := by
  have hB0 := Below.refl w.heap.size w
  have hq := fun w => Lib.run_eql_slice_nil w 23 3 a L.length ca 0 0 Tryz.underlying23
  cases a with
  | none =>
    obtain rfl : L = [] := hn rfl
    have hq2 : ∀ w, (binOp .eql 23 (.slice none 0 ca) (.slice none 0 0)).run Tryz.prog w = .ok (.bool true) w := hq
    clear hq
    go_enter Tryz.func215, Tryz.ntmps215
    go_wp2
    go_ret
    exact ⟨⟨none, 0, rfl, .inl rfl, FromA.nil _ _ _⟩, Below.refl _ _⟩
  | some ad =>
    obtain ⟨i0, z0, hi, hz0, hz1, hz2, hz3⟩ := elI.info
    have hnews : ∀ (W : World), Below w.heap.size w W → ∀ j u, (icel L)[j]? = some u → W.cell? (ad.add j) = some u := by
      intro W hW j v hj
      have hjl : j < L.length := by have := (List.getElem?_eq_some_iff.1 hj).1; rwa [icel_len] at this
      rw [icel_get L j hjl] at hj
      cases hj
      rcases ha with h | ⟨b, off, h, _, hcell⟩
      · subst h; simp at hjl
      · cases h
        have := bkeep hW (hcell j hjl)
        unfold Addr.add
        split
        · subst_vars; simpa using this
        · exact this
    clear ha
    have ho : (w.alloc (.cells #[] 3)).ownsRow w.heap.size 3 1 (.slice (some ⟨w.heap.size, 0, none⟩) 0 0) 0 [] := ⟨rfl, .inr ⟨w.heap.size, 0, #[], rfl, Nat.le_refl _, (MapKept.heap_alloc w _).1, Nat.le_refl _, by unfold maxLen; omega, rfl, rfl⟩⟩
    go_enter Tryz.func215, Tryz.ntmps215
    go_wp2_with (at_builtin; refine wpList_append_own _ rfl _ _ 23 rfl w.heap.size 3 i0 z0 1 8 Tryz.underlying23 hi hz0 hz1 hz2 hz3 (by decide) _ 0 [] rfl ho ad L.length ca (icel L) rfl (by rw [icel_len, Nat.mul_one]) (hnews _ (bal hB0 _)) (icel_one L) (by unfold maxLen; omega) (by omega) (by simp) ?_)
    intro v' w1 hown hgrow _
    have hbel := below_append (wr := w) (bal hB0 _) ho hgrow
    obtain ⟨a', c', rfl, hu, hfr⟩ := own_ints hown
    have HU := Lib.hid (And.intro hu hfr)
    clear hown hnews hq hgrow hu ho hfr
    go_wp2
    go_ret
    exact ⟨⟨a', c', rfl, HU.out.1, HU.out.2⟩, hbel⟩
end Go.Proofs.YtbmaffijncapiaaGreatDoor

