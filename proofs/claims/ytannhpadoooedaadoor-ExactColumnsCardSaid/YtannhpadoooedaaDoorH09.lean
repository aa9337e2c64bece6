/- Texts of this seat, laid together: RpA, RpB, Wo. Each opens with its own remark, which says what it proves, and under which conditions. -/
import Derived.Test.YtannhpadoooedaaDoorG14
import Derived.Test.YtannhpadoooedaaDoorG40
import Derived.SizedLaws
set_option linter.unusedVariables false
set_option linter.unusedSimpArgs false
/- The reference's programs: May. -/
namespace Go.Proofs.YtannhpadoooedaaDoor
open Go.ChangeShapes Go.WideShapes Go.ChangeAt Go.RowKit
set_option linter.unusedVariables false
set_option linter.unusedSimpArgs false
theorem mayB_34 {op t a b c regs : Int} (h : op = 3 ∨ op = 4) : mayB op t a b c regs = decide (0 ≤ t ∧ t < regs ∧ c = 0 ∧ 0 ≤ a ∧ a < regs ∧ 0 ≤ b ∧ b < regs) := by
  unfold mayB; rcases h with rfl | rfl <;> (rw [Bool.eq_iff_iff]; simp [twoB, constB] <;> omega)
theorem mayB_12 {op t a b c regs : Int} (h : op = 1 ∨ op = 2) : mayB op t a b c regs = decide (0 ≤ t ∧ t < regs ∧ c = 0 ∧ 0 ≤ a ∧ a < regs ∧ b = 0) := by
  unfold mayB; rcases h with rfl | rfl <;> (rw [Bool.eq_iff_iff]; simp [twoB, constB] <;> omega)
theorem mayB_56 {op t a b c regs : Int} (h : op = 5 ∨ op = 6) : mayB op t a b c regs = decide (0 ≤ t ∧ t < regs ∧ c ≠ 0 ∧ -512 ≤ c ∧ c ≤ 512 ∧ 0 ≤ a ∧ a < regs ∧ b = 0) := by
  unfold mayB; rcases h with rfl | rfl <;> (rw [Bool.eq_iff_iff]; simp [twoB, constB] <;> omega)
theorem mayB_78 {op t a b c regs : Int} (h : op = 7 ∨ op = 8) : mayB op t a b c regs = decide (0 ≤ t ∧ t < regs ∧ 1 ≤ c ∧ c ≤ 64 ∧ 0 ≤ a ∧ a < regs ∧ b = 0) := by
  unfold mayB; rcases h with rfl | rfl <;> (rw [Bool.eq_iff_iff]; simp [twoB, constB] <;> omega)
set_option maxRecDepth 100000 in
set_option maxHeartbeats 8000000 in
theorem rmay_c (op t a b c regs : Int) (w : World) : Calls Tryd.prog 84 #[.agg #[.int .i64 op, .int .i64 t, .int .i64 a, .int .i64 b, .int .i64 c], .int .i64 regs] w fun e w' => e = .returned (.bool (mayB op t a b c regs)) ∧ Below w.heap.size w w' := by
  by_cases h1 : op < 1
  · have HM := Lib.hid (show mayB op t a b c regs = false from mayB_no (by omega))
    go_enter Tryd.func84, Tryd.ntmps84
    go_wp2
    go_ret
    exact ⟨bret (by rw [HM.out]), by repeat (first | exact Below.refl _ _ | assumption | refine bset ?_ (by simp) _ | refine bal ?_ _)⟩
  by_cases h2 : 8 < op
  · have HM := Lib.hid (show mayB op t a b c regs = false from mayB_no (by omega))
    go_enter Tryd.func84, Tryd.ntmps84
    go_wp2
    go_ret
    exact ⟨bret (by rw [HM.out]), by repeat (first | exact Below.refl _ _ | assumption | refine bset ?_ (by simp) _ | refine bal ?_ _)⟩
  by_cases h3 : t < 0
  · have HM := Lib.hid (show mayB op t a b c regs = false from mayB_no (by omega))
    go_enter Tryd.func84, Tryd.ntmps84
    go_wp2
    go_ret
    exact ⟨bret (by rw [HM.out]), by repeat (first | exact Below.refl _ _ | assumption | refine bset ?_ (by simp) _ | refine bal ?_ _)⟩
  by_cases h4 : regs ≤ t
  · have HM := Lib.hid (show mayB op t a b c regs = false from mayB_no (by omega))
    go_enter Tryd.func84, Tryd.ntmps84
    go_wp2
    go_ret
    exact ⟨bret (by rw [HM.out]), by repeat (first | exact Below.refl _ _ | assumption | refine bset ?_ (by simp) _ | refine bal ?_ _)⟩
  by_cases h5 : a < 0
  · have HM := Lib.hid (show mayB op t a b c regs = false from mayB_no (by omega))
    go_enter Tryd.func84, Tryd.ntmps84
    go_wp2
    go_ret
    exact ⟨bret (by rw [HM.out]), by repeat (first | exact Below.refl _ _ | assumption | refine bset ?_ (by simp) _ | refine bal ?_ _)⟩
  by_cases h6 : regs ≤ a
  · have HM := Lib.hid (show mayB op t a b c regs = false from mayB_no (by omega))
    go_enter Tryd.func84, Tryd.ntmps84
    go_wp2
    go_ret
    exact ⟨bret (by rw [HM.out]), by repeat (first | exact Below.refl _ _ | assumption | refine bset ?_ (by simp) _ | refine bal ?_ _)⟩
  have hop : op = 1 ∨ op = 2 ∨ op = 3 ∨ op = 4 ∨ op = 5 ∨ op = 6 ∨ op = 7 ∨ op = 8 := by omega
  have h12 : ¬ op < 1 ∧ ¬ 8 < op := ⟨h1, h2⟩
  clear h1 h2 h12
  rcases hop with rfl | rfl | rfl | rfl | rfl | rfl | rfl | rfl
  ·
    rw [mayB_12 (.inl rfl)]
    go_enter Tryd.func84, Tryd.ntmps84
    go_wp2
    all_goals go_ret
    all_goals exact ⟨bret (by first | (rw [Bool.eq_iff_iff]; done) | (rw [Bool.eq_iff_iff]; simp; first | done | omega | (simp_all; done) | (simp_all; omega))), by repeat (first | exact Below.refl _ _ | assumption | refine bset ?_ (by simp) _ | refine bal ?_ _)⟩
  ·
    rw [mayB_12 (.inr rfl)]
    go_enter Tryd.func84, Tryd.ntmps84
    go_wp2
    all_goals go_ret
    all_goals exact ⟨bret (by first | (rw [Bool.eq_iff_iff]; done) | (rw [Bool.eq_iff_iff]; simp; first | done | omega | (simp_all; done) | (simp_all; omega))), by repeat (first | exact Below.refl _ _ | assumption | refine bset ?_ (by simp) _ | refine bal ?_ _)⟩
  ·
    rw [mayB_34 (.inl rfl)]
    go_enter Tryd.func84, Tryd.ntmps84
    go_wp2
    all_goals go_ret
    all_goals exact ⟨bret (by first | (rw [Bool.eq_iff_iff]; done) | (rw [Bool.eq_iff_iff]; simp; first | done | omega | (simp_all; done) | (simp_all; omega))), by repeat (first | exact Below.refl _ _ | assumption | refine bset ?_ (by simp) _ | refine bal ?_ _)⟩
  ·
    rw [mayB_34 (.inr rfl)]
    go_enter Tryd.func84, Tryd.ntmps84
    go_wp2
    all_goals go_ret
    all_goals exact ⟨bret (by first | (rw [Bool.eq_iff_iff]; done) | (rw [Bool.eq_iff_iff]; simp; first | done | omega | (simp_all; done) | (simp_all; omega))), by repeat (first | exact Below.refl _ _ | assumption | refine bset ?_ (by simp) _ | refine bal ?_ _)⟩
  ·
    rw [mayB_56 (.inl rfl)]
    go_enter Tryd.func84, Tryd.ntmps84
    go_wp2
    all_goals go_ret
    all_goals exact ⟨bret (by first | (rw [Bool.eq_iff_iff]; done) | (rw [Bool.eq_iff_iff]; simp; first | done | omega | (simp_all; done) | (simp_all; omega))), by repeat (first | exact Below.refl _ _ | assumption | refine bset ?_ (by simp) _ | refine bal ?_ _)⟩
  ·
    rw [mayB_56 (.inr rfl)]
    go_enter Tryd.func84, Tryd.ntmps84
    go_wp2
    all_goals go_ret
    all_goals exact ⟨bret (by first | (rw [Bool.eq_iff_iff]; done) | (rw [Bool.eq_iff_iff]; simp; first | done | omega | (simp_all; done) | (simp_all; omega))), by repeat (first | exact Below.refl _ _ | assumption | refine bset ?_ (by simp) _ | refine bal ?_ _)⟩
  ·
    rw [mayB_78 (.inl rfl)]
    go_enter Tryd.func84, Tryd.ntmps84
    go_wp2
    all_goals go_ret
    all_goals exact ⟨bret (by first | (rw [Bool.eq_iff_iff]; done) | (rw [Bool.eq_iff_iff]; simp; first | done | omega | (simp_all; done) | (simp_all; omega))), by repeat (first | exact Below.refl _ _ | assumption | refine bset ?_ (by simp) _ | refine bal ?_ _)⟩
  ·
    rw [mayB_78 (.inr rfl)]
    go_enter Tryd.func84, Tryd.ntmps84
    go_wp2
    all_goals go_ret
    all_goals exact ⟨bret (by first | (rw [Bool.eq_iff_iff]; done) | (rw [Bool.eq_iff_iff]; simp; first | done | omega | (simp_all; done) | (simp_all; omega))), by repeat (first | exact Below.refl _ _ | assumption | refine bset ?_ (by simp) _ | refine bal ?_ _)⟩
end Go.Proofs.YtannhpadoooedaaDoor
/- The reference's programs: Check, Right. -/
namespace Go.Proofs.YtannhpadoooedaaDoor
open Go.ChangeShapes Go.WideShapes Go.ChangeAt Go.RowKit
set_option linter.unusedVariables false
set_option linter.unusedSimpArgs false
/-- what the reference's Check answers; its Right -/
def RCheckP (ins regs : Int) (code : List Ins) (outs : List Int) (w : World) (e : Ending) (w' : World) : Prop := ∃ (r : Int) (b : Bool), e = .returned (.tuple #[.int .i64 r, .bool b]) ∧ (b = false ↔ ProgOk ins regs code outs) ∧ Below w.heap.size w w'
def RightP (ins regs : Int) (code : List Ins) (outs : List Int) (w : World) (e : Ending) (w' : World) : Prop := ∃ b : Bool, e = .returned (.bool b) ∧ (b = true ↔ ProgOk ins regs code outs) ∧ Below w.heap.size w w'
theorem rck_no {ins regs r : Int} {code : List Ins} {outs : List Int} {w w' : World} (h : ¬ ProgOk ins regs code outs) (hb : Below w.heap.size w w') : RCheckP ins regs code outs w (.returned (.tuple #[.int .i64 r, .bool true])) w' := ⟨_, _, rfl, ⟨(fun k => by cases k), fun k => absurd k h⟩, hb⟩
theorem rck_yes {ins regs r : Int} {code : List Ins} {outs : List Int} {w w' : World} (h : ProgOk ins regs code outs) (hb : Below w.heap.size w w') : RCheckP ins regs code outs w (.returned (.tuple #[.int .i64 r, .bool false])) w' := ⟨_, _, rfl, ⟨fun _ => h, fun _ => rfl⟩, hb⟩
theorem rri_no {ins regs : Int} {code : List Ins} {outs : List Int} {w w' : World} (h : ¬ ProgOk ins regs code outs) (hb : Below w.heap.size w w') : RightP ins regs code outs w (.returned (.bool false)) w' := ⟨_, rfl, ⟨(fun k => by cases k), fun k => absurd k h⟩, hb⟩
theorem rri_yes {ins regs : Int} {code : List Ins} {outs : List Int} {w w' : World} (h : ProgOk ins regs code outs) (hb : Below w.heap.size w w') : RightP ins regs code outs w (.returned (.bool true)) w' := ⟨_, rfl, ⟨fun _ => h, fun _ => rfl⟩, hb⟩
set_option maxRecDepth 100000 in
set_option maxHeartbeats 8000000 in
theorem rcheck_c (ins regs : Int) (ca oa : Option Addr) (cc oc : Nat) (code : List Ins) (outs : List Int) (w : World) (hc : InsV w ca cc code) (ho : IntsV w oa oc outs) :
    Calls Tryd.prog 51 #[.agg #[.int .i64 ins, .int .i64 regs, .slice ca code.length cc, .slice oa outs.length oc]] w (RCheckP ins regs code outs w) := by
  have hB := Below.refl w.heap.size w
  by_cases h1 : ins < 1
  · have HM := Lib.hid (show ¬ ProgOk ins regs code outs from fun k => by have := k.i1; omega)
    go_enter Tryd.func51, Tryd.ntmps51
    go_wp2
    go_ret2
    refine rck_no HM.out ?_
    repeat (first | exact Below.refl _ _ | exact hB | refine Below.drew ?_ | refine below_drewN ?_ _ | refine bset ?_ (by simp <;> omega) _ | refine bal ?_ _)
  by_cases h2 : regs < ins
  · have HM := Lib.hid (show ¬ ProgOk ins regs code outs from fun k => by have := k.i2; omega)
    go_enter Tryd.func51, Tryd.ntmps51
    go_wp2
    go_ret2
    refine rck_no HM.out ?_
    repeat (first | exact Below.refl _ _ | exact hB | refine Below.drew ?_ | refine below_drewN ?_ _ | refine bset ?_ (by simp <;> omega) _ | refine bal ?_ _)
  by_cases h3 : 128 < regs
  · have HM := Lib.hid (show ¬ ProgOk ins regs code outs from fun k => by have := k.r1; omega)
    go_enter Tryd.func51, Tryd.ntmps51
    go_wp2
    go_ret2
    refine rck_no HM.out ?_
    repeat (first | exact Below.refl _ _ | exact hB | refine Below.drew ?_ | refine below_drewN ?_ _ | refine bset ?_ (by simp <;> omega) _ | refine bal ?_ _)
  by_cases h4 : (16384 : Int) < (code.length : Int)
  · have HM := Lib.hid (show ¬ ProgOk ins regs code outs from fun k => by have := k.c1; omega)
    go_enter Tryd.func51, Tryd.ntmps51
    go_wp2
    go_ret2
    refine rck_no HM.out ?_
    repeat (first | exact Below.refl _ _ | exact hB | refine Below.drew ?_ | refine below_drewN ?_ _ | refine bset ?_ (by simp <;> omega) _ | refine bal ?_ _)
  by_cases h5 : (outs.length : Int) < 1
  · have HM := Lib.hid (show ¬ ProgOk ins regs code outs from fun k => by have := k.o1; omega)
    go_enter Tryd.func51, Tryd.ntmps51
    go_wp2
    go_ret2
    refine rck_no HM.out ?_
    repeat (first | exact Below.refl _ _ | exact hB | refine Below.drew ?_ | refine below_drewN ?_ _ | refine bset ?_ (by simp <;> omega) _ | refine bal ?_ _)
  by_cases h6 : (128 : Int) < (outs.length : Int)
  · have HM := Lib.hid (show ¬ ProgOk ins regs code outs from fun k => by have := k.o2; omega)
    go_enter Tryd.func51, Tryd.ntmps51
    go_wp2
    go_ret2
    refine rck_no HM.out ?_
    repeat (first | exact Below.refl _ _ | exact hB | refine Below.drew ?_ | refine below_drewN ?_ _ | refine bset ?_ (by simp <;> omega) _ | refine bal ?_ _)
  have HH := Lib.hid (And.intro (show 1 ≤ ins ∧ ins ≤ regs ∧ regs ≤ 128 by omega) (show code.length ≤ 16384 ∧ 1 ≤ outs.length ∧ outs.length ≤ 128 by omega))
  go_enter Tryd.func51, Tryd.ntmps51
  go_wp2
  refine wp_name fun w0 hW0 => ?_
  have p0 : w0.cell? ⟨w.heap.size, 0, none⟩ = some (.int .i64 ins) := by rw [hW0]; exact (by first | assumption | exact cell_new (by with_reducible first | rfl | (simp; done) | (simp; omega)) rfl | (repeat (first | assumption | exact cell_new (by with_reducible first | rfl | (simp; done) | (simp; omega)) rfl | refine cell_alloc ?_ _ | refine cell_drew ?_ | refine cell_drewN ?_ _ | refine cell_far ?_ (by simp) _ | (refine cell_far ?_ (by simp <;> omega) _))) | simp [go_sem, *])
  have zp0 := cell_lt p0
  have p1 : w0.cell? ⟨w.heap.size, 1, none⟩ = some (.int .i64 regs) := by rw [hW0]; exact (by first | assumption | exact cell_new (by with_reducible first | rfl | (simp; done) | (simp; omega)) rfl | (repeat (first | assumption | exact cell_new (by with_reducible first | rfl | (simp; done) | (simp; omega)) rfl | refine cell_alloc ?_ _ | refine cell_drew ?_ | refine cell_drewN ?_ _ | refine cell_far ?_ (by simp) _ | (refine cell_far ?_ (by simp <;> omega) _))) | simp [go_sem, *])
  have p2 : w0.cell? ⟨w.heap.size, 2, none⟩ = some (.slice ca code.length cc) := by rw [hW0]; exact (by first | assumption | exact cell_new (by with_reducible first | rfl | (simp; done) | (simp; omega)) rfl | (repeat (first | assumption | exact cell_new (by with_reducible first | rfl | (simp; done) | (simp; omega)) rfl | refine cell_alloc ?_ _ | refine cell_drew ?_ | refine cell_drewN ?_ _ | refine cell_far ?_ (by simp) _ | (refine cell_far ?_ (by simp <;> omega) _))) | simp [go_sem, *])
  have p3 : w0.cell? ⟨w.heap.size, 3, none⟩ = some (.slice oa outs.length oc) := by rw [hW0]; exact (by first | assumption | exact cell_new (by with_reducible first | rfl | (simp; done) | (simp; omega)) rfl | (repeat (first | assumption | exact cell_new (by with_reducible first | rfl | (simp; done) | (simp; omega)) rfl | refine cell_alloc ?_ _ | refine cell_drew ?_ | refine cell_drewN ?_ _ | refine cell_far ?_ (by simp) _ | (refine cell_far ?_ (by simp <;> omega) _))) | simp [go_sem, *])
  have hB : Below w.heap.size w w0 := by rw [hW0]; repeat (first | exact Below.refl _ _ | exact hB | refine Below.drew ?_ | refine below_drewN ?_ _ | refine bset ?_ (by simp <;> omega) _ | refine bal ?_ _)
  have hz : w.heap.size ≤ w0.heap.size := hB.size
  clear hW0
  clear h1 h2 h3 h4 h5 h6
  have HF := Lib.hid (show ∀ W, Below w0.heap.size w0 W → W.cell? ⟨w.heap.size, 1, none⟩ = some (.int .i64 regs) ∧ W.cell? ⟨w.heap.size, 2, none⟩ = some (.slice ca code.length cc) ∧ W.cell? ⟨w.heap.size, 3, none⟩ = some (.slice oa outs.length oc) from fun W h => ⟨bkeep h p1, bkeep h p2, bkeep h p3⟩)
  clear p0 p1 p2 p3
  go_loopw [4] (fun x wr => ∃ k : Nat, k ≤ outs.length ∧ x = .int .i64 k ∧ Below w0.heap.size w0 wr ∧ Hid (∀ j, j < k → 0 ≤ outs.getD j 0 ∧ outs.getD j 0 < regs)) (fun x _ => outs.length - (intOf x).toNat)
  case atStart => exact ⟨0, Nat.zero_le _, rfl, Below.refl _ _, Lib.hid (fun j hj => by omega)⟩
  case round =>
    obtain ⟨k, hk, rfl, hBr, hall⟩ := hrel
    have hk8 : outs.length ≤ 128 := HH.out.2.2.2
    obtain ⟨p1, p2, p3⟩ := HF.out wr hBr
    have zp := cell_lt p1
    have hBB := bthen hB hBr
    by_cases hlt : k < outs.length
    · have hltI : (k : Int) < (outs.length : Int) := by omega
      rcases ho.keep hBB with h0 | ⟨b, off, rfl, hcap, hcell⟩
      · rw [h0] at hlt; simp at hlt
      have q0 := hcell k hlt
      have HK := Lib.hid (show ∀ v, v = outs.getD k 0 → ¬ (0 ≤ v ∧ v < regs) → ¬ ProgOk ins regs code outs from fun v hv h hp => h (by rw [hv]; exact hp.os k hlt))
      have HS := Lib.hid (show ∀ v, v = outs.getD k 0 → (0 ≤ v ∧ v < regs) → ∀ j, j < k + 1 → 0 ≤ outs.getD j 0 ∧ outs.getD j 0 < regs from fun v hv h j hj => by
        by_cases e : j = k
        · subst e; rw [← hv]; exact h
        · exact hall.out j (by omega))
      obtain ⟨r, hr⟩ : ∃ r, r = outs.getD k 0 := ⟨_, rfl⟩
      rw [← hr] at q0
      have HR := Lib.hid hr
      clear hr hcell
      by_cases r1 : r < 0
      · have HM := Lib.hid (HK.out r HR.out (by omega))
        have hq1 : decide (r < 0) = true := by simp; omega
        go_wp2
        go_quiet (fail)
        go_wp2
        go_ret2
        refine rck_no HM.out ?_
        repeat (first | exact Below.refl _ _ | exact hBB | refine Below.drew ?_ | refine below_drewN ?_ _ | refine bset ?_ (by simp <;> omega) _ | refine bal ?_ _)
      by_cases r2 : regs ≤ r
      · have HM := Lib.hid (HK.out r HR.out (by omega))
        have hq1 : decide (r < 0) = false := by simp; omega
        have hq2 : decide (regs ≤ r) = true := by simp; omega
        go_wp2
        go_quiet (fail)
        go_wp2
        go_ret2
        refine rck_no HM.out ?_
        repeat (first | exact Below.refl _ _ | exact hBB | refine Below.drew ?_ | refine below_drewN ?_ _ | refine bset ?_ (by simp <;> omega) _ | refine bal ?_ _)
      have hq1 : decide (r < 0) = false := by simp; omega
      have hq2 : decide (regs ≤ r) = false := by simp; omega
      go_wp2
      go_quiet (fail)
      go_wp2
      exact ⟨⟨k + 1, by omega, by go_num, by repeat (first | exact Below.refl _ _ | exact hBr | refine Below.drew ?_ | refine below_drewN ?_ _ | refine bset ?_ (by simp <;> omega) _ | refine bal ?_ _), Lib.hid (HS.out r HR.out (by omega))⟩, by simp [intOf]; omega⟩
    · obtain rfl : k = outs.length := by omega
      have HO := Lib.hid hall.out
      clear hall hlt hk
      have hBR := hBr
      go_wp2
      clear p1 p2 p3
      go_loopw [5] (fun x wi => ∃ k : Nat, k ≤ code.length ∧ x = .int .i64 k ∧ Below w0.heap.size w0 wi ∧ Hid (∀ j, j < k → mayB (code.getD j default).op (code.getD j default).to (code.getD j default).a (code.getD j default).b (code.getD j default).c regs = true)) (fun x _ => code.length - (intOf x).toNat)
      case atStart => exact ⟨0, Nat.zero_le _, rfl, hBR, Lib.hid (fun j hj => by omega)⟩
      case round =>
        rename World => wi
        obtain ⟨k, hk, rfl, hBi, hall⟩ := hrel
        have hk9 : code.length ≤ 16384 := HH.out.2.1
        have hBB := bthen hB hBi
        obtain ⟨p1, p2, p3⟩ := HF.out wi hBi
        have zp := cell_lt p1
        by_cases hlt : k < code.length
        · have hltI : (k : Int) < (code.length : Int) := by omega
          rcases hc.keep hBB with h0 | ⟨b, off, rfl, hcap, hcell⟩
          · rw [h0] at hlt; simp at hlt
          obtain ⟨q0, q1, q2, q3, q4⟩ := hcell k hlt
          have HK := Lib.hid (show ∀ i : Ins, i = code.getD k default → mayB i.op i.to i.a i.b i.c regs = false → ¬ ProgOk ins regs code outs from fun i hi h hp => by
            have := hp.cs k hlt
            rw [← hi, h] at this; cases this)
          have HS := Lib.hid (show ∀ i : Ins, i = code.getD k default → mayB i.op i.to i.a i.b i.c regs = true → ∀ j, j < k + 1 → mayB (code.getD j default).op (code.getD j default).to (code.getD j default).a (code.getD j default).b (code.getD j default).c regs = true from fun i hi h j hj => by
            by_cases e : j = k
            · subst e; rw [← hi]; exact h
            · exact hall.out j (by omega))
          obtain ⟨i, hi⟩ : ∃ i, i = code.getD k default := ⟨_, rfl⟩
          rw [← hi] at q0 q1 q2 q3 q4
          have HI := Lib.hid hi
          clear hi hcell
          obtain ⟨op, t, ia, ib, ic⟩ := i
          dsimp only at q0 q1 q2 q3 q4
          have hmc := fun W => rmay_c op t ia ib ic regs W
          have hBc := Below.refl wi.heap.size wi
          have HQ := Lib.hid (show ∀ W, Below wi.heap.size wi W → W.cell? ⟨w.heap.size, 1, none⟩ = some (.int .i64 regs) ∧ W.cell? ⟨w.heap.size, 2, none⟩ = some (.slice (some ⟨b, off, none⟩) code.length cc) ∧ W.cell? ⟨b, off + k * 5, none⟩ = some (.int .i64 op) ∧ W.cell? ⟨b, off + k * 5 + 1, none⟩ = some (.int .i64 t) ∧ W.cell? ⟨b, off + k * 5 + 2, none⟩ = some (.int .i64 ia) ∧ W.cell? ⟨b, off + k * 5 + 3, none⟩ = some (.int .i64 ib) ∧ W.cell? ⟨b, off + k * 5 + 4, none⟩ = some (.int .i64 ic) from fun W h => ⟨bkeep h p1, bkeep h p2, bkeep h q0, bkeep h q1, bkeep h q2, bkeep h q3, bkeep h q4⟩)
          obtain ⟨mb, hmb⟩ : ∃ mb, mayB op t ia ib ic regs = mb := ⟨_, rfl⟩
          rw [hmb] at hmc
          have HMB := Lib.hid hmb
          clear hmb
          go_wp2
          go_region_held3 (fun w' => w'.cell? ⟨w.heap.size, 1, none⟩ = some (.int .i64 regs) ∧ w'.cell? ⟨w.heap.size, 2, none⟩ = some (.slice (some ⟨b, off, none⟩) code.length cc) ∧ w'.cell? ⟨b, off + k * 5, none⟩ = some (.int .i64 op) ∧ w'.cell? ⟨b, off + k * 5 + 1, none⟩ = some (.int .i64 t) ∧ w'.cell? ⟨b, off + k * 5 + 2, none⟩ = some (.int .i64 ia) ∧ w'.cell? ⟨b, off + k * 5 + 3, none⟩ = some (.int .i64 ib) ∧ w'.cell? ⟨b, off + k * 5 + 4, none⟩ = some (.int .i64 ic))
            (first | (refine HQ.out _ ?_; (repeat (first | exact Below.refl _ _ | exact hBc | refine Below.drew ?_ | refine below_drewN ?_ _ | refine bset ?_ (by simp <;> omega) _ | refine bal ?_ _)); done) | fail)
            (first
              | (go_at_call 84; refine (hmc _).mono ?_; rintro e w5 ⟨rfl, hb5⟩; have hB5 : Below wi.heap.size wi w5 := bthen (by repeat (first | exact Below.refl _ _ | exact hBc | refine Below.drew ?_ | refine below_drewN ?_ _ | refine bset ?_ (by simp <;> omega) _ | refine bal ?_ _)) hb5; clear hBc; have hBc := hB5)
              | fail)
          cases mb with
          | true =>
            have HSM := Lib.hid (HS.out _ HI.out HMB.out)
            go_wp2
            exact ⟨⟨k + 1, by omega, by go_num, bthen hBi hBc, HSM⟩, by simp [intOf]; omega⟩
          | false =>
            have HM := Lib.hid (HK.out _ HI.out HMB.out)
            have hBz := bthen hBB hBc
            go_wp2
            go_ret2
            refine rck_no HM.out ?_
            repeat (first | exact Below.refl _ _ | exact hBz | refine Below.drew ?_ | refine below_drewN ?_ _ | refine bset ?_ (by simp <;> omega) _ | refine bal ?_ _)
        · obtain rfl : k = code.length := by omega
          have HM := Lib.hid (show ProgOk ins regs code outs from ⟨HH.out.1.1, HH.out.1.2.1, HH.out.1.2.2, HH.out.2.1, HH.out.2.2.1, HH.out.2.2.2, HO.out, hall.out⟩)
          go_wp2
          go_ret2
          exact rck_yes HM.out hBB
/-- may a program be? -/
theorem rright_c (ins regs : Int) (ca oa : Option Addr) (cc oc : Nat) (code : List Ins) (outs : List Int) (w : World) (hc : InsV w ca cc code) (ho : IntsV w oa oc outs) :
    Calls Tryd.prog 27 #[.agg #[.int .i64 ins, .int .i64 regs, .slice ca code.length cc, .slice oa outs.length oc]] w (RightP ins regs code outs w) := by
  have kc := fun W (h : Below w.heap.size w W) => rcheck_c ins regs ca oa cc oc code outs W (hc.keep h) (ho.keep h)
  clear hc ho
  have hB := Below.refl w.heap.size w
  go_enter Tryd.func27, Tryd.ntmps27
  go_wp2_with fail
  refine (kc _ (by repeat (first | exact Below.refl _ _ | exact hB | refine Below.drew ?_ | refine below_drewN ?_ _ | refine bset ?_ (by simp <;> omega) _ | refine bal ?_ _))).mono ?_
  rintro e w1 ⟨r, b, rfl, hb, hb1⟩
  have HBI := Lib.hid hb
  have hB1 : Below w.heap.size w w1 := bthen (by repeat (first | exact Below.refl _ _ | exact hB | refine Below.drew ?_ | refine below_drewN ?_ _ | refine bset ?_ (by simp <;> omega) _ | refine bal ?_ _)) hb1
  clear kc hb
  cases b with
  | true =>
    have HM := Lib.hid (show ¬ ProgOk ins regs code outs from fun h => by have := HBI.out.2 h; cases this)
    go_wp2
    go_ret
    exact rri_no HM.out hB1
  | false =>
    have HM := Lib.hid (HBI.out.1 rfl)
    go_wp2
    go_ret
    exact rri_yes HM.out hB1
end Go.Proofs.YtannhpadoooedaaDoor
/- Arguments as they come in, whatever their bulk: rows of int64, each of which lies in memory. -/
namespace Go.Proofs.YtannhpadoooedaaDoor
open Go.ChangeShapes Go.WideShapes Go.ChangeAt Go.RowKit Go.Joins Go.Deep
set_option linter.unusedVariables false
set_option linter.unusedSimpArgs false
section
variable {H : Type} {enc : TypeId × Value → H} {W : World} {b0 : Nat} {r : Reach} {v : Value} {d : DataW H} {p : List MemPlace}
theorem weightsAll_mem {P : Program} {e : TypeId} : ∀ {l : List (DataW H)} {d : DataW H} {n : Nat}, d ∈ l → n ∈ d.weights P e → n ∈ DataW.weightsAll P e l
  | x :: l, d, n, hd, hn => by
    rw [DataW.weightsAll]
    rcases List.mem_cons.1 hd with rfl | h
    · exact List.mem_append.2 (.inl hn)
    · exact List.mem_append.2 (.inr (weightsAll_mem h hn))
theorem bytes_i64 : Tryd.prog.bytesOf 2 = 8 := by kernel_rfl
set_option maxRecDepth 100000 in
theorem open_i64rows_w (hv : Value.okWide Tryd.prog W r b0 26 v) (h : DataW.Trod enc Tryd.prog W 0 (fun _ => true) true 26 v d p) (hw : ∀ n ∈ d.weights Tryd.prog 26, n ≤ reachBytes) :
    ∃ g, GridI W v g ∧ ∀ k, k < g.length → (g.getD k []).length ≤ 1152921504606846976 := by
  obtain ⟨a, n, cap, rfl⟩ := okWide_slice Tryd.underlying26 hv
  obtain ⟨fuel, hf⟩ := h
  rcases open_int_rows Tryd.underlying26 Tryd.underlying42 Tryd.underlying2 (by kernel_rfl) (by kernel_rfl) hf with ⟨hcs, hx⟩ | ⟨x, len, c, A, L, C, Z, hcs, _, hl, hm, hx, hr⟩
  · simp [Value.cells] at hcs
    obtain ⟨rfl, rfl, rfl⟩ := hcs
    exact ⟨[], ⟨_, _, rfl, fun k hk => absurd hk (by simp)⟩, fun k hk => absurd hk (by simp)⟩
  · simp [Value.cells] at hcs
    obtain ⟨rfl, rfl, rfl⟩ := hcs
    simp only [Prod.mk.injEq] at hx
    have hlen : ∀ r, r < n → ((Z r).take (L r)).length = L r := fun r hr' => by
      obtain ⟨_, h1, _, h2, _⟩ := hr r (by omega)
      rw [List.length_take]; omega
    refine ⟨(List.range n).map fun r => (Z r).take (L r), ⟨_, _, by rw [List.length_map, List.length_range], fun k hk => ?_⟩, fun k hk => ?_⟩
    · rw [List.length_map, List.length_range] at hk
      obtain ⟨h1, h2, h3, h4, h5, h6, h7⟩ := hr k (by omega)
      obtain ⟨b, o, rfl⟩ := plain_at (hr 0 (by omega)).1
      rw [add_plain] at h1
      refine ⟨b, o, _, rfl, h1, ?_⟩
      have e : ((List.range n).map fun r => (Z r).take (L r)).getD k [] = (Z k).take (L k) := by simp [hk]
      rw [e]
      refine ⟨A k, C k, by rw [hlen k hk], fun j hj => ?_⟩
      rw [hlen k hk] at hj
      cases hA : A k with
      | none => have := h6 hA; omega
      | some a' =>
        obtain ⟨_, h8⟩ := h7 a' hA
        have h9 := h8 j (by omega)
        obtain ⟨b', o', rfl⟩ := plain_at (h8 0 (by omega))
        rw [add_plain] at h9
        have e2 : ((Z k).take (L k)).getD j 0 = (Z k).getD j 0 := by
          rw [List.getD_eq_getElem?_getD, List.getD_eq_getElem?_getD, List.getElem?_take_of_lt hj]
        rw [e2]
        refine ⟨b', o', rfl, h9, ?_⟩
        refine i64_of (h5 _ ?_)
        rw [List.getD_eq_getElem?_getD, List.getElem?_eq_getElem (by omega)]
        exact List.getElem_mem _
    · rw [List.length_map, List.length_range] at hk
      obtain ⟨h1, h2, h3, h4, h5, h6, h7⟩ := hr k (by omega)
      have e : ((List.range n).map fun r => (Z r).take (L r)).getD k [] = (Z k).take (L k) := by simp [hk]
      rw [e, hlen k hk]
      cases hA : A k with
      | none => have := h6 hA; omega
      | some a' =>
        have hmem : ((lits (H := H) .i64 ((Z k).take (L k))).length + (lits (H := H) .i64 ((Z k).drop (L k))).length) * Tryd.prog.bytesOf 2 ∈ d.weights Tryd.prog 26 := by
          rw [hx.1]
          simp only [DataW.weights, Tryd.underlying26]
          refine List.mem_cons.2 (.inr (List.mem_append.2 (.inl (weightsAll_mem (d := intRow .i64 (A k) (L k) (Z k)) (List.mem_map.2 ⟨k, by simpa using hk, rfl⟩) ?_))))
          rw [hA]
          simp only [intRow, DataW.weights, Tryd.underlying42]
          exact List.mem_cons.2 (.inl rfl)
        have h8 := hw _ hmem
        have h9 := reachBytes_lt
        have h10 := hlen k hk
        rw [bytes_i64] at h8
        simp only [lits, List.length_map] at h8
        rw [h10] at h8
        omega
set_option maxRecDepth 100000 in
/-- a list of int64s that came in -/
theorem open_i64row_w (hv : Value.okWide Tryd.prog W r b0 42 v) (h : DataW.Trod enc Tryd.prog W 0 (fun _ => true) true 42 v d p) (hw : ∀ n ∈ d.weights Tryd.prog 42, n ≤ reachBytes) :
    ∃ l, RowI W v l ∧ l.length ≤ 1152921504606846976 := by
  obtain ⟨a, n, cap, rfl⟩ := okWide_slice Tryd.underlying42 hv
  obtain ⟨fuel, hf⟩ := h
  rcases open_ints Tryd.underlying42 Tryd.underlying2 (by kernel_rfl) hf with ⟨hcs, hx⟩ | ⟨a', len, c, zs, hcs, _, hl, hm, hz, hx, hc, hwf⟩
  · simp [Value.cells] at hcs
    obtain ⟨rfl, rfl, rfl⟩ := hcs
    exact ⟨[], ⟨_, _, rfl, fun k hk => absurd hk (by simp)⟩, by simp⟩
  · simp [Value.cells] at hcs
    obtain ⟨rfl, rfl, rfl⟩ := hcs
    simp only [if_true] at hz
    simp only [Prod.mk.injEq] at hx
    have hlen : (zs.take n).length = n := by rw [List.length_take]; omega
    refine ⟨zs.take n, ⟨_, _, by rw [hlen], fun k hk => ?_⟩, ?_⟩
    · rw [hlen] at hk
      obtain ⟨b, o, rfl⟩ := plain_at (hc 0 (by omega))
      have h9 := hc k (by omega)
      rw [add_plain] at h9
      have e2 : (zs.take n).getD k 0 = zs.getD k 0 := by rw [List.getD_eq_getElem?_getD, List.getD_eq_getElem?_getD, List.getElem?_take_of_lt hk]
      rw [e2]
      refine ⟨b, o, rfl, h9, i64_of (hwf _ ?_)⟩
      rw [List.getD_eq_getElem?_getD, List.getElem?_eq_getElem (by omega)]
      exact List.getElem_mem _
    · have hmem : ((lits (H := H) .i64 (zs.take n)).length + (lits (H := H) .i64 (zs.drop n)).length) * Tryd.prog.bytesOf 2 ∈ d.weights Tryd.prog 42 := by
        rw [hx.1]
        simp only [DataW.weights, Tryd.underlying42]
        exact List.mem_cons.2 (.inl rfl)
      have h8 := hw _ hmem
      have h9 := reachBytes_lt
      rw [bytes_i64] at h8
      simp only [lits, List.length_map] at h8
      rw [hlen] at h8 ⊢
      omega
end
end Go.Proofs.YtannhpadoooedaaDoor
