/- Texts of this seat, laid together: DnB, DnC, DnT. Each opens with its own remark, which says what it proves, and under which conditions. -/
import Derived.Test.YtbmaffijncapiaaGreatDoorL22
import Derived.Test.YtbmaffijncapiaaGreatDoorL13
set_option linter.unusedVariables false
set_option linter.unusedSimpArgs false
/- denote: op; wide; slices.ContainsFunc of a row by wide; always. -/
namespace Go.Proofs.YtbmaffijncapiaaGreatDoor
open Num
open Go.ChangeShapes Go.WideShapes Go.ChangeAt Go.RowKit
set_option linter.unusedVariables false
set_option linter.unusedSimpArgs false
attribute [local go_sem ↓] Go.wp_at_zero Go.wp_at_succ
theorem ensD {f : Nat} {fn : Func} {c : Code} (hf : Tryz.prog.funcs[f]? = some fn) (hn : (fn.name == "runtime.NumGoroutine") = false) (hb : fn.body = some c) : Enters Tryz.prog f := enters_of hf hn hb
def OpPost (i : Ins) (w : World) (e : Ending) (w' : World) : Prop := ∃ F caps, e = .returned (.func (.func F) #[] caps) ∧ Enters Tryz.prog F ∧ FnQ i 65536 w' F caps ∧ Below w.heap.size w w'
theorem whole_bd {c : Int} (h1 : -512 ≤ c) (h2 : c ≤ 512) : BdQ 10 (c : Rat) := BdQ.whole (by unfold Bd; omega) (by omega)
theorem whole_ne {c : Int} (h : c ≠ 0) : (c : Rat) ≠ 0 := fun e => h (by exact_mod_cast e)
set_option maxRecDepth 100000 in
set_option maxHeartbeats 8000000 in
theorem dnOp_c (i : Ins) (w : World) (h1 : 1 ≤ i.op) (h2 : i.op ≤ 8) (hc : constB i.op i.c = true) : Calls Tryz.prog 190 #[i.v] w (OpPost i w) := by
  obtain ⟨op, t, a, b, c⟩ := i
  dsimp only at h1 h2 hc
  unfold Ins.v
  dsimp only
  have hop : op = 1 ∨ op = 2 ∨ op = 3 ∨ op = 4 ∨ op = 5 ∨ op = 6 ∨ op = 7 ∨ op = 8 := by omega
  clear h1 h2
  unfold OpPost
  have hB := Below.refl w.heap.size w
  have hcI : -512 ≤ c ∧ c ≤ 512 := by
    rcases hop with rfl | rfl | rfl | rfl | rfl | rfl | rfl | rfl <;> simp [constB] at hc <;> omega
  have OC := Lib.hid (fun V => of_c c V (by omega) (by omega))
  have HC := Lib.hid hc
  have HCI := Lib.hid hcI
  clear hc hcI
  rcases hop with rfl | rfl | rfl | rfl | rfl | rfl | rfl | rfl
  ·
    go_enter Tryz.func190, Tryz.ntmps190
    go_wp2_with fail
    (with_reducible refine (OC.out _).mono ?_)
    rintro e w1 ⟨⟨v1, rfl, hv1⟩, hb1⟩
    have i4 : w1.cell? ⟨w.heap.size, 4, none⟩ = some (.int .i64 c) := bkc hb1
    have zi4 := cell_lt i4
    have i0 : w1.cell? ⟨w.heap.size, 0, none⟩ = some (.int .i64 1) := bkc hb1
    have hB : Below w.heap.size w w1 := bthen (by repeat (first|exact bzR _ _|exact hB|refine bzD ?_|refine bzN ?_|refine bzS ?_|refine bzA ?_)) hb1
    have hz : w.heap.size ≤ w1.heap.size := hB.size
    have WC := Lib.hid (fun V (q : Below w1.heap.size w1 V) => pqWhole_c v1 c V (hv1.keep q))
    have hBw := Below.refl w1.heap.size w1
    obtain ⟨pn, pa, pl, pc, rfl⟩ := hv1.lit
    clear OC hb1 hv1
    go_wp2_with fail
    (with_reducible refine (WC.out _ ?_).mono ?_); (repeat (first|exact bzR _ _|exact hBw|refine bzD ?_|refine bzN ?_|refine bzS ?_|refine bzA ?_))
    rintro e w2 ⟨⟨v2, rfl, hv2⟩, hb2⟩
    have i4 : w2.cell? ⟨w.heap.size, 4, none⟩ = some (.int .i64 c) := bkc hb2
    have zi4 := cell_lt i4
    have i0 : w2.cell? ⟨w.heap.size, 0, none⟩ = some (.int .i64 1) := bkc hb2
    have hB : Below w.heap.size w w2 := bthen (by repeat (first|exact bzR _ _|exact hB|refine bzD ?_|refine bzN ?_|refine bzS ?_|refine bzA ?_)) hb2
    have hz : w.heap.size ≤ w2.heap.size := hB.size
    have HV2 := Lib.hid hv2
    obtain ⟨m1, b1, k1, d1, m2, b2, k2, d2, rfl, -, -⟩ := hv2
    clear WC hb2 hBw
    have HC2 := Lib.hid (show FrC IsQP (w2.alloc (.cells #[.bool m1, .slice b1 k1 d1, .bool m2, .slice b2 k2 d2] 79)) w2.heap.size 0 (c : Rat) from ⟨m1, b1, k1, d1, m2, b2, k2, d2, cell_new rfl rfl, cell_new rfl rfl, cell_new rfl rfl, cell_new rfl rfl, HV2.out.keep (bal (Below.refl _ _) _)⟩)
    have HI2 := Lib.hid (cell_alloc i4 (.cells #[.bool m1, .slice b1 k1 d1, .bool m2, .slice b2 k2 d2] 79))
    clear HV2 i4
    go_wp2
    go_ret
    refine ⟨_, _, rfl, ensD Tryz.func251 (by kernel_rfl) rfl, ?_, by repeat (first|exact bzR _ _|exact hB|refine bzD ?_|refine bzN ?_|refine bzS ?_|refine bzA ?_)⟩
    intro W va vb x y hW hx hy bx bY
    rw [show opQ ⟨1, t, a, b, c⟩ x y = x by simp [opQ]]
    exact dnMove_c va vb x y W hx hy
  ·
    go_enter Tryz.func190, Tryz.ntmps190
    go_wp2_with fail
    (with_reducible refine (OC.out _).mono ?_)
    rintro e w1 ⟨⟨v1, rfl, hv1⟩, hb1⟩
    have i4 : w1.cell? ⟨w.heap.size, 4, none⟩ = some (.int .i64 c) := bkc hb1
    have zi4 := cell_lt i4
    have i0 : w1.cell? ⟨w.heap.size, 0, none⟩ = some (.int .i64 2) := bkc hb1
    have hB : Below w.heap.size w w1 := bthen (by repeat (first|exact bzR _ _|exact hB|refine bzD ?_|refine bzN ?_|refine bzS ?_|refine bzA ?_)) hb1
    have hz : w.heap.size ≤ w1.heap.size := hB.size
    have WC := Lib.hid (fun V (q : Below w1.heap.size w1 V) => pqWhole_c v1 c V (hv1.keep q))
    have hBw := Below.refl w1.heap.size w1
    obtain ⟨pn, pa, pl, pc, rfl⟩ := hv1.lit
    clear OC hb1 hv1
    go_wp2_with fail
    (with_reducible refine (WC.out _ ?_).mono ?_); (repeat (first|exact bzR _ _|exact hBw|refine bzD ?_|refine bzN ?_|refine bzS ?_|refine bzA ?_))
    rintro e w2 ⟨⟨v2, rfl, hv2⟩, hb2⟩
    have i4 : w2.cell? ⟨w.heap.size, 4, none⟩ = some (.int .i64 c) := bkc hb2
    have zi4 := cell_lt i4
    have i0 : w2.cell? ⟨w.heap.size, 0, none⟩ = some (.int .i64 2) := bkc hb2
    have hB : Below w.heap.size w w2 := bthen (by repeat (first|exact bzR _ _|exact hB|refine bzD ?_|refine bzN ?_|refine bzS ?_|refine bzA ?_)) hb2
    have hz : w.heap.size ≤ w2.heap.size := hB.size
    have HV2 := Lib.hid hv2
    obtain ⟨m1, b1, k1, d1, m2, b2, k2, d2, rfl, -, -⟩ := hv2
    clear WC hb2 hBw
    have HC2 := Lib.hid (show FrC IsQP (w2.alloc (.cells #[.bool m1, .slice b1 k1 d1, .bool m2, .slice b2 k2 d2] 79)) w2.heap.size 0 (c : Rat) from ⟨m1, b1, k1, d1, m2, b2, k2, d2, cell_new rfl rfl, cell_new rfl rfl, cell_new rfl rfl, cell_new rfl rfl, HV2.out.keep (bal (Below.refl _ _) _)⟩)
    have HI2 := Lib.hid (cell_alloc i4 (.cells #[.bool m1, .slice b1 k1 d1, .bool m2, .slice b2 k2 d2] 79))
    clear HV2 i4
    go_wp2
    go_ret
    refine ⟨_, _, rfl, ensD Tryz.func240 (by kernel_rfl) rfl, ?_, by repeat (first|exact bzR _ _|exact hB|refine bzD ?_|refine bzN ?_|refine bzS ?_|refine bzA ?_)⟩
    intro W va vb x y hW hx hy bx bY
    rw [show opQ ⟨2, t, a, b, c⟩ x y = -x by simp [opQ]]
    exact dnNeg_c va vb x y W hx hy
  ·
    go_enter Tryz.func190, Tryz.ntmps190
    go_wp2_with fail
    (with_reducible refine (OC.out _).mono ?_)
    rintro e w1 ⟨⟨v1, rfl, hv1⟩, hb1⟩
    have i4 : w1.cell? ⟨w.heap.size, 4, none⟩ = some (.int .i64 c) := bkc hb1
    have zi4 := cell_lt i4
    have i0 : w1.cell? ⟨w.heap.size, 0, none⟩ = some (.int .i64 3) := bkc hb1
    have hB : Below w.heap.size w w1 := bthen (by repeat (first|exact bzR _ _|exact hB|refine bzD ?_|refine bzN ?_|refine bzS ?_|refine bzA ?_)) hb1
    have hz : w.heap.size ≤ w1.heap.size := hB.size
    have WC := Lib.hid (fun V (q : Below w1.heap.size w1 V) => pqWhole_c v1 c V (hv1.keep q))
    have hBw := Below.refl w1.heap.size w1
    obtain ⟨pn, pa, pl, pc, rfl⟩ := hv1.lit
    clear OC hb1 hv1
    go_wp2_with fail
    (with_reducible refine (WC.out _ ?_).mono ?_); (repeat (first|exact bzR _ _|exact hBw|refine bzD ?_|refine bzN ?_|refine bzS ?_|refine bzA ?_))
    rintro e w2 ⟨⟨v2, rfl, hv2⟩, hb2⟩
    have i4 : w2.cell? ⟨w.heap.size, 4, none⟩ = some (.int .i64 c) := bkc hb2
    have zi4 := cell_lt i4
    have i0 : w2.cell? ⟨w.heap.size, 0, none⟩ = some (.int .i64 3) := bkc hb2
    have hB : Below w.heap.size w w2 := bthen (by repeat (first|exact bzR _ _|exact hB|refine bzD ?_|refine bzN ?_|refine bzS ?_|refine bzA ?_)) hb2
    have hz : w.heap.size ≤ w2.heap.size := hB.size
    have HV2 := Lib.hid hv2
    obtain ⟨m1, b1, k1, d1, m2, b2, k2, d2, rfl, -, -⟩ := hv2
    clear WC hb2 hBw
    have HC2 := Lib.hid (show FrC IsQP (w2.alloc (.cells #[.bool m1, .slice b1 k1 d1, .bool m2, .slice b2 k2 d2] 79)) w2.heap.size 0 (c : Rat) from ⟨m1, b1, k1, d1, m2, b2, k2, d2, cell_new rfl rfl, cell_new rfl rfl, cell_new rfl rfl, cell_new rfl rfl, HV2.out.keep (bal (Below.refl _ _) _)⟩)
    have HI2 := Lib.hid (cell_alloc i4 (.cells #[.bool m1, .slice b1 k1 d1, .bool m2, .slice b2 k2 d2] 79))
    clear HV2 i4
    go_wp2
    go_ret
    refine ⟨_, _, rfl, ensD Tryz.func242 (by kernel_rfl) rfl, ?_, by repeat (first|exact bzR _ _|exact hB|refine bzD ?_|refine bzN ?_|refine bzS ?_|refine bzA ?_)⟩
    intro W va vb x y hW hx hy bx bY
    rw [show opQ ⟨3, t, a, b, c⟩ x y = x + y by simp [opQ]]
    exact dnAdd_c va vb x y 65536 W hx hy bx bY (by omega)
  ·
    go_enter Tryz.func190, Tryz.ntmps190
    go_wp2_with fail
    (with_reducible refine (OC.out _).mono ?_)
    rintro e w1 ⟨⟨v1, rfl, hv1⟩, hb1⟩
    have i4 : w1.cell? ⟨w.heap.size, 4, none⟩ = some (.int .i64 c) := bkc hb1
    have zi4 := cell_lt i4
    have i0 : w1.cell? ⟨w.heap.size, 0, none⟩ = some (.int .i64 4) := bkc hb1
    have hB : Below w.heap.size w w1 := bthen (by repeat (first|exact bzR _ _|exact hB|refine bzD ?_|refine bzN ?_|refine bzS ?_|refine bzA ?_)) hb1
    have hz : w.heap.size ≤ w1.heap.size := hB.size
    have WC := Lib.hid (fun V (q : Below w1.heap.size w1 V) => pqWhole_c v1 c V (hv1.keep q))
    have hBw := Below.refl w1.heap.size w1
    obtain ⟨pn, pa, pl, pc, rfl⟩ := hv1.lit
    clear OC hb1 hv1
    go_wp2_with fail
    (with_reducible refine (WC.out _ ?_).mono ?_); (repeat (first|exact bzR _ _|exact hBw|refine bzD ?_|refine bzN ?_|refine bzS ?_|refine bzA ?_))
    rintro e w2 ⟨⟨v2, rfl, hv2⟩, hb2⟩
    have i4 : w2.cell? ⟨w.heap.size, 4, none⟩ = some (.int .i64 c) := bkc hb2
    have zi4 := cell_lt i4
    have i0 : w2.cell? ⟨w.heap.size, 0, none⟩ = some (.int .i64 4) := bkc hb2
    have hB : Below w.heap.size w w2 := bthen (by repeat (first|exact bzR _ _|exact hB|refine bzD ?_|refine bzN ?_|refine bzS ?_|refine bzA ?_)) hb2
    have hz : w.heap.size ≤ w2.heap.size := hB.size
    have HV2 := Lib.hid hv2
    obtain ⟨m1, b1, k1, d1, m2, b2, k2, d2, rfl, -, -⟩ := hv2
    clear WC hb2 hBw
    have HC2 := Lib.hid (show FrC IsQP (w2.alloc (.cells #[.bool m1, .slice b1 k1 d1, .bool m2, .slice b2 k2 d2] 79)) w2.heap.size 0 (c : Rat) from ⟨m1, b1, k1, d1, m2, b2, k2, d2, cell_new rfl rfl, cell_new rfl rfl, cell_new rfl rfl, cell_new rfl rfl, HV2.out.keep (bal (Below.refl _ _) _)⟩)
    have HI2 := Lib.hid (cell_alloc i4 (.cells #[.bool m1, .slice b1 k1 d1, .bool m2, .slice b2 k2 d2] 79))
    clear HV2 i4
    go_wp2
    go_ret
    refine ⟨_, _, rfl, ensD Tryz.func243 (by kernel_rfl) rfl, ?_, by repeat (first|exact bzR _ _|exact hB|refine bzD ?_|refine bzN ?_|refine bzS ?_|refine bzA ?_)⟩
    intro W va vb x y hW hx hy bx bY
    rw [show opQ ⟨4, t, a, b, c⟩ x y = x - y by simp [opQ]]
    exact dnSub_c va vb x y 65536 W hx hy bx bY (by omega)
  ·
    go_enter Tryz.func190, Tryz.ntmps190
    go_wp2_with fail
    (with_reducible refine (OC.out _).mono ?_)
    rintro e w1 ⟨⟨v1, rfl, hv1⟩, hb1⟩
    have i4 : w1.cell? ⟨w.heap.size, 4, none⟩ = some (.int .i64 c) := bkc hb1
    have zi4 := cell_lt i4
    have i0 : w1.cell? ⟨w.heap.size, 0, none⟩ = some (.int .i64 5) := bkc hb1
    have hB : Below w.heap.size w w1 := bthen (by repeat (first|exact bzR _ _|exact hB|refine bzD ?_|refine bzN ?_|refine bzS ?_|refine bzA ?_)) hb1
    have hz : w.heap.size ≤ w1.heap.size := hB.size
    have WC := Lib.hid (fun V (q : Below w1.heap.size w1 V) => pqWhole_c v1 c V (hv1.keep q))
    have hBw := Below.refl w1.heap.size w1
    obtain ⟨pn, pa, pl, pc, rfl⟩ := hv1.lit
    clear OC hb1 hv1
    go_wp2_with fail
    (with_reducible refine (WC.out _ ?_).mono ?_); (repeat (first|exact bzR _ _|exact hBw|refine bzD ?_|refine bzN ?_|refine bzS ?_|refine bzA ?_))
    rintro e w2 ⟨⟨v2, rfl, hv2⟩, hb2⟩
    have i4 : w2.cell? ⟨w.heap.size, 4, none⟩ = some (.int .i64 c) := bkc hb2
    have zi4 := cell_lt i4
    have i0 : w2.cell? ⟨w.heap.size, 0, none⟩ = some (.int .i64 5) := bkc hb2
    have hB : Below w.heap.size w w2 := bthen (by repeat (first|exact bzR _ _|exact hB|refine bzD ?_|refine bzN ?_|refine bzS ?_|refine bzA ?_)) hb2
    have hz : w.heap.size ≤ w2.heap.size := hB.size
    have HV2 := Lib.hid hv2
    obtain ⟨m1, b1, k1, d1, m2, b2, k2, d2, rfl, -, -⟩ := hv2
    clear WC hb2 hBw
    have HC2 := Lib.hid (show FrC IsQP (w2.alloc (.cells #[.bool m1, .slice b1 k1 d1, .bool m2, .slice b2 k2 d2] 79)) w2.heap.size 0 (c : Rat) from ⟨m1, b1, k1, d1, m2, b2, k2, d2, cell_new rfl rfl, cell_new rfl rfl, cell_new rfl rfl, cell_new rfl rfl, HV2.out.keep (bal (Below.refl _ _) _)⟩)
    have HI2 := Lib.hid (cell_alloc i4 (.cells #[.bool m1, .slice b1 k1 d1, .bool m2, .slice b2 k2 d2] 79))
    clear HV2 i4
    go_wp2
    go_ret
    refine ⟨_, _, rfl, ensD Tryz.func245 (by kernel_rfl) rfl, ?_, by repeat (first|exact bzR _ _|exact hB|refine bzD ?_|refine bzN ?_|refine bzS ?_|refine bzA ?_)⟩
    intro W va vb x y hW hx hy bx bY
    rw [show opQ ⟨5, t, a, b, c⟩ x y = x * (c : Rat) by simp [opQ]]
    exact dnMul_c va vb x y (c : Rat) w2.heap.size 65536 10 W hx hy (HC2.out.keep frk_prog hW) bx (whole_bd HCI.out.1 HCI.out.2) (by omega)
  ·
    go_enter Tryz.func190, Tryz.ntmps190
    go_wp2_with fail
    (with_reducible refine (OC.out _).mono ?_)
    rintro e w1 ⟨⟨v1, rfl, hv1⟩, hb1⟩
    have i4 : w1.cell? ⟨w.heap.size, 4, none⟩ = some (.int .i64 c) := bkc hb1
    have zi4 := cell_lt i4
    have i0 : w1.cell? ⟨w.heap.size, 0, none⟩ = some (.int .i64 6) := bkc hb1
    have hB : Below w.heap.size w w1 := bthen (by repeat (first|exact bzR _ _|exact hB|refine bzD ?_|refine bzN ?_|refine bzS ?_|refine bzA ?_)) hb1
    have hz : w.heap.size ≤ w1.heap.size := hB.size
    have WC := Lib.hid (fun V (q : Below w1.heap.size w1 V) => pqWhole_c v1 c V (hv1.keep q))
    have hBw := Below.refl w1.heap.size w1
    obtain ⟨pn, pa, pl, pc, rfl⟩ := hv1.lit
    clear OC hb1 hv1
    go_wp2_with fail
    (with_reducible refine (WC.out _ ?_).mono ?_); (repeat (first|exact bzR _ _|exact hBw|refine bzD ?_|refine bzN ?_|refine bzS ?_|refine bzA ?_))
    rintro e w2 ⟨⟨v2, rfl, hv2⟩, hb2⟩
    have i4 : w2.cell? ⟨w.heap.size, 4, none⟩ = some (.int .i64 c) := bkc hb2
    have zi4 := cell_lt i4
    have i0 : w2.cell? ⟨w.heap.size, 0, none⟩ = some (.int .i64 6) := bkc hb2
    have hB : Below w.heap.size w w2 := bthen (by repeat (first|exact bzR _ _|exact hB|refine bzD ?_|refine bzN ?_|refine bzS ?_|refine bzA ?_)) hb2
    have hz : w.heap.size ≤ w2.heap.size := hB.size
    have HV2 := Lib.hid hv2
    obtain ⟨m1, b1, k1, d1, m2, b2, k2, d2, rfl, -, -⟩ := hv2
    clear WC hb2 hBw
    have HC2 := Lib.hid (show FrC IsQP (w2.alloc (.cells #[.bool m1, .slice b1 k1 d1, .bool m2, .slice b2 k2 d2] 79)) w2.heap.size 0 (c : Rat) from ⟨m1, b1, k1, d1, m2, b2, k2, d2, cell_new rfl rfl, cell_new rfl rfl, cell_new rfl rfl, cell_new rfl rfl, HV2.out.keep (bal (Below.refl _ _) _)⟩)
    have HI2 := Lib.hid (cell_alloc i4 (.cells #[.bool m1, .slice b1 k1 d1, .bool m2, .slice b2 k2 d2] 79))
    clear HV2 i4
    go_wp2
    go_ret
    refine ⟨_, _, rfl, ensD Tryz.func246 (by kernel_rfl) rfl, ?_, by repeat (first|exact bzR _ _|exact hB|refine bzD ?_|refine bzN ?_|refine bzS ?_|refine bzA ?_)⟩
    intro W va vb x y hW hx hy bx bY
    rw [show opQ ⟨6, t, a, b, c⟩ x y = x / (c : Rat) by simp [opQ]]
    exact dnDiv_c va vb x y (c : Rat) w2.heap.size 65536 10 W hx hy (HC2.out.keep frk_prog hW) bx (whole_bd HCI.out.1 HCI.out.2) (by omega) (whole_ne (by have := HC.out; simp [constB] at this; exact this.1))
  · obtain ⟨n, hn, rfl⟩ : ∃ n : Nat, n ≤ 64 ∧ c = n := ⟨c.toNat, by have := HC.out; simp [constB] at this; omega, by have := HC.out; simp [constB] at this; omega⟩
    generalize hcc : ((n : Nat) : Int) = c at *
    go_enter Tryz.func190, Tryz.ntmps190
    go_wp2_with fail
    (with_reducible refine (OC.out _).mono ?_)
    rintro e w1 ⟨⟨v1, rfl, hv1⟩, hb1⟩
    have i4 : w1.cell? ⟨w.heap.size, 4, none⟩ = some (.int .i64 c) := bkc hb1
    have zi4 := cell_lt i4
    have i0 : w1.cell? ⟨w.heap.size, 0, none⟩ = some (.int .i64 7) := bkc hb1
    have hB : Below w.heap.size w w1 := bthen (by repeat (first|exact bzR _ _|exact hB|refine bzD ?_|refine bzN ?_|refine bzS ?_|refine bzA ?_)) hb1
    have hz : w.heap.size ≤ w1.heap.size := hB.size
    have WC := Lib.hid (fun V (q : Below w1.heap.size w1 V) => pqWhole_c v1 c V (hv1.keep q))
    have hBw := Below.refl w1.heap.size w1
    obtain ⟨pn, pa, pl, pc, rfl⟩ := hv1.lit
    clear OC hb1 hv1
    go_wp2_with fail
    (with_reducible refine (WC.out _ ?_).mono ?_); (repeat (first|exact bzR _ _|exact hBw|refine bzD ?_|refine bzN ?_|refine bzS ?_|refine bzA ?_))
    rintro e w2 ⟨⟨v2, rfl, hv2⟩, hb2⟩
    have i4 : w2.cell? ⟨w.heap.size, 4, none⟩ = some (.int .i64 c) := bkc hb2
    have zi4 := cell_lt i4
    have i0 : w2.cell? ⟨w.heap.size, 0, none⟩ = some (.int .i64 7) := bkc hb2
    have hB : Below w.heap.size w w2 := bthen (by repeat (first|exact bzR _ _|exact hB|refine bzD ?_|refine bzN ?_|refine bzS ?_|refine bzA ?_)) hb2
    have hz : w.heap.size ≤ w2.heap.size := hB.size
    have HV2 := Lib.hid hv2
    obtain ⟨m1, b1, k1, d1, m2, b2, k2, d2, rfl, -, -⟩ := hv2
    clear WC hb2 hBw
    have HC2 := Lib.hid (show FrC IsQP (w2.alloc (.cells #[.bool m1, .slice b1 k1 d1, .bool m2, .slice b2 k2 d2] 79)) w2.heap.size 0 (c : Rat) from ⟨m1, b1, k1, d1, m2, b2, k2, d2, cell_new rfl rfl, cell_new rfl rfl, cell_new rfl rfl, cell_new rfl rfl, HV2.out.keep (bal (Below.refl _ _) _)⟩)
    have HI2 := Lib.hid (cell_alloc i4 (.cells #[.bool m1, .slice b1 k1 d1, .bool m2, .slice b2 k2 d2] 79))
    clear HV2 i4
    go_wp2
    go_ret
    subst hcc
    refine ⟨_, _, rfl, ensD Tryz.func248 (by kernel_rfl) rfl, ?_, by repeat (first|exact bzR _ _|exact hB|refine bzD ?_|refine bzN ?_|refine bzS ?_|refine bzA ?_)⟩
    intro W va vb x y hW hx hy bx bY
    rw [show opQ ⟨7, t, a, b, (n : Int)⟩ x y = x * ((2 ^ n : Int) : Rat) by simp [opQ]]
    exact dnShl_c va vb x y n w.heap.size 65536 W hx hy (bkeep hW HI2.out) bx (by omega) hn
  · obtain ⟨n, hn, rfl⟩ : ∃ n : Nat, n ≤ 64 ∧ c = n := ⟨c.toNat, by have := HC.out; simp [constB] at this; omega, by have := HC.out; simp [constB] at this; omega⟩
    generalize hcc : ((n : Nat) : Int) = c at *
    go_enter Tryz.func190, Tryz.ntmps190
    go_wp2_with fail
    (with_reducible refine (OC.out _).mono ?_)
    rintro e w1 ⟨⟨v1, rfl, hv1⟩, hb1⟩
    have i4 : w1.cell? ⟨w.heap.size, 4, none⟩ = some (.int .i64 c) := bkc hb1
    have zi4 := cell_lt i4
    have i0 : w1.cell? ⟨w.heap.size, 0, none⟩ = some (.int .i64 8) := bkc hb1
    have hB : Below w.heap.size w w1 := bthen (by repeat (first|exact bzR _ _|exact hB|refine bzD ?_|refine bzN ?_|refine bzS ?_|refine bzA ?_)) hb1
    have hz : w.heap.size ≤ w1.heap.size := hB.size
    have WC := Lib.hid (fun V (q : Below w1.heap.size w1 V) => pqWhole_c v1 c V (hv1.keep q))
    have hBw := Below.refl w1.heap.size w1
    obtain ⟨pn, pa, pl, pc, rfl⟩ := hv1.lit
    clear OC hb1 hv1
    go_wp2_with fail
    (with_reducible refine (WC.out _ ?_).mono ?_); (repeat (first|exact bzR _ _|exact hBw|refine bzD ?_|refine bzN ?_|refine bzS ?_|refine bzA ?_))
    rintro e w2 ⟨⟨v2, rfl, hv2⟩, hb2⟩
    have i4 : w2.cell? ⟨w.heap.size, 4, none⟩ = some (.int .i64 c) := bkc hb2
    have zi4 := cell_lt i4
    have i0 : w2.cell? ⟨w.heap.size, 0, none⟩ = some (.int .i64 8) := bkc hb2
    have hB : Below w.heap.size w w2 := bthen (by repeat (first|exact bzR _ _|exact hB|refine bzD ?_|refine bzN ?_|refine bzS ?_|refine bzA ?_)) hb2
    have hz : w.heap.size ≤ w2.heap.size := hB.size
    have HV2 := Lib.hid hv2
    obtain ⟨m1, b1, k1, d1, m2, b2, k2, d2, rfl, -, -⟩ := hv2
    clear WC hb2 hBw
    have HC2 := Lib.hid (show FrC IsQP (w2.alloc (.cells #[.bool m1, .slice b1 k1 d1, .bool m2, .slice b2 k2 d2] 79)) w2.heap.size 0 (c : Rat) from ⟨m1, b1, k1, d1, m2, b2, k2, d2, cell_new rfl rfl, cell_new rfl rfl, cell_new rfl rfl, cell_new rfl rfl, HV2.out.keep (bal (Below.refl _ _) _)⟩)
    have HI2 := Lib.hid (cell_alloc i4 (.cells #[.bool m1, .slice b1 k1 d1, .bool m2, .slice b2 k2 d2] 79))
    clear HV2 i4
    go_wp2
    go_ret
    subst hcc
    refine ⟨_, _, rfl, ensD Tryz.func250 (by kernel_rfl) rfl, ?_, by repeat (first|exact bzR _ _|exact hB|refine bzD ?_|refine bzN ?_|refine bzS ?_|refine bzA ?_)⟩
    intro W va vb x y hW hx hy bx bY
    rw [show opQ ⟨8, t, a, b, (n : Int)⟩ x y = x / ((2 ^ n : Int) : Rat) by simp [opQ]]
    exact dnShr_c va vb x y n w.heap.size 65536 W hx hy (bkeep hW HI2.out) bx (by omega) hn
theorem bit_gt {n k : Nat} : k < bitN n ↔ ¬ n < 2 ^ k := by
  unfold bitN
  by_cases h0 : n = 0
  · rw [if_pos h0, h0]
    have := Nat.two_pow_pos k
    omega
  · rw [if_neg h0]
    constructor
    · intro h h2
      have h3 := Nat.log2_self_le h0
      have h4 : 2 ^ n.log2 < 2 ^ k := Nat.lt_of_le_of_lt h3 h2
      have := (Nat.pow_lt_pow_iff_right (a := 2) (by omega)).1 h4
      omega
    · intro h
      have h3 : n < 2 ^ (n.log2 + 1) := Nat.lt_log2_self
      rcases Nat.lt_or_ge k (n.log2 + 1) with h4 | h4
      · exact h4
      · exact absurd (Nat.lt_of_lt_of_le h3 (Nat.pow_le_pow_right (by omega) h4)) h
theorem slim_iff (q : Rat) : Slim q ↔ ¬ (65536 < bitN q.num.natAbs) ∧ ¬ (65536 < bitN (q.den : Int).natAbs) := by
  rw [bit_gt, bit_gt]
  unfold Slim BdQ Bd
  omega
set_option maxRecDepth 100000 in
set_option maxHeartbeats 8000000 in
theorem wide_c (v : Value) (q : Rat) (k : Nat) (w : World) (hv : IsQP w v q) (bq : BdQ k q) (hk : k ≤ 1000000000) : Calls Tryz.prog 192 #[v] w fun e w' => e = .returned (.bool (decide (¬ Slim q))) ∧ Below w.heap.size w w' := by
  have NC := Lib.hid (fun V (h : Below w.heap.size w V) => pqNum_c v q V (hv.keep h))
  have DC := Lib.hid (fun V (h : Below w.heap.size w V) => pqDen_c v q k V (hv.keep h) bq (by omega))
  have BN := Lib.hid (fun u V (hu : IsInt V u q.num) => bits_c u q.num k V hu bq.1 (by omega))
  have BD := Lib.hid (fun u V (hu : IsInt V u (q.den : Int)) => bits_c u (q.den : Int) k V hu bq.2 (by omega))
  have HSL := Lib.hid (slim_iff q)
  obtain ⟨n1, a1, l1, c1, n2, a2, l2, c2, rfl, -, -⟩ := hv
  obtain ⟨bn, hbn⟩ : ∃ b, bitN q.num.natAbs = b := ⟨_, rfl⟩
  obtain ⟨bd, hbd⟩ : ∃ b, bitN (q.den : Int).natAbs = b := ⟨_, rfl⟩
  rw [hbn] at BN HSL
  rw [hbd] at BD HSL
  have hB := Below.refl w.heap.size w
  clear bq hk hbn hbd
  by_cases h1 : 65536 < bn
  · have d1 : decide ((65536 : Int) < (bn : Int)) = true := decide_eq_true (by omega)
    rw [decide_eq_true (show ¬ Slim q from fun h => (HSL.out.1 h).1 h1)]
    clear HSL h1
    go_enter Tryz.func192, Tryz.ntmps192
    go_wp2_with fail
    (with_reducible refine (NC.out _ ?_).mono ?_); (repeat (first|exact bzR _ _|exact hB|refine bzD ?_|refine bzN ?_|refine bzS ?_|refine bzA ?_))
    rintro e w1 ⟨⟨u1, rfl, hu1⟩, hb1⟩
    have x0 : w1.cell? ⟨w.heap.size, 0, none⟩ = some (.bool n1) := bkc hb1
    have zx0 := cell_lt x0
    have x1 : w1.cell? ⟨w.heap.size, 1, none⟩ = some (.slice a1 l1 c1) := bkc hb1
    have x2 : w1.cell? ⟨w.heap.size, 2, none⟩ = some (.bool n2) := bkc hb1
    have x3 : w1.cell? ⟨w.heap.size, 3, none⟩ = some (.slice a2 l2 c2) := bkc hb1
    have hB : Below w.heap.size w w1 := bthen (by repeat (first|exact bzR _ _|exact hB|refine bzD ?_|refine bzN ?_|refine bzS ?_|refine bzA ?_)) hb1
    have hz : w.heap.size ≤ w1.heap.size := hB.size
    have B1 := Lib.hid (fun V (h : Below w1.heap.size w1 V) => BN.out u1 V (hu1.keep h))
    have hBw := Below.refl w1.heap.size w1
    obtain ⟨pn, pa, pl, pc, rfl⟩ := hu1.lit
    clear NC hb1 hu1 BN
    go_wp2_with fail
    (with_reducible refine (B1.out _ ?_).mono ?_); (repeat (first|exact bzR _ _|exact hBw|refine bzD ?_|refine bzN ?_|refine bzS ?_|refine bzA ?_))
    rintro e w2 ⟨rfl, hb2⟩
    have hB2 : Below w.heap.size w w2 := bthen hB (bthen (by repeat (first|exact bzR _ _|exact hBw|refine bzD ?_|refine bzN ?_|refine bzS ?_|refine bzA ?_)) hb2)
    clear B1 hb2
    go_wp2
    go_ret
    exact ⟨rfl, by repeat (first|exact bzR _ _|exact hB2|refine bzD ?_|refine bzN ?_|refine bzS ?_|refine bzA ?_)⟩
  · have d1 : decide ((65536 : Int) < (bn : Int)) = false := decide_eq_false (by omega)
    have HE := Lib.hid (show decide (¬ Slim q) = decide ((65536 : Int) < (bd : Int)) from by
      by_cases h2 : 65536 < bd
      · rw [decide_eq_true (show ¬ Slim q from fun h => (HSL.out.1 h).2 h2), decide_eq_true (by omega)]
      · rw [decide_eq_false (show ¬ ¬ Slim q from fun h => h (HSL.out.2 ⟨h1, h2⟩)), decide_eq_false (by omega)])
    rw [HE.out]
    clear HSL h1 HE
    go_enter Tryz.func192, Tryz.ntmps192
    go_wp2_with fail
    (with_reducible refine (NC.out _ ?_).mono ?_); (repeat (first|exact bzR _ _|exact hB|refine bzD ?_|refine bzN ?_|refine bzS ?_|refine bzA ?_))
    rintro e w1 ⟨⟨u1, rfl, hu1⟩, hb1⟩
    have x0 : w1.cell? ⟨w.heap.size, 0, none⟩ = some (.bool n1) := bkc hb1
    have zx0 := cell_lt x0
    have x1 : w1.cell? ⟨w.heap.size, 1, none⟩ = some (.slice a1 l1 c1) := bkc hb1
    have x2 : w1.cell? ⟨w.heap.size, 2, none⟩ = some (.bool n2) := bkc hb1
    have x3 : w1.cell? ⟨w.heap.size, 3, none⟩ = some (.slice a2 l2 c2) := bkc hb1
    have hB : Below w.heap.size w w1 := bthen (by repeat (first|exact bzR _ _|exact hB|refine bzD ?_|refine bzN ?_|refine bzS ?_|refine bzA ?_)) hb1
    have hz : w.heap.size ≤ w1.heap.size := hB.size
    have B1 := Lib.hid (fun V (h : Below w1.heap.size w1 V) => BN.out u1 V (hu1.keep h))
    have hBw := Below.refl w1.heap.size w1
    obtain ⟨pn, pa, pl, pc, rfl⟩ := hu1.lit
    clear NC hb1 hu1 BN
    go_wp2_with fail
    (with_reducible refine (B1.out _ ?_).mono ?_); (repeat (first|exact bzR _ _|exact hBw|refine bzD ?_|refine bzN ?_|refine bzS ?_|refine bzA ?_))
    rintro e w2 ⟨rfl, hb2⟩
    have x0 : w2.cell? ⟨w.heap.size, 0, none⟩ = some (.bool n1) := bkc hb2
    have zx0 := cell_lt x0
    have x1 : w2.cell? ⟨w.heap.size, 1, none⟩ = some (.slice a1 l1 c1) := bkc hb2
    have x2 : w2.cell? ⟨w.heap.size, 2, none⟩ = some (.bool n2) := bkc hb2
    have x3 : w2.cell? ⟨w.heap.size, 3, none⟩ = some (.slice a2 l2 c2) := bkc hb2
    have hB : Below w.heap.size w w2 := bthen (by repeat (first|exact bzR _ _|exact hB|refine bzD ?_|refine bzN ?_|refine bzS ?_|refine bzA ?_)) hb2
    have hz : w.heap.size ≤ w2.heap.size := hB.size
    clear B1 hb2 hBw
    go_wp2_with fail
    (with_reducible refine (DC.out _ ?_).mono ?_); (repeat (first|exact bzR _ _|exact hB|refine bzD ?_|refine bzN ?_|refine bzS ?_|refine bzA ?_))
    rintro e w3 ⟨⟨u3, rfl, hu3⟩, hb3⟩
    have hB3 : Below w.heap.size w w3 := bthen (by repeat (first|exact bzR _ _|exact hB|refine bzD ?_|refine bzN ?_|refine bzS ?_|refine bzA ?_)) hb3
    have B3 := Lib.hid (fun V (h : Below w3.heap.size w3 V) => BD.out u3 V (hu3.keep h))
    have hBw := Below.refl w3.heap.size w3
    obtain ⟨qn, qa, ql, qc, rfl⟩ := hu3.lit
    clear DC hb3 hu3 BD
    go_wp2_with fail
    (with_reducible refine (B3.out _ ?_).mono ?_); (repeat (first|exact bzR _ _|exact hBw|refine bzD ?_|refine bzN ?_|refine bzS ?_|refine bzA ?_))
    rintro e w4 ⟨rfl, hb4⟩
    have hB4 : Below w.heap.size w w4 := bthen hB3 (bthen (by repeat (first|exact bzR _ _|exact hBw|refine bzD ?_|refine bzN ?_|refine bzS ?_|refine bzA ?_)) hb4)
    clear B3 hb4
    go_wp2
    go_ret
    exact ⟨rfl, by repeat (first|exact bzR _ _|exact hB4|refine bzD ?_|refine bzN ?_|refine bzS ?_|refine bzA ?_)⟩
def IdxPost (L : List Rat) (w : World) (e : Ending) (w' : World) : Prop := ((e = .returned (.int .i64 (-1)) ∧ SlimR L) ∨ (∃ j : Nat, e = .returned (.int .i64 j) ∧ ¬ SlimR L)) ∧ Below w.heap.size w w'
set_option maxRecDepth 100000 in
set_option maxHeartbeats 8000000 in
theorem idxWide_c (v : Value) (L : List Rat) (k : Nat) (w : World) (hv : FrRow IsQP 79 0 w v L) (bL : ∀ j, j < L.length → BdQ k (L.getD j 0)) (hk : k ≤ 1000000000) (hl : L.length ≤ 1099511627776) :
    Calls Tryz.prog 252 #[v, .func (.func 192) #[] #[]] w (IdxPost L w) := by
  have HV := Lib.hid hv
  have HBL := Lib.hid bL
  obtain ⟨a, c, rfl⟩ := hv.ex
  obtain ⟨n, hnE⟩ : ∃ n, L.length = n := ⟨_, rfl⟩
  have HN := Lib.hid hnE
  rw [hnE] at hl ⊢
  unfold IdxPost
  clear hv bL hnE
  have hB := Below.refl w.heap.size w
  go_enter Tryz.func252, Tryz.ntmps252
  go_wp2
  go_loopw [8] (fun x wr => ∃ j : Nat, j ≤ n ∧ x = .int .i64 j ∧ Below w.heap.size w wr ∧ Hid (∀ t, t < j → Slim (L.getD t 0))) (fun x _ => n - (intOf x).toNat)
  case atStart => exact ⟨0, Nat.zero_le _, rfl, hB, Lib.hid (fun t ht => by omega)⟩
  case round =>
    obtain ⟨j, hj, rfl, hBr, hE⟩ := hrel
    by_cases hlt : j < n
    · have hltI : (j : Int) < (n : Int) := by omega
      have hvr := HV.out.keep frk_prog hBr
      rw [HN.out] at hvr
      obtain ⟨b, off, rfl, -, g1, y1, s1, t1, g2, y2, s2, t2, q0, q1, q2, q3, qI⟩ := hvr.at hlt
      have zb := cell_lt q0
      have WC := Lib.hid (fun V (h : Below wr.heap.size wr V) => wide_c _ (L.getD j 0) k V (qI.keep h) (HBL.out j (by rw [HN.out]; exact hlt)) hk)
      have hBw := Below.refl wr.heap.size wr
      by_cases hs : Slim (L.getD j 0)
      · rw [decide_eq_false (show ¬ ¬ Slim (L.getD j 0) from fun h => h hs)] at WC
        have HE2 := Lib.hid (show ∀ t, t < j + 1 → Slim (L.getD t 0) from fun t ht => by
          by_cases e : t = j
          · subst e; exact hs
          · exact hE.out t (by omega))
        clear hvr qI hs
        go_wp2_with fail
        (with_reducible refine (WC.out _ ?_).mono ?_); (repeat (first|exact bzR _ _|exact hBw|refine bzD ?_|refine bzN ?_|refine bzS ?_|refine bzA ?_))
        rintro e w5 ⟨rfl, hb5⟩
        have hB5 := bthen hBr (bthen (show Below wr.heap.size wr _ by repeat (first|exact bzR _ _|exact hBw|refine bzD ?_|refine bzN ?_|refine bzS ?_|refine bzA ?_)) hb5)
        clear WC hb5
        go_wp2
        exact ⟨⟨j + 1, hlt, by go_num, hB5, HE2⟩, meas hlt (by go_num) rfl⟩
      · rw [decide_eq_true hs] at WC
        have HNS := Lib.hid (show ¬ SlimR L from fun h => hs (h j (by rw [HN.out]; exact hlt)))
        clear hvr qI hs
        go_wp2_with fail
        (with_reducible refine (WC.out _ ?_).mono ?_); (repeat (first|exact bzR _ _|exact hBw|refine bzD ?_|refine bzN ?_|refine bzS ?_|refine bzA ?_))
        rintro e w5 ⟨rfl, hb5⟩
        have hB5 := bthen hBr (bthen (show Below wr.heap.size wr _ by repeat (first|exact bzR _ _|exact hBw|refine bzD ?_|refine bzN ?_|refine bzS ?_|refine bzA ?_)) hb5)
        clear WC hb5
        go_wp2
        go_ret
        exact ⟨.inr ⟨j, rfl, HNS.out⟩, hB5⟩
    · obtain rfl : j = n := by omega
      have hltI : ¬ (j : Int) < (j : Int) := by omega
      have HS := Lib.hid (show SlimR L from fun t ht => hE.out t (by rw [HN.out] at ht; exact ht))
      go_wp2
      go_ret
      exact ⟨.inl ⟨rfl, HS.out⟩, hBr⟩
set_option maxRecDepth 100000 in
set_option maxHeartbeats 8000000 in
theorem cntWide_c (v : Value) (L : List Rat) (k : Nat) (w : World) (hv : FrRow IsQP 79 0 w v L) (bL : ∀ j, j < L.length → BdQ k (L.getD j 0)) (hk : k ≤ 1000000000) (hl : L.length ≤ 1099511627776) :
    Calls Tryz.prog 191 #[v, .func (.func 192) #[] #[]] w fun e w' => e = .returned (.bool (decide (¬ SlimR L))) ∧ Below w.heap.size w w' := by
  have IC := Lib.hid (fun V (h : Below w.heap.size w V) => idxWide_c v L k V (hv.keep frk_prog h) bL hk hl)
  obtain ⟨a, c, rfl⟩ := hv.ex
  unfold IdxPost at IC
  clear hv bL hk hl
  have hB := Below.refl w.heap.size w
  go_enter Tryz.func191, Tryz.ntmps191
  go_wp2_with fail
  (with_reducible refine (IC.out _ ?_).mono ?_); (repeat (first|exact bzR _ _|exact hB|refine bzD ?_|refine bzN ?_|refine bzS ?_|refine bzA ?_))
  rintro e w1 ⟨(⟨rfl, hs⟩ | ⟨j, rfl, hs⟩), hb1⟩
  · have hB1 : Below w.heap.size w w1 := bthen (by repeat (first|exact bzR _ _|exact hB|refine bzD ?_|refine bzN ?_|refine bzS ?_|refine bzA ?_)) hb1
    have HD := Lib.hid (show decide (¬ SlimR L) = false from decide_eq_false (fun h => h hs))
    clear IC hb1 hs
    go_wp2
    go_ret
    exact ⟨by rw [HD.out]; rfl, hB1⟩
  · have hB1 : Below w.heap.size w w1 := bthen (by repeat (first|exact bzR _ _|exact hB|refine bzD ?_|refine bzN ?_|refine bzS ?_|refine bzA ?_)) hb1
    have HD := Lib.hid (show decide (¬ SlimR L) = true from decide_eq_true hs)
    have hjI : (0 : Int) ≤ (j : Int) := by omega
    clear IC hb1 hs
    go_wp2
    go_ret
    exact ⟨by rw [HD.out]; rfl, hB1⟩
end Go.Proofs.YtbmaffijncapiaaGreatDoor

/- denote: registers of fractions; what run tells, and answers. -/
namespace Go.Proofs.YtbmaffijncapiaaGreatDoor
open Num
open Go.ChangeShapes Go.WideShapes Go.ChangeAt Go.RowKit
set_option linter.unusedVariables false
set_option linter.unusedSimpArgs false
attribute [local go_sem ↓] Go.wp_at_zero Go.wp_at_succ
def zcelQ (n : Nat) : Array Value := madeCells #[.bool false, .slice none 0 0, .bool false, .slice none 0 0] (n * 4)
theorem zcelQ_at {n k : Nat} (h : k < n) : (zcelQ n)[k * 4]? = some (.bool false) ∧ (zcelQ n)[k * 4 + 1]? = some (.slice none 0 0) ∧ (zcelQ n)[k * 4 + 2]? = some (.bool false) ∧ (zcelQ n)[k * 4 + 3]? = some (.slice none 0 0) := by
  unfold zcelQ madeCells
  have e1 : (k * 4 + 1) % 4 = 1 := by omega
  have e2 : (k * 4 + 2) % 4 = 2 := by omega
  have e3 : (k * 4 + 3) % 4 = 3 := by omega
  refine ⟨?_, ?_, ?_, ?_⟩
  · simp [Array.getElem?_map, Array.getElem?_range, show k * 4 < n * 4 from by omega]
  · simp [Array.getElem?_map, Array.getElem?_range, show k * 4 + 1 < n * 4 from by omega, e1]
  · simp [Array.getElem?_map, Array.getElem?_range, show k * 4 + 2 < n * 4 from by omega, e2]
  · simp [Array.getElem?_map, Array.getElem?_range, show k * 4 + 3 < n * 4 from by omega, e3]
theorem zcelQ_blk (w : World) (n : Nat) {g : Nat} (hg : g = w.heap.size) : FrBlk IsQP 79 (w.alloc (.cells (zcelQ n) 79)) g n (fun _ => 0) := by
  subst hg
  refine ⟨typ_fresh rfl, Free.new rfl, fun k hk => ?_⟩
  obtain ⟨h0, h1, h2, h3⟩ := zcelQ_at hk
  exact ⟨false, none, 0, 0, false, none, 0, 0, cell_new rfl h0, cell_new rfl h1, cell_new rfl h2, cell_new rfl h3, IsQP.zero _⟩
theorem mkRats (n : Nat) (hn : n ≤ 1099511627776) (w : World) : (Instr.makeSlice 38 (.int .i64 (n : Int)) (.int .i64 (n : Int))).run Tryz.prog w = .ok (.slice (some ⟨w.heap.size, 0, none⟩) n n) (w.alloc (.cells (zcelQ n) 79)) := by
  obtain ⟨i0, hi, hz0, hz1, hz2⟩ := info_parts infoRat
  rw [run_make w _ _ i0 _ Tryz.underlying38 hi hz0 .i64 .i64 n n (by omega) (by omega) (by rw [hz2]; omega) (by omega), hz1]
  rfl
def FRow (base : Nat) (w : World) (v : Value) (L : List Rat) : Prop := FrRow IsQP 79 base w v L
theorem FRow.keep {base : Nat} {w w' : World} {v : Value} {L : List Rat} (h : FRow base w v L) (k : Below w.heap.size w w') : FRow base w' v L := FrRow.keep frk_prog h k
def FRowX (S : Nat → Prop) (w : World) (v : Value) (L : List Rat) : Prop := FRow 0 w v L ∧ (L = [] ∨ ∀ b, rowBlk v = some b → ¬ S b)
section
variable {S S' : Nat → Prop} {w w' : World} {v : Value} {L : List Rat} {base : Nat}
theorem FRowX.keep (h : FRowX S w v L) (k : Below w.heap.size w w') : FRowX S w' v L := ⟨h.1.keep k, h.2⟩
theorem FRowX.of (h : FRow base w v L) (hS : ∀ q, S q → q < base) : FRowX S w v L := by
  refine ⟨FrRow.rebase h (Nat.zero_le _), ?_⟩
  obtain ⟨a, c, rfl, _, h4⟩ := h
  rcases h4 with h4 | ⟨b, off, rfl, hb, _⟩
  · exact .inl h4
  · refine .inr fun q hq hs => ?_
    simp [rowBlk] at hq
    subst hq
    have := hS _ hs
    omega
theorem FRowX.told (h : FRowX S w v L) (ho : OutT S w w') (hS : Soil S w) (hg : Grew S S' w) : FRowX S' w' v L := by
  obtain ⟨⟨a, c, rfl, h1, h4⟩, hx⟩ := h
  rcases h4 with h4 | ⟨b, off, rfl, hb, ht, hi⟩
  · exact ⟨⟨a, c, rfl, h1, .inl h4⟩, .inl h4⟩
  · rcases hx with hx | hx
    · exact ⟨⟨_, c, rfl, h1, .inl hx⟩, .inl hx⟩
    · have hn : ¬ S b := hx b rfl
      have e := ho.1.block b (typ_lt ht) hn
      refine ⟨⟨_, c, rfl, h1, .inr ⟨b, off, rfl, hb, by rw [typ_of_block (w := w) e]; exact ht, fun k hk => (hi k hk).stay frk_prog e (ho.lim hS)⟩⟩, .inr fun q hq hs => ?_⟩
      simp [rowBlk] at hq
      subst hq
      rcases hg _ hs with h | h
      · exact hn h
      · have := typ_lt ht; omega
end
structure RegsF (S : Nat → Prop) (w : World) (rb : Nat) (g : GridF) : Prop where
  free : Free w rb
  ty : typOf w rb = some 38
  cell : ∀ k, k < g.length → ∃ u, w.cell? ⟨rb, k, none⟩ = some u ∧ FRowX S w u (g.getD k [])
section
variable {S S' : Nat → Prop} {w w' : World} {rb : Nat} {g : GridF}
theorem RegsF.keep (h : RegsF S w rb g) (k : Below w.heap.size w w') : RegsF S w' rb g :=
  ⟨h.free.keep k, typ_keep h.ty k, fun j hj => by obtain ⟨u, hu, hr⟩ := h.cell j hj; exact ⟨u, bkeep k hu, hr.keep k⟩⟩
theorem RegsF.told (h : RegsF S w rb g) (hr : ¬ S rb) (ho : OutT S w w') (hS : Soil S w) (hg : Grew S S' w) : RegsF S' w' rb g :=
  ⟨h.free.out ho.1 hr, typ_outK h.ty ho.1 hr, fun j hj => by obtain ⟨u, hu, hr'⟩ := h.cell j hj; exact ⟨u, okeep ho.1 hu hr, hr'.told ho hS hg⟩⟩
theorem RegsF.step {nt : Nat} {v : Value} {r : List Rat} (h : RegsF S w rb g) (hv : FRowX S w v r) (ht : nt < g.length) : RegsF S (w.setCell ⟨rb, nt, none⟩ v) rb (g.set nt r) := by
  have hk : Kp (· ≠ 38) w (w.setCell ⟨rb, nt, none⟩ v) := (Kp.refl _ w).set (fun t ht => by rw [h.ty] at ht; cases ht; exact fun k => k rfl) _
  have hp : ∀ {u : Value} {l : List Rat}, FRowX S w u l → FRowX S (w.setCell ⟨rb, nt, none⟩ v) u l := fun h => ⟨FrRow.kp frk_prog h.1 hk (by decide) (by decide), h.2⟩
  refine ⟨h.free.set _ _, by rw [typ_set]; exact h.ty, fun k hk' => ?_⟩
  rw [List.length_set] at hk'
  by_cases e : nt = k
  · subst e
    obtain ⟨u, hu, _⟩ := h.cell nt hk'
    refine ⟨v, cell_here hu _, ?_⟩
    have : (g.set nt r).getD nt [] = r := by simp [hk']
    rw [this]
    exact hp hv
  · obtain ⟨u, hu, hr⟩ := h.cell k hk'
    refine ⟨u, cell_far hu (fun e2 => e (by cases e2; rfl)) _, ?_⟩
    have : (g.set nt r).getD k [] = g.getD k [] := by simp [List.getElem?_set_ne e]
    rw [this]
    exact hp hr
end
structure ToldF (code : List Ins) (g : GridF) (m : Nat) : Prop where
  le : m ≤ code.length
  has : ∃ h, afterF code g m = some h
  stop : m < code.length → afterF code g (m + 1) = none
theorem ToldF.lt {code : List Ins} {g h : GridF} {m n : Nat} (t : ToldF code g m) (hn : n < code.length) (e : afterF code g (n + 1) = some h) (hm : n ≤ m) : n < m := by
  rcases Nat.lt_or_ge n m with h1 | h1
  · exact h1
  · obtain rfl : n = m := by omega
    rw [t.stop hn] at e; cases e
theorem ToldF.eq {code : List Ins} {g : GridF} {m n : Nat} (t : ToldF code g m) (e : afterF code g (n + 1) = none) (hm : n ≤ m) : n = m := by
  rcases Nat.lt_or_ge n m with h1 | h1
  · obtain ⟨s, hs⟩ := t.has
    rw [afterF_mono e (show n + 1 ≤ m by omega)] at hs; cases hs
  · omega
theorem toldF_ex (code : List Ins) (g : GridF) : ∃ m, ToldF code g m := by
  have key : ∀ d m, m + d = code.length → (∃ h, afterF code g m = some h) → ∃ m, ToldF code g m := by
    intro d
    induction d with
    | zero => intro m hm h; exact ⟨m, by omega, h, fun hh => by omega⟩
    | succ d ih =>
      intro m hm h
      cases e : afterF code g (m + 1) with
      | none => exact ⟨m, by omega, h, fun _ => e⟩
      | some s => exact ih (m + 1) (by omega) ⟨s, e⟩
  exact key code.length 0 (by omega) ⟨g, rfl⟩
def toldQ (code : List Ins) (g : GridF) (k : Nat) : List Rat :=
  match afterF code g k with
  | some h => rowF (code.getD k default) (h.getD (code.getD k default).a.toNat []) (h.getD (code.getD k default).b.toNat [])
  | none => []
theorem toldQ_eq {code : List Ins} {g h : GridF} {k : Nat} (e : afterF code g k = some h) : toldQ code g k = rowF (code.getD k default) (h.getD (code.getD k default).a.toNat []) (h.getD (code.getD k default).b.toNat []) := by unfold toldQ; rw [e]
theorem afterF_next {code : List Ins} {g h : GridF} {n : Nat} (e : afterF code g n = some h) : afterF code g (n + 1) = if SlimR (toldQ code g n) then some (h.set (code.getD n default).to.toNat (toldQ code g n)) else none := by
  rw [toldQ_eq e, afterF, e, Option.bind_some]
  unfold stepF
  split <;> rfl
def FnTQ (F : Nat) (caps : Array Value) (T : Nat → List Rat) (M : Nat) (J Jx : Nat → (Nat → Prop) → World → Prop) (C : World → Prop) : Prop :=
  ∀ k S W v, k < M → J k S W → C W → FRowX S W v (T k) → Calls Tryz.prog F (#[.int .i64 (k : Int), v] ++ caps) W fun e W' => (∃ b, e = .returned (.bool b) ∧ ((b = true ∧ ∃ S', Grew S S' W ∧ J (k + 1) S' W' ∧ OutT S W W') ∨ (b = false ∧ ∃ S', Jx (k + 1) S' W')))
def RunF (code : List Ins) (g : GridF) (M rb R rc : Nat) (J Jx : Nat → (Nat → Prop) → World → Prop) (e : Ending) (w' : World) : Prop :=
  (∃ h S, afterF code g code.length = some h ∧ e = .returned (.tuple #[.slice (some ⟨rb, 0, none⟩) R rc, .bool true]) ∧ J code.length S w' ∧ RegsF S w' rb h) ∨
  (e = .returned (.tuple #[.slice none 0 0, .bool false]) ∧ ((afterF code g code.length = none ∧ ∃ S, J M S w') ∨ ∃ k S, k ≤ M ∧ Jx k S w'))
theorem RunF.yes {code : List Ins} {g h : GridF} {M rb R rc : Nat} {J Jx : Nat → (Nat → Prop) → World → Prop} {S : Nat → Prop} {w : World} (e : afterF code g code.length = some h) (hj : J code.length S w) (hr : RegsF S w rb h) : RunF code g M rb R rc J Jx (.returned (.tuple #[.slice (some ⟨rb, 0, none⟩) R rc, .bool true])) w := .inl ⟨h, S, e, rfl, hj, hr⟩
theorem RunF.wide {code : List Ins} {g : GridF} {M rb R rc : Nat} {J Jx : Nat → (Nat → Prop) → World → Prop} {S : Nat → Prop} {w : World} (e : afterF code g code.length = none) (hj : J M S w) : RunF code g M rb R rc J Jx (.returned (.tuple #[.slice none 0 0, .bool false])) w := .inr ⟨rfl, .inl ⟨e, S, hj⟩⟩
theorem RunF.quit {code : List Ins} {g : GridF} {M rb R rc k : Nat} {J Jx : Nat → (Nat → Prop) → World → Prop} {S : Nat → Prop} {w : World} (hk : k ≤ M) (hj : Jx k S w) : RunF code g M rb R rc J Jx (.returned (.tuple #[.slice none 0 0, .bool false])) w := .inr ⟨rfl, .inr ⟨k, S, hk, hj⟩⟩
end Go.Proofs.YtbmaffijncapiaaGreatDoor

/- ratio.Sum; a variable in memory that holds a fraction. -/
namespace Go.Proofs.YtbmaffijncapiaaGreatDoor
open Num
open Go.ChangeShapes Go.WideShapes Go.ChangeAt Go.RowKit
set_option linter.unusedVariables false
set_option linter.unusedSimpArgs false
attribute [local go_sem ↓] Go.wp_at_zero Go.wp_at_succ
def VarF (b : Nat) (q : Rat) (w : World) : Prop := FrBlk IsQP 79 w b 1 (fun _ => q)
theorem VarF.new {w : World} {b : Nat} (hb : b = w.heap.size) : VarF b 0 (w.alloc (.cells #[.bool false, .slice none 0 0, .bool false, .slice none 0 0] 79)) := by
  subst hb
  refine ⟨typ_fresh rfl, Free.new rfl, fun k hk => ?_⟩
  obtain rfl : k = 0 := by omega
  exact ⟨_, _, _, _, _, _, _, _, cell_new rfl rfl, cell_new rfl rfl, cell_new rfl rfl, cell_new rfl rfl, IsQP.zero _⟩
theorem VarF.keep {b : Nat} {q : Rat} {w w' : World} (h : VarF b q w) (k : Below w.heap.size w w') : VarF b q w' := FrBlk.keep frk_prog h k
theorem VarF.view {b : Nat} {q : Rat} {w : World} (h : VarF b q w) : ∃ n1 a1 l1 c1 n2 a2 l2 c2, w.cell? ⟨b, 0, none⟩ = some (.bool n1) ∧ w.cell? ⟨b, 1, none⟩ = some (.slice a1 l1 c1) ∧ w.cell? ⟨b, 2, none⟩ = some (.bool n2) ∧ w.cell? ⟨b, 3, none⟩ = some (.slice a2 l2 c2) ∧ IsQP w (.agg #[.bool n1, .slice a1 l1 c1, .bool n2, .slice a2 l2 c2]) q ∧ w.frozen? ⟨b, 0, none⟩ = false ∧ w.frozen? ⟨b, 1, none⟩ = false ∧ w.frozen? ⟨b, 2, none⟩ = false ∧ w.frozen? ⟨b, 3, none⟩ = false := by
  obtain ⟨n1, a1, l1, c1, n2, a2, l2, c2, h0, h1, h2, h3, h4⟩ := h.at_ 0 (by omega)
  exact ⟨n1, a1, l1, c1, n2, a2, l2, c2, by simpa using h0, by simpa using h1, by simpa using h2, by simpa using h3, h4, h.fr.2 _, h.fr.2 _, h.fr.2 _, h.fr.2 _⟩
theorem VarF.put {b : Nat} {q z : Rat} {w : World} (h : VarF b q w) {n1 n2 : Bool} {a1 a2 : Option Addr} {l1 c1 l2 c2 : Nat} (hv : IsQP w (.agg #[.bool n1, .slice a1 l1 c1, .bool n2, .slice a2 l2 c2]) z) :
    VarF b z ((((w.setCell ⟨b, 0, none⟩ (.bool n1)).setCell ⟨b, 1, none⟩ (.slice a1 l1 c1)).setCell ⟨b, 2, none⟩ (.bool n2)).setCell ⟨b, 3, none⟩ (.slice a2 l2 c2)) := by
  have := FrBlk.put frk_prog h (k := 0) (by omega) hv
  simp only [Nat.zero_mul, Nat.zero_add] at this
  exact this.congr fun k hk => by rw [if_pos (by omega)]
end Go.Proofs.YtbmaffijncapiaaGreatDoor

