/- Texts of this seat, laid together: DnB, RxA, MkB. What each theorem proves, and under which conditions, its statement says. -/
import Derived.Test.YtbmaffijncapiaaGreatDoorB18
set_option maxRecDepth 100000
set_option maxHeartbeats 32000000
set_option linter.unusedVariables false
set_option linter.unusedSimpArgs false
namespace Go.Proofs.YtbmaffijncapiaaGreatDoor
open Go.ChangeShapes Go.WideShapes Go.ChangeAt Go.RowKit
section
open Num
attribute [local go_sem ↓] Go.wp_at_zero Go.wp_at_succ
theorem ensD {f : Nat} {fn : Func} {c : Code} (hf : Tryz.prog.funcs[f]? = some fn) (hn : (fn.name == "runtime.NumGoroutine") = false) (hb : fn.body = some c) : Enters Tryz.prog f := enters_of hf hn hb
def OpPost (i : Ins) (w : World) (e : Ending) (w' : World) : Prop := ∃ F caps, e = .returned (.func (.func F) #[] caps) ∧ Enters Tryz.prog F ∧ FnQ i 65536 w' F caps ∧ Below w.heap.size w w'
theorem whole_bd {c : Int} (h1 : -512 ≤ c) (h2 : c ≤ 512) : BdQ 10 (c : Rat) := BdQ.whole (by unfold Bd; omega) (by omega)
theorem whole_ne {c : Int} (h : c ≠ 0) : (c : Rat) ≠ 0 := fun e => h (by exact_mod_cast e)
theorem dnOp_c (i : Ins) (w : World) (h1 : 1 ≤ i.op) (h2 : i.op ≤ 8) (hc : constB i.op i.c = true) : Calls Tryz.prog 190 #[i.v] w (OpPost i w) := by
 obtain ⟨op, t, a, b, c⟩ := i
 dsimp only at h1 h2 hc
 unfold Ins.v
 dsimp only
 have hop : op = 1 ∨ op = 2 ∨ op = 3 ∨ op = 4 ∨ op = 5 ∨ op = 6 ∨ op = 7 ∨ op = 8 := by omega
 clear h1 h2
 unfold OpPost
 have hB := Below.refl w.heap.size w
 have hcI : -512 ≤ c ∧ c ≤ 512 := by
  rcases hop with rfl | rfl | rfl | rfl | rfl | rfl | rfl | rfl <;> simp [constB] at hc <;> omega
 have OC := hZ (fun V => of_c c V (by omega) (by omega))
 have HC := hZ hc
 have HCI := hZ hcI
 clear hc hcI
 rcases hop with rfl | rfl | rfl | rfl | rfl | rfl | rfl | rfl
 ·
  go_enter Tryz.func190, Tryz.ntmps190
  go_wp2_with fail
  (with_reducible refine (OC.out _).mono ?_)
  rintro e w1 ⟨⟨v1, rfl, hv1⟩, hb1⟩
  have i4 : w1.cell? ⟨w.heap.size, 4, none⟩ = some (.int .i64 c) := bkc hb1
  have zi4 := cell_lt i4
  have i0 : w1.cell? ⟨w.heap.size, 0, none⟩ = some (.int .i64 1) := bkc hb1
  have hB : Below w.heap.size w w1 := bthen bZ hb1
  have hz := hB.size
  have WC := hZ (fun V (q : Below w1.heap.size w1 V) => pqWhole_c v1 c V (hv1.keep q))
  have hBw := Below.refl w1.heap.size w1
  obtain ⟨pn, pa, pl, pc, rfl⟩ := hv1.lit
  clear OC hb1 hv1
  go_wp2_with fail
  (with_reducible refine (WC.out _ ?_).mono ?_); (repeat (first|exact bzR _ _|exact hBw|refine bzD ?_|refine bzN ?_|refine bzS ?_|refine bzA ?_))
  rintro e w2 ⟨⟨v2, rfl, hv2⟩, hb2⟩
  have i4 : w2.cell? ⟨w.heap.size, 4, none⟩ = some (.int .i64 c) := bkc hb2
  have zi4 := cell_lt i4
  have i0 : w2.cell? ⟨w.heap.size, 0, none⟩ = some (.int .i64 1) := bkc hb2
  have hB : Below w.heap.size w w2 := bthen bZ hb2
  have hz := hB.size
  have HV2 := hZ hv2
  obtain ⟨m1, b1, k1, d1, m2, b2, k2, d2, rfl, -, -⟩ := hv2
  clear WC hb2 hBw
  have HC2 := hZ (show FrC IsQP (w2.alloc (.cells #[.bool m1, .slice b1 k1 d1, .bool m2, .slice b2 k2 d2] 79)) w2.heap.size 0 (c : Rat) from ⟨m1, b1, k1, d1, m2, b2, k2, d2, cell_new rfl rfl, cell_new rfl rfl, cell_new rfl rfl, cell_new rfl rfl, HV2.out.keep (bal (Below.refl _ _) _)⟩)
  have HI2 := hZ (cell_alloc i4 (.cells #[.bool m1, .slice b1 k1 d1, .bool m2, .slice b2 k2 d2] 79))
  clear HV2 i4
  go_wp2
  go_ret
  refine ⟨_, _, rfl, ensD Tryz.func251 (by kernel_rfl) rfl, ?_, bZ⟩
  intro W va vb x y hW hx hy bx bY
  rw [show opQ ⟨1, t, a, b, c⟩ x y = x by simp [opQ]]
  exact dnMove_c va vb x y W hx hy
 ·
  go_enter Tryz.func190, Tryz.ntmps190
  go_wp2_with fail
  (with_reducible refine (OC.out _).mono ?_)
  rintro e w1 ⟨⟨v1, rfl, hv1⟩, hb1⟩
  have i4 : w1.cell? ⟨w.heap.size, 4, none⟩ = some (.int .i64 c) := bkc hb1
  have zi4 := cell_lt i4
  have i0 : w1.cell? ⟨w.heap.size, 0, none⟩ = some (.int .i64 2) := bkc hb1
  have hB : Below w.heap.size w w1 := bthen bZ hb1
  have hz := hB.size
  have WC := hZ (fun V (q : Below w1.heap.size w1 V) => pqWhole_c v1 c V (hv1.keep q))
  have hBw := Below.refl w1.heap.size w1
  obtain ⟨pn, pa, pl, pc, rfl⟩ := hv1.lit
  clear OC hb1 hv1
  go_wp2_with fail
  (with_reducible refine (WC.out _ ?_).mono ?_); (repeat (first|exact bzR _ _|exact hBw|refine bzD ?_|refine bzN ?_|refine bzS ?_|refine bzA ?_))
  rintro e w2 ⟨⟨v2, rfl, hv2⟩, hb2⟩
  have i4 : w2.cell? ⟨w.heap.size, 4, none⟩ = some (.int .i64 c) := bkc hb2
  have zi4 := cell_lt i4
  have i0 : w2.cell? ⟨w.heap.size, 0, none⟩ = some (.int .i64 2) := bkc hb2
  have hB : Below w.heap.size w w2 := bthen bZ hb2
  have hz := hB.size
  have HV2 := hZ hv2
  obtain ⟨m1, b1, k1, d1, m2, b2, k2, d2, rfl, -, -⟩ := hv2
  clear WC hb2 hBw
  have HC2 := hZ (show FrC IsQP (w2.alloc (.cells #[.bool m1, .slice b1 k1 d1, .bool m2, .slice b2 k2 d2] 79)) w2.heap.size 0 (c : Rat) from ⟨m1, b1, k1, d1, m2, b2, k2, d2, cell_new rfl rfl, cell_new rfl rfl, cell_new rfl rfl, cell_new rfl rfl, HV2.out.keep (bal (Below.refl _ _) _)⟩)
  have HI2 := hZ (cell_alloc i4 (.cells #[.bool m1, .slice b1 k1 d1, .bool m2, .slice b2 k2 d2] 79))
  clear HV2 i4
  go_wp2
  go_ret
  refine ⟨_, _, rfl, ensD Tryz.func240 (by kernel_rfl) rfl, ?_, bZ⟩
  intro W va vb x y hW hx hy bx bY
  rw [show opQ ⟨2, t, a, b, c⟩ x y = -x by simp [opQ]]
  exact dnNeg_c va vb x y W hx hy
 ·
  go_enter Tryz.func190, Tryz.ntmps190
  go_wp2_with fail
  (with_reducible refine (OC.out _).mono ?_)
  rintro e w1 ⟨⟨v1, rfl, hv1⟩, hb1⟩
  have i4 : w1.cell? ⟨w.heap.size, 4, none⟩ = some (.int .i64 c) := bkc hb1
  have zi4 := cell_lt i4
  have i0 : w1.cell? ⟨w.heap.size, 0, none⟩ = some (.int .i64 3) := bkc hb1
  have hB : Below w.heap.size w w1 := bthen bZ hb1
  have hz := hB.size
  have WC := hZ (fun V (q : Below w1.heap.size w1 V) => pqWhole_c v1 c V (hv1.keep q))
  have hBw := Below.refl w1.heap.size w1
  obtain ⟨pn, pa, pl, pc, rfl⟩ := hv1.lit
  clear OC hb1 hv1
  go_wp2_with fail
  (with_reducible refine (WC.out _ ?_).mono ?_); (repeat (first|exact bzR _ _|exact hBw|refine bzD ?_|refine bzN ?_|refine bzS ?_|refine bzA ?_))
  rintro e w2 ⟨⟨v2, rfl, hv2⟩, hb2⟩
  have i4 : w2.cell? ⟨w.heap.size, 4, none⟩ = some (.int .i64 c) := bkc hb2
  have zi4 := cell_lt i4
  have i0 : w2.cell? ⟨w.heap.size, 0, none⟩ = some (.int .i64 3) := bkc hb2
  have hB : Below w.heap.size w w2 := bthen bZ hb2
  have hz := hB.size
  have HV2 := hZ hv2
  obtain ⟨m1, b1, k1, d1, m2, b2, k2, d2, rfl, -, -⟩ := hv2
  clear WC hb2 hBw
  have HC2 := hZ (show FrC IsQP (w2.alloc (.cells #[.bool m1, .slice b1 k1 d1, .bool m2, .slice b2 k2 d2] 79)) w2.heap.size 0 (c : Rat) from ⟨m1, b1, k1, d1, m2, b2, k2, d2, cell_new rfl rfl, cell_new rfl rfl, cell_new rfl rfl, cell_new rfl rfl, HV2.out.keep (bal (Below.refl _ _) _)⟩)
  have HI2 := hZ (cell_alloc i4 (.cells #[.bool m1, .slice b1 k1 d1, .bool m2, .slice b2 k2 d2] 79))
  clear HV2 i4
  go_wp2
  go_ret
  refine ⟨_, _, rfl, ensD Tryz.func242 (by kernel_rfl) rfl, ?_, bZ⟩
  intro W va vb x y hW hx hy bx bY
  rw [show opQ ⟨3, t, a, b, c⟩ x y = x + y by simp [opQ]]
  exact dnAdd_c va vb x y 65536 W hx hy bx bY (by omega)
 ·
  go_enter Tryz.func190, Tryz.ntmps190
  go_wp2_with fail
  (with_reducible refine (OC.out _).mono ?_)
  rintro e w1 ⟨⟨v1, rfl, hv1⟩, hb1⟩
  have i4 : w1.cell? ⟨w.heap.size, 4, none⟩ = some (.int .i64 c) := bkc hb1
  have zi4 := cell_lt i4
  have i0 : w1.cell? ⟨w.heap.size, 0, none⟩ = some (.int .i64 4) := bkc hb1
  have hB : Below w.heap.size w w1 := bthen bZ hb1
  have hz := hB.size
  have WC := hZ (fun V (q : Below w1.heap.size w1 V) => pqWhole_c v1 c V (hv1.keep q))
  have hBw := Below.refl w1.heap.size w1
  obtain ⟨pn, pa, pl, pc, rfl⟩ := hv1.lit
  clear OC hb1 hv1
  go_wp2_with fail
  (with_reducible refine (WC.out _ ?_).mono ?_); (repeat (first|exact bzR _ _|exact hBw|refine bzD ?_|refine bzN ?_|refine bzS ?_|refine bzA ?_))
  rintro e w2 ⟨⟨v2, rfl, hv2⟩, hb2⟩
  have i4 : w2.cell? ⟨w.heap.size, 4, none⟩ = some (.int .i64 c) := bkc hb2
  have zi4 := cell_lt i4
  have i0 : w2.cell? ⟨w.heap.size, 0, none⟩ = some (.int .i64 4) := bkc hb2
  have hB : Below w.heap.size w w2 := bthen bZ hb2
  have hz := hB.size
  have HV2 := hZ hv2
  obtain ⟨m1, b1, k1, d1, m2, b2, k2, d2, rfl, -, -⟩ := hv2
  clear WC hb2 hBw
  have HC2 := hZ (show FrC IsQP (w2.alloc (.cells #[.bool m1, .slice b1 k1 d1, .bool m2, .slice b2 k2 d2] 79)) w2.heap.size 0 (c : Rat) from ⟨m1, b1, k1, d1, m2, b2, k2, d2, cell_new rfl rfl, cell_new rfl rfl, cell_new rfl rfl, cell_new rfl rfl, HV2.out.keep (bal (Below.refl _ _) _)⟩)
  have HI2 := hZ (cell_alloc i4 (.cells #[.bool m1, .slice b1 k1 d1, .bool m2, .slice b2 k2 d2] 79))
  clear HV2 i4
  go_wp2
  go_ret
  refine ⟨_, _, rfl, ensD Tryz.func243 (by kernel_rfl) rfl, ?_, bZ⟩
  intro W va vb x y hW hx hy bx bY
  rw [show opQ ⟨4, t, a, b, c⟩ x y = x - y by simp [opQ]]
  exact dnSub_c va vb x y 65536 W hx hy bx bY (by omega)
 ·
  go_enter Tryz.func190, Tryz.ntmps190
  go_wp2_with fail
  (with_reducible refine (OC.out _).mono ?_)
  rintro e w1 ⟨⟨v1, rfl, hv1⟩, hb1⟩
  have i4 : w1.cell? ⟨w.heap.size, 4, none⟩ = some (.int .i64 c) := bkc hb1
  have zi4 := cell_lt i4
  have i0 : w1.cell? ⟨w.heap.size, 0, none⟩ = some (.int .i64 5) := bkc hb1
  have hB : Below w.heap.size w w1 := bthen bZ hb1
  have hz := hB.size
  have WC := hZ (fun V (q : Below w1.heap.size w1 V) => pqWhole_c v1 c V (hv1.keep q))
  have hBw := Below.refl w1.heap.size w1
  obtain ⟨pn, pa, pl, pc, rfl⟩ := hv1.lit
  clear OC hb1 hv1
  go_wp2_with fail
  (with_reducible refine (WC.out _ ?_).mono ?_); (repeat (first|exact bzR _ _|exact hBw|refine bzD ?_|refine bzN ?_|refine bzS ?_|refine bzA ?_))
  rintro e w2 ⟨⟨v2, rfl, hv2⟩, hb2⟩
  have i4 : w2.cell? ⟨w.heap.size, 4, none⟩ = some (.int .i64 c) := bkc hb2
  have zi4 := cell_lt i4
  have i0 : w2.cell? ⟨w.heap.size, 0, none⟩ = some (.int .i64 5) := bkc hb2
  have hB : Below w.heap.size w w2 := bthen bZ hb2
  have hz := hB.size
  have HV2 := hZ hv2
  obtain ⟨m1, b1, k1, d1, m2, b2, k2, d2, rfl, -, -⟩ := hv2
  clear WC hb2 hBw
  have HC2 := hZ (show FrC IsQP (w2.alloc (.cells #[.bool m1, .slice b1 k1 d1, .bool m2, .slice b2 k2 d2] 79)) w2.heap.size 0 (c : Rat) from ⟨m1, b1, k1, d1, m2, b2, k2, d2, cell_new rfl rfl, cell_new rfl rfl, cell_new rfl rfl, cell_new rfl rfl, HV2.out.keep (bal (Below.refl _ _) _)⟩)
  have HI2 := hZ (cell_alloc i4 (.cells #[.bool m1, .slice b1 k1 d1, .bool m2, .slice b2 k2 d2] 79))
  clear HV2 i4
  go_wp2
  go_ret
  refine ⟨_, _, rfl, ensD Tryz.func245 (by kernel_rfl) rfl, ?_, bZ⟩
  intro W va vb x y hW hx hy bx bY
  rw [show opQ ⟨5, t, a, b, c⟩ x y = x * (c : Rat) by simp [opQ]]
  exact dnMul_c va vb x y (c : Rat) w2.heap.size 65536 10 W hx hy (HC2.out.keep frk_prog hW) bx (whole_bd HCI.out.1 HCI.out.2) (by omega)
 ·
  go_enter Tryz.func190, Tryz.ntmps190
  go_wp2_with fail
  (with_reducible refine (OC.out _).mono ?_)
  rintro e w1 ⟨⟨v1, rfl, hv1⟩, hb1⟩
  have i4 : w1.cell? ⟨w.heap.size, 4, none⟩ = some (.int .i64 c) := bkc hb1
  have zi4 := cell_lt i4
  have i0 : w1.cell? ⟨w.heap.size, 0, none⟩ = some (.int .i64 6) := bkc hb1
  have hB : Below w.heap.size w w1 := bthen bZ hb1
  have hz := hB.size
  have WC := hZ (fun V (q : Below w1.heap.size w1 V) => pqWhole_c v1 c V (hv1.keep q))
  have hBw := Below.refl w1.heap.size w1
  obtain ⟨pn, pa, pl, pc, rfl⟩ := hv1.lit
  clear OC hb1 hv1
  go_wp2_with fail
  (with_reducible refine (WC.out _ ?_).mono ?_); (repeat (first|exact bzR _ _|exact hBw|refine bzD ?_|refine bzN ?_|refine bzS ?_|refine bzA ?_))
  rintro e w2 ⟨⟨v2, rfl, hv2⟩, hb2⟩
  have i4 : w2.cell? ⟨w.heap.size, 4, none⟩ = some (.int .i64 c) := bkc hb2
  have zi4 := cell_lt i4
  have i0 : w2.cell? ⟨w.heap.size, 0, none⟩ = some (.int .i64 6) := bkc hb2
  have hB : Below w.heap.size w w2 := bthen bZ hb2
  have hz := hB.size
  have HV2 := hZ hv2
  obtain ⟨m1, b1, k1, d1, m2, b2, k2, d2, rfl, -, -⟩ := hv2
  clear WC hb2 hBw
  have HC2 := hZ (show FrC IsQP (w2.alloc (.cells #[.bool m1, .slice b1 k1 d1, .bool m2, .slice b2 k2 d2] 79)) w2.heap.size 0 (c : Rat) from ⟨m1, b1, k1, d1, m2, b2, k2, d2, cell_new rfl rfl, cell_new rfl rfl, cell_new rfl rfl, cell_new rfl rfl, HV2.out.keep (bal (Below.refl _ _) _)⟩)
  have HI2 := hZ (cell_alloc i4 (.cells #[.bool m1, .slice b1 k1 d1, .bool m2, .slice b2 k2 d2] 79))
  clear HV2 i4
  go_wp2
  go_ret
  refine ⟨_, _, rfl, ensD Tryz.func246 (by kernel_rfl) rfl, ?_, bZ⟩
  intro W va vb x y hW hx hy bx bY
  rw [show opQ ⟨6, t, a, b, c⟩ x y = x / (c : Rat) by simp [opQ]]
  exact dnDiv_c va vb x y (c : Rat) w2.heap.size 65536 10 W hx hy (HC2.out.keep frk_prog hW) bx (whole_bd HCI.out.1 HCI.out.2) (by omega) (whole_ne (by have := HC.out; simp [constB] at this; exact this.1))
 · obtain ⟨n, hn, rfl⟩ : ∃ n : Nat, n ≤ 64 ∧ c = n := ⟨c.toNat, by have := HC.out; simp [constB] at this; omega, by have := HC.out; simp [constB] at this; omega⟩
   generalize hcc : ((n : Nat) : Int) = c at *
   go_enter Tryz.func190, Tryz.ntmps190
   go_wp2_with fail
   (with_reducible refine (OC.out _).mono ?_)
   rintro e w1 ⟨⟨v1, rfl, hv1⟩, hb1⟩
   have i4 : w1.cell? ⟨w.heap.size, 4, none⟩ = some (.int .i64 c) := bkc hb1
   have zi4 := cell_lt i4
   have i0 : w1.cell? ⟨w.heap.size, 0, none⟩ = some (.int .i64 7) := bkc hb1
   have hB : Below w.heap.size w w1 := bthen bZ hb1
   have hz := hB.size
   have WC := hZ (fun V (q : Below w1.heap.size w1 V) => pqWhole_c v1 c V (hv1.keep q))
   have hBw := Below.refl w1.heap.size w1
   obtain ⟨pn, pa, pl, pc, rfl⟩ := hv1.lit
   clear OC hb1 hv1
   go_wp2_with fail
   (with_reducible refine (WC.out _ ?_).mono ?_); (repeat (first|exact bzR _ _|exact hBw|refine bzD ?_|refine bzN ?_|refine bzS ?_|refine bzA ?_))
   rintro e w2 ⟨⟨v2, rfl, hv2⟩, hb2⟩
   have i4 : w2.cell? ⟨w.heap.size, 4, none⟩ = some (.int .i64 c) := bkc hb2
   have zi4 := cell_lt i4
   have i0 : w2.cell? ⟨w.heap.size, 0, none⟩ = some (.int .i64 7) := bkc hb2
   have hB : Below w.heap.size w w2 := bthen bZ hb2
   have hz := hB.size
   have HV2 := hZ hv2
   obtain ⟨m1, b1, k1, d1, m2, b2, k2, d2, rfl, -, -⟩ := hv2
   clear WC hb2 hBw
   have HC2 := hZ (show FrC IsQP (w2.alloc (.cells #[.bool m1, .slice b1 k1 d1, .bool m2, .slice b2 k2 d2] 79)) w2.heap.size 0 (c : Rat) from ⟨m1, b1, k1, d1, m2, b2, k2, d2, cell_new rfl rfl, cell_new rfl rfl, cell_new rfl rfl, cell_new rfl rfl, HV2.out.keep (bal (Below.refl _ _) _)⟩)
   have HI2 := hZ (cell_alloc i4 (.cells #[.bool m1, .slice b1 k1 d1, .bool m2, .slice b2 k2 d2] 79))
   clear HV2 i4
   go_wp2
   go_ret
   subst hcc
   refine ⟨_, _, rfl, ensD Tryz.func248 (by kernel_rfl) rfl, ?_, bZ⟩
   intro W va vb x y hW hx hy bx bY
   rw [show opQ ⟨7, t, a, b, (n : Int)⟩ x y = x * ((2 ^ n : Int) : Rat) by simp [opQ]]
   exact dnShl_c va vb x y n w.heap.size 65536 W hx hy (bkeep hW HI2.out) bx (by omega) hn
 · obtain ⟨n, hn, rfl⟩ : ∃ n : Nat, n ≤ 64 ∧ c = n := ⟨c.toNat, by have := HC.out; simp [constB] at this; omega, by have := HC.out; simp [constB] at this; omega⟩
   generalize hcc : ((n : Nat) : Int) = c at *
   go_enter Tryz.func190, Tryz.ntmps190
   go_wp2_with fail
   (with_reducible refine (OC.out _).mono ?_)
   rintro e w1 ⟨⟨v1, rfl, hv1⟩, hb1⟩
   have i4 : w1.cell? ⟨w.heap.size, 4, none⟩ = some (.int .i64 c) := bkc hb1
   have zi4 := cell_lt i4
   have i0 : w1.cell? ⟨w.heap.size, 0, none⟩ = some (.int .i64 8) := bkc hb1
   have hB : Below w.heap.size w w1 := bthen bZ hb1
   have hz := hB.size
   have WC := hZ (fun V (q : Below w1.heap.size w1 V) => pqWhole_c v1 c V (hv1.keep q))
   have hBw := Below.refl w1.heap.size w1
   obtain ⟨pn, pa, pl, pc, rfl⟩ := hv1.lit
   clear OC hb1 hv1
   go_wp2_with fail
   (with_reducible refine (WC.out _ ?_).mono ?_); (repeat (first|exact bzR _ _|exact hBw|refine bzD ?_|refine bzN ?_|refine bzS ?_|refine bzA ?_))
   rintro e w2 ⟨⟨v2, rfl, hv2⟩, hb2⟩
   have i4 : w2.cell? ⟨w.heap.size, 4, none⟩ = some (.int .i64 c) := bkc hb2
   have zi4 := cell_lt i4
   have i0 : w2.cell? ⟨w.heap.size, 0, none⟩ = some (.int .i64 8) := bkc hb2
   have hB : Below w.heap.size w w2 := bthen bZ hb2
   have hz := hB.size
   have HV2 := hZ hv2
   obtain ⟨m1, b1, k1, d1, m2, b2, k2, d2, rfl, -, -⟩ := hv2
   clear WC hb2 hBw
   have HC2 := hZ (show FrC IsQP (w2.alloc (.cells #[.bool m1, .slice b1 k1 d1, .bool m2, .slice b2 k2 d2] 79)) w2.heap.size 0 (c : Rat) from ⟨m1, b1, k1, d1, m2, b2, k2, d2, cell_new rfl rfl, cell_new rfl rfl, cell_new rfl rfl, cell_new rfl rfl, HV2.out.keep (bal (Below.refl _ _) _)⟩)
   have HI2 := hZ (cell_alloc i4 (.cells #[.bool m1, .slice b1 k1 d1, .bool m2, .slice b2 k2 d2] 79))
   clear HV2 i4
   go_wp2
   go_ret
   subst hcc
   refine ⟨_, _, rfl, ensD Tryz.func250 (by kernel_rfl) rfl, ?_, bZ⟩
   intro W va vb x y hW hx hy bx bY
   rw [show opQ ⟨8, t, a, b, (n : Int)⟩ x y = x / ((2 ^ n : Int) : Rat) by simp [opQ]]
   exact dnShr_c va vb x y n w.heap.size 65536 W hx hy (bkeep hW HI2.out) bx (by omega) hn
theorem bit_gt {n k : Nat} : k < bitN n ↔ ¬ n < 2 ^ k := by
 unfold bitN
 by_cases h0 : n = 0
 · rw [if_pos h0, h0]
   have := Nat.two_pow_pos k
   omega
 · rw [if_neg h0]
   constructor
   · intro h h2
     have h3 := Nat.log2_self_le h0
     have h4 : 2 ^ n.log2 < 2 ^ k := Nat.lt_of_le_of_lt h3 h2
     have := (Nat.pow_lt_pow_iff_right (a := 2) (by omega)).1 h4
     omega
   · intro h
     have h3 : n < 2 ^ (n.log2 + 1) := Nat.lt_log2_self
     rcases Nat.lt_or_ge k (n.log2 + 1) with h4 | h4
     · exact h4
     · exact absurd (Nat.lt_of_lt_of_le h3 (Nat.pow_le_pow_right (by omega) h4)) h
theorem slim_iff (q : Rat) : Slim q ↔ ¬ (65536 < bitN q.num.natAbs) ∧ ¬ (65536 < bitN (q.den : Int).natAbs) := by
 rw [bit_gt, bit_gt]
 unfold Slim BdQ Bd
 omega
theorem wide_c (v : Value) (q : Rat) (k : Nat) (w : World) (hv : IsQP w v q) (bq : BdQ k q) (hk : k ≤ 1000000000) : Calls Tryz.prog 192 #[v] w fun e w' => e = .returned (.bool (decide (¬ Slim q))) ∧ Below w.heap.size w w' := by
 have NC := hZ (fun V (h : Below w.heap.size w V) => pqNum_c v q V (hv.keep h))
 have DC := hZ (fun V (h : Below w.heap.size w V) => pqDen_c v q k V (hv.keep h) bq (by omega))
 have BN := hZ (fun u V (hu : IsInt V u q.num) => bits_c u q.num k V hu bq.1 (by omega))
 have BD := hZ (fun u V (hu : IsInt V u (q.den : Int)) => bits_c u (q.den : Int) k V hu bq.2 (by omega))
 have HSL := hZ (slim_iff q)
 obtain ⟨n1, a1, l1, c1, n2, a2, l2, c2, rfl, -, -⟩ := hv
 obtain ⟨bn, hbn⟩ : ∃ b, bitN q.num.natAbs = b := ⟨_, rfl⟩
 obtain ⟨bd, hbd⟩ : ∃ b, bitN (q.den : Int).natAbs = b := ⟨_, rfl⟩
 rw [hbn] at BN HSL
 rw [hbd] at BD HSL
 have hB := Below.refl w.heap.size w
 clear bq hk hbn hbd
 by_cases h1 : 65536 < bn
 · have d1 : decide ((65536 : Int) < (bn : Int)) = true := decide_eq_true (by omega)
   rw [decide_eq_true (show ¬ Slim q from fun h => (HSL.out.1 h).1 h1)]
   clear HSL h1
   go_enter Tryz.func192, Tryz.ntmps192
   go_wp2_with fail
   (with_reducible refine (NC.out _ ?_).mono ?_); (repeat (first|exact bzR _ _|exact hB|refine bzD ?_|refine bzN ?_|refine bzS ?_|refine bzA ?_))
   rintro e w1 ⟨⟨u1, rfl, hu1⟩, hb1⟩
   have x0 : w1.cell? ⟨w.heap.size, 0, none⟩ = some (.bool n1) := bkc hb1
   have zx0 := cell_lt x0
   have x1 : w1.cell? ⟨w.heap.size, 1, none⟩ = some (.slice a1 l1 c1) := bkc hb1
   have x2 : w1.cell? ⟨w.heap.size, 2, none⟩ = some (.bool n2) := bkc hb1
   have x3 : w1.cell? ⟨w.heap.size, 3, none⟩ = some (.slice a2 l2 c2) := bkc hb1
   have hB : Below w.heap.size w w1 := bthen bZ hb1
   have hz := hB.size
   have B1 := hZ (fun V (h : Below w1.heap.size w1 V) => BN.out u1 V (hu1.keep h))
   have hBw := Below.refl w1.heap.size w1
   obtain ⟨pn, pa, pl, pc, rfl⟩ := hu1.lit
   clear NC hb1 hu1 BN
   go_wp2_with fail
   (with_reducible refine (B1.out _ ?_).mono ?_); (repeat (first|exact bzR _ _|exact hBw|refine bzD ?_|refine bzN ?_|refine bzS ?_|refine bzA ?_))
   rintro e w2 ⟨rfl, hb2⟩
   have hB2 : Below w.heap.size w w2 := bthen hB (bthen bZ hb2)
   clear B1 hb2
   go_wp2
   go_ret
   exact ⟨rfl, bZ⟩
 · have d1 : decide ((65536 : Int) < (bn : Int)) = false := decide_eq_false (by omega)
   have HE := hZ (show decide (¬ Slim q) = decide ((65536 : Int) < (bd : Int)) from by
    by_cases h2 : 65536 < bd
    · rw [decide_eq_true (show ¬ Slim q from fun h => (HSL.out.1 h).2 h2), decide_eq_true (by omega)]
    · rw [decide_eq_false (show ¬ ¬ Slim q from fun h => h (HSL.out.2 ⟨h1, h2⟩)), decide_eq_false (by omega)])
   rw [HE.out]
   clear HSL h1 HE
   go_enter Tryz.func192, Tryz.ntmps192
   go_wp2_with fail
   (with_reducible refine (NC.out _ ?_).mono ?_); (repeat (first|exact bzR _ _|exact hB|refine bzD ?_|refine bzN ?_|refine bzS ?_|refine bzA ?_))
   rintro e w1 ⟨⟨u1, rfl, hu1⟩, hb1⟩
   have x0 : w1.cell? ⟨w.heap.size, 0, none⟩ = some (.bool n1) := bkc hb1
   have zx0 := cell_lt x0
   have x1 : w1.cell? ⟨w.heap.size, 1, none⟩ = some (.slice a1 l1 c1) := bkc hb1
   have x2 : w1.cell? ⟨w.heap.size, 2, none⟩ = some (.bool n2) := bkc hb1
   have x3 : w1.cell? ⟨w.heap.size, 3, none⟩ = some (.slice a2 l2 c2) := bkc hb1
   have hB : Below w.heap.size w w1 := bthen bZ hb1
   have hz := hB.size
   have B1 := hZ (fun V (h : Below w1.heap.size w1 V) => BN.out u1 V (hu1.keep h))
   have hBw := Below.refl w1.heap.size w1
   obtain ⟨pn, pa, pl, pc, rfl⟩ := hu1.lit
   clear NC hb1 hu1 BN
   go_wp2_with fail
   (with_reducible refine (B1.out _ ?_).mono ?_); (repeat (first|exact bzR _ _|exact hBw|refine bzD ?_|refine bzN ?_|refine bzS ?_|refine bzA ?_))
   rintro e w2 ⟨rfl, hb2⟩
   have x0 : w2.cell? ⟨w.heap.size, 0, none⟩ = some (.bool n1) := bkc hb2
   have zx0 := cell_lt x0
   have x1 : w2.cell? ⟨w.heap.size, 1, none⟩ = some (.slice a1 l1 c1) := bkc hb2
   have x2 : w2.cell? ⟨w.heap.size, 2, none⟩ = some (.bool n2) := bkc hb2
   have x3 : w2.cell? ⟨w.heap.size, 3, none⟩ = some (.slice a2 l2 c2) := bkc hb2
   have hB : Below w.heap.size w w2 := bthen bZ hb2
   have hz := hB.size
   clear B1 hb2 hBw
   go_wp2_with fail
   (with_reducible refine (DC.out _ ?_).mono ?_); (repeat (first|exact bzR _ _|exact hB|refine bzD ?_|refine bzN ?_|refine bzS ?_|refine bzA ?_))
   rintro e w3 ⟨⟨u3, rfl, hu3⟩, hb3⟩
   have hB3 : Below w.heap.size w w3 := bthen bZ hb3
   have B3 := hZ (fun V (h : Below w3.heap.size w3 V) => BD.out u3 V (hu3.keep h))
   have hBw := Below.refl w3.heap.size w3
   obtain ⟨qn, qa, ql, qc, rfl⟩ := hu3.lit
   clear DC hb3 hu3 BD
   go_wp2_with fail
   (with_reducible refine (B3.out _ ?_).mono ?_); (repeat (first|exact bzR _ _|exact hBw|refine bzD ?_|refine bzN ?_|refine bzS ?_|refine bzA ?_))
   rintro e w4 ⟨rfl, hb4⟩
   have hB4 : Below w.heap.size w w4 := bthen hB3 (bthen bZ hb4)
   clear B3 hb4
   go_wp2
   go_ret
   exact ⟨rfl, bZ⟩
def IdxPost (L : List Rat) (w : World) (e : Ending) (w' : World) : Prop := ((e = .returned (.int .i64 (-1)) ∧ SlimR L) ∨ (∃ j : Nat, e = .returned (.int .i64 j) ∧ ¬ SlimR L)) ∧ Below w.heap.size w w'
theorem idxWide_c (v : Value) (L : List Rat) (k : Nat) (w : World) (hv : FrRow IsQP 79 0 w v L) (bL : ∀ j, j < L.length → BdQ k (L.getD j 0)) (hk : k ≤ 1000000000) (hl : L.length ≤ 1099511627776) :
 Calls Tryz.prog 252 #[v, .func (.func 192) #[] #[]] w (IdxPost L w) := by
 have HV := hZ hv
 have HBL := hZ bL
 obtain ⟨a, c, rfl⟩ := hv.ex
 obtain ⟨n, hnE⟩ : ∃ n, L.length = n := ⟨_, rfl⟩
 have HN := hZ hnE
 rw [hnE] at hl ⊢
 unfold IdxPost
 clear hv bL hnE
 have hB := Below.refl w.heap.size w
 go_enter Tryz.func252, Tryz.ntmps252
 go_wp2
 go_loopw [8] (fun x wr => ∃ j : Nat, j ≤ n ∧ x = .int .i64 j ∧ Below w.heap.size w wr ∧ Hid (∀ t, t < j → Slim (L.getD t 0))) (fun x _ => n - (intOf x).toNat)
 case atStart => exact ⟨0, Nat.zero_le _, rfl, hB, hZ (fun t ht => by omega)⟩
 case round =>
  obtain ⟨j, hj, rfl, hBr, hE⟩ := hrel
  by_cases hlt : j < n
  · have hltI : (j : Int) < (n : Int) := by omega
    have hvr := HV.out.keep frk_prog hBr
    rw [HN.out] at hvr
    obtain ⟨b, off, rfl, -, g1, y1, s1, t1, g2, y2, s2, t2, q0, q1, q2, q3, qI⟩ := hvr.at hlt
    have zb := cell_lt q0
    have WC := hZ (fun V (h : Below wr.heap.size wr V) => wide_c _ (L.getD j 0) k V (qI.keep h) (HBL.out j (by rw [HN.out]; exact hlt)) hk)
    have hBw := Below.refl wr.heap.size wr
    by_cases hs : Slim (L.getD j 0)
    · rw [decide_eq_false (show ¬ ¬ Slim (L.getD j 0) from fun h => h hs)] at WC
      have HE2 := hZ (show ∀ t, t < j + 1 → Slim (L.getD t 0) from fun t ht => by
       by_cases e : t = j
       · subst e; exact hs
       · exact hE.out t (by omega))
      clear hvr qI hs
      go_wp2_with fail
      (with_reducible refine (WC.out _ ?_).mono ?_); (repeat (first|exact bzR _ _|exact hBw|refine bzD ?_|refine bzN ?_|refine bzS ?_|refine bzA ?_))
      rintro e w5 ⟨rfl, hb5⟩
      have hB5 := bthen hBr (bthen (show Below wr.heap.size wr _ by repeat (first|exact bzR _ _|exact hBw|refine bzD ?_|refine bzN ?_|refine bzS ?_|refine bzA ?_)) hb5)
      clear WC hb5
      go_wp2
      exact ⟨⟨j + 1, hlt, by go_num, hB5, HE2⟩, meas hlt (by go_num) rfl⟩
    · rw [decide_eq_true hs] at WC
      have HNS := hZ (show ¬ SlimR L from fun h => hs (h j (by rw [HN.out]; exact hlt)))
      clear hvr qI hs
      go_wp2_with fail
      (with_reducible refine (WC.out _ ?_).mono ?_); (repeat (first|exact bzR _ _|exact hBw|refine bzD ?_|refine bzN ?_|refine bzS ?_|refine bzA ?_))
      rintro e w5 ⟨rfl, hb5⟩
      have hB5 := bthen hBr (bthen (show Below wr.heap.size wr _ by repeat (first|exact bzR _ _|exact hBw|refine bzD ?_|refine bzN ?_|refine bzS ?_|refine bzA ?_)) hb5)
      clear WC hb5
      go_wp2
      go_ret
      exact ⟨.inr ⟨j, rfl, HNS.out⟩, hB5⟩
  · obtain rfl : j = n := by omega
    have hltI : ¬ (j : Int) < (j : Int) := by omega
    have HS := hZ (show SlimR L from fun t ht => hE.out t (by rw [HN.out] at ht; exact ht))
    go_wp2
    go_ret
    exact ⟨.inl ⟨rfl, HS.out⟩, hBr⟩
theorem cntWide_c (v : Value) (L : List Rat) (k : Nat) (w : World) (hv : FrRow IsQP 79 0 w v L) (bL : ∀ j, j < L.length → BdQ k (L.getD j 0)) (hk : k ≤ 1000000000) (hl : L.length ≤ 1099511627776) :
 Calls Tryz.prog 191 #[v, .func (.func 192) #[] #[]] w fun e w' => e = .returned (.bool (decide (¬ SlimR L))) ∧ Below w.heap.size w w' := by
 have IC := hZ (fun V (h : Below w.heap.size w V) => idxWide_c v L k V (hv.keep frk_prog h) bL hk hl)
 obtain ⟨a, c, rfl⟩ := hv.ex
 unfold IdxPost at IC
 clear hv bL hk hl
 have hB := Below.refl w.heap.size w
 go_enter Tryz.func191, Tryz.ntmps191
 go_wp2_with fail
 (with_reducible refine (IC.out _ ?_).mono ?_); (repeat (first|exact bzR _ _|exact hB|refine bzD ?_|refine bzN ?_|refine bzS ?_|refine bzA ?_))
 rintro e w1 ⟨(⟨rfl, hs⟩ | ⟨j, rfl, hs⟩), hb1⟩
 · have hB1 : Below w.heap.size w w1 := bthen bZ hb1
   have HD := hZ (show decide (¬ SlimR L) = false from decide_eq_false (fun h => h hs))
   clear IC hb1 hs
   go_wp2
   go_ret
   exact ⟨by rw [HD.out]; rfl, hB1⟩
 · have hB1 : Below w.heap.size w w1 := bthen bZ hb1
   have HD := hZ (show decide (¬ SlimR L) = true from decide_eq_true hs)
   have hjI : (0 : Int) ≤ (j : Int) := by omega
   clear IC hb1 hs
   go_wp2
   go_ret
   exact ⟨by rw [HD.out]; rfl, hB1⟩
end
section
open Num
attribute [local go_sem ↓] Go.wp_at_zero Go.wp_at_succ
theorem rBits_c (v : Value) (z : Int) (k : Nat) (w : World) (hv : IsRef w v z) (hb : Bd k z) (hk : k ≤ 1000000000) : Calls Tryz.prog 256 #[v] w fun e w' => e = .returned (.int .i64 (bitN z.natAbs : Nat)) ∧ Below w.heap.size w w' := by
 obtain ⟨neg, a, cap, l, rfl, h1, h2, h3, h4, h5⟩ := hv
 rw [h5] at hb
 have hlen : l.length ≤ 2147483650 := Nat.le_trans (rbd_len h3 (rsg_bd hb) (show k ≤ 17179869184 by omega)) (by omega)
 have BC := hZ (fun V (q : Below w.heap.size w V) => rbits_c a cap l V (h1.keep q) h2 h3 hlen)
 have HZ := hZ (show NumR.val l = z.natAbs from by rw [h5, sg_abs])
 rw [HZ.out] at BC
 obtain ⟨b, hbz⟩ : ∃ b, bitN z.natAbs = b := ⟨_, rfl⟩
 obtain ⟨n, hn⟩ : ∃ n, l.length = n := ⟨_, rfl⟩
 rw [hbz] at BC ⊢
 rw [hn] at BC
 unfold iv
 rw [hn]
 clear h1 h2 h3 h4 h5 hbz hb hlen hn HZ
 have hB := Below.refl w.heap.size w
 go_enter Tryz.func256, Tryz.ntmps256
 go_wp2_with fail
 (with_reducible refine (BC.out _ ?_).mono ?_); (repeat (first|exact bzR _ _|exact hB|refine bzD ?_|refine bzN ?_|refine bzS ?_|refine bzA ?_))
 rintro e w1 ⟨rfl, rfl⟩
 go_wp2
 go_ret
 exact ⟨rfl, bZ⟩
theorem rWide_c (v : Value) (q : Rat) (k : Nat) (w : World) (hv : IsQR w v q) (bq : BdQ k q) (hk : k ≤ 1000000000) : Calls Tryz.prog 196 #[v] w fun e w' => e = .returned (.bool (decide (¬ Slim q))) ∧ Below w.heap.size w w' := by
 obtain ⟨n1, a1, l1, c1, n2, a2, l2, c2, rfl, h1, h2⟩ := hv
 have BN := hZ (fun V (h : Below w.heap.size w V) => rBits_c (.agg #[.bool n1, .slice a1 l1 c1]) q.num k V (h1.keep h) bq.1 hk)
 have BD := hZ (fun V (h : Below w.heap.size w V) => rBits_c (.agg #[.bool n2, .slice a2 l2 c2]) (q.den : Int) k V (h2.keep h) bq.2 hk)
 have HSL := hZ (slim_iff q)
 obtain ⟨bn, hbn⟩ : ∃ b, bitN q.num.natAbs = b := ⟨_, rfl⟩
 obtain ⟨bd, hbd⟩ : ∃ b, bitN (q.den : Int).natAbs = b := ⟨_, rfl⟩
 rw [hbn] at BN HSL
 rw [hbd] at BD HSL
 have hB := Below.refl w.heap.size w
 clear bq hk hbn hbd h1 h2
 by_cases h1 : 65536 < bn
 · have d1 : decide ((65536 : Int) < (bn : Int)) = true := decide_eq_true (by omega)
   rw [decide_eq_true (show ¬ Slim q from fun h => (HSL.out.1 h).1 h1)]
   clear HSL h1
   go_enter Tryz.func196, Tryz.ntmps196
   go_wp2_with fail
   (with_reducible refine (BN.out _ ?_).mono ?_); (repeat (first|exact bzR _ _|exact hB|refine bzD ?_|refine bzN ?_|refine bzS ?_|refine bzA ?_))
   rintro e w1 ⟨rfl, hb1⟩
   have hB1 : Below w.heap.size w w1 := bthen bZ hb1
   clear BN hb1
   go_wp2
   go_ret
   exact ⟨rfl, bZ⟩
 · have d1 : decide ((65536 : Int) < (bn : Int)) = false := decide_eq_false (by omega)
   have HE := hZ (show decide (¬ Slim q) = decide ((65536 : Int) < (bd : Int)) from by
    by_cases h2 : 65536 < bd
    · rw [decide_eq_true (show ¬ Slim q from fun h => (HSL.out.1 h).2 h2), decide_eq_true (by omega)]
    · rw [decide_eq_false (show ¬ ¬ Slim q from fun h => h (HSL.out.2 ⟨h1, h2⟩)), decide_eq_false (by omega)])
   rw [HE.out]
   clear HSL h1 HE
   go_enter Tryz.func196, Tryz.ntmps196
   go_wp2_with fail
   (with_reducible refine (BN.out _ ?_).mono ?_); (repeat (first|exact bzR _ _|exact hB|refine bzD ?_|refine bzN ?_|refine bzS ?_|refine bzA ?_))
   rintro e w1 ⟨rfl, hb1⟩
   have x0 : w1.cell? ⟨w.heap.size, 0, none⟩ = some (.bool n1) := bkc hb1
   have zx0 := cell_lt x0
   have x1 : w1.cell? ⟨w.heap.size, 1, none⟩ = some (.slice a1 l1 c1) := bkc hb1
   have x2 : w1.cell? ⟨w.heap.size, 2, none⟩ = some (.bool n2) := bkc hb1
   have x3 : w1.cell? ⟨w.heap.size, 3, none⟩ = some (.slice a2 l2 c2) := bkc hb1
   have hB : Below w.heap.size w w1 := bthen bZ hb1
   have hz := hB.size
   clear BN hb1
   go_wp2_with fail
   (with_reducible refine (BD.out _ ?_).mono ?_); (repeat (first|exact bzR _ _|exact hB|refine bzD ?_|refine bzN ?_|refine bzS ?_|refine bzA ?_))
   rintro e w2 ⟨rfl, hb2⟩
   have hB2 : Below w.heap.size w w2 := bthen bZ hb2
   clear BD hb2
   go_wp2
   go_ret
   exact ⟨rfl, bZ⟩
theorem rpower_n (c : Int) (w : World) (hc : 1 ≤ c ∧ c ≤ 64) : Calls Tryz.prog 255 #[.int .i64 c] w fun e w' => (∃ v, e = .returned v ∧ IsRef w' v (2 ^ c.toNat)) ∧ Below w.heap.size w w' := by
 obtain ⟨n, rfl⟩ : ∃ n : Nat, c = n := ⟨c.toNat, by omega⟩
 rw [Int.toNat_natCast]
 exact rpower_c n w (by omega)
theorem pow_bd {c : Int} (hc : 1 ≤ c ∧ c ≤ 64) : BdQ 70 ((2 ^ c.toNat : Int) : Rat) := BdQ.whole (by
 have h : (2 : Nat) ^ c.toNat < 2 ^ 70 := Nat.pow_lt_pow_right (by omega) (by omega)
 unfold Bd
 rw [Int.natAbs_pow]; exact h) (by omega)
theorem powc_ne {c : Int} : ((2 ^ c.toNat : Int) : Rat) ≠ 0 := whole_ne (Int.ne_of_gt (Int.pow_pos (by omega)))
theorem small_bd {c : Int} (hc : -512 ≤ c ∧ c ≤ 512) : BdQ 70 (c : Rat) := BdQ.whole (by
 have h : (513 : Nat) ≤ 2 ^ 70 := by decide
 unfold Bd; omega) (by omega)
theorem rOp_c (op t a b c : Int) (va vb : Value) (x y : Rat) (w : World) (h1 : 1 ≤ op) (h2 : op ≤ 8) (hc : constB op c = true) (hx : IsQR w va x) (hy : IsQR w vb y) (bx : BdQ 65536 x) (bY : BdQ 65536 y) :
 Calls Tryz.prog 195 #[.agg #[.int .i64 op, .int .i64 t, .int .i64 a, .int .i64 b, .int .i64 c], va, vb] w fun e w' => (∃ v, e = .returned v ∧ IsQR w' v (opQ ⟨op, t, a, b, c⟩ x y)) ∧ Below w.heap.size w w' := by
 have hop : op = 1 ∨ op = 2 ∨ op = 3 ∨ op = 4 ∨ op = 5 ∨ op = 6 ∨ op = 7 ∨ op = 8 := by omega
 clear h1 h2
 have hcI : -512 ≤ c ∧ c ≤ 512 := by
  rcases hop with rfl | rfl | rfl | rfl | rfl | rfl | rfl | rfl <;> simp [constB] at hc <;> omega
 have OC := hZ (fun V => rof_c c V (by omega) (by omega))
 have HX := hZ hx
 have HY := hZ hy
 have HBX := hZ bx
 have HBY := hZ bY
 have HCI := hZ hcI
 obtain ⟨p1, f1, j1, o1, p2, f2, j2, o2, rfl, -, -⟩ := hx
 obtain ⟨p3, f3, j3, o3, p4, f4, j4, o4, rfl, -, -⟩ := hy
 have hB := Below.refl w.heap.size w
 clear hcI bx bY
 obtain ⟨z, hz⟩ : ∃ z, opQ ⟨op, t, a, b, c⟩ x y = z := ⟨_, rfl⟩
 rw [hz]
 have HZ := hZ hz
 have HCC := hZ hc
 clear hz
 clear hc
 go_enter Tryz.func195, Tryz.ntmps195
 go_wp2_with fail
 (with_reducible refine (OC.out _).mono ?_)
 rintro e w1 ⟨⟨u1, rfl, hu1⟩, hb1⟩
 have i0 : w1.cell? ⟨w.heap.size, 0, none⟩ = some (.int .i64 op) := bkc hb1
 have zi0 := cell_lt i0
 have i4 : w1.cell? ⟨w.heap.size, 4, none⟩ = some (.int .i64 c) := bkc hb1
 have a0 : w1.cell? ⟨w.heap.size + 1, 0, none⟩ = some (.bool p1) := bkc hb1
 have za0 := cell_lt a0
 have a1 : w1.cell? ⟨w.heap.size + 1, 1, none⟩ = some (.slice f1 j1 o1) := bkc hb1
 have a2 : w1.cell? ⟨w.heap.size + 1, 2, none⟩ = some (.bool p2) := bkc hb1
 have a3 : w1.cell? ⟨w.heap.size + 1, 3, none⟩ = some (.slice f2 j2 o2) := bkc hb1
 have b0 : w1.cell? ⟨w.heap.size + 1 + 1, 0, none⟩ = some (.bool p3) := bkc hb1
 have zb0 := cell_lt b0
 have b1 : w1.cell? ⟨w.heap.size + 1 + 1, 1, none⟩ = some (.slice f3 j3 o3) := bkc hb1
 have b2 : w1.cell? ⟨w.heap.size + 1 + 1, 2, none⟩ = some (.bool p4) := bkc hb1
 have b3 : w1.cell? ⟨w.heap.size + 1 + 1, 3, none⟩ = some (.slice f4 j4 o4) := bkc hb1
 have r0 : w1.cell? ⟨w.heap.size + 1 + 1 + 1, 0, none⟩ = some (.bool false) := bkc hb1
 have zr0 := cell_lt r0
 have r0f : w1.frozen? ⟨w.heap.size + 1 + 1 + 1, 0, none⟩ = false := bkcf (v := .bool false) hb1
 have r1 : w1.cell? ⟨w.heap.size + 1 + 1 + 1, 1, none⟩ = some (.slice none 0 0) := bkc hb1
 have r1f : w1.frozen? ⟨w.heap.size + 1 + 1 + 1, 1, none⟩ = false := bkcf (v := .slice none 0 0) hb1
 have r2 : w1.cell? ⟨w.heap.size + 1 + 1 + 1, 2, none⟩ = some (.bool false) := bkc hb1
 have r2f : w1.frozen? ⟨w.heap.size + 1 + 1 + 1, 2, none⟩ = false := bkcf (v := .bool false) hb1
 have r3 : w1.cell? ⟨w.heap.size + 1 + 1 + 1, 3, none⟩ = some (.slice none 0 0) := bkc hb1
 have r3f : w1.frozen? ⟨w.heap.size + 1 + 1 + 1, 3, none⟩ = false := bkcf (v := .slice none 0 0) hb1
 have hB : Below w.heap.size w w1 := bthen bZ hb1
 have hz := hB.size
 have hy1 := Below.refl w1.heap.size w1
 have WC := hZ (fun V (q : Below w1.heap.size w1 V) => rqWhole_c u1 c V (hu1.keep q))
 clear hb1 hu1 OC
 go_wp2_with fail
 (with_reducible refine (WC.out _ ?_).mono ?_); (repeat (first|exact bzR _ _|exact hy1|refine bzD ?_|refine bzN ?_|refine bzS ?_|refine bzA ?_))
 rintro e w2 ⟨⟨u2, rfl, hu2⟩, hb2⟩
 have i0 : w2.cell? ⟨w.heap.size, 0, none⟩ = some (.int .i64 op) := bkc hb2
 have zi0 := cell_lt i0
 have i4 : w2.cell? ⟨w.heap.size, 4, none⟩ = some (.int .i64 c) := bkc hb2
 have a0 : w2.cell? ⟨w.heap.size + 1, 0, none⟩ = some (.bool p1) := bkc hb2
 have za0 := cell_lt a0
 have a1 : w2.cell? ⟨w.heap.size + 1, 1, none⟩ = some (.slice f1 j1 o1) := bkc hb2
 have a2 : w2.cell? ⟨w.heap.size + 1, 2, none⟩ = some (.bool p2) := bkc hb2
 have a3 : w2.cell? ⟨w.heap.size + 1, 3, none⟩ = some (.slice f2 j2 o2) := bkc hb2
 have b0 : w2.cell? ⟨w.heap.size + 1 + 1, 0, none⟩ = some (.bool p3) := bkc hb2
 have zb0 := cell_lt b0
 have b1 : w2.cell? ⟨w.heap.size + 1 + 1, 1, none⟩ = some (.slice f3 j3 o3) := bkc hb2
 have b2 : w2.cell? ⟨w.heap.size + 1 + 1, 2, none⟩ = some (.bool p4) := bkc hb2
 have b3 : w2.cell? ⟨w.heap.size + 1 + 1, 3, none⟩ = some (.slice f4 j4 o4) := bkc hb2
 have r0 : w2.cell? ⟨w.heap.size + 1 + 1 + 1, 0, none⟩ = some (.bool false) := bkc hb2
 have zr0 := cell_lt r0
 have r0f : w2.frozen? ⟨w.heap.size + 1 + 1 + 1, 0, none⟩ = false := bkcf (v := .bool false) hb2
 have r1 : w2.cell? ⟨w.heap.size + 1 + 1 + 1, 1, none⟩ = some (.slice none 0 0) := bkc hb2
 have r1f : w2.frozen? ⟨w.heap.size + 1 + 1 + 1, 1, none⟩ = false := bkcf (v := .slice none 0 0) hb2
 have r2 : w2.cell? ⟨w.heap.size + 1 + 1 + 1, 2, none⟩ = some (.bool false) := bkc hb2
 have r2f : w2.frozen? ⟨w.heap.size + 1 + 1 + 1, 2, none⟩ = false := bkcf (v := .bool false) hb2
 have r3 : w2.cell? ⟨w.heap.size + 1 + 1 + 1, 3, none⟩ = some (.slice none 0 0) := bkc hb2
 have r3f : w2.frozen? ⟨w.heap.size + 1 + 1 + 1, 3, none⟩ = false := bkcf (v := .slice none 0 0) hb2
 have hB : Below w.heap.size w w2 := bthen bZ hb2
 have hz := hB.size
 have HU2 := hZ hu2
 obtain ⟨v1, y1, s1, t1, v2, y2, s2, t2, rfl, -, -⟩ := hu2
 have hy2 := Below.refl w2.heap.size w2
 clear hb2 WC hy1
 go_upto_region 2 with (fail)
 refine wp_name fun w3 hW3 => ?_
 have h23 : Below w2.heap.size w2 w3 := by rw [hW3]; repeat (first|exact bzR _ _|exact hy2|refine bzD ?_|refine bzN ?_|refine bzS ?_|refine bzA ?_)
 obtain ⟨z0, z1, z2, z3⟩ := show w3.cell? ⟨w2.heap.size, 0, none⟩ = some (.bool v1) ∧ w3.cell? ⟨w2.heap.size, 1, none⟩ = some (.slice y1 s1 t1) ∧ w3.cell? ⟨w2.heap.size, 2, none⟩ = some (.bool v2) ∧ w3.cell? ⟨w2.heap.size, 3, none⟩ = some (.slice y2 s2 t2) from by rw [hW3]; exact ⟨cell_new rfl rfl, cell_new rfl rfl, cell_new rfl rfl, cell_new rfl rfl⟩
 have i0 := bkeep h23 i0
 have i4 := bkeep h23 i4
 have a0 := bkeep h23 a0
 have a1 := bkeep h23 a1
 have a2 := bkeep h23 a2
 have a3 := bkeep h23 a3
 have b0 := bkeep h23 b0
 have b1 := bkeep h23 b1
 have b2 := bkeep h23 b2
 have b3 := bkeep h23 b3
 have r0f := bkeepf h23 r0 r0f
 have r0 := bkeep h23 r0
 have r1f := bkeepf h23 r1 r1f
 have r1 := bkeep h23 r1
 have r2f := bkeepf h23 r2 r2f
 have r2 := bkeep h23 r2
 have r3f := bkeepf h23 r3 r3f
 have r3 := bkeep h23 r3
 have hB := bthen hB h23
 have hz := hB.size
 have HC3 := hZ (HU2.out.keep h23)
 have HB3 := hZ hB
 obtain ⟨CB, hCB⟩ : ∃ CB, w2.heap.size = CB := ⟨_, rfl⟩
 rw [hCB] at z0 z1 z2 z3 ⊢
 have zz3 := cell_lt z0
 have zi3 := cell_lt i0
 have za3 := cell_lt a0
 have zb3 := cell_lt b0
 have zr3 := cell_lt r0
 have hy3 := Below.refl w3.heap.size w3
 clear hW3 hy2 h23 hCB HU2
 rcases hop with rfl | rfl | rfl | rfl | rfl | rfl | rfl | rfl
 · have hze : z = x := by rw [← HZ.out]; simp [opQ]
   subst hze
   have HQ := hZ ((HX.out.keep hB).put4 r0 r1 r2 r3 (.bool p1) (.slice f1 j1 o1) (.bool p2) (.slice f2 j2 o2))
   go_wp2
   refine bodyPost_ret (v := .agg #[.bool p1, .slice f1 j1 o1, .bool p2, .slice f2 j2 o2]) (by simp [results, Tryz.results195, go_sem, *]) rfl ⟨⟨_, rfl, HQ.out⟩, ?_⟩
   repeat (first | exact HB3.out | refine bset ?_ (by show w.heap.size ≤ w.heap.size + 1 + 1 + 1; omega) _)
 · have hze : z = -x := by rw [← HZ.out]; simp [opQ]
   subst hze
   have KC := hZ (fun V (q : Below w3.heap.size w3 V) => rqNeg_c (.agg #[.bool p1, .slice f1 j1 o1, .bool p2, .slice f2 j2 o2]) x V (HX.out.keep (bthen HB3.out q)))
   go_wp2_with fail
   (with_reducible refine (KC.out _ ?_).mono ?_); (repeat (first|exact bzR _ _|exact hy3|refine bzD ?_|refine bzN ?_|refine bzS ?_|refine bzA ?_))
   rintro e w4 ⟨⟨u4, rfl, hu4⟩, hb4⟩
   have r0 : w4.cell? ⟨w.heap.size + 1 + 1 + 1, 0, none⟩ = some (.bool false) := bkc hb4
   have zr0 := cell_lt r0
   have r0f : w4.frozen? ⟨w.heap.size + 1 + 1 + 1, 0, none⟩ = false := bkcf (v := .bool false) hb4
   have r1 : w4.cell? ⟨w.heap.size + 1 + 1 + 1, 1, none⟩ = some (.slice none 0 0) := bkc hb4
   have r1f : w4.frozen? ⟨w.heap.size + 1 + 1 + 1, 1, none⟩ = false := bkcf (v := .slice none 0 0) hb4
   have r2 : w4.cell? ⟨w.heap.size + 1 + 1 + 1, 2, none⟩ = some (.bool false) := bkc hb4
   have r2f : w4.frozen? ⟨w.heap.size + 1 + 1 + 1, 2, none⟩ = false := bkcf (v := .bool false) hb4
   have r3 : w4.cell? ⟨w.heap.size + 1 + 1 + 1, 3, none⟩ = some (.slice none 0 0) := bkc hb4
   have r3f : w4.frozen? ⟨w.heap.size + 1 + 1 + 1, 3, none⟩ = false := bkcf (v := .slice none 0 0) hb4
   have hB : Below w.heap.size w w4 := bthen bZ hb4
   have hz := hB.size
   have HU4 := hZ hu4
   obtain ⟨m1, g1, k1, d1, m2, g2, k2, d2, rfl, -, -⟩ := hu4
   clear hb4 KC
   have HQ := hZ (HU4.out.put4 r0 r1 r2 r3 (.bool m1) (.slice g1 k1 d1) (.bool m2) (.slice g2 k2 d2))
   have HBF := hZ hB
   clear HU4
   go_wp2
   refine bodyPost_ret (v := .agg #[.bool m1, .slice g1 k1 d1, .bool m2, .slice g2 k2 d2]) (by simp [results, Tryz.results195, go_sem, *]) rfl ⟨⟨_, rfl, HQ.out⟩, ?_⟩
   repeat (first | exact HBF.out | refine bset ?_ (by show w.heap.size ≤ w.heap.size + 1 + 1 + 1; omega) _)
 · have hze : z = x + y := by rw [← HZ.out]; simp [opQ]
   subst hze
   have KC := hZ (fun V (q : Below w3.heap.size w3 V) => rqAdd_c (.agg #[.bool p1, .slice f1 j1 o1, .bool p2, .slice f2 j2 o2]) (.agg #[.bool p3, .slice f3 j3 o3, .bool p4, .slice f4 j4 o4]) x y 65536 65536 V (HX.out.keep (bthen HB3.out q)) (HY.out.keep (bthen HB3.out q)) HBX.out HBY.out (by omega))
   go_wp2_with fail
   (with_reducible refine (KC.out _ ?_).mono ?_); (repeat (first|exact bzR _ _|exact hy3|refine bzD ?_|refine bzN ?_|refine bzS ?_|refine bzA ?_))
   rintro e w4 ⟨⟨u4, rfl, hu4⟩, hb4⟩
   have r0 : w4.cell? ⟨w.heap.size + 1 + 1 + 1, 0, none⟩ = some (.bool false) := bkc hb4
   have zr0 := cell_lt r0
   have r0f : w4.frozen? ⟨w.heap.size + 1 + 1 + 1, 0, none⟩ = false := bkcf (v := .bool false) hb4
   have r1 : w4.cell? ⟨w.heap.size + 1 + 1 + 1, 1, none⟩ = some (.slice none 0 0) := bkc hb4
   have r1f : w4.frozen? ⟨w.heap.size + 1 + 1 + 1, 1, none⟩ = false := bkcf (v := .slice none 0 0) hb4
   have r2 : w4.cell? ⟨w.heap.size + 1 + 1 + 1, 2, none⟩ = some (.bool false) := bkc hb4
   have r2f : w4.frozen? ⟨w.heap.size + 1 + 1 + 1, 2, none⟩ = false := bkcf (v := .bool false) hb4
   have r3 : w4.cell? ⟨w.heap.size + 1 + 1 + 1, 3, none⟩ = some (.slice none 0 0) := bkc hb4
   have r3f : w4.frozen? ⟨w.heap.size + 1 + 1 + 1, 3, none⟩ = false := bkcf (v := .slice none 0 0) hb4
   have hB : Below w.heap.size w w4 := bthen bZ hb4
   have hz := hB.size
   have HU4 := hZ hu4
   obtain ⟨m1, g1, k1, d1, m2, g2, k2, d2, rfl, -, -⟩ := hu4
   clear hb4 KC
   have HQ := hZ (HU4.out.put4 r0 r1 r2 r3 (.bool m1) (.slice g1 k1 d1) (.bool m2) (.slice g2 k2 d2))
   have HBF := hZ hB
   clear HU4
   go_wp2
   refine bodyPost_ret (v := .agg #[.bool m1, .slice g1 k1 d1, .bool m2, .slice g2 k2 d2]) (by simp [results, Tryz.results195, go_sem, *]) rfl ⟨⟨_, rfl, HQ.out⟩, ?_⟩
   repeat (first | exact HBF.out | refine bset ?_ (by show w.heap.size ≤ w.heap.size + 1 + 1 + 1; omega) _)
 · have hze : z = x - y := by rw [← HZ.out]; simp [opQ]
   subst hze
   have KC := hZ (fun V (q : Below w3.heap.size w3 V) => rqSub_c (.agg #[.bool p1, .slice f1 j1 o1, .bool p2, .slice f2 j2 o2]) (.agg #[.bool p3, .slice f3 j3 o3, .bool p4, .slice f4 j4 o4]) x y 65536 65536 V (HX.out.keep (bthen HB3.out q)) (HY.out.keep (bthen HB3.out q)) HBX.out HBY.out (by omega))
   go_wp2_with fail
   (with_reducible refine (KC.out _ ?_).mono ?_); (repeat (first|exact bzR _ _|exact hy3|refine bzD ?_|refine bzN ?_|refine bzS ?_|refine bzA ?_))
   rintro e w4 ⟨⟨u4, rfl, hu4⟩, hb4⟩
   have r0 : w4.cell? ⟨w.heap.size + 1 + 1 + 1, 0, none⟩ = some (.bool false) := bkc hb4
   have zr0 := cell_lt r0
   have r0f : w4.frozen? ⟨w.heap.size + 1 + 1 + 1, 0, none⟩ = false := bkcf (v := .bool false) hb4
   have r1 : w4.cell? ⟨w.heap.size + 1 + 1 + 1, 1, none⟩ = some (.slice none 0 0) := bkc hb4
   have r1f : w4.frozen? ⟨w.heap.size + 1 + 1 + 1, 1, none⟩ = false := bkcf (v := .slice none 0 0) hb4
   have r2 : w4.cell? ⟨w.heap.size + 1 + 1 + 1, 2, none⟩ = some (.bool false) := bkc hb4
   have r2f : w4.frozen? ⟨w.heap.size + 1 + 1 + 1, 2, none⟩ = false := bkcf (v := .bool false) hb4
   have r3 : w4.cell? ⟨w.heap.size + 1 + 1 + 1, 3, none⟩ = some (.slice none 0 0) := bkc hb4
   have r3f : w4.frozen? ⟨w.heap.size + 1 + 1 + 1, 3, none⟩ = false := bkcf (v := .slice none 0 0) hb4
   have hB : Below w.heap.size w w4 := bthen bZ hb4
   have hz := hB.size
   have HU4 := hZ hu4
   obtain ⟨m1, g1, k1, d1, m2, g2, k2, d2, rfl, -, -⟩ := hu4
   clear hb4 KC
   have HQ := hZ (HU4.out.put4 r0 r1 r2 r3 (.bool m1) (.slice g1 k1 d1) (.bool m2) (.slice g2 k2 d2))
   have HBF := hZ hB
   clear HU4
   go_wp2
   refine bodyPost_ret (v := .agg #[.bool m1, .slice g1 k1 d1, .bool m2, .slice g2 k2 d2]) (by simp [results, Tryz.results195, go_sem, *]) rfl ⟨⟨_, rfl, HQ.out⟩, ?_⟩
   repeat (first | exact HBF.out | refine bset ?_ (by show w.heap.size ≤ w.heap.size + 1 + 1 + 1; omega) _)
 · have hze : z = x * (c : Rat) := by rw [← HZ.out]; simp [opQ]
   subst hze
   have KC := hZ (fun V (q : Below w3.heap.size w3 V) => rqMul_c (.agg #[.bool p1, .slice f1 j1 o1, .bool p2, .slice f2 j2 o2]) (.agg #[.bool v1, .slice y1 s1 t1, .bool v2, .slice y2 s2 t2]) x (c : Rat) 65536 70 V (HX.out.keep (bthen HB3.out q)) (HC3.out.keep q) HBX.out (small_bd HCI.out) (by omega) rfl)
   go_wp2_with fail
   (with_reducible refine (KC.out _ ?_).mono ?_); (repeat (first|exact bzR _ _|exact hy3|refine bzD ?_|refine bzN ?_|refine bzS ?_|refine bzA ?_))
   rintro e w4 ⟨⟨u4, rfl, hu4⟩, hb4⟩
   have r0 : w4.cell? ⟨w.heap.size + 1 + 1 + 1, 0, none⟩ = some (.bool false) := bkc hb4
   have zr0 := cell_lt r0
   have r0f : w4.frozen? ⟨w.heap.size + 1 + 1 + 1, 0, none⟩ = false := bkcf (v := .bool false) hb4
   have r1 : w4.cell? ⟨w.heap.size + 1 + 1 + 1, 1, none⟩ = some (.slice none 0 0) := bkc hb4
   have r1f : w4.frozen? ⟨w.heap.size + 1 + 1 + 1, 1, none⟩ = false := bkcf (v := .slice none 0 0) hb4
   have r2 : w4.cell? ⟨w.heap.size + 1 + 1 + 1, 2, none⟩ = some (.bool false) := bkc hb4
   have r2f : w4.frozen? ⟨w.heap.size + 1 + 1 + 1, 2, none⟩ = false := bkcf (v := .bool false) hb4
   have r3 : w4.cell? ⟨w.heap.size + 1 + 1 + 1, 3, none⟩ = some (.slice none 0 0) := bkc hb4
   have r3f : w4.frozen? ⟨w.heap.size + 1 + 1 + 1, 3, none⟩ = false := bkcf (v := .slice none 0 0) hb4
   have hB : Below w.heap.size w w4 := bthen bZ hb4
   have hz := hB.size
   have HU4 := hZ hu4
   obtain ⟨m1, g1, k1, d1, m2, g2, k2, d2, rfl, -, -⟩ := hu4
   clear hb4 KC
   have HQ := hZ (HU4.out.put4 r0 r1 r2 r3 (.bool m1) (.slice g1 k1 d1) (.bool m2) (.slice g2 k2 d2))
   have HBF := hZ hB
   clear HU4
   go_wp2
   refine bodyPost_ret (v := .agg #[.bool m1, .slice g1 k1 d1, .bool m2, .slice g2 k2 d2]) (by simp [results, Tryz.results195, go_sem, *]) rfl ⟨⟨_, rfl, HQ.out⟩, ?_⟩
   repeat (first | exact HBF.out | refine bset ?_ (by show w.heap.size ≤ w.heap.size + 1 + 1 + 1; omega) _)
 · have hze : z = x / (c : Rat) := by rw [← HZ.out]; simp [opQ]
   subst hze
   have HC0 := hZ (show (c : Rat) ≠ 0 from whole_ne (by have hc := HCC.out; simp [constB] at hc; omega))
   have KC := hZ (fun V (q : Below w3.heap.size w3 V) => rqOver_c (.agg #[.bool p1, .slice f1 j1 o1, .bool p2, .slice f2 j2 o2]) (.agg #[.bool v1, .slice y1 s1 t1, .bool v2, .slice y2 s2 t2]) x (c : Rat) 65536 70 V (HX.out.keep (bthen HB3.out q)) (HC3.out.keep q) HBX.out (small_bd HCI.out) (by omega) HC0.out)
   go_wp2_with fail
   (with_reducible refine (KC.out _ ?_).mono ?_); (repeat (first|exact bzR _ _|exact hy3|refine bzD ?_|refine bzN ?_|refine bzS ?_|refine bzA ?_))
   rintro e w4 ⟨⟨u4, rfl, hu4⟩, hb4⟩
   have r0 : w4.cell? ⟨w.heap.size + 1 + 1 + 1, 0, none⟩ = some (.bool false) := bkc hb4
   have zr0 := cell_lt r0
   have r0f : w4.frozen? ⟨w.heap.size + 1 + 1 + 1, 0, none⟩ = false := bkcf (v := .bool false) hb4
   have r1 : w4.cell? ⟨w.heap.size + 1 + 1 + 1, 1, none⟩ = some (.slice none 0 0) := bkc hb4
   have r1f : w4.frozen? ⟨w.heap.size + 1 + 1 + 1, 1, none⟩ = false := bkcf (v := .slice none 0 0) hb4
   have r2 : w4.cell? ⟨w.heap.size + 1 + 1 + 1, 2, none⟩ = some (.bool false) := bkc hb4
   have r2f : w4.frozen? ⟨w.heap.size + 1 + 1 + 1, 2, none⟩ = false := bkcf (v := .bool false) hb4
   have r3 : w4.cell? ⟨w.heap.size + 1 + 1 + 1, 3, none⟩ = some (.slice none 0 0) := bkc hb4
   have r3f : w4.frozen? ⟨w.heap.size + 1 + 1 + 1, 3, none⟩ = false := bkcf (v := .slice none 0 0) hb4
   have hB : Below w.heap.size w w4 := bthen bZ hb4
   have hz := hB.size
   have HU4 := hZ hu4
   obtain ⟨m1, g1, k1, d1, m2, g2, k2, d2, rfl, -, -⟩ := hu4
   clear hb4 KC
   have HQ := hZ (HU4.out.put4 r0 r1 r2 r3 (.bool m1) (.slice g1 k1 d1) (.bool m2) (.slice g2 k2 d2))
   have HBF := hZ hB
   clear HU4
   go_wp2
   refine bodyPost_ret (v := .agg #[.bool m1, .slice g1 k1 d1, .bool m2, .slice g2 k2 d2]) (by simp [results, Tryz.results195, go_sem, *]) rfl ⟨⟨_, rfl, HQ.out⟩, ?_⟩
   repeat (first | exact HBF.out | refine bset ?_ (by show w.heap.size ≤ w.heap.size + 1 + 1 + 1; omega) _)
 · have hze : z = x * ((2 ^ c.toNat : Int) : Rat) := by rw [← HZ.out]; simp [opQ]
   subst hze
   have HCS := hZ (show 1 ≤ c ∧ c ≤ 64 from by have hc := HCC.out; simp [constB] at hc; omega)
   go_upto_region 16 with (fail)
   have PC := hZ (fun V => rpower_n c V HCS.out)
   have WC := hZ (fun u V (hu : IsRef V u (2 ^ c.toNat)) => rqWhole_c u _ V hu)
   have MC := hZ (fun u V (hu : IsQR V u ((2 ^ c.toNat : Int) : Rat)) (q : Below w3.heap.size w3 V) => rqMul_c (.agg #[.bool p1, .slice f1 j1 o1, .bool p2, .slice f2 j2 o2]) u x ((2 ^ c.toNat : Int) : Rat) 65536 70 V (HX.out.keep (bthen HB3.out q)) hu HBX.out (pow_bd HCS.out) (by omega) rfl)
   have HS := hZ (show ∀ W, Below w3.heap.size w3 W → W.cell? ⟨w.heap.size, 4, none⟩ = some (.int .i64 c) ∧ W.cell? ⟨w.heap.size + 1, 0, none⟩ = some (.bool p1) ∧ W.cell? ⟨w.heap.size + 1, 1, none⟩ = some (.slice f1 j1 o1) ∧ W.cell? ⟨w.heap.size + 1, 2, none⟩ = some (.bool p2) ∧ W.cell? ⟨w.heap.size + 1, 3, none⟩ = some (.slice f2 j2 o2) from fun W q => ⟨bkeep q i4, bkeep q a0, bkeep q a1, bkeep q a2, bkeep q a3⟩)
   go_region_law (go_simp; go_wp2_with (first
    | (go_at_call 255; (with_reducible refine (PC.out _).mono ?_); rintro e w4 ⟨⟨u4, rfl, hu4⟩, hb4⟩; have h34 : Below w3.heap.size w3 w4 := bthen bZ hb4; have HU4 := hZ hu4; obtain ⟨i4', a0', a1', a2', a3'⟩ := HS.out w4 h34; have hy4 := Below.refl w4.heap.size w4; have zi4 := cell_lt i4'; have za4 := cell_lt a0')
    | (go_at_call 118; (with_reducible refine (WC.out _ _ (HU4.out.keep ?_)).mono ?_); (repeat (first|exact bzR _ _|exact hy4|refine bzD ?_|refine bzN ?_|refine bzS ?_|refine bzA ?_)); rintro e w5 ⟨⟨u5, rfl, hu5⟩, hb5⟩; have h35 : Below w3.heap.size w3 w5 := bthen h34 (bthen bZ hb5); have HU5 := hZ hu5; obtain ⟨i5', e0', e1', e2', e3'⟩ := HS.out w5 h35; have hy5 := Below.refl w5.heap.size w5; have zi5 := cell_lt i5'; have za5 := cell_lt e0')
    | (go_at_call 153; (with_reducible refine (MC.out _ _ (HU5.out.keep ?_) (bthen h35 ?_)).mono ?_); (repeat (first|exact bzR _ _|exact hy5|refine bzD ?_|refine bzN ?_|refine bzS ?_|refine bzA ?_)); (repeat (first|exact bzR _ _|exact hy5|refine bzD ?_|refine bzN ?_|refine bzS ?_|refine bzA ?_)); rintro e w6 ⟨⟨u6, rfl, hu6⟩, hb6⟩; have h36 : Below w3.heap.size w3 w6 := bthen h35 (bthen bZ hb6); have HU6 := hZ hu6; obtain ⟨m1, g1, k1, d1, m2, g2, k2, d2, rfl, -, -⟩ := hu6; have q0f := bkeepf h36 r0 r0f; have q1f := bkeepf h36 r1 r1f; have q2f := bkeepf h36 r2 r2f; have q3f := bkeepf h36 r3 r3f; have q0 := bkeep h36 r0; have q1 := bkeep h36 r1; have q2 := bkeep h36 r2; have q3 := bkeep h36 r3; have zq := cell_lt q0)))
   all_goals
    have HQ := hZ (HU6.out.put4 q0 q1 q2 q3 (.bool m1) (.slice g1 k1 d1) (.bool m2) (.slice g2 k2 d2))
    have HBF := hZ (bthen HB3.out h36)
    clear HU6
    go_wp2
    refine bodyPost_ret (v := .agg #[.bool m1, .slice g1 k1 d1, .bool m2, .slice g2 k2 d2]) (by simp [results, Tryz.results195, go_sem, *]) rfl ⟨⟨_, rfl, ?_⟩, ?_⟩
    · first | exact HQ.out | exact HQ.out.keep (Below.refl _ _).drew
    · repeat (first | exact HBF.out | refine Below.drew ?_ | refine bset ?_ (by show w.heap.size ≤ w.heap.size + 1 + 1 + 1; omega) _)
 · have hze : z = x / ((2 ^ c.toNat : Int) : Rat) := by rw [← HZ.out]; simp [opQ]
   subst hze
   have HCS := hZ (show 1 ≤ c ∧ c ≤ 64 from by have hc := HCC.out; simp [constB] at hc; omega)
   go_upto_region 17 with (fail)
   have PC := hZ (fun V => rpower_n c V HCS.out)
   have WC := hZ (fun u V (hu : IsRef V u (2 ^ c.toNat)) => rqWhole_c u _ V hu)
   have MC := hZ (fun u V (hu : IsQR V u ((2 ^ c.toNat : Int) : Rat)) (q : Below w3.heap.size w3 V) => rqOver_c (.agg #[.bool p1, .slice f1 j1 o1, .bool p2, .slice f2 j2 o2]) u x ((2 ^ c.toNat : Int) : Rat) 65536 70 V (HX.out.keep (bthen HB3.out q)) hu HBX.out (pow_bd HCS.out) (by omega) powc_ne)
   have HS := hZ (show ∀ W, Below w3.heap.size w3 W → W.cell? ⟨w.heap.size, 4, none⟩ = some (.int .i64 c) ∧ W.cell? ⟨w.heap.size + 1, 0, none⟩ = some (.bool p1) ∧ W.cell? ⟨w.heap.size + 1, 1, none⟩ = some (.slice f1 j1 o1) ∧ W.cell? ⟨w.heap.size + 1, 2, none⟩ = some (.bool p2) ∧ W.cell? ⟨w.heap.size + 1, 3, none⟩ = some (.slice f2 j2 o2) from fun W q => ⟨bkeep q i4, bkeep q a0, bkeep q a1, bkeep q a2, bkeep q a3⟩)
   go_region_law (go_simp; go_wp2_with (first
    | (go_at_call 255; (with_reducible refine (PC.out _).mono ?_); rintro e w4 ⟨⟨u4, rfl, hu4⟩, hb4⟩; have h34 : Below w3.heap.size w3 w4 := bthen bZ hb4; have HU4 := hZ hu4; obtain ⟨i4', a0', a1', a2', a3'⟩ := HS.out w4 h34; have hy4 := Below.refl w4.heap.size w4; have zi4 := cell_lt i4'; have za4 := cell_lt a0')
    | (go_at_call 118; (with_reducible refine (WC.out _ _ (HU4.out.keep ?_)).mono ?_); (repeat (first|exact bzR _ _|exact hy4|refine bzD ?_|refine bzN ?_|refine bzS ?_|refine bzA ?_)); rintro e w5 ⟨⟨u5, rfl, hu5⟩, hb5⟩; have h35 : Below w3.heap.size w3 w5 := bthen h34 (bthen bZ hb5); have HU5 := hZ hu5; obtain ⟨i5', e0', e1', e2', e3'⟩ := HS.out w5 h35; have hy5 := Below.refl w5.heap.size w5; have zi5 := cell_lt i5'; have za5 := cell_lt e0')
    | (go_at_call 221; (with_reducible refine (MC.out _ _ (HU5.out.keep ?_) (bthen h35 ?_)).mono ?_); (repeat (first|exact bzR _ _|exact hy5|refine bzD ?_|refine bzN ?_|refine bzS ?_|refine bzA ?_)); (repeat (first|exact bzR _ _|exact hy5|refine bzD ?_|refine bzN ?_|refine bzS ?_|refine bzA ?_)); rintro e w6 ⟨⟨u6, rfl, hu6⟩, hb6⟩; have h36 : Below w3.heap.size w3 w6 := bthen h35 (bthen bZ hb6); have HU6 := hZ hu6; obtain ⟨m1, g1, k1, d1, m2, g2, k2, d2, rfl, -, -⟩ := hu6; have q0f := bkeepf h36 r0 r0f; have q1f := bkeepf h36 r1 r1f; have q2f := bkeepf h36 r2 r2f; have q3f := bkeepf h36 r3 r3f; have q0 := bkeep h36 r0; have q1 := bkeep h36 r1; have q2 := bkeep h36 r2; have q3 := bkeep h36 r3; have zq := cell_lt q0)))
   all_goals
    have HQ := hZ (HU6.out.put4 q0 q1 q2 q3 (.bool m1) (.slice g1 k1 d1) (.bool m2) (.slice g2 k2 d2))
    have HBF := hZ (bthen HB3.out h36)
    clear HU6
    go_wp2
    refine bodyPost_ret (v := .agg #[.bool m1, .slice g1 k1 d1, .bool m2, .slice g2 k2 d2]) (by simp [results, Tryz.results195, go_sem, *]) rfl ⟨⟨_, rfl, ?_⟩, ?_⟩
    · first | exact HQ.out | exact HQ.out.keep (Below.refl _ _).drew
    · repeat (first | exact HBF.out | refine Below.drew ?_ | refine bset ?_ (by show w.heap.size ≤ w.heap.size + 1 + 1 + 1; omega) _)
end
end Go.Proofs.YtbmaffijncapiaaGreatDoor
