/- EvalProducts: values multiplied are the values of the product. -/
import Derived.Test.YtdllbdfchloijaaDoorR23
import Derived.Test.YtdllbdfchloijaaDoorR21
set_option linter.unusedVariables false
set_option linter.unusedSimpArgs false
namespace Go.Proofs.YtdllbdfchloijaaDoor
open Pt
open Num
open Go.ChangeShapes Go.WideShapes Go.ChangeAt Go.RowKit
set_option linter.unusedVariables false
set_option linter.unusedSimpArgs false
attribute [local go_sem ↓] Go.wp_at_zero Go.wp_at_succ
set_option maxRecDepth 100000 in
set_option maxHeartbeats 16000000 in
theorem evalProducts_h (va vb : Value) (x y : List Int) (a b : Int) (w : World) (hx : RowI w va x) (hy : RowI w vb y) (hT : Tz64 w) :
    Calls Tryd.prog 3 #[va, vb, pv a b] w fun e w' => e = .returned (.bool true) ∧ Below w.heap.size w w' := by
  have hB := Below.refl w.heap.size w
  have HXI := Lib.hid (And.intro hx hy)
  have HBI := Lib.hid (And.intro (rowI_bdE hx) (rowI_bdE hy))
  have WC := Lib.hid (fun V (q : Below w.heap.size w V) => works11_c V (hT.keep q))
  obtain ⟨xa, xc, rfl, -⟩ := hx
  obtain ⟨ya, yc, rfl, -⟩ := hy
  clear hT
  obtain ⟨P, hP⟩ : ∃ P, x.length = P := ⟨_, rfl⟩
  obtain ⟨Q, hQ⟩ : ∃ Q, y.length = Q := ⟨_, rfl⟩
  have HLN := Lib.hid (And.intro hP hQ)
  rw [hP, hQ] at HXI ⊢
  clear hP hQ
  by_cases c1 : P < 1
  · have d1 : decide ((P : Int) < 1) = true := decide_eq_true (by omega)
    go_enter Tryd.func3, Tryd.ntmps3
    go_wp2_with fail
    (with_reducible refine (WC.out _ ?_).mono ?_); (repeat (first | exact Below.refl _ _ | exact hB | refine Below.drew ?_ | refine below_drewN ?_ _ | refine bset ?_ (by simp <;> omega) _ | refine bal ?_ _))
    rintro e w1 ⟨rfl, hb1⟩
    have hB1 : Below w.heap.size w w1 := bthen (by repeat (first | exact Below.refl _ _ | exact hB | refine Below.drew ?_ | refine below_drewN ?_ _ | refine bset ?_ (by simp <;> omega) _ | refine bal ?_ _)) hb1
    clear WC hb1 hB
    go_wp2
    go_ret
    exact ⟨rfl, by repeat (first | exact Below.refl _ _ | exact hB1 | refine Below.drew ?_ | refine below_drewN ?_ _ | refine bset ?_ (by simp <;> omega) _ | refine bal ?_ _)⟩
  have d1 : decide ((P : Int) < 1) = false := decide_eq_false (by omega)
  by_cases c2 : Q < 1
  · have d2 : decide ((Q : Int) < 1) = true := decide_eq_true (by omega)
    go_enter Tryd.func3, Tryd.ntmps3
    go_wp2_with fail
    (with_reducible refine (WC.out _ ?_).mono ?_); (repeat (first | exact Below.refl _ _ | exact hB | refine Below.drew ?_ | refine below_drewN ?_ _ | refine bset ?_ (by simp <;> omega) _ | refine bal ?_ _))
    rintro e w1 ⟨rfl, hb1⟩
    have hB1 : Below w.heap.size w w1 := bthen (by repeat (first | exact Below.refl _ _ | exact hB | refine Below.drew ?_ | refine below_drewN ?_ _ | refine bset ?_ (by simp <;> omega) _ | refine bal ?_ _)) hb1
    clear WC hb1 hB
    go_wp2
    go_ret
    exact ⟨rfl, by repeat (first | exact Below.refl _ _ | exact hB1 | refine Below.drew ?_ | refine below_drewN ?_ _ | refine bset ?_ (by simp <;> omega) _ | refine bal ?_ _)⟩
  have d2 : decide ((Q : Int) < 1) = false := decide_eq_false (by omega)
  by_cases c3 : 8 < P
  · have d3 : decide (8 < (P : Int)) = true := decide_eq_true (by omega)
    go_enter Tryd.func3, Tryd.ntmps3
    go_wp2_with fail
    (with_reducible refine (WC.out _ ?_).mono ?_); (repeat (first | exact Below.refl _ _ | exact hB | refine Below.drew ?_ | refine below_drewN ?_ _ | refine bset ?_ (by simp <;> omega) _ | refine bal ?_ _))
    rintro e w1 ⟨rfl, hb1⟩
    have hB1 : Below w.heap.size w w1 := bthen (by repeat (first | exact Below.refl _ _ | exact hB | refine Below.drew ?_ | refine below_drewN ?_ _ | refine bset ?_ (by simp <;> omega) _ | refine bal ?_ _)) hb1
    clear WC hb1 hB
    go_wp2
    go_ret
    exact ⟨rfl, by repeat (first | exact Below.refl _ _ | exact hB1 | refine Below.drew ?_ | refine below_drewN ?_ _ | refine bset ?_ (by simp <;> omega) _ | refine bal ?_ _)⟩
  have d3 : decide (8 < (P : Int)) = false := decide_eq_false (by omega)
  by_cases c4 : 8 < Q
  · have d4 : decide (8 < (Q : Int)) = true := decide_eq_true (by omega)
    go_enter Tryd.func3, Tryd.ntmps3
    go_wp2_with fail
    (with_reducible refine (WC.out _ ?_).mono ?_); (repeat (first | exact Below.refl _ _ | exact hB | refine Below.drew ?_ | refine below_drewN ?_ _ | refine bset ?_ (by simp <;> omega) _ | refine bal ?_ _))
    rintro e w1 ⟨rfl, hb1⟩
    have hB1 : Below w.heap.size w w1 := bthen (by repeat (first | exact Below.refl _ _ | exact hB | refine Below.drew ?_ | refine below_drewN ?_ _ | refine bset ?_ (by simp <;> omega) _ | refine bal ?_ _)) hb1
    clear WC hb1 hB
    go_wp2
    go_ret
    exact ⟨rfl, by repeat (first | exact Below.refl _ _ | exact hB1 | refine Below.drew ?_ | refine below_drewN ?_ _ | refine bset ?_ (by simp <;> omega) _ | refine bal ?_ _)⟩
  have d4 : decide (8 < (Q : Int)) = false := decide_eq_false (by omega)
  by_cases c5 : PIn a b
  rotate_left
  · have IC := Lib.hid (fun V => ptIn_v a b false V (inB_no c5))
    go_enter Tryd.func3, Tryd.ntmps3
    go_wp2_with fail
    (with_reducible refine (WC.out _ ?_).mono ?_); (repeat (first | exact Below.refl _ _ | exact hB | refine Below.drew ?_ | refine below_drewN ?_ _ | refine bset ?_ (by simp <;> omega) _ | refine bal ?_ _))
    rintro e w1 ⟨rfl, hb1⟩
    have p0 : w1.cell? ⟨w.heap.size, 0, none⟩ = some (.int .i64 a) := bkc hb1
    have zp0 := cell_lt p0
    have p1 : w1.cell? ⟨w.heap.size, 1, none⟩ = some (.int .i64 b) := bkc hb1
    have hB : Below w.heap.size w w1 := bthen (by repeat (first | exact Below.refl _ _ | exact hB | refine Below.drew ?_ | refine below_drewN ?_ _ | refine bset ?_ (by simp <;> omega) _ | refine bal ?_ _)) hb1
    have hz : w.heap.size ≤ w1.heap.size := hB.size
    clear WC hb1
    have hBw := Below.refl w1.heap.size w1
    go_wp2_with fail
    (with_reducible refine (IC.out _).mono ?_)
    rintro e w2 ⟨rfl, hb2⟩
    have hB2 := bthen hB (bthen (show Below w1.heap.size w1 _ by repeat (first | exact Below.refl _ _ | exact hBw | refine Below.drew ?_ | refine below_drewN ?_ _ | refine bset ?_ (by simp <;> omega) _ | refine bal ?_ _)) hb2)
    go_wp2
    go_ret
    exact ⟨rfl, by repeat (first | exact Below.refl _ _ | exact hB2 | refine Below.drew ?_ | refine below_drewN ?_ _ | refine bset ?_ (by simp <;> omega) _ | refine bal ?_ _)⟩
  have hp1 : 1 ≤ P := by omega
  have hq1 : 1 ≤ Q := by omega
  have lx : P ≤ 8 := by omega
  have ly : Q ≤ 8 := by omega
  have HPN := Lib.hid c5
  have IC := Lib.hid (fun V => ptIn_v a b true V (inB_yes c5))
  have LX := Lib.hid (fun V (q : Below w.heap.size w V) => list11_c (.slice xa P xc) x V (HXI.out.1.keep q) (by rw [HLN.out.1]; omega))
  have LY := Lib.hid (fun V (q : Below w.heap.size w V) => list11_c (.slice ya Q yc) y V (HXI.out.2.keep q) (by rw [HLN.out.2]; omega))
  clear c1 c2 c3 c4 c5
  go_enter Tryd.func3, Tryd.ntmps3
  go_wp2_with fail
  (with_reducible refine (WC.out _ ?_).mono ?_); (repeat (first | exact Below.refl _ _ | exact hB | refine Below.drew ?_ | refine below_drewN ?_ _ | refine bset ?_ (by simp <;> omega) _ | refine bal ?_ _))
  rintro e w1 ⟨rfl, hb1⟩
  have p0 : w1.cell? ⟨w.heap.size, 0, none⟩ = some (.int .i64 a) := bkc hb1
  have zp0 := cell_lt p0
  have p1 : w1.cell? ⟨w.heap.size, 1, none⟩ = some (.int .i64 b) := bkc hb1
  have hB : Below w.heap.size w w1 := bthen (by repeat (first | exact Below.refl _ _ | exact hB | refine Below.drew ?_ | refine below_drewN ?_ _ | refine bset ?_ (by simp <;> omega) _ | refine bal ?_ _)) hb1
  have hz : w.heap.size ≤ w1.heap.size := hB.size
  clear WC hb1
  go_wp2_with fail
  (with_reducible refine (IC.out _).mono ?_)
  rintro e w2 ⟨rfl, hb2⟩
  have p0 : w2.cell? ⟨w.heap.size, 0, none⟩ = some (.int .i64 a) := bkc hb2
  have zp0 := cell_lt p0
  have p1 : w2.cell? ⟨w.heap.size, 1, none⟩ = some (.int .i64 b) := bkc hb2
  have hB : Below w.heap.size w w2 := bthen (by repeat (first | exact Below.refl _ _ | exact hB | refine Below.drew ?_ | refine below_drewN ?_ _ | refine bset ?_ (by simp <;> omega) _ | refine bal ?_ _)) hb2
  have hz : w.heap.size ≤ w2.heap.size := hB.size
  clear IC hb2
  go_wp2_with fail
  (with_reducible refine (LX.out _ ?_).mono ?_); (repeat (first | exact Below.refl _ _ | exact hB | refine Below.drew ?_ | refine below_drewN ?_ _ | refine bset ?_ (by simp <;> omega) _ | refine bal ?_ _))
  rintro e w3 ⟨⟨vx, rfl, hvx⟩, hb3⟩
  have p0 : w3.cell? ⟨w.heap.size, 0, none⟩ = some (.int .i64 a) := bkc hb3
  have zp0 := cell_lt p0
  have p1 : w3.cell? ⟨w.heap.size, 1, none⟩ = some (.int .i64 b) := bkc hb3
  have hB : Below w.heap.size w w3 := bthen (by repeat (first | exact Below.refl _ _ | exact hB | refine Below.drew ?_ | refine below_drewN ?_ _ | refine bset ?_ (by simp <;> omega) _ | refine bal ?_ _)) hb3
  have hz : w.heap.size ≤ w3.heap.size := hB.size
  have HVX := Lib.hid (show PRow 0 w3 vx x from hvx.row.rebase (Nat.zero_le _))
  obtain ⟨xa, xc, rfl⟩ := hvx.ex
  have hBw := Below.refl w3.heap.size w3
  clear LX hb3 hvx
  go_wp2_with fail
  (with_reducible refine (LY.out _ ?_).mono ?_); (repeat (first | exact Below.refl _ _ | exact hB | refine Below.drew ?_ | refine below_drewN ?_ _ | refine bset ?_ (by simp <;> omega) _ | refine bal ?_ _))
  rintro e w4 ⟨⟨vy, rfl, hvy⟩, hb4⟩
  have hk4 : Below w3.heap.size w3 w4 := bthen (by repeat (first | exact Below.refl _ _ | exact hBw | refine Below.drew ?_ | refine below_drewN ?_ _ | refine bset ?_ (by simp <;> omega) _ | refine bal ?_ _)) hb4
  have p0 : w4.cell? ⟨w.heap.size, 0, none⟩ = some (.int .i64 a) := bkc hb4
  have zp0 := cell_lt p0
  have p1 : w4.cell? ⟨w.heap.size, 1, none⟩ = some (.int .i64 b) := bkc hb4
  have hB : Below w.heap.size w w4 := bthen (by repeat (first | exact Below.refl _ _ | exact hB | refine Below.drew ?_ | refine below_drewN ?_ _ | refine bset ?_ (by simp <;> omega) _ | refine bal ?_ _)) hb4
  have hz : w.heap.size ≤ w4.heap.size := hB.size
  have HVX4 := Lib.hid (IsRow.keep lims_int HVX.out hk4)
  have HVY4 := Lib.hid (show PRow 0 w4 vy y from hvy.row.rebase (Nat.zero_le _))
  obtain ⟨ya, yc, rfl⟩ := hvy.ex
  rw [HLN.out.1] at HVX4 ⊢
  rw [HLN.out.2] at HVY4 ⊢
  clear LY hb4 hvy hk4 hBw HVX
  obtain ⟨f, hf⟩ : ∃ f : Nat → Int, (fun i => x.getD i 0) = f := ⟨_, rfl⟩
  obtain ⟨h, hh⟩ : ∃ h : Nat → Int, (fun i => y.getD i 0) = h := ⟨_, rfl⟩
  have HX := Lib.hid (show ∀ j, j < P → ∃ b off nb ad len cp, xa = some ⟨b, off, none⟩ ∧ w4.cell? ⟨b, off + j * 2, none⟩ = some (.bool nb) ∧ w4.cell? ⟨b, off + j * 2 + 1, none⟩ = some (.slice ad len cp) ∧ IsInt w4 (.agg #[.bool nb, .slice ad len cp]) (f j) from fun j hj => by
    obtain ⟨_, _, e, -, v⟩ := HVX4.out.view
    cases e
    rw [← hf]; exact v j (by rw [HLN.out.1]; exact hj))
  have HY := Lib.hid (show ∀ j, j < Q → ∃ b off nb ad len cp, ya = some ⟨b, off, none⟩ ∧ w4.cell? ⟨b, off + j * 2, none⟩ = some (.bool nb) ∧ w4.cell? ⟨b, off + j * 2 + 1, none⟩ = some (.slice ad len cp) ∧ IsInt w4 (.agg #[.bool nb, .slice ad len cp]) (h j) from fun j hj => by
    obtain ⟨_, _, e, -, v⟩ := HVY4.out.view
    cases e
    rw [← hh]; exact v j (by rw [HLN.out.2]; exact hj))
  obtain ⟨ab, ao, -, -, -, -, rfl, -, -, -⟩ := HX.out 0 (by omega)
  obtain ⟨bb, bo, -, -, -, -, rfl, -, -, -⟩ := HY.out 0 (by omega)
  have HBD := Lib.hid (show (∀ t, Bd 64 (f t)) ∧ ∀ t, Bd 64 (h t) from ⟨fun t => by rw [← hf]; exact HBI.out.1 t, fun t => by rw [← hh]; exact HBI.out.2 t⟩)
  have HPL := Lib.hid (show (pcE x y).length = P + Q - 1 ∧ ∀ m, m < P + Q - 1 → (pcE x y).getD m 0 = Det.pcS f h Q P 0 m from ⟨by rw [pcE_len, HLN.out.1, HLN.out.2], fun m hm => by rw [pcE_at (by rw [HLN.out.1, HLN.out.2]; exact hm), HLN.out.1, HLN.out.2, hf, hh]⟩)
  obtain ⟨N, hN⟩ : ∃ N, P + Q - 1 = N := ⟨_, rfl⟩
  rw [hN] at HPL
  have HN := Lib.hid hN
  have hw1 : wrap64 ((P : Int) + (Q : Int)) = (P : Int) + (Q : Int) := by unfold wrap64; omega
  have hw2 : wrap64 ((P : Int) + (Q : Int) - 1) = (P : Int) + (Q : Int) - 1 := by unfold wrap64; omega
  have hmk : ∀ w, (Instr.makeSlice 27 (.int .i64 ((P : Int) + (Q : Int) - 1)) (.int .i64 ((P : Int) + (Q : Int) - 1))).run Tryd.prog w = .ok (.slice (some ⟨w.heap.size, 0, none⟩) N N) (w.alloc (.cells (zcel N) 31)) := by
    rw [show (P : Int) + (Q : Int) - 1 = (N : Int) by omega]
    exact mkInts N (by omega)
  have HP4 := Lib.hid (And.intro hB (And.intro p0 p1))
  have hBw := Below.refl w4.heap.size w4
  clear hf hh hN hB p0 p1
  go_wp2
  refine wp_name fun w5 hW5 => ?_
  have hB5 : Below w4.heap.size w4 w5 := by rw [hW5]; repeat (first | exact Below.refl _ _ | exact hBw | refine Below.drew ?_ | refine below_drewN ?_ _ | refine bset ?_ (by simp <;> omega) _ | refine bal ?_ _)
  have HG := Lib.hid (show IntsF IsInt w5 w4.heap.size 0 N (Det.pcS f h Q 0 0) from by
    rw [hW5]
    first | exact (zcel_ints isInt_zero w4 N 31 rfl).congr (fun k _ => rfl) | exact ((zcel_ints isInt_zero w4 N 31 rfl).keep lims_int (Below.refl _ _).drew).congr (fun k _ => rfl))
  have HF := Lib.hid (show FreeI w5 w4.heap.size from by rw [hW5]; first | exact FreeI.new rfl | exact (FreeI.new rfl).keep (Below.refl _ _).drew)
  clear hW5 hmk hw1 hw2 hBw
  go_loopw [56] (fun x wr => ∃ i : Nat, i ≤ P ∧ x = .int .i64 i ∧ Below w4.heap.size w4 wr ∧ Hid (IntsF IsInt wr w4.heap.size 0 N (Det.pcS f h Q i 0)) ∧ Hid (FreeI wr w4.heap.size)) (fun x _ => P - (intOf x).toNat)
  case atStart => exact ⟨0, Nat.zero_le _, rfl, hB5, HG, HF⟩
  case round =>
    obtain ⟨i, hi, rfl, hBr, hG, hF⟩ := hrel
    by_cases hlt : i < P
    · have hltI : (i : Int) < (P : Int) := by omega
      have HLT := Lib.hid hlt
      have hG0 := hG
      have hF0 := hF
      clear hG hF
      go_wp2
      go_loopw [61] (fun x wq => ∃ j : Nat, j ≤ Q ∧ x = .int .i64 j ∧ Below w4.heap.size w4 wq ∧ Hid (IntsF IsInt wq w4.heap.size 0 N (Det.pcS f h Q i j)) ∧ Hid (FreeI wq w4.heap.size)) (fun x _ => Q - (intOf x).toNat)
      case atStart => exact ⟨0, Nat.zero_le _, rfl, hBr, hG0, hF0⟩
      case round =>
        obtain ⟨j, hj, rfl, hBq, hG, hF⟩ := hrel
        rename World => wq
        clear hG0 hF0
        by_cases hjt : j < Q
        · have hltJ : (j : Int) < (Q : Int) := by omega
          have HJT := Lib.hid hjt
          obtain ⟨_, _, xn, xd, xl, xk, e, x0, x1, hxi⟩ := HX.out i HLT.out
          cases e
          obtain ⟨_, _, yn, yd, yl, yk, e, y0, y1, hyj⟩ := HY.out j hjt
          cases e
          have HXV := Lib.hid (hxi.keep hBq)
          have HYV := Lib.hid (hyj.keep hBq)
          replace x0 := bkeep hBq x0
          replace x1 := bkeep hBq x1
          replace y0 := bkeep hBq y0
          replace y1 := bkeep hBq y1
          obtain ⟨k, hk⟩ : ∃ k, i + j = k := ⟨_, rfl⟩
          have hkN : k < N := by have := HN.out; have := HLT.out; omega
          have hwk : IntKind.i64.wrap ((i : Int) + (j : Int)) = (k : Int) := by rw [IntWalk.i64_left]; unfold wrap64; omega
          have hkI : (k : Int) < (N : Int) := by omega
          obtain ⟨cn, cd, cl, ck, c0, c1, hc⟩ := hG.out.at0 hkN
          have hcf := hF.out.fz
          have c0f := hcf (k * 2)
          have c1f := hcf (k * 2 + 1)
          have bs := pcE_bd (i := i) (j := j) (m := k) (k := Q) HBD.out.1 HBD.out.2 ly (by have := HLT.out; omega) (by omega)
          have HSTP := Lib.hid (show ∀ m, Det.pcS f h Q i (j + 1) m = if m = k then Det.pcS f h Q i j k + f i * h j else Det.pcS f h Q i j m from fun m => by
            rw [Det.pcS_step, hk]
            by_cases e : m = k
            · subst e; rw [if_pos rfl, if_pos rfl]
            · rw [if_neg e, if_neg (fun e2 => e e2.symm), Int.add_zero])
          obtain ⟨z, hz⟩ : ∃ z, Det.pcS f h Q i j k = z := ⟨_, rfl⟩
          rw [hz] at hc bs HSTP
          have HCI := Lib.hid hc
          have MC := Lib.hid (fun W (q : Below wq.heap.size wq W) => mul_c (.agg #[.bool xn, .slice xd xl xk]) (.agg #[.bool yn, .slice yd yl yk]) (f i) (h j) 64 64 W (HXV.out.keep q) (HYV.out.keep q) (HBD.out.1 i) (HBD.out.2 j) (by decide) (by decide))
          have AC := Lib.hid (fun u W (q : Below wq.heap.size wq W) (hu : IsInt W u (f i * h j)) => addI_c (.agg #[.bool cn, .slice cd cl ck]) u z (f i * h j) 168 W (HCI.out.keep q) hu bs (((HBD.out.1 i).mul (HBD.out.2 j)).mono (by decide)) (by decide))
          have HC := Lib.hid (show ∀ V, Below wq.heap.size wq V → V.cell? ⟨w4.heap.size, k * 2, none⟩ = some (.bool cn) ∧ V.cell? ⟨w4.heap.size, k * 2 + 1, none⟩ = some (.slice cd cl ck) ∧ V.cell? ⟨ab, ao + i * 2, none⟩ = some (.bool xn) ∧ V.cell? ⟨ab, ao + i * 2 + 1, none⟩ = some (.slice xd xl xk) ∧ V.cell? ⟨bb, bo + j * 2, none⟩ = some (.bool yn) ∧ V.cell? ⟨bb, bo + j * 2 + 1, none⟩ = some (.slice yd yl yk) ∧ V.frozen? ⟨w4.heap.size, k * 2, none⟩ = false ∧ V.frozen? ⟨w4.heap.size, k * 2 + 1, none⟩ = false from fun V q => ⟨bkeep q c0, bkeep q c1, bkeep q x0, bkeep q x1, bkeep q y0, bkeep q y1, bkeepf q c0 c0f, bkeepf q c1 c1f⟩)
          have G4 := Lib.hid hG.out
          have F4 := Lib.hid hF.out
          have hiP : i < P := HLT.out
          have hjQ : j < Q := hjt
          clear hcf hc bs hk hz hxi hyj hG hF hjt
          have zc := cell_lt c0
          have zx := cell_lt x0
          have zy := cell_lt y0
          have hBw := Below.refl wq.heap.size wq
          go_wp2
          go_region_law (go_simp; go_wp2_with (first
            | (go_at_call 10; (with_reducible refine (MC.out _ ?_).mono ?_); (repeat (first | exact Below.refl _ _ | exact hBw | refine Below.drew ?_ | refine below_drewN ?_ _ | refine bset ?_ (by simp <;> omega) _ | refine bal ?_ _)); rintro e w8 ⟨⟨u8, rfl, hu⟩, hb8⟩; (have hBd : Below wq.heap.size wq w8 := bthen (by repeat (first | exact Below.refl _ _ | exact hBw | refine Below.drew ?_ | refine below_drewN ?_ _ | refine bset ?_ (by simp <;> omega) _ | refine bal ?_ _)) hb8; clear hBw; have hBw := hBd; clear hBd); obtain ⟨c0, c1, x0, x1, y0, y1, c0f, c1f⟩ := HC.out w8 hBw; have HU8 := Lib.hid hu; have hy8 := Below.refl w8.heap.size w8; have zc8 := cell_lt c0; obtain ⟨n8, a8, l8, k8, rfl⟩ := hu.litE; clear hu)
            | (go_at_call 9; (with_reducible refine (AC.out _ _ ?_ (HU8.out.keep ?_)).mono ?_); (repeat (first | exact Below.refl _ _ | exact hBw | refine Below.drew ?_ | refine below_drewN ?_ _ | refine bset ?_ (by simp <;> omega) _ | refine bal ?_ _)); (repeat (first | exact Below.refl _ _ | exact hy8 | refine Below.drew ?_ | refine below_drewN ?_ _ | refine bset ?_ (by simp <;> omega) _ | refine bal ?_ _)); rintro e w9 ⟨⟨u9, rfl, hu⟩, hb9⟩; (have hBd : Below wq.heap.size wq w9 := bthen (by repeat (first | exact Below.refl _ _ | exact hBw | refine Below.drew ?_ | refine below_drewN ?_ _ | refine bset ?_ (by simp <;> omega) _ | refine bal ?_ _)) hb9; clear hBw; have hBw := hBd; clear hBd); obtain ⟨c0, c1, x0, x1, y0, y1, c0f, c1f⟩ := HC.out w9 hBw; have HU9 := Lib.hid hu; have zc9 := cell_lt c0; obtain ⟨n9, a9, l9, k9, rfl⟩ := hu.litE; clear hu)
            | fail))
          all_goals
            have HG9 := Lib.hid (((G4.out.keep lims_int hBw).store0 lims_int hkN HU9.out).congr (f' := Det.pcS f h Q i (j + 1)) (fun m _ => (HSTP.out m).symm))
            have HF9 := Lib.hid (((F4.out.keep hBw).set ⟨w4.heap.size, k * 2, none⟩ (.bool n9)).set ⟨w4.heap.size, k * 2 + 1, none⟩ (.slice a9 l9 k9))
            have hB9 := bset (bset (bthen hBq hBw) (p := ⟨w4.heap.size, k * 2, none⟩) (Nat.le_refl _) (.bool n9)) (p := ⟨w4.heap.size, k * 2 + 1, none⟩) (Nat.le_refl _) (.slice a9 l9 k9)
            have hlJ := HJT.out
            clear MC AC HC G4 F4 HU8 HU9 HSTP c0 c1 x0 x1 y0 y1 c0f c1f zc zx zy hBw hBq
            go_wp2
            exact ⟨⟨j + 1, hlJ, by go_num, hB9, HG9, HF9⟩, measS hlJ (by go_num) rfl⟩
        · obtain rfl : Q = j := by omega
          have hltJ : ¬ (Q : Int) < (Q : Int) := by omega
          have GE := Lib.hid (hG.out.congr (f' := Det.pcS f h Q (i + 1) 0) (fun m _ => Det.pcS_row f h Q i m))
          have FE := Lib.hid hF.out
          have hlI := HLT.out
          clear hG hF
          go_wp2
          exact ⟨⟨i + 1, hlI, by go_num, hBq, GE, FE⟩, measS hlI (by go_num) rfl⟩
    · obtain rfl : P = i := by omega
      have hltI : ¬ (P : Int) < (P : Int) := by omega
      have HRC := Lib.hid (show PRow 0 wr (.slice (some ⟨w4.heap.size, 0, none⟩) N N) (pcE x y) from row_made hG.out hF.out.ty (by unfold maxLen; have := HN.out; omega) (Nat.zero_le _) HPL.out.1 (fun m hm => (HPL.out.2 m hm).symm))
      have HVXr := Lib.hid (IsRow.keep lims_int HVX4.out hBr)
      have HVYr := Lib.hid (IsRow.keep lims_int HVY4.out hBr)
      have hB := bthen HP4.out.1 hBr
      have p0 := bkeep hBr HP4.out.2.1
      have p1 := bkeep hBr HP4.out.2.2
      have zp := cell_lt p0
      have hBw := Below.refl wr.heap.size wr
      have HLX := Lib.hid (show 1 ≤ x.length ∧ x.length ≤ 16 ∧ 1 ≤ y.length ∧ y.length ≤ 16 ∧ 1 ≤ (pcE x y).length ∧ (pcE x y).length ≤ 16 from by rw [HLN.out.1, HLN.out.2, HPL.out.1, ← HN.out]; omega)
      have HBC := Lib.hid (show ∀ j, Bd 168 ((pcE x y).getD j 0) from fun j => (pcE_all HBI.out.1 HBI.out.2 (by rw [HLN.out.1]; exact lx) (by rw [HLN.out.2]; exact ly) j).mono (by decide))
      clear hG hF hBr HX HY HBD HVX4 HVY4 HP4 HG HF
      have TC := Lib.hid (fun V (q : Below wr.heap.size wr V) => value_c (.slice (some ⟨ab, ao, none⟩) P xc) x 64 a b V (IsRow.keep lims_int HVXr.out q) HLX.out.1 HLX.out.2.1 HPN.out HBI.out.1 (by decide))
      go_wp2_with fail
      (with_reducible refine (TC.out _ ?_).mono ?_); (repeat (first | exact Below.refl _ _ | exact hBw | refine Below.drew ?_ | refine below_drewN ?_ _ | refine bset ?_ (by simp <;> omega) _ | refine bal ?_ _))
      rintro e w6 ⟨⟨u, rfl, hu⟩, hb6⟩
      have hk : Below wr.heap.size wr w6 := bthen (by repeat (first | exact Below.refl _ _ | exact hBw | refine Below.drew ?_ | refine below_drewN ?_ _ | refine bset ?_ (by simp <;> omega) _ | refine bal ?_ _)) hb6
      have p0 : w6.cell? ⟨w.heap.size, 0, none⟩ = some (.int .i64 a) := bkc hb6
      have zp0 := cell_lt p0
      have p1 : w6.cell? ⟨w.heap.size, 1, none⟩ = some (.int .i64 b) := bkc hb6
      have hB : Below w.heap.size w w6 := bthen (by repeat (first | exact Below.refl _ _ | exact hB | refine Below.drew ?_ | refine below_drewN ?_ _ | refine bset ?_ (by simp <;> omega) _ | refine bal ?_ _)) hb6
      have hz : w.heap.size ≤ w6.heap.size := hB.size
      have HU6 := Lib.hid hu
      have HVY6 := Lib.hid (IsRow.keep lims_int HVYr.out hk)
      have HRC6 := Lib.hid (IsRow.keep lims_int HRC.out hk)
      obtain ⟨un, ud, ul, uk, rfl⟩ := hu.litE
      have hBw := Below.refl w6.heap.size w6
      clear TC hb6 hk hu HVXr HVYr HRC
      have TC := Lib.hid (fun V (q : Below w6.heap.size w6 V) => value_c (.slice (some ⟨bb, bo, none⟩) Q yc) y 64 a b V (IsRow.keep lims_int HVY6.out q) HLX.out.2.2.1 HLX.out.2.2.2.1 HPN.out HBI.out.2 (by decide))
      go_wp2_with fail
      (with_reducible refine (TC.out _ ?_).mono ?_); (repeat (first | exact Below.refl _ _ | exact hBw | refine Below.drew ?_ | refine below_drewN ?_ _ | refine bset ?_ (by simp <;> omega) _ | refine bal ?_ _))
      rintro e w7 ⟨⟨v, rfl, hv⟩, hb7⟩
      have hk : Below w6.heap.size w6 w7 := bthen (by repeat (first | exact Below.refl _ _ | exact hBw | refine Below.drew ?_ | refine below_drewN ?_ _ | refine bset ?_ (by simp <;> omega) _ | refine bal ?_ _)) hb7
      have p0 : w7.cell? ⟨w.heap.size, 0, none⟩ = some (.int .i64 a) := bkc hb7
      have zp0 := cell_lt p0
      have p1 : w7.cell? ⟨w.heap.size, 1, none⟩ = some (.int .i64 b) := bkc hb7
      have hB : Below w.heap.size w w7 := bthen (by repeat (first | exact Below.refl _ _ | exact hB | refine Below.drew ?_ | refine below_drewN ?_ _ | refine bset ?_ (by simp <;> omega) _ | refine bal ?_ _)) hb7
      have hz : w.heap.size ≤ w7.heap.size := hB.size
      have u0 : w7.cell? ⟨w6.heap.size, 0, none⟩ = some (.bool un) := bkeep hb7 (by simp [go_sem])
      have u1 : w7.cell? ⟨w6.heap.size, 1, none⟩ = some (.slice ud ul uk) := bkeep hb7 (by simp [go_sem])
      have HU7 := Lib.hid (HU6.out.keep hk)
      have HV7 := Lib.hid hv
      have HRC7 := Lib.hid (IsRow.keep lims_int HRC6.out hk)
      obtain ⟨vn, vd, vl, vk, rfl⟩ := hv.litE
      have hBw := Below.refl w7.heap.size w7
      have zu := cell_lt u0
      clear TC hb7 hk hv HU6 HVY6 HRC6
      have TC := Lib.hid (fun V (q : Below w7.heap.size w7 V) => value_c (.slice (some ⟨w4.heap.size, 0, none⟩) N N) (pcE x y) 168 a b V (IsRow.keep lims_int HRC7.out q) HLX.out.2.2.2.2.1 HLX.out.2.2.2.2.2 HPN.out HBC.out (by decide))
      go_wp2_with fail
      (with_reducible refine (TC.out _ ?_).mono ?_); (repeat (first | exact Below.refl _ _ | exact hBw | refine Below.drew ?_ | refine below_drewN ?_ _ | refine bset ?_ (by simp <;> omega) _ | refine bal ?_ _))
      rintro e w8 ⟨⟨s, rfl, hs⟩, hb8⟩
      have hk : Below w7.heap.size w7 w8 := bthen (by repeat (first | exact Below.refl _ _ | exact hBw | refine Below.drew ?_ | refine below_drewN ?_ _ | refine bset ?_ (by simp <;> omega) _ | refine bal ?_ _)) hb8
      have hB8 := bthen hB hk
      have v0 : w8.cell? ⟨w7.heap.size, 0, none⟩ = some (.bool vn) := bkeep hb8 (by simp [go_sem])
      have v1 : w8.cell? ⟨w7.heap.size, 1, none⟩ = some (.slice vd vl vk) := bkeep hb8 (by simp [go_sem])
      replace u0 := bkeep hk u0
      replace u1 := bkeep hk u1
      have HU8 := Lib.hid (HU7.out.keep hk)
      have HV8 := Lib.hid (HV7.out.keep hk)
      have HS8 := Lib.hid hs
      obtain ⟨sn, sd, sl, sk, rfl⟩ := hs.litE
      have hBw := Below.refl w8.heap.size w8
      have zu := cell_lt u0
      have zv := cell_lt v0
      clear TC hb8 hk hs HU7 HV7 HRC7 hB p0 p1
      go_wp2
      refine wp_name fun w9 hW9 => ?_
      have hk9 : Below w8.heap.size w8 w9 := by rw [hW9]; repeat (first | exact Below.refl _ _ | exact hBw | refine Below.drew ?_ | refine below_drewN ?_ _ | refine bset ?_ (by simp <;> omega) _ | refine bal ?_ _)
      have s0 : w9.cell? ⟨w8.heap.size, 0, none⟩ = some (.bool sn) := by rw [hW9]; simp [go_sem]
      have s1 : w9.cell? ⟨w8.heap.size, 1, none⟩ = some (.slice sd sl sk) := by rw [hW9]; simp [go_sem]
      replace u0 := bkeep hk9 u0
      replace u1 := bkeep hk9 u1
      replace v0 := bkeep hk9 v0
      replace v1 := bkeep hk9 v1
      have HU9 := Lib.hid (HU8.out.keep hk9)
      have HV9 := Lib.hid (HV8.out.keep hk9)
      have HS9 := Lib.hid (HS8.out.keep hk9)
      have hB9 := bthen hB8 hk9
      have HS := Lib.hid (show ∀ V, Below w9.heap.size w9 V → V.cell? ⟨w6.heap.size, 0, none⟩ = some (.bool un) ∧ V.cell? ⟨w6.heap.size, 1, none⟩ = some (.slice ud ul uk) ∧ V.cell? ⟨w7.heap.size, 0, none⟩ = some (.bool vn) ∧ V.cell? ⟨w7.heap.size, 1, none⟩ = some (.slice vd vl vk) ∧ V.cell? ⟨w8.heap.size, 0, none⟩ = some (.bool sn) ∧ V.cell? ⟨w8.heap.size, 1, none⟩ = some (.slice sd sl sk) from fun V q => ⟨bkeep q u0, bkeep q u1, bkeep q v0, bkeep q v1, bkeep q s0, bkeep q s1⟩)
      have HBV := Lib.hid (show Bd 280 (hvL x a b) ∧ Bd 280 (hvL y a b) from ⟨by
          have := hvP_bd HPN.out HLX.out.2.1 HBI.out.1 x.length (Nat.le_refl _)
          rw [hvP_all] at this
          exact this.mono (by have := HLX.out.2.1; omega), by
          have := hvP_bd HPN.out HLX.out.2.2.2.1 HBI.out.2 y.length (Nat.le_refl _)
          rw [hvP_all] at this
          exact this.mono (by have := HLX.out.2.2.2.1; omega)⟩)
      have MC := Lib.hid (fun V (q : Below w9.heap.size w9 V) => mul_c (.agg #[.bool un, .slice ud ul uk]) (.agg #[.bool vn, .slice vd vl vk]) (hvL x a b) (hvL y a b) 280 280 V (HU9.out.keep q) (HV9.out.keep q) HBV.out.1 HBV.out.2 (by decide) (by decide))
      have CC := Lib.hid (fun V z (q : Below w9.heap.size w9 V) (hz : IsInt V z (hvL x a b * hvL y a b)) => cmpE_c (.agg #[.bool sn, .slice sd sl sk]) z (hvL (pcE x y) a b) (hvL x a b * hvL y a b) V (HS9.out.keep q) hz (hvL_mul x y a b HLX.out.1 HLX.out.2.2.1))
      have zu := cell_lt u0
      have zv := cell_lt v0
      have zs := cell_lt s0
      clear hW9 hk9 hBw HU8 HV8 HS8 hB8
      have hBw := Below.refl w9.heap.size w9
      go_region_held3 (fun V => V.cell? ⟨w6.heap.size, 0, none⟩ = some (.bool un) ∧ V.cell? ⟨w6.heap.size, 1, none⟩ = some (.slice ud ul uk) ∧ V.cell? ⟨w7.heap.size, 0, none⟩ = some (.bool vn) ∧ V.cell? ⟨w7.heap.size, 1, none⟩ = some (.slice vd vl vk) ∧ V.cell? ⟨w8.heap.size, 0, none⟩ = some (.bool sn) ∧ V.cell? ⟨w8.heap.size, 1, none⟩ = some (.slice sd sl sk))
        (first | (refine HS.out _ ?_; (repeat (first | exact Below.refl _ _ | exact hBw | refine Below.drew ?_ | refine below_drewN ?_ _ | refine bset ?_ (by simp <;> omega) _ | refine bal ?_ _)); done) | fail)
        (first
          | (go_at_call 10; refine (MC.out _ ?_).mono ?_; (repeat (first | exact Below.refl _ _ | exact hBw | refine Below.drew ?_ | refine below_drewN ?_ _ | refine bset ?_ (by simp <;> omega) _ | refine bal ?_ _)); rintro e w10 ⟨⟨z, rfl, hz⟩, hb10⟩; (have hBd : Below w9.heap.size w9 w10 := bthen (by repeat (first | exact Below.refl _ _ | exact hBw | refine Below.drew ?_ | refine below_drewN ?_ _ | refine bset ?_ (by simp <;> omega) _ | refine bal ?_ _)) hb10; clear hBw; have hBw := hBd; clear hBd); have HZ := Lib.hid hz; have hy10 := Below.refl w10.heap.size w10; obtain ⟨zn, zd, zl, zk, rfl⟩ := hz.litE; clear hz)
          | (go_at_call 12; refine (CC.out _ _ ?_ (HZ.out.keep ?_)).mono ?_; (repeat (first | exact Below.refl _ _ | exact hBw | refine Below.drew ?_ | refine below_drewN ?_ _ | refine bset ?_ (by simp <;> omega) _ | refine bal ?_ _)); (repeat (first | exact Below.refl _ _ | exact hy10 | refine Below.drew ?_ | refine below_drewN ?_ _ | refine bset ?_ (by simp <;> omega) _ | refine bal ?_ _)); rintro e w11 ⟨rfl, hb11⟩; (have hBd : Below w9.heap.size w9 w11 := bthen (by repeat (first | exact Below.refl _ _ | exact hBw | refine Below.drew ?_ | refine below_drewN ?_ _ | refine bset ?_ (by simp <;> omega) _ | refine bal ?_ _)) hb11; clear hBw; have hBw := hBd; clear hBd))
          | fail)
      all_goals
        have hBf := bthen hB9 hBw
        go_wp2
        go_ret
        exact ⟨rfl, by repeat (first | exact Below.refl _ _ | exact hBf | refine Below.drew ?_ | refine below_drewN ?_ _ | refine bset ?_ (by simp <;> omega) _ | refine bal ?_ _)⟩
theorem evalProducts_u (va : Value) (x : List Int) (vb : Value) (y : List Int) (a b : Int) (w : World) (hx : RowI w va x) (bx : x.length ≤ 1152921504606846976) (hy : RowI w vb y) (by' : y.length ≤ 1152921504606846976) (wa : (Lit.int .i64 a).wf = true) (wb : (Lit.int .i64 b).wf = true) (hT : Tz64 w) :
    Calls Tryd.prog 3 #[va, vb, .agg #[.int .i64 a, .int .i64 b]] w fun e w' => e = .returned (.bool true) ∧ Below w.heap.size w w' :=
  evalProducts_h va vb x y a b w hx hy hT
end Go.Proofs.YtdllbdfchloijaaDoor

