/- Texts of this seat, laid together: MwB, MwC, MwG, MwD, MwE, MwL, MwM, Rdt, EvX, EvP, EvO, Wo. Each opens with its own remark, which says what it proves, and under which conditions. -/
import Derived.Test.YtdllbdfchloijaaGreatDoorW23
import Derived.Test.YtdllbdfchloijaaGreatDoorW16
import Derived.Test.YtdllbdfchloijaaGreatDoorW17
import Derived.Test.YtdllbdfchloijaaGreatDoorW06
import Derived.Test.YtdllbdfchloijaaGreatDoorW21
import Derived.Test.YtdllbdfchloijaaGreatDoorW13
import Derived.Test.YtdllbdfchloijaaGreatDoorW15
import Derived.Test.YtdllbdfchloijaaGreatDoorW02
import Derived.Test.YtdllbdfchloijaaGreatDoorW01
import Derived.Test.YtdllbdfchloijaaGreatDoorW22
import Derived.Test.YtdllbdfchloijaaGreatDoorW14
import Derived.SizedLaws
set_option linter.unusedVariables false
set_option linter.unusedSimpArgs false
/- matrix's laws: works answers true. -/
namespace Go.Proofs.YtdllbdfchloijaaGreatDoor
open Num
open Go.ChangeShapes Go.WideShapes Go.ChangeAt Go.RowKit
set_option linter.unusedVariables false
set_option linter.unusedSimpArgs false
attribute [local go_sem ↓] Go.wp_at_zero Go.wp_at_succ
end Go.Proofs.YtdllbdfchloijaaGreatDoor

/- matrix's laws: same, line, is, comes; the matrix's Row; the reference's Cols. -/
namespace Go.Proofs.YtdllbdfchloijaaGreatDoor
open Num
open Go.ChangeShapes Go.WideShapes Go.ChangeAt Go.RowKit
set_option linter.unusedVariables false
set_option linter.unusedSimpArgs false
attribute [local go_sem ↓] Go.wp_at_zero Go.wp_at_succ
theorem prs_rrow : Prs (fun t => t = 106 ∨ t = 54) (RRow 0) := prs_row lims_ref _ _
end Go.Proofs.YtdllbdfchloijaaGreatDoor

/- matrix's laws: rows, made. -/
namespace Go.Proofs.YtdllbdfchloijaaGreatDoor
open Num
open Go.ChangeShapes Go.WideShapes Go.ChangeAt Go.RowKit
set_option linter.unusedVariables false
set_option linter.unusedSimpArgs false
attribute [local go_sem ↓] Go.wp_at_zero Go.wp_at_succ
end Go.Proofs.YtdllbdfchloijaaGreatDoor

/- matrix's laws: is, comes. -/
namespace Go.Proofs.YtdllbdfchloijaaGreatDoor
open Num
open Go.ChangeShapes Go.WideShapes Go.ChangeAt Go.RowKit
set_option linter.unusedVariables false
set_option linter.unusedSimpArgs false
attribute [local go_sem ↓] Go.wp_at_zero Go.wp_at_succ
/-- the reference's matrix -/
def RefM (w : World) (v : Value) (g : Grid) : Prop := IsL 91 (RRow 0) 0 w v g
theorem RefM.keep {w w' : World} {v : Value} {g : Grid} (h : RefM w v g) (k : Below w.heap.size w w') : RefM w' v g := IsL.keep prs_rrow h k
theorem RefM.nil (w : World) : RefM w (.slice none 0 0) [] := IsL.nil _ _ _ _
end Go.Proofs.YtdllbdfchloijaaGreatDoor

/- the reference's identity. -/
namespace Go.Proofs.YtdllbdfchloijaaGreatDoor
open Num
open Go.ChangeShapes Go.WideShapes Go.ChangeAt Go.RowKit
set_option linter.unusedVariables false
set_option linter.unusedSimpArgs false
attribute [local go_sem ↓] Go.wp_at_zero Go.wp_at_succ
end Go.Proofs.YtdllbdfchloijaaGreatDoor

/- matrix's laws: the numbers that come in, as the reference's; Fits; both. -/
namespace Go.Proofs.YtdllbdfchloijaaGreatDoor
open Num
open Go.ChangeShapes Go.WideShapes Go.ChangeAt Go.RowKit
set_option linter.unusedVariables false
set_option linter.unusedSimpArgs false
attribute [local go_sem ↓] Go.wp_at_zero Go.wp_at_succ
end Go.Proofs.YtdllbdfchloijaaGreatDoor

/- the reference's Fits; both. -/
namespace Go.Proofs.YtdllbdfchloijaaGreatDoor
open Num
open Go.ChangeShapes Go.WideShapes Go.ChangeAt Go.RowKit
set_option linter.unusedVariables false
set_option linter.unusedSimpArgs false
attribute [local go_sem ↓] Go.wp_at_zero Go.wp_at_succ
end Go.Proofs.YtdllbdfchloijaaGreatDoor

/- The reference: Dot of two rows. -/
namespace Go.Proofs.YtdllbdfchloijaaGreatDoor
open Num
open Go.ChangeShapes Go.WideShapes Go.ChangeAt Go.RowKit
set_option linter.unusedVariables false
set_option linter.unusedSimpArgs false
attribute [local go_sem ↓] Go.wp_at_zero Go.wp_at_succ
/-- a variable in memory that holds a number of the reference -/
def VarQ (ub : Nat) (m : Int) (W : World) : Prop := ∃ n a ln c, W.cell? ⟨ub, 0, none⟩ = some (.bool n) ∧ W.cell? ⟨ub, 1, none⟩ = some (.slice a ln c) ∧ W.frozen? ⟨ub, 0, none⟩ = false ∧ W.frozen? ⟨ub, 1, none⟩ = false ∧ IsRef W (.agg #[.bool n, .slice a ln c]) m
theorem VarQ.put {ub : Nat} {m z : Int} {W : World} {n : Bool} {a : Option Addr} {ln c : Nat} (h : VarQ ub m W) (hi : IsRef W (.agg #[.bool n, .slice a ln c]) z) : VarQ ub z ((W.setCell ⟨ub, 0, none⟩ (.bool n)).setCell ⟨ub, 1, none⟩ (.slice a ln c)) := by
  obtain ⟨n', a', ln', c', h0, h1, f0, f1, _⟩ := h
  refine ⟨n, a, ln, c, cell_far (cell_here h0 _) (by simp) _, cell_here (cell_far h1 (by simp) _) _, ?_, ?_, hi.put2 h0 h1 _ _⟩
  · rw [World.frozen?_setCell, World.frozen?_setCell]; exact f0
  · rw [World.frozen?_setCell, World.frozen?_setCell]; exact f1
theorem VarQ.keep {ub : Nat} {m : Int} {W V : World} (h : VarQ ub m W) (k : Below W.heap.size W V) : VarQ ub m V := by
  obtain ⟨n, a, ln, c, h0, h1, f0, f1, hi⟩ := h
  exact ⟨n, a, ln, c, bkeep k h0, bkeep k h1, bkeepf k h0 f0, bkeepf k h1 f1, hi.keep k⟩
end Go.Proofs.YtdllbdfchloijaaGreatDoor

/- The reference for layer 11: Value; the numbers that come in, as the reference's; slices.Equal of two lists of points that read alike. -/
namespace Go.Proofs.YtdllbdfchloijaaGreatDoor
open Pt
open Num
open Go.ChangeShapes Go.WideShapes Go.ChangeAt Go.RowKit
set_option linter.unusedVariables false
set_option linter.unusedSimpArgs false
attribute [local go_sem ↓] Go.wp_at_zero Go.wp_at_succ
theorem elR11 : Elt Tryz.prog 56 54 2 32 := Elt.mk' Tryz.underlying56 infoRef rfl (by decide) (by decide)
set_option maxRecDepth 100000 in
set_option maxHeartbeats 4000000 in
theorem ref11_c (v : Value) (l : List Int) (w : World) (hv : RowI w v l) (hl : l.length ≤ 1099511627000) :
    Calls Tryz.prog 21 #[v] w fun e w' => (∃ v', e = .returned v' ∧ RowO IsRef 54 w.heap.size w' v' l) ∧ Below w.heap.size w w' := by
  obtain ⟨ra, rc, rfl, hr⟩ := hv
  have HR := Lib.hid hr
  clear hr
  have hB := Below.refl w.heap.size w
  go_enter Tryz.func21, Tryz.ntmps21
  go_wp2
  go_loopw [3, 8] (fun v x wr => ∃ j : Nat, j ≤ l.length ∧ x = .int .i64 j ∧ Hid (OwnF IsRef 54 w wr v j (fun i => l.getD i 0))) (fun _ x _ => l.length - (intOf x).toNat)
  case atStart => exact ⟨0, Nat.zero_le _, rfl, Lib.hid (OwnF.nil _ _ _ hB)⟩
  case round =>
    obtain ⟨j, hj, rfl, hF⟩ := hrel
    obtain ⟨fa, fc, hfv⟩ : ∃ a c, _ = Value.slice a j c := by obtain ⟨a, c, h, _⟩ := hF.out.view; exact ⟨a, c, h⟩
    subst hfv
    by_cases hlt2 : j < l.length
    · have hltJ : (j : Int) < (l.length : Int) := by omega
      obtain ⟨rb, ro, rfl, hc, hI⟩ := HR.out j hlt2
      have hc2 := bkeep hF.out.bel hc
      have zc := cell_lt hc2
      have oc := fun W => rof_c (l.getD j 0) W hI.1 hI.2
      have HSN := Lib.hid (snoc_fun l j hlt2)
      obtain ⟨z, hz⟩ : ∃ z, l.getD j 0 = z := ⟨_, rfl⟩
      rw [hz] at hc2 oc HSN
      clear hc hI hz
      go_wp2_with fail
      refine (oc _).mono ?_
      rintro e w5 ⟨⟨v5, rfl, hi5⟩, hb5⟩
      have HF5 := Lib.hid (hF.out.below lims_ref hb5)
      have HI5 := Lib.hid hi5
      obtain ⟨n5, a5, c5, l5, rfl, -⟩ := hi5
      unfold iv at *
      clear oc
      go_wp2_with (at_builtin; refine app_num elR11 (by decide) lims_ref (by rfl) (by rfl) HF5.out HI5.out (by rfl) (by rfl) (by omega) ?_)
      intro v' w8 hF8 _ _
      have HF8 := Lib.hid (hF8.congr' HSN.out)
      clear hF8
      go_wp2
      exact ⟨⟨j + 1, hlt2, by go_num, HF8⟩, measS hlt2 (by go_num) rfl⟩
    · obtain rfl : j = l.length := by omega
      have HRO := Lib.hid hF.out.rowO
      have hBr := hF.out.bel
      go_wp2
      go_ret
      exact ⟨⟨_, rfl, HRO.out⟩, hBr⟩
theorem neq_pvE (x y : Int) (w : World) : (binOp .neq 33 (.agg #[.int .i64 x, .int .i64 y]) (.agg #[.int .i64 x, .int .i64 y])).run Tryz.prog w = .ok (.bool false) w := by
  simp [go_sem]
set_option maxRecDepth 100000 in
set_option maxHeartbeats 4000000 in
theorem eqPts_c (a c : Option Addr) (n ca cc : Nat) (f : Nat → Int × Int) (w : World) (h : PtsV w a n ca f) (h2 : PtsV w c n cc f) (hn : n ≤ 4611686018427387904) :
    Calls Tryz.prog 25 #[.slice a n ca, .slice c n cc] w fun e w' => e = .returned (.bool true) ∧ Below w.heap.size w w' := by
  have hB := Below.refl w.heap.size w
  have HP := Lib.hid (And.intro h h2)
  clear h h2
  go_enter Tryz.func25, Tryz.ntmps25
  go_wp2
  go_loopw [13] (fun x wr => ∃ j : Nat, j ≤ n ∧ x = .int .i64 j ∧ Below w.heap.size w wr) (fun x _ => n - (intOf x).toNat)
  case atStart => exact ⟨0, Nat.zero_le _, rfl, hB⟩
  case round =>
    obtain ⟨j, hj, rfl, hBr⟩ := hrel
    by_cases hlt : j < n
    · have hltI : (j : Int) < (n : Int) := by omega
      obtain ⟨b, off, rfl, -, c0, c1⟩ := (HP.out.1.keep hBr).atE hlt
      obtain ⟨b2, off2, rfl, -, d0, d1⟩ := (HP.out.2.keep hBr).atE hlt
      obtain ⟨x, hx⟩ : ∃ x, (f j).1 = x := ⟨_, rfl⟩
      obtain ⟨y, hy⟩ : ∃ y, (f j).2 = y := ⟨_, rfl⟩
      rw [hx] at c0 d0
      rw [hy] at c1 d1
      have zc := cell_lt c0
      have zd := cell_lt d0
      have hl := hlt
      have hne := neq_pvE x y
      clear hx hy hlt
      go_wp2
      go_region_law (go_simp; go_wp2_with fail)
      all_goals
        go_wp2
        exact ⟨⟨j + 1, hl, by go_num, by repeat (first | exact Below.refl _ _ | exact hBr | refine Below.drew ?_ | refine below_drewN ?_ _ | refine bset ?_ (by simp <;> omega) _ | refine bal ?_ _)⟩, measS hl (by go_num) rfl⟩
    · obtain rfl : n = j := by omega
      have hltI : ¬ (n : Int) < (n : Int) := by omega
      go_wp2
      go_ret
      exact ⟨rfl, by repeat (first | exact Below.refl _ _ | exact hBr | refine Below.drew ?_ | refine below_drewN ?_ _ | refine bset ?_ (by simp <;> omega) _ | refine bal ?_ _)⟩
theorem hvP_next {la : List Int} {P : Nat} (hP : la.length = P) (a b : Int) (j : Nat) : hvP la a b (j + 1) = hvP la a b j + la.getD j 0 * powF a b P j := by
  subst hP; rfl
set_option maxRecDepth 100000 in
set_option maxHeartbeats 8000000 in
theorem rvalue_c (va : Value) (la : List Int) (K : Nat) (a b : Int) (w : World) (ha : RRow 0 w va la) (hl : la.length ≤ 16) (hp : PIn a b) (hb : ∀ j, Bd K (la.getD j 0)) (hK : K ≤ 1000000) :
    Calls Tryz.prog 20 #[va, pv a b] w fun e w' => (∃ u, e = .returned u ∧ IsRef w' u (hvL la a b)) ∧ Below w.heap.size w w' := by
  have HA := Lib.hid ha
  have HBP := Lib.hid (hvP_bd hp hl hb)
  have HPB := Lib.hid (fun j (h : j < la.length) => powF_bd a b la.length j hp hl h)
  have HBD := Lib.hid hb
  have HE := Lib.hid (hvP_all la a b)
  obtain ⟨aa, ca, rfl, -⟩ := ha
  obtain ⟨P, hP⟩ : ∃ P, la.length = P := ⟨_, rfl⟩
  have HN := Lib.hid (fun j => hvP_next hP a b j)
  have HLN := Lib.hid hP
  rw [hP] at HA hl HBP HPB HE ⊢
  have PC := Lib.hid (fun V => refPow_c a b P V hp hl)
  clear hP hp hb
  have hB := Below.refl w.heap.size w
  go_enter Tryz.func20, Tryz.ntmps20
  go_wp2_with fail
  (with_reducible refine (PC.out _).mono ?_)
  rintro e w1 ⟨vp, rfl, hO⟩
  have hb1 := hO.bel
  have hB1 : Below w.heap.size w w1 := bthen (by repeat (first | exact Below.refl _ _ | exact hB | refine Below.drew ?_ | refine below_drewN ?_ _ | refine bset ?_ (by simp <;> omega) _ | refine bal ?_ _)) hb1
  have r0 : w1.cell? ⟨w.heap.size + 1, 0, none⟩ = some (.bool false) := bkeep hb1 (by simp [go_sem])
  have r1 : w1.cell? ⟨w.heap.size + 1, 1, none⟩ = some (.slice none 0 0) := bkeep hb1 (by simp [go_sem])
  have r0f : w1.frozen? ⟨w.heap.size + 1, 0, none⟩ = false := bkeepf hb1 (v := .bool false) (by simp [go_sem]) (by simp [go_sem])
  have r1f : w1.frozen? ⟨w.heap.size + 1, 1, none⟩ = false := bkeepf hb1 (v := .slice none 0 0) (by simp [go_sem]) (by simp [go_sem])
  obtain ⟨pa, pc, hpv, -, -, hpw⟩ := hO.view
  subst hpv
  have HPW := Lib.hid hpw
  clear PC hO hpw hb1 hB
  go_wp2
  refine wp_name fun w2 hW2 => ?_
  have hBw1 := Below.refl w1.heap.size w1
  have hk2 : Below w1.heap.size w1 w2 := by rw [hW2]; repeat (first | exact Below.refl _ _ | exact hBw1 | refine Below.drew ?_ | refine below_drewN ?_ _ | refine bset ?_ (by simp <;> omega) _ | refine bal ?_ _)
  have HM0 := Lib.hid (show VarQ w1.heap.size (hvP la a b 0) w2 from by rw [hW2]; exact ⟨false, none, 0, 0, by simp [go_sem], by simp [go_sem], by simp [go_sem], by simp [go_sem], isRef_zero _⟩)
  have HR := Lib.hid (And.intro hB1 (And.intro r0 (And.intro r1 (And.intro r0f r1f))))
  clear hW2 hBw1 r0 r1 r0f r1f hB1
  go_loopw [7] (fun x wr => ∃ j : Nat, j ≤ P ∧ x = .int .i64 j ∧ Below w1.heap.size w1 wr ∧ Hid (VarQ w1.heap.size (hvP la a b j) wr)) (fun x _ => P - (intOf x).toNat)
  case atStart => exact ⟨0, Nat.zero_le _, rfl, hk2, HM0⟩
  case round =>
    obtain ⟨j, hj, rfl, hBr, hM⟩ := hrel
    obtain ⟨n0, a0, ln0, c0, m0, m1, m0f, m1f, hi0⟩ := hM.out
    have HI0 := Lib.hid hi0
    have zm := cell_lt m0
    clear hi0
    by_cases hlt : j < P
    · have hltI : (j : Int) < (P : Int) := by omega
      obtain ⟨a', c', he, -, vr⟩ := (HA.out.keep lims_ref (bthen HR.out.1 hBr)).view
      obtain ⟨rfl, -, rfl⟩ := Value.slice.inj he
      obtain ⟨b', off, n2, a2, l2, cc2, rfl, d0, d1, hi⟩ := vr j (by rw [HLN.out]; exact hlt)
      obtain ⟨g, rfl, -, hin⟩ : ∃ g, pa = some ⟨g, 0, none⟩ ∧ True ∧ IntsF IsRef w1 g 0 P (powF a b P) := by
        rcases HPW.out with h | ⟨g, h1, -, h2⟩
        · omega
        · exact ⟨g, h1, trivial, h2⟩
      obtain ⟨n3, a3, l3, cc3, f0, f1, hi2⟩ := hin.at0 hlt
      replace f0 := bkeep hBr f0
      replace f1 := bkeep hBr f1
      replace hi2 := hi2.keep hBr
      have HW := Lib.hid (HN.out j)
      have bs := HBP.out j (by omega)
      have bx := HBD.out j
      have by' := HPB.out j hlt
      obtain ⟨x, hx⟩ : ∃ x, la.getD j 0 = x := ⟨_, rfl⟩
      obtain ⟨y, hy⟩ : ∃ y, powF a b P j = y := ⟨_, rfl⟩
      obtain ⟨s, hs⟩ : ∃ s, hvP la a b j = s := ⟨_, rfl⟩
      rw [hx] at hi bx HW
      rw [hy] at hi2 by' HW
      rw [hs] at HI0 HW hM bs
      have zd := cell_lt d0
      have zf := cell_lt f0
      have HX := Lib.hid (And.intro hi hi2)
      have HB3 := Lib.hid (And.intro (bs.mono (show K + 200 + j ≤ K + 216 by omega)) (And.intro ((bx.mul by').mono (show K + 200 ≤ K + 216 by omega)) (And.intro bx by')))
      have mc := fun W (h : Below wr.heap.size wr W) => rmul_c _ _ x y K 200 W (HX.out.1.keep h) (HX.out.2.keep h) HB3.out.2.2.1 HB3.out.2.2.2 (by omega) (by omega)
      have ac := fun u W (h : Below wr.heap.size wr W) (hu : IsRef W u (x * y)) => radd_c _ u s (x * y) (K + 216) W (HI0.out.keep h) hu HB3.out.1 HB3.out.2.1 (by omega)
      have HS := Lib.hid (show ∀ W, Below wr.heap.size wr W → W.cell? ⟨b', off + j * 2, none⟩ = some (.bool n2) ∧ W.cell? ⟨b', off + j * 2 + 1, none⟩ = some (.slice a2 l2 cc2) ∧ W.cell? ⟨g, j * 2, none⟩ = some (.bool n3) ∧ W.cell? ⟨g, j * 2 + 1, none⟩ = some (.slice a3 l3 cc3) ∧ W.cell? ⟨w1.heap.size, 0, none⟩ = some (.bool n0) ∧ W.cell? ⟨w1.heap.size, 1, none⟩ = some (.slice a0 ln0 c0) ∧ W.frozen? ⟨w1.heap.size, 0, none⟩ = false ∧ W.frozen? ⟨w1.heap.size, 1, none⟩ = false from fun W h => ⟨bkeep h d0, bkeep h d1, bkeep h f0, bkeep h f1, bkeep h m0, bkeep h m1, bkeepf h m0 m0f, bkeepf h m1 m1f⟩)
      have hl := hlt
      clear hx hy hs he vr hi hi2 bs bx by' hin hlt
      have hBw := Below.refl wr.heap.size wr
      go_wp2
      go_region_law (go_simp; go_wp2_with (first
        | (go_at_call 53; refine (mc _ ?_).mono ?_; (repeat (first | exact Below.refl _ _ | exact hBw | refine Below.drew ?_ | refine below_drewN ?_ _ | refine bset ?_ (by simp <;> omega) _ | refine bal ?_ _)); rintro e w5 ⟨⟨v5, rfl, hv5⟩, hb5⟩; (have hBd : Below wr.heap.size wr w5 := bthen (by repeat (first | exact Below.refl _ _ | exact hBw | refine Below.drew ?_ | refine below_drewN ?_ _ | refine bset ?_ (by simp <;> omega) _ | refine bal ?_ _)) hb5; clear hBw; have hBw := hBd; clear hBd); obtain ⟨d0, d1, f0, f1, m0, m1, m0f, m1f⟩ := HS.out w5 hBw; have zm5 := cell_lt m0; have zd5 := cell_lt d0; have zf5 := cell_lt f0; have HV5 := Lib.hid hv5; obtain ⟨n5, a5, c5, l5, rfl, -⟩ := hv5; unfold iv at *)
        | (go_at_call 52; refine (ac _ _ ?_ ?_).mono ?_; (repeat (first | exact Below.refl _ _ | exact hBw | refine Below.drew ?_ | refine below_drewN ?_ _ | refine bset ?_ (by simp <;> omega) _ | refine bal ?_ _)); (refine HV5.out.keep ?_; have hBz := Below.refl w5.heap.size w5; (repeat (first | exact Below.refl _ _ | exact hBz | refine Below.drew ?_ | refine below_drewN ?_ _ | refine bset ?_ (by simp <;> omega) _ | refine bal ?_ _))); rintro e w6 ⟨⟨v6, rfl, hv6⟩, hb6⟩; (have hBd : Below wr.heap.size wr w6 := bthen (by repeat (first | exact Below.refl _ _ | exact hBw | refine Below.drew ?_ | refine below_drewN ?_ _ | refine bset ?_ (by simp <;> omega) _ | refine bal ?_ _)) hb6; clear hBw; have hBw := hBd; clear hBd); obtain ⟨d0, d1, f0, f1, m0, m1, m0f, m1f⟩ := HS.out w6 hBw; have zm6 := cell_lt m0; have HV6 := Lib.hid hv6; obtain ⟨n6, a6, c6, l6, rfl, -⟩ := hv6; unfold iv at *)
        | fail))
      all_goals
        have HV2 := Lib.hid ((hM.out.keep hBw).put HV6.out)
        have hB2 := bthen hBr hBw
        clear mc ac HS
        go_wp2
        exact ⟨⟨j + 1, hl, by go_num, bset (bset hB2 (Nat.le_refl _) _) (Nat.le_refl _) _, Lib.hid (by rw [HW.out]; exact HV2.out)⟩, measS hl (by go_num) rfl⟩
    · obtain rfl : P = j := by omega
      rw [HE.out] at HI0
      have r0 := bkeep hBr HR.out.2.1
      have r1 := bkeep hBr HR.out.2.2.1
      have r0f := bkeepf hBr HR.out.2.1 HR.out.2.2.2.1
      have r1f := bkeepf hBr HR.out.2.2.1 HR.out.2.2.2.2
      have zr := cell_lt r0
      have hp := Lib.hid (HI0.out.put2 r0 r1)
      have hBf := bthen HR.out.1 hBr
      clear hM
      go_wp2
      refine bodyPost_ret (v := .agg #[.bool n0, .slice a0 ln0 c0]) (by simp [results, Tryz.results20, go_sem, *]) rfl ⟨⟨_, rfl, hp.out _ _⟩, ?_⟩
      repeat (first | exact Below.refl _ _ | exact hBf | refine Below.drew ?_ | refine below_drewN ?_ _ | refine bset ?_ (by simp <;> omega) _ | refine bal ?_ _)
end Go.Proofs.YtdllbdfchloijaaGreatDoor

/- eval, in plain Lean: the program that evaluates coefficients at points, and what it comes to. -/
namespace Go.Proofs.YtdllbdfchloijaaGreatDoor
open Num
set_option linter.unusedVariables false
set_option linter.unusedSimpArgs false
/-- an instruction that is laid, if it does anything -/
def addI (i : Ins) : List Ins := if i.op = 1 ∧ i.to = i.a then [] else [i]
/-- times a small number that is not 0 -/
def timesI (t a c : Int) : Ins :=
  if c = 1 then ⟨1, t, a, 0, 0⟩ else if c = -1 then ⟨2, t, a, 0, 0⟩ else if c = 2 then ⟨7, t, a, 0, 1⟩ else if c = 4 then ⟨7, t, a, 0, 2⟩
  else if c = 8 then ⟨7, t, a, 0, 3⟩ else if c = 16 then ⟨7, t, a, 0, 4⟩ else ⟨5, t, a, 0, c⟩
/-- times so many powers of it -/
def scaledL (t : Int) : Nat → Int → Int → List Ins
  | 0, _, _ => []
  | n + 1, a, c => addI (timesI t a c) ++ scaledL t n t c
/-- the next coefficient is added -/
def addN (t j b term : Int) (n : Nat) : List Ins :=
  if b = 1 ∨ (b = -1 ∧ n % 2 = 0) then [⟨3, t, t, j, 0⟩] else if b = -1 then [⟨4, t, t, j, 0⟩] else scaledL term n j b ++ [⟨3, t, t, term, 0⟩]
def hornL (k : Nat) (t term a b : Int) : Nat → List Ins
  | 0 => []
  | s + 1 => hornL k t term a b s ++ (addI (timesI t (if s = 0 then ((k - 1 : Nat) : Int) else t) a) ++ addN t ((k - 2 - s : Nat) : Int) b term (s + 1))
def pointL (k : Nat) (t term : Int) (q : Int × Int) : List Ins :=
  if k = 1 then [] else if q.1 = 0 ∧ q.2 = 0 then [⟨4, t, 0, 0, 0⟩] else if q.1 = 0 then scaledL t (k - 1) 0 q.2
  else if q.2 = 0 then scaledL t (k - 1) ((k - 1 : Nat) : Int) q.1 else hornL k t term q.1 q.2 (k - 1)
def codeL (k n : Nat) (f : Nat → Int × Int) : Nat → List Ins
  | 0 => []
  | i + 1 => codeL k n f i ++ pointL k ((k + i : Nat) : Int) ((k + n : Nat) : Int) (f i)
def outL (k i : Nat) : Int := if k = 1 then 0 else ((k + i : Nat) : Int)
def outsL (k n : Nat) : List Int := (List.range n).map (outL k)
theorem outsL_len (k n : Nat) : (outsL k n).length = n := by simp [outsL]
theorem outsL_succ (k n : Nat) : outsL k (n + 1) = outsL k n ++ [outL k n] := by simp [outsL, List.range_succ]
theorem outsL_get {k n i : Nat} (h : i < n) : (outsL k n).getD i 0 = outL k i := by simp [outsL, h]
/-- a list of instructions, run on numbers -/
def runI : List Ins → List Int → Option (List Int)
  | [], s => some s
  | i :: L, s => (opI i (s.getD i.a.toNat 0) (s.getD i.b.toNat 0)).bind fun x => runI L (s.set i.to.toNat x)
theorem runI_app (L M : List Ins) : ∀ s, runI (L ++ M) s = (runI L s).bind (runI M) := by
  induction L with
  | nil => intro s; rfl
  | cons i L ih =>
    intro s
    show (opI i _ _).bind _ = ((opI i _ _).bind _).bind _
    cases opI i (s.getD i.a.toNat 0) (s.getD i.b.toNat 0) with
    | none => rfl
    | some x => exact ih _
theorem runI_then {L M : List Ins} {s t u : List Int} (h : runI L s = some t) (k : runI M t = some u) : runI (L ++ M) s = some u := by
  rw [runI_app, h]; exact k
theorem afterN_take (code : List Ins) (r : List Int) : ∀ n, n ≤ code.length → afterN code r n = runI (code.take n) r := by
  intro n
  induction n with
  | zero => intro _; rfl
  | succ n ih =>
    intro h
    rw [afterN, ih (by omega), List.take_succ_eq_append_getElem (by omega), runI_app]
    have e : code.getD n default = code[n] := by simp [show n < code.length by omega]
    rw [e]
    cases runI (code.take n) r with
    | none => rfl
    | some s =>
      show Option.map _ _ = runI [code[n]] s
      unfold runI
      cases opI code[n] (s.getD code[n].a.toNat 0) (s.getD code[n].b.toNat 0) <;> rfl
theorem afterN_run (code : List Ins) (r : List Int) : afterN code r code.length = runI code r := by
  rw [afterN_take code r _ (Nat.le_refl _), List.take_length]
theorem gset (s : List Int) {t : Nat} (x : Int) (j : Nat) (ht : t < s.length) : (s.set t x).getD j 0 = if j = t then x else s.getD j 0 := by
  by_cases e : j = t
  · subst e; simp [ht]
  · rw [if_neg e, List.getD_eq_getElem?_getD, List.getElem?_set_ne (fun h => e h.symm), ← List.getD_eq_getElem?_getD]
theorem set_same (s : List Int) (t : Nat) (ht : t < s.length) : s.set t (s.getD t 0) = s := by
  apply List.ext_getElem?
  intro j
  by_cases e : t = j
  · subst e; simp [ht]
  · rw [List.getElem?_set_ne e]
theorem run1 {i : Ins} {s : List Int} {x : Int} (h : opI i (s.getD i.a.toNat 0) (s.getD i.b.toNat 0) = some x) : runI [i] s = some (s.set i.to.toNat x) := by
  unfold runI; rw [h]; rfl
theorem add_run {i : Ins} (h : ¬ (i.op = 1 ∧ i.to = i.a)) : addI i = [i] := if_neg h
/-- a small number that is not 0 -/
def Smn (c : Int) : Prop := c ≠ 0 ∧ -16 ≤ c ∧ c ≤ 16
theorem times_run (t a : Nat) (c : Int) (s : List Int) (ht : t < s.length) : runI (addI (timesI t a c)) s = some (s.set t (s.getD a 0 * c)) := by
  unfold timesI
  split
  · rename_i h; subst h
    by_cases e : (t : Int) = (a : Int)
    · have : t = a := by omega
      subst this
      rw [show addI ⟨1, (t : Int), (t : Int), 0, 0⟩ = [] from if_pos ⟨rfl, rfl⟩, Int.mul_one, set_same s t ht]; rfl
    · rw [add_run (fun h => e h.2), run1 (x := s.getD a 0 * 1) (by simp [opI])]; rfl
  split
  · rename_i h; subst h
    rw [add_run (fun h => by cases h.1), run1 (x := s.getD a 0 * -1) (by simp [opI])]; rfl
  split
  · rename_i h; subst h
    rw [add_run (fun h => by cases h.1), run1 (x := s.getD a 0 * 2) (by simp [opI])]; rfl
  split
  · rename_i h; subst h
    rw [add_run (fun h => by cases h.1), run1 (x := s.getD a 0 * 4) (by simp [opI])]; rfl
  split
  · rename_i h; subst h
    rw [add_run (fun h => by cases h.1), run1 (x := s.getD a 0 * 8) (by simp [opI])]; rfl
  split
  · rename_i h; subst h
    rw [add_run (fun h => by cases h.1), run1 (x := s.getD a 0 * 16) (by simp [opI])]; rfl
  · rw [add_run (fun h => by cases h.1), run1 (x := s.getD a 0 * c) (by simp [opI])]; rfl
theorem scaled_run (t : Nat) (c : Int) : ∀ (n : Nat) (a : Nat) (s : List Int), t < s.length → runI (scaledL t (n + 1) a c) s = some (s.set t (s.getD a 0 * c ^ (n + 1))) := by
  intro n
  induction n with
  | zero =>
    intro a s ht
    refine runI_then (times_run t a c s ht) ?_
    rw [Int.pow_succ, Int.pow_zero, Int.one_mul]; rfl
  | succ n ih =>
    intro a s ht
    refine runI_then (times_run t a c s ht) ?_
    rw [ih t _ (by simpa using ht), gset _ _ _ ht, if_pos rfl, List.set_set, Int.mul_assoc, ← Int.pow_succ']
open Det (isum isum_congr hv pf is_rev is_one is_zero)
theorem neg_even (n : Nat) : (n % 2 = 0 → (-1 : Int) ^ n = 1) ∧ (¬ n % 2 = 0 → (-1 : Int) ^ n = -1) := by
  induction n with
  | zero => simp
  | succ n ih =>
    rw [Int.pow_succ]
    refine ⟨fun h => ?_, fun h => ?_⟩
    · rw [ih.2 (by omega)]; rfl
    · rw [ih.1 (by omega)]; rfl
/-- the values of two registers may have changed -/
def Off (t term : Nat) (s u : List Int) : Prop := u.length = s.length ∧ ∀ j, j ≠ t → j ≠ term → u.getD j 0 = s.getD j 0
theorem Off.refl (t term : Nat) (s : List Int) : Off t term s s := ⟨rfl, fun _ _ _ => rfl⟩
theorem Off.trans {t term : Nat} {s u v : List Int} (h : Off t term s u) (k : Off t term u v) : Off t term s v := ⟨k.1.trans h.1, fun j a b => (k.2 j a b).trans (h.2 j a b)⟩
theorem Off.set {t term : Nat} (s : List Int) {q : Nat} (x : Int) (hq : q = t ∨ q = term) : Off t term s (s.set q x) := by
  refine ⟨by simp, fun j a b => ?_⟩
  rw [List.getD_eq_getElem?_getD, List.getElem?_set_ne (by rcases hq with rfl | rfl <;> omega), ← List.getD_eq_getElem?_getD]
theorem addN_run (t term j n : Nat) (b : Int) (s : List Int) (ht : t < s.length) (hm : term < s.length) (hj : j ≠ t) (hj2 : j ≠ term) (h2 : t ≠ term) : ∃ u, runI (addN t j b term (n + 1)) s = some u ∧ Off t term s u ∧ u.getD t 0 = s.getD t 0 + s.getD j 0 * b ^ (n + 1) := by
  unfold addN
  split
  · rename_i h
    refine ⟨s.set t (s.getD t 0 + s.getD j 0), run1 (by simp [opI]), Off.set s _ (.inl rfl), ?_⟩
    rw [gset _ _ _ ht, if_pos rfl]
    rcases h with rfl | ⟨rfl, he⟩
    · rw [Int.one_pow, Int.mul_one]
    · rw [(neg_even _).1 he, Int.mul_one]
  split
  · rename_i h h1
    subst h1
    refine ⟨s.set t (s.getD t 0 - s.getD j 0), run1 (by simp [opI]), Off.set s _ (.inl rfl), ?_⟩
    rw [gset _ _ _ ht, if_pos rfl, (neg_even _).2 (fun e => h (.inr ⟨rfl, e⟩))]
    omega
  · refine ⟨(s.set term (s.getD j 0 * b ^ (n + 1))).set t (s.getD t 0 + s.getD j 0 * b ^ (n + 1)), runI_then (scaled_run term b n j s hm) (run1 ?_), (Off.set s _ (.inr rfl)).trans (Off.set _ _ (.inl rfl)), ?_⟩
    · show opI _ ((s.set term (s.getD j 0 * b ^ (n + 1))).getD t 0) ((s.set term (s.getD j 0 * b ^ (n + 1))).getD term 0) = _
      rw [gset _ _ _ hm, if_neg h2, gset _ _ _ hm, if_pos rfl]; simp [opI]
    · rw [gset _ _ _ (by simpa using ht), if_pos rfl]
/-- what stands after s steps -/
def hsum (k : Nat) (c : Nat → Int) (a b : Int) (s : Nat) : Int := isum (s + 1) fun i => c (k - 1 - i) * (a ^ (s - i) * b ^ i)
theorem hsum_succ (k : Nat) (c : Nat → Int) (a b : Int) (s : Nat) : hsum k c a b (s + 1) = hsum k c a b s * a + c (k - 1 - (s + 1)) * b ^ (s + 1) := by
  unfold hsum
  show isum (s + 1) _ + c (k - 1 - (s + 1)) * (a ^ (s + 1 - (s + 1)) * b ^ (s + 1)) = _
  rw [Nat.sub_self, Int.pow_zero, Int.one_mul, ← Det.is_mulR]
  congr 1
  refine isum_congr fun i hi => ?_
  rw [show s + 1 - i = (s - i) + 1 by omega, Int.pow_succ]
  grind
theorem hsum_last (k : Nat) (c : Nat → Int) (a b : Int) : hsum (k + 1) c a b k = hv (k + 1) c a b := by
  unfold hsum hv
  rw [is_rev (k + 1) fun m => c m * pf a b (k + 1) m]
  refine isum_congr fun i hi => ?_
  unfold pf
  rw [show k + 1 - 1 - (k + 1 - 1 - i) = i by omega, show k + 1 - 1 - i = k - i by omega]
theorem horn_run (k t term : Nat) (a b : Int) (c : Nat → Int) (s0 : List Int) (ht : t < s0.length) (hm : term < s0.length) (hkt : k ≤ t) (hkm : k ≤ term) (h2 : t ≠ term) (hc : ∀ j, j < k → s0.getD j 0 = c j) :
    ∀ s, s + 1 ≤ k → ∃ u, runI (hornL k t term a b s) s0 = some u ∧ Off t term s0 u ∧ u.getD (if s = 0 then k - 1 else t) 0 = hsum k c a b s := by
  intro s
  induction s with
  | zero =>
    intro hs
    refine ⟨s0, rfl, Off.refl _ _ _, ?_⟩
    rw [if_pos rfl, hc _ (by omega)]
    show _ = isum 1 _
    simp [isum]
  | succ s ih =>
    intro hs
    obtain ⟨u, hu, ho, hx⟩ := ih (by omega)
    have htu : t < u.length := by rw [ho.1]; exact ht
    have hmu : term < u.length := by rw [ho.1]; exact hm
    have e1 : (if s = 0 then ((k - 1 : Nat) : Int) else (t : Int)) = ((if s = 0 then k - 1 else t : Nat) : Int) := by split <;> rfl
    have h1 := times_run t (if s = 0 then k - 1 else t) a u htu
    rw [hx] at h1
    have ho1 : Off t term u (u.set t (hsum k c a b s * a)) := Off.set u _ (.inl rfl)
    obtain ⟨v, hv1, hv2, hv3⟩ := addN_run t term (k - 2 - s) s b (u.set t (hsum k c a b s * a)) (by simpa using htu) (by simpa using hmu) (by omega) (by omega) h2
    refine ⟨v, ?_, (ho.trans ho1).trans hv2, ?_⟩
    · unfold hornL
      rw [e1]
      exact runI_then hu (runI_then h1 hv1)
    · rw [if_neg (by omega), hv3, gset _ _ _ htu, if_pos rfl, hsum_succ, (ho.trans ho1).2 _ (by omega) (by omega), hc _ (by omega), show k - 2 - s = k - 1 - (s + 1) by omega]
theorem zpow {n : Nat} (h : 0 < n) : (0 : Int) ^ n = 0 := by obtain ⟨m, rfl⟩ := Nat.exists_eq_succ_of_ne_zero (Nat.ne_of_gt h); rw [Int.pow_succ, Int.mul_zero]
theorem hv_a0 (k : Nat) (c : Nat → Int) (b : Int) (hk : 1 ≤ k) : hv k c 0 b = c 0 * b ^ (k - 1) := by
  unfold hv
  rw [is_one (j := 0) hk (fun m h1 h2 => by unfold pf; rw [zpow (by omega), Int.zero_mul, Int.mul_zero])]
  unfold pf; rw [Int.pow_zero, Int.one_mul, Nat.sub_zero]
theorem hv_b0 (k : Nat) (c : Nat → Int) (a : Int) (hk : 1 ≤ k) : hv k c a 0 = c (k - 1) * a ^ (k - 1) := by
  unfold hv
  rw [is_one (j := k - 1) (by omega) (fun m h1 h2 => by unfold pf; rw [zpow (n := k - 1 - m) (by omega), Int.mul_zero, Int.mul_zero])]
  unfold pf; rw [Nat.sub_self, Int.pow_zero, Int.mul_one]
theorem hv_one (c : Nat → Int) (a b : Int) : hv 1 c a b = c 0 := by unfold hv isum; simp [isum, pf]
theorem point_run (k t term : Nat) (q : Int × Int) (c : Nat → Int) (s : List Int) (hk : 1 ≤ k) (ht : t < s.length) (hm : term < s.length) (hkt : k ≤ t) (hkm : k ≤ term) (h2 : t ≠ term) (hc : ∀ j, j < k → s.getD j 0 = c j) :
    ∃ u, runI (pointL k t term q) s = some u ∧ Off t term s u ∧ (k ≠ 1 → u.getD t 0 = hv k c q.1 q.2) := by
  unfold pointL
  by_cases h1 : k = 1
  · rw [if_pos h1]; exact ⟨s, rfl, Off.refl _ _ _, fun h => absurd h1 h⟩
  rw [if_neg h1]
  obtain ⟨m, rfl⟩ : ∃ m, k = m + 2 := ⟨k - 2, by omega⟩
  by_cases h0 : q.1 = 0 ∧ q.2 = 0
  · rw [if_pos h0]
    refine ⟨s.set t 0, run1 (by simp [opI]), Off.set s _ (.inl rfl), fun _ => ?_⟩
    rw [gset _ _ _ ht, if_pos rfl, h0.1, h0.2, hv_a0 _ _ _ hk, zpow (by omega), Int.mul_zero]
  rw [if_neg h0]
  by_cases ha : q.1 = 0
  · rw [if_pos ha]
    refine ⟨_, scaled_run t q.2 m 0 s ht, Off.set s _ (.inl rfl), fun _ => ?_⟩
    rw [gset _ _ _ ht, if_pos rfl, ha, hv_a0 _ _ _ hk, hc 0 (by omega)]; rfl
  rw [if_neg ha]
  by_cases hb : q.2 = 0
  · rw [if_pos hb]
    refine ⟨_, scaled_run t q.1 m (m + 2 - 1) s ht, Off.set s _ (.inl rfl), fun _ => ?_⟩
    rw [gset _ _ _ ht, if_pos rfl, hb, hv_b0 _ _ _ hk, hc _ (by omega)]; rfl
  rw [if_neg hb]
  obtain ⟨u, hu, ho, hx⟩ := horn_run (m + 2) t term q.1 q.2 c s ht hm hkt hkm h2 hc (m + 1) (by omega)
  refine ⟨u, hu, ho, fun _ => ?_⟩
  rw [if_neg (by omega)] at hx
  rw [hx, hsum_last]
theorem code_run (k n : Nat) (f : Nat → Int × Int) (c : Nat → Int) (s : List Int) (hk : 1 ≤ k) (hl : s.length = k + n + 1) (hc : ∀ j, j < k → s.getD j 0 = c j) :
    ∀ i, i ≤ n → ∃ u, runI (codeL k n f i) s = some u ∧ u.length = s.length ∧ (∀ j, j < k → u.getD j 0 = c j) ∧ (k ≠ 1 → ∀ j, j < i → u.getD (k + j) 0 = hv k c (f j).1 (f j).2) := by
  intro i
  induction i with
  | zero => intro _; exact ⟨s, rfl, rfl, hc, fun _ j h => by omega⟩
  | succ i ih =>
    intro hi
    obtain ⟨u, h1, h2, h3, h4⟩ := ih (by omega)
    obtain ⟨v, k1, k2, k3⟩ := point_run k (k + i) (k + n) (f i) c u hk (by omega) (by omega) (by omega) (by omega) (by omega) h3
    refine ⟨v, runI_then h1 k1, k2.1.trans h2, fun j hj => by rw [k2.2 j (by omega) (by omega)]; exact h3 j hj, fun hk1 j hj => ?_⟩
    by_cases e : j = i
    · subst e; exact k3 hk1
    · rw [k2.2 _ (by omega) (by omega)]; exact h4 hk1 j (by omega)
/-- what the outs hold at the end -/
theorem outs_run (k n : Nat) (f : Nat → Int × Int) (c : Nat → Int) (s : List Int) (hk : 1 ≤ k) (hl : s.length = k + n + 1) (hc : ∀ j, j < k → s.getD j 0 = c j) :
    ∃ u, afterN (codeL k n f n) s (codeL k n f n).length = some u ∧ ∀ i, i < n → u.getD (outL k i).toNat 0 = hv k c (f i).1 (f i).2 := by
  obtain ⟨u, h1, h2, h3, h4⟩ := code_run k n f c s hk hl hc n (Nat.le_refl _)
  refine ⟨u, by rw [afterN_run]; exact h1, fun i hi => ?_⟩
  unfold outL
  by_cases e : k = 1
  · subst e; rw [if_pos rfl, hv_one]; exact h3 0 (by omega)
  · rw [if_neg e]; exact h4 e i hi
/-- what each instruction is like -/
def Fine (R k : Nat) (i : Ins) : Prop := mayB i.op i.to i.a i.b i.c R = true ∧ i.op ≠ 6 ∧ i.op ≠ 8 ∧ (i.op = 5 → -16 ≤ i.c ∧ i.c ≤ 16) ∧ (i.op = 7 → i.c ≤ 4)
theorem fine_one {R k : Nat} (op c : Int) (t a : Nat) (ht : t < R) (ha : a < R) (h : ((op = 1 ∨ op = 2) ∧ c = 0) ∨ (op = 7 ∧ 1 ≤ c ∧ c ≤ 4) ∨ (op = 5 ∧ c ≠ 0 ∧ -16 ≤ c ∧ c ≤ 16)) : Fine R k ⟨op, t, a, 0, c⟩ := by
  refine ⟨?_, by dsimp only; omega, by dsimp only; omega, fun e => ?_, fun e => ?_⟩
  · rw [mayB_iff]
    dsimp only
    refine ⟨by omega, by omega, by omega, by omega, fun e => rfl, ?_, by omega, by omega, fun e => ?_⟩
    · rcases h with ⟨h, rfl⟩ | ⟨rfl, h1, h2⟩ | ⟨rfl, h0, h1, h2⟩
      · rw [constB_else (by omega) (by omega)]; rfl
      · rw [constB_shift (.inl rfl)]; exact decide_eq_true (by omega)
      · rw [constB_mul (.inl rfl)]; exact decide_eq_true (by omega)
    · unfold twoB at e; have := of_decide_eq_true e; omega
  · dsimp only at e; dsimp only; omega
  · dsimp only at e; dsimp only; omega
theorem fine_times {R k : Nat} (t a : Nat) (c : Int) (ht : t < R) (ha : a < R) (hc : Smn c) : Fine R k (timesI t a c) := by
  unfold Smn at hc
  unfold timesI
  repeat' split
  all_goals exact fine_one _ _ t a ht ha (by omega)
theorem fine_addI {R k : Nat} {i : Ins} (h : Fine R k i) : ∀ x ∈ addI i, Fine R k x := by
  intro x hx
  unfold addI at hx
  split at hx
  · simp at hx
  · simp at hx; subst hx; exact h
theorem fine_scaled {R k : Nat} (t : Nat) (c : Int) (ht : t < R) (hc : Smn c) : ∀ (n a : Nat), a < R → ∀ x ∈ scaledL t n a c, Fine R k x := by
  intro n
  induction n with
  | zero => intro a _ x hx; simp [scaledL] at hx
  | succ n ih =>
    intro a ha x hx
    rcases List.mem_append.1 hx with h | h
    · exact fine_addI (fine_times t a c ht ha hc) x h
    · exact ih t ht x h
theorem fine_two {R k : Nat} (op : Int) (t a b : Nat) (h : op = 3 ∨ op = 4) (ht : t < R) (ha : a < R) (hb : b < R) : Fine R k ⟨op, t, a, b, 0⟩ := by
  refine ⟨?_, by dsimp only; omega, by dsimp only; omega, fun e => ?_, fun e => ?_⟩
  · rw [mayB_iff]
    dsimp only
    refine ⟨by omega, by omega, by omega, by omega, fun e => (by unfold twoB at e; have := of_decide_eq_false e; omega), ?_, by omega, by omega, fun _ => ⟨by omega, by omega⟩⟩
    rw [constB_else (by omega) (by omega)]; rfl
  · dsimp only at e; omega
  · dsimp only at e; omega
theorem fine_addN {R k : Nat} (t j term n : Nat) (b : Int) (ht : t < R) (hj : j < R) (hm : term < R) (hb : b ≠ 0) (hb2 : -16 ≤ b ∧ b ≤ 16) : ∀ x ∈ addN t j b term n, Fine R k x := by
  intro x hx
  unfold addN at hx
  split at hx
  · simp at hx; subst hx; exact fine_two 3 t t j (.inl rfl) ht ht hj
  split at hx
  · simp at hx; subst hx; exact fine_two 4 t t j (.inr rfl) ht ht hj
  · rcases List.mem_append.1 hx with h | h
    · exact fine_scaled term b hm ⟨hb, hb2⟩ n j hj x h
    · simp at h; subst h; exact fine_two 3 t t term (.inl rfl) ht ht hm
theorem fine_horn {R k : Nat} (t term : Nat) (a b : Int) (ht : t < R) (hm : term < R) (hk : k < R) (ha : Smn a) (hb : Smn b) : ∀ s, ∀ x ∈ hornL k t term a b s, Fine R k x := by
  intro s
  induction s with
  | zero => intro x hx; simp [hornL] at hx
  | succ s ih =>
    intro x hx
    unfold hornL at hx
    rw [show (if s = 0 then ((k - 1 : Nat) : Int) else (t : Int)) = ((if s = 0 then k - 1 else t : Nat) : Int) by split <;> rfl] at hx
    rcases List.mem_append.1 hx with h | h
    · exact ih x h
    rcases List.mem_append.1 h with h | h
    · exact fine_addI (fine_times t _ a ht (by split <;> omega) ha) x h
    · exact fine_addN t _ term _ b ht (by omega) hm hb.1 hb.2 x h
theorem fine_point {R k : Nat} (t term : Nat) (q : Int × Int) (ht : t < R) (hm : term < R) (hk : k < R) (hq : Pt.PIn q.1 q.2) : ∀ x ∈ pointL k t term q, Fine R k x := by
  intro x hx
  obtain ⟨q1, q2⟩ := q
  unfold Pt.PIn at hq
  unfold pointL at hx
  split at hx
  · simp at hx
  split at hx
  · simp at hx; subst hx; exact fine_two 4 t 0 0 (.inr rfl) ht (by omega) (by omega)
  rename_i h0
  split at hx
  · rename_i ha
    exact fine_scaled t q2 ht ⟨fun e => h0 ⟨ha, e⟩, hq.2.2⟩ _ 0 (by omega) x hx
  rename_i ha
  split at hx
  · exact fine_scaled t q1 ht ⟨ha, hq.1, hq.2.1⟩ _ _ (by omega) x hx
  rename_i hb
  exact fine_horn t term q1 q2 ht hm hk ⟨ha, hq.1, hq.2.1⟩ ⟨hb, hq.2.2⟩ _ x hx
theorem fine_code {k n : Nat} (f : Nat → Int × Int) (hq : ∀ i, i < n → Pt.PIn (f i).1 (f i).2) : ∀ i, i ≤ n → ∀ x ∈ codeL k n f i, Fine (k + n + 1) k x := by
  intro i
  induction i with
  | zero => intro _ x hx; simp [codeL] at hx
  | succ i ih =>
    intro hi x hx
    rcases List.mem_append.1 hx with h | h
    · exact ih (by omega) x h
    · exact fine_point (k + i) (k + n) (f i) (by omega) (by omega) (by omega) (hq i (by omega)) x h
theorem addI_le (i : Ins) : (addI i).length ≤ 1 := by unfold addI; split <;> simp
theorem scaled_le (t c : Int) : ∀ (n : Nat) (a : Int), (scaledL t n a c).length ≤ n := by
  intro n
  induction n with
  | zero => intro a; simp [scaledL]
  | succ n ih =>
    intro a
    unfold scaledL
    rw [List.length_append]
    have := addI_le (timesI t a c)
    have := ih t
    omega
theorem addN_le (t j b term : Int) (n : Nat) : (addN t j b term n).length ≤ n + 1 := by
  unfold addN
  split
  · simp
  split
  · simp
  · rw [List.length_append]
    have := scaled_le term b n j
    simp; omega
theorem horn_le (k : Nat) (t term a b : Int) : ∀ s, (hornL k t term a b s).length * 2 ≤ s * (s + 5) := by
  intro s
  induction s with
  | zero => simp [hornL]
  | succ s ih =>
    unfold hornL
    rw [List.length_append, List.length_append]
    have h1 := addI_le (timesI t (if s = 0 then ((k - 1 : Nat) : Int) else t) a)
    have h2 := addN_le t ((k - 2 - s : Nat) : Int) b term (s + 1)
    have h3 : (s + 1) * (s + 1 + 5) = s * (s + 5) + 2 * s + 6 := by grind
    omega
theorem point_le (k : Nat) (t term : Int) (q : Int × Int) (hk : 1 ≤ k) : (pointL k t term q).length * 2 ≤ k * (k + 3) := by
  obtain ⟨m, rfl⟩ : ∃ m, k = m + 1 := ⟨k - 1, by omega⟩
  have h3 : (m + 1) * (m + 1 + 3) = m * (m + 5) + 4 := by grind
  have h4 : 2 * m ≤ m * (m + 5) := by
    have : m * 2 ≤ m * (m + 5) := Nat.mul_le_mul (Nat.le_refl _) (by omega)
    omega
  unfold pointL
  split
  · simp
  split
  · simp; omega
  split
  · have := scaled_le t q.2 (m + 1 - 1) 0; omega
  split
  · have := scaled_le t q.1 (m + 1 - 1) ((m + 1 - 1 : Nat) : Int); omega
  · have := horn_le (m + 1) t term q.1 q.2 (m + 1 - 1)
    rw [show m + 1 - 1 = m by omega] at this ⊢
    omega
theorem code_le (k n : Nat) (f : Nat → Int × Int) (hk : 1 ≤ k) : ∀ i, (codeL k n f i).length * 2 ≤ i * (k * (k + 3)) := by
  intro i
  induction i with
  | zero => simp [codeL]
  | succ i ih =>
    unfold codeL
    rw [List.length_append, Nat.succ_mul]
    have := point_le k ((k + i : Nat) : Int) ((k + n : Nat) : Int) (f i) hk
    omega
/-- the program may be -/
theorem code_ok {k n : Nat} {f : Nat → Int × Int} (hk : 1 ≤ k) (hk8 : k ≤ 8) (hn : 1 ≤ n) (hn15 : n ≤ 15) (hq : ∀ i, i < n → Pt.PIn (f i).1 (f i).2) : ProgOk k (k + n + 1 : Nat) (codeL k n f n) (outsL k n) := by
  have h1 := code_le k n f hk n
  have h2 : k * (k + 3) ≤ 8 * 11 := Nat.mul_le_mul hk8 (by omega)
  have h3 : n * (k * (k + 3)) ≤ 15 * (8 * 11) := Nat.mul_le_mul hn15 h2
  refine ⟨by omega, by omega, by omega, by omega, by rw [outsL_len]; omega, by rw [outsL_len]; omega, fun i hi => ?_, fun i hi => ?_⟩
  · rw [outsL_len] at hi
    rw [outsL_get hi]
    unfold outL
    split <;> omega
  · have e : (codeL k n f n).getD i default = (codeL k n f n)[i] := by simp [hi]
    rw [e]
    exact (fine_code f hq n (Nat.le_refl _) _ (List.getElem_mem hi)).1
end Go.Proofs.YtdllbdfchloijaaGreatDoor

/- the coefficients of a product, plain; numbers that came in are of 64 bits. -/
namespace Go.Proofs.YtdllbdfchloijaaGreatDoor
open Num
set_option linter.unusedVariables false
set_option linter.unusedSimpArgs false
theorem rowI_bdE {w : World} {v : Value} {l : List Int} (h : RowI w v l) : ∀ j, Bd 64 (l.getD j 0) := fun j => by
  obtain ⟨a, c, -, h⟩ := h
  by_cases hj : j < l.length
  · obtain ⟨b, off, -, -, h5⟩ := h j hj
    unfold I64 at h5; unfold Bd; omega
  · rw [List.getD_eq_getElem?_getD, List.getElem?_eq_none (by omega)]; exact bd_zero
end Go.Proofs.YtdllbdfchloijaaGreatDoor

/- Arguments as they come in, whatever their bulk: rows of int64, each of which lies in memory. -/
namespace Go.Proofs.YtdllbdfchloijaaGreatDoor
open Go.ChangeShapes Go.WideShapes Go.ChangeAt Go.RowKit Go.Joins Go.Deep
set_option linter.unusedVariables false
set_option linter.unusedSimpArgs false
section
variable {H : Type} {enc : TypeId × Value → H} {W : World} {b0 : Nat} {r : Reach} {v : Value} {d : DataW H} {p : List MemPlace}
theorem bytes_i64 : Tryz.prog.bytesOf 2 = 8 := by kernel_rfl
set_option maxRecDepth 100000 in
/-- a list of int64s that came in -/
theorem open_i64row_w (hv : Value.okWide Tryz.prog W r b0 42 v) (h : DataW.Trod enc Tryz.prog W 0 (fun _ => true) true 42 v d p) (hw : ∀ n ∈ d.weights Tryz.prog 42, n ≤ reachBytes) :
    ∃ l, RowI W v l ∧ l.length ≤ 1152921504606846976 := by
  obtain ⟨a, n, cap, rfl⟩ := okWide_slice Tryz.underlying42 hv
  obtain ⟨fuel, hf⟩ := h
  rcases open_ints Tryz.underlying42 Tryz.underlying2 (by kernel_rfl) hf with ⟨hcs, hx⟩ | ⟨a', len, c, zs, hcs, _, hl, hm, hz, hx, hc, hwf⟩
  · simp [Value.cells] at hcs
    obtain ⟨rfl, rfl, rfl⟩ := hcs
    exact ⟨[], ⟨_, _, rfl, fun k hk => absurd hk (by simp)⟩, by simp⟩
  · simp [Value.cells] at hcs
    obtain ⟨rfl, rfl, rfl⟩ := hcs
    simp only [if_true] at hz
    simp only [Prod.mk.injEq] at hx
    have hlen : (zs.take n).length = n := by rw [List.length_take]; omega
    refine ⟨zs.take n, ⟨_, _, by rw [hlen], fun k hk => ?_⟩, ?_⟩
    · rw [hlen] at hk
      obtain ⟨b, o, rfl⟩ := plain_at (hc 0 (by omega))
      have h9 := hc k (by omega)
      rw [add_plain] at h9
      have e2 : (zs.take n).getD k 0 = zs.getD k 0 := by rw [List.getD_eq_getElem?_getD, List.getD_eq_getElem?_getD, List.getElem?_take_of_lt hk]
      rw [e2]
      refine ⟨b, o, rfl, h9, i64_of (hwf _ ?_)⟩
      rw [List.getD_eq_getElem?_getD, List.getElem?_eq_getElem (by omega)]
      exact List.getElem_mem _
    · have hmem : ((lits (H := H) .i64 (zs.take n)).length + (lits (H := H) .i64 (zs.drop n)).length) * Tryz.prog.bytesOf 2 ∈ d.weights Tryz.prog 42 := by
        rw [hx.1]
        simp only [DataW.weights, Tryz.underlying42]
        exact List.mem_cons.2 (.inl rfl)
      have h8 := hw _ hmem
      have h9 := reachBytes_lt
      rw [bytes_i64] at h8
      simp only [lits, List.length_map] at h8
      rw [hlen] at h8 ⊢
      omega
end
end Go.Proofs.YtdllbdfchloijaaGreatDoor

