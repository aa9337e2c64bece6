/- EvalRuns: the program that evaluates, run on any coefficients, answers their values; of a scheme that is what its matrix makes of them. -/
import Derived.Test.YtdllbdfchloijaaGreatDoorV22
import Derived.Test.YtdllbdfchloijaaGreatDoorV26
import Derived.Test.YtdllbdfchloijaaGreatDoorV23
import Derived.Test.YtdllbdfchloijaaGreatDoorV15
import Derived.Test.YtdllbdfchloijaaGreatDoorV13
import Derived.Test.YtdllbdfchloijaaGreatDoorV28
import Derived.Test.YtdllbdfchloijaaGreatDoorV29
set_option linter.unusedVariables false
set_option linter.unusedSimpArgs false
namespace Go.Proofs.YtdllbdfchloijaaGreatDoor
open Pt
open Num
open Go.ChangeShapes Go.WideShapes Go.ChangeAt Go.RowKit
set_option linter.unusedVariables false
set_option linter.unusedSimpArgs false
attribute [local go_sem ↓] Go.wp_at_zero Go.wp_at_succ
/-- what the matrix of powers makes of coefficients: their values -/
theorem apply_pw {n P : Nat} {f : Nat → Int × Int} {l : List Int} (hl : l.length = P) : applyG (pwG n P f) l = valsL l n f := by
  refine list_ext (d := 0) (by rw [valsL_len]; simp [applyG, pwG_len]) fun i hi => ?_
  have hi2 : i < n := by simpa [applyG, pwG_len] using hi
  rw [app_get (by rw [pwG_len]; exact hi2), valsL_at hi2, dotL_isum _ _ (by rw [pwG_row hi2, hl]), pwG_row hi2]
  unfold hvL Det.hv
  rw [hl]
  refine Det.isum_congr fun t ht => ?_
  rw [pwG_at hi2 ht, Int.mul_comm]; rfl
theorem exRunOk_c (k n : Nat) (f : Nat → Int × Int) (ca oa : Option Addr) (cc oc : Nat) (v : Value) (l : List Int) (K : Nat) (w : World) (hc : InsV w ca cc (codeL k n f n)) (ho : IntsV w oa oc (outsL k n)) (hv : PRow 0 w v l) (hl : l.length = k) (hk : 1 ≤ k) (hk8 : k ≤ 8) (hp : PtsOk n f) (hb : ∀ j, Bd K (l.getD j 0)) (hK : K ≤ 2147483648) :
    Calls Tryz.prog 26 #[.agg #[.int .i64 (k : Int), .int .i64 ((k + n + 1 : Nat) : Int), .slice ca (codeL k n f n).length cc, .slice oa (outsL k n).length oc], v] w fun e w' => (∃ a c, e = .returned (.tuple #[.slice a n c, .int .i64 0, .int .i64 0]) ∧ PRow 0 w' (.slice a n c) (valsL l n f)) ∧ Below w.heap.size w w' := by
  have hok := code_ok hk hk8 hp.1 hp.2.1 hp.2.2
  obtain ⟨u, h6, h7⟩ := outs_run k n f (fun i => l.getD i 0) (startN l (k + n + 1)) hk (by rw [startN_len (by omega)]) (fun j hj => startN_lt (by omega))
  refine (exRun_c k _ ca oa cc oc _ _ v l K w hc ho hv (by omega) hb hK).mono ?_
  rintro e w' ⟨h1 | h1 | h1 | ⟨_, _, s, va, h3, h4, h5⟩, hbel⟩
  · exact absurd hok h1.1
  · exact absurd (by rw [hl]) h1.2.1
  · obtain ⟨_, _, m, s, hm, _, h2, _⟩ := h1
    rw [Int.toNat_natCast] at h2
    have := afterN_mono h2 (show m + 1 ≤ (codeL k n f n).length by omega)
    rw [h6] at this; cases this
  · rw [Int.toNat_natCast, h6] at h3
    cases h3
    have he : outsN (outsL k n) u = valsL l n f := by
      refine list_ext (d := 0) (by rw [valsL_len]; simp [outsN, outsL_len]) fun i hi => ?_
      have hi2 : i < n := by simpa [outsN, outsL_len] using hi
      rw [valsL_at hi2, show (outsN (outsL k n) u).getD i 0 = u.getD ((outsL k n).getD i 0).toNat 0 by simp [outsN, outsL_len, hi2], outsL_get hi2, h7 i hi2]
      unfold hvL; rw [hl]
    have hlen : (outsL k n).length = (outsN (outsL k n) u).length := by simp [outsN]
    rw [hlen] at h5
    have hr := (OwnF.rowO h5).row.rebase (Nat.zero_le _)
    rw [he] at hr
    obtain ⟨a, c, rfl, _⟩ := hr.view
    rw [valsL_len] at h4
    exact ⟨⟨a, c, h4, by have := hr; rw [valsL_len] at this; exact this⟩, hbel⟩
set_option maxRecDepth 100000 in
set_option maxHeartbeats 2000000 in
theorem alike1_y (vx vy : Value) (x : Int) (w : World) (hx : IsInt w vx x) (hy : IsInt w vy x) :
    Calls Tryz.prog 64 #[vx, vy] w fun e w' => e = .returned (.bool true) ∧ Below w.heap.size w w' := by
  have CC := Lib.hid (fun V (q : Below w.heap.size w V) => cmpE_c vx vy x x V (hx.keep q) (hy.keep q) rfl)
  obtain ⟨n1, a1, k1, c1, rfl⟩ := hx.litE
  obtain ⟨n2, a2, k2, c2, rfl⟩ := hy.litE
  clear hx hy
  have hB := Below.refl w.heap.size w
  go_enter Tryz.func64, Tryz.ntmps64
  go_wp2_with fail
  (with_reducible refine (CC.out _ ?_).mono ?_); (repeat (first | exact Below.refl _ _ | exact hB | refine Below.drew ?_ | refine below_drewN ?_ _ | refine bset ?_ (by simp <;> omega) _ | refine bal ?_ _))
  rintro e w1 ⟨rfl, hb1⟩
  have hB1 : Below w.heap.size w w1 := bthen (by repeat (first | exact Below.refl _ _ | exact hB | refine Below.drew ?_ | refine below_drewN ?_ _ | refine bset ?_ (by simp <;> omega) _ | refine bal ?_ _)) hb1
  clear CC hb1
  go_wp2
  go_ret
  exact ⟨rfl, by repeat (first | exact Below.refl _ _ | exact hB1 | refine Below.drew ?_ | refine below_drewN ?_ _ | refine bset ?_ (by simp <;> omega) _ | refine bal ?_ _)⟩
set_option maxRecDepth 100000 in
set_option maxHeartbeats 8000000 in
theorem eqI_y (va vb : Value) (l : List Int) (n : Nat) (w : World) (ha : PRow 0 w va l) (hb : PRow 0 w vb l) (hl : l.length = n) (hn : n ≤ 4611686018427387904) :
    Calls Tryz.prog 63 #[va, vb, .func (.func 64) #[] #[]] w fun e w' => e = .returned (.bool true) ∧ Below w.heap.size w w' := by
  have HA := Lib.hid ha
  have HBB := Lib.hid hb
  have HL := Lib.hid hl
  obtain ⟨aa, ca, rfl, -⟩ := ha
  obtain ⟨ab, cb, rfl, -⟩ := hb
  rw [hl] at HA HBB ⊢
  clear hl
  have hB := Below.refl w.heap.size w
  have hnn : ((n : Int) != (n : Int)) = false := by simp
  go_enter Tryz.func63, Tryz.ntmps63
  go_wp2
  go_loopw [17] (fun x wr => ∃ j : Nat, j ≤ n ∧ x = .int .i64 j ∧ Below w.heap.size w wr) (fun x _ => n - (intOf x).toNat)
  case atStart => exact ⟨0, Nat.zero_le _, rfl, hB⟩
  case round =>
    obtain ⟨j, hj, rfl, hBr⟩ := hrel
    by_cases hlt : j < n
    · have hltI : (j : Int) < (n : Int) := by omega
      obtain ⟨_, _, ez, -, vr⟩ := (IsRow.keep lims_int HA.out hBr).view
      obtain ⟨rfl, -, rfl⟩ := Value.slice.inj ez
      obtain ⟨b3, o3, xn, xd, xl, xk, rfl, x0, x1, hxi⟩ := vr j (by rw [HL.out]; exact hlt)
      obtain ⟨_, _, ez2, -, vr2⟩ := (IsRow.keep lims_int HBB.out hBr).view
      obtain ⟨rfl, -, rfl⟩ := Value.slice.inj ez2
      obtain ⟨b4, o4, yn, yd, yl, yk, rfl, y0, y1, hyi⟩ := vr2 j (by rw [HL.out]; exact hlt)
      have KC := Lib.hid (fun W (q : Below wr.heap.size wr W) => alike1_y _ _ _ W (hxi.keep q) (hyi.keep q))
      have zx := cell_lt x0
      have zy := cell_lt y0
      have hBw := Below.refl wr.heap.size wr
      clear hxi hyi vr vr2 ez ez2
      go_wp2_with fail
      (with_reducible refine (KC.out _ ?_).mono ?_); (repeat (first | exact Below.refl _ _ | exact hBw | refine Below.drew ?_ | refine below_drewN ?_ _ | refine bset ?_ (by simp <;> omega) _ | refine bal ?_ _))
      rintro e w5 ⟨rfl, hb5⟩
      have hB5 := bthen hBr (bthen (show Below wr.heap.size wr _ by repeat (first | exact Below.refl _ _ | exact hBw | refine Below.drew ?_ | refine below_drewN ?_ _ | refine bset ?_ (by simp <;> omega) _ | refine bal ?_ _)) hb5)
      clear KC
      go_wp2
      exact ⟨⟨j + 1, hlt, by go_num, hB5⟩, meas hlt (by go_num) rfl⟩
    · obtain rfl : j = n := by omega
      go_wp2
      go_ret
      exact ⟨rfl, hBr⟩
set_option maxRecDepth 100000 in
set_option maxHeartbeats 2000000 in
theorem alike_y (a b : Option Addr) (ca cb : Nat) (l : List Int) (n : Nat) (w : World) (ha : PRow 0 w (.slice a n ca) l) (hb : PRow 0 w (.slice b n cb) l) (hl : l.length = n) (hn : n ≤ 4611686018427387904) :
    Calls Tryz.prog 28 #[.slice a n ca, .slice b n cb] w fun e w' => e = .returned (.bool true) ∧ Below w.heap.size w w' := by
  have KC := Lib.hid (fun W (q : Below w.heap.size w W) => eqI_y _ _ l n W (prow_keep ha q) (prow_keep hb q) hl hn)
  clear ha hb hl
  have hB := Below.refl w.heap.size w
  go_enter Tryz.func28, Tryz.ntmps28
  go_wp2_with fail
  (with_reducible refine (KC.out _ ?_).mono ?_); (repeat (first | exact Below.refl _ _ | exact hB | refine Below.drew ?_ | refine below_drewN ?_ _ | refine bset ?_ (by simp <;> omega) _ | refine bal ?_ _))
  rintro e w1 ⟨rfl, hb1⟩
  have hB1 : Below w.heap.size w w1 := bthen (by repeat (first | exact Below.refl _ _ | exact hB | refine Below.drew ?_ | refine below_drewN ?_ _ | refine bset ?_ (by simp <;> omega) _ | refine bal ?_ _)) hb1
  clear KC hb1
  go_wp2
  go_ret
  exact ⟨rfl, by repeat (first | exact Below.refl _ _ | exact hB1 | refine Below.drew ?_ | refine below_drewN ?_ _ | refine bset ?_ (by simp <;> omega) _ | refine bal ?_ _)⟩
section
variable {w w0 : World} {a : Option Addr} {cap B : Nat}
theorem InsV.far4 {L : List Ins} (h : InsV w a cap L) (hq : ∀ p, a = some p → p.block ≠ B) (v0 v1 v2 v3 : Value) : InsV ((((w.setCell ⟨B, 0, none⟩ v0).setCell ⟨B, 1, none⟩ v1).setCell ⟨B, 2, none⟩ v2).setCell ⟨B, 3, none⟩ v3) a cap L :=
  InsV.far (InsV.far (InsV.far (InsV.far h (q := ⟨B, 0, none⟩) hq v0) (q := ⟨B, 1, none⟩) hq v1) (q := ⟨B, 2, none⟩) hq v2) (q := ⟨B, 3, none⟩) hq v3
theorem IntsV.far4 {L : List Int} (h : IntsV w a cap L) (hq : ∀ p, a = some p → p.block ≠ B) (v0 v1 v2 v3 : Value) : IntsV ((((w.setCell ⟨B, 0, none⟩ v0).setCell ⟨B, 1, none⟩ v1).setCell ⟨B, 2, none⟩ v2).setCell ⟨B, 3, none⟩ v3) a cap L :=
  IntsV.far (IntsV.far (IntsV.far (IntsV.far h (q := ⟨B, 0, none⟩) hq v0) (q := ⟨B, 1, none⟩) hq v1) (q := ⟨B, 2, none⟩) hq v2) (q := ⟨B, 3, none⟩) hq v3
theorem below_far4 (h : Below w0.heap.size w0 w) (hB : w0.heap.size ≤ B) (v0 v1 v2 v3 : Value) : Below w0.heap.size w0 ((((w.setCell ⟨B, 0, none⟩ v0).setCell ⟨B, 1, none⟩ v1).setCell ⟨B, 2, none⟩ v2).setCell ⟨B, 3, none⟩ v3) :=
  bset (bset (bset (bset h (p := ⟨B, 0, none⟩) hB v0) (p := ⟨B, 1, none⟩) hB v1) (p := ⟨B, 2, none⟩) hB v2) (p := ⟨B, 3, none⟩) hB v3
end
theorem InsV.nilA {w : World} {a : Option Addr} {c : Nat} {L : List Ins} (h : InsV w a c L) : a = none → L = [] := fun e => by
  rcases h with h | ⟨b, o, h1, _⟩
  · exact h
  · rw [e] at h1; cases h1
theorem IntsV.nilA {w : World} {a : Option Addr} {c : Nat} {L : List Int} (h : IntsV w a c L) : a = none → L = [] := fun e => by
  rcases h with h | ⟨b, o, h1, _⟩
  · exact h
  · rw [e] at h1; cases h1
set_option maxRecDepth 100000 in
set_option maxHeartbeats 4000000 in
theorem copied11_c (ins regs : Int) (ca oa : Option Addr) (cc oc : Nat) (code : List Ins) (outs : List Int) (nc no : Nat) (w : World) (hc : InsV w ca cc code) (ho : IntsV w oa oc outs) (hnc : code.length = nc) (hno : outs.length = no) (h1 : nc ≤ 1099511627776) (h2 : no ≤ 1099511627776) :
    Calls Tryz.prog 27 #[.agg #[.int .i64 ins, .int .i64 regs, .slice ca nc cc, .slice oa no oc]] w fun e w' => (∃ ca' cc' oa' oc', e = .returned (.agg #[.int .i64 ins, .int .i64 regs, .slice ca' nc cc', .slice oa' no oc']) ∧ InsV w' ca' cc' code ∧ IntsV w' oa' oc' outs) ∧ Below w.heap.size w w' := by
  have K := Lib.hid (fun W (h : Below w.heap.size w W) => copy_c ins regs ca oa cc oc code outs W (hc.keep h) (ho.keep h) hc.nilA ho.nilA (by omega) (by omega))
  rw [hnc, hno] at K
  clear hc ho h1 h2 hnc hno
  have hB := Below.refl w.heap.size w
  go_enter Tryz.func27, Tryz.ntmps27
  go_wp2_with fail
  (with_reducible refine (K.out _ ?_).mono ?_); (repeat (first | exact Below.refl _ _ | exact hB | refine Below.drew ?_ | refine below_drewN ?_ _ | refine bset ?_ (by simp <;> omega) _ | refine bal ?_ _))
  rintro e w1 ⟨⟨a3, c3, a4, c4, rfl, hv3, hv4, hf3, hf4⟩, hb1⟩
  have r0 : w1.cell? ⟨w.heap.size + 1, 0, none⟩ = some (.int .i64 0) := bkc hb1
  have zr0 := cell_lt r0
  have r0f : w1.frozen? ⟨w.heap.size + 1, 0, none⟩ = false := bkcf (v := .int .i64 0) hb1
  have r1 : w1.cell? ⟨w.heap.size + 1, 1, none⟩ = some (.int .i64 0) := bkc hb1
  have r1f : w1.frozen? ⟨w.heap.size + 1, 1, none⟩ = false := bkcf (v := .int .i64 0) hb1
  have r2 : w1.cell? ⟨w.heap.size + 1, 2, none⟩ = some (.slice none 0 0) := bkc hb1
  have r2f : w1.frozen? ⟨w.heap.size + 1, 2, none⟩ = false := bkcf (v := .slice none 0 0) hb1
  have r3 : w1.cell? ⟨w.heap.size + 1, 3, none⟩ = some (.slice none 0 0) := bkc hb1
  have r3f : w1.frozen? ⟨w.heap.size + 1, 3, none⟩ = false := bkcf (v := .slice none 0 0) hb1
  have hB : Below w.heap.size w w1 := bthen (by repeat (first | exact Below.refl _ _ | exact hB | refine Below.drew ?_ | refine below_drewN ?_ _ | refine bset ?_ (by simp <;> omega) _ | refine bal ?_ _)) hb1
  have hz : w.heap.size ≤ w1.heap.size := hB.size
  have n3 := Lib.hid (show ∀ p, a3 = some p → p.block ≠ w.heap.size + 1 from fun p e => by have := (hf3 p e).1; simp at this; omega)
  have n4 := Lib.hid (show ∀ p, a4 = some p → p.block ≠ w.heap.size + 1 from fun p e => by have := (hf4 p e).1; simp at this; omega)
  have HV := Lib.hid (And.intro hv3 hv4)
  clear hf3 hf4 hv3 hv4 K hb1
  go_wp2
  refine bodyPost_ret (v := .agg #[.int .i64 ins, .int .i64 regs, .slice a3 nc c3, .slice a4 no c4]) (by simp [results, Tryz.results27, go_sem, *]) rfl ⟨⟨_, _, _, _, rfl, ?_, ?_⟩, ?_⟩
  · exact InsV.far4 HV.out.1 n3.out _ _ _ _
  · exact IntsV.far4 HV.out.2 n4.out _ _ _ _
  · exact below_far4 hB (Nat.le_succ _) _ _ _ _
set_option maxRecDepth 100000 in
set_option maxHeartbeats 16000000 in
theorem evalRuns_h (k1 k2 : Int) (a : Option Addr) (n cap : Nat) (f : Nat → Int × Int) (va : Value) (l : List Int) (w : World) (h : PtsV w a n cap f) (hx : RowI w va l) (hm : n ≤ 4611686018427387904) (hT : Tz64 w) :
    Calls Tryz.prog 6 #[.int .i64 k1, .int .i64 k2, .slice a n cap, va] w fun e w' => e = .returned (.bool true) ∧ Below w.heap.size w w' := by
  have hB := Below.refl w.heap.size w
  have hBw := Below.refl w.heap.size w
  have HP := Lib.hid h
  have HXI := Lib.hid hx
  have HBI := Lib.hid (rowI_bdE hx)
  have HT := Lib.hid hT
  have WC := Lib.hid (fun V (q : Below w.heap.size w V) => works11_c V (HT.out.keep q))
  obtain ⟨xa, xc, rfl, -⟩ := hx
  obtain ⟨P, hP⟩ : ∃ P, l.length = P := ⟨_, rfl⟩
  have HLN := Lib.hid hP
  rw [hP] at HXI ⊢
  clear h hT hP
  by_cases c1 : P < 1
  · have d1 : decide ((P : Int) < 1) = true := decide_eq_true (by omega)
    go_enter Tryz.func6, Tryz.ntmps6
    go_wp2_with fail
    (with_reducible refine (WC.out _ ?_).mono ?_); (repeat (first | exact Below.refl _ _ | exact hB | refine Below.drew ?_ | refine below_drewN ?_ _ | refine bset ?_ (by simp <;> omega) _ | refine bal ?_ _))
    rintro e w1 ⟨rfl, hb1⟩
    have hB1 : Below w.heap.size w w1 := bthen (by repeat (first | exact Below.refl _ _ | exact hB | refine Below.drew ?_ | refine below_drewN ?_ _ | refine bset ?_ (by simp <;> omega) _ | refine bal ?_ _)) hb1
    clear WC hb1 hB
    go_wp2
    go_ret
    exact ⟨rfl, by repeat (first | exact Below.refl _ _ | exact hB1 | refine Below.drew ?_ | refine below_drewN ?_ _ | refine bset ?_ (by simp <;> omega) _ | refine bal ?_ _)⟩
  have d1 : decide ((P : Int) < 1) = false := decide_eq_false (by omega)
  by_cases c2 : 8 < P
  · have d2 : decide (8 < (P : Int)) = true := decide_eq_true (by omega)
    go_enter Tryz.func6, Tryz.ntmps6
    go_wp2_with fail
    (with_reducible refine (WC.out _ ?_).mono ?_); (repeat (first | exact Below.refl _ _ | exact hB | refine Below.drew ?_ | refine below_drewN ?_ _ | refine bset ?_ (by simp <;> omega) _ | refine bal ?_ _))
    rintro e w1 ⟨rfl, hb1⟩
    have hB1 : Below w.heap.size w w1 := bthen (by repeat (first | exact Below.refl _ _ | exact hB | refine Below.drew ?_ | refine below_drewN ?_ _ | refine bset ?_ (by simp <;> omega) _ | refine bal ?_ _)) hb1
    clear WC hb1 hB
    go_wp2
    go_ret
    exact ⟨rfl, by repeat (first | exact Below.refl _ _ | exact hB1 | refine Below.drew ?_ | refine below_drewN ?_ _ | refine bset ?_ (by simp <;> omega) _ | refine bal ?_ _)⟩
  have d2 : decide (8 < (P : Int)) = false := decide_eq_false (by omega)
  have hp1 : 1 ≤ P := by omega
  have hp8 : P ≤ 8 := by omega
  clear c1 c2
  go_enter Tryz.func6, Tryz.ntmps6
  go_wp2_with fail
  (with_reducible refine (WC.out _ ?_).mono ?_); (repeat (first | exact Below.refl _ _ | exact hB | refine Below.drew ?_ | refine below_drewN ?_ _ | refine bset ?_ (by simp <;> omega) _ | refine bal ?_ _))
  rintro e w1 ⟨rfl, hb1⟩
  have hk : Below w.heap.size w w1 := bthen (by repeat (first | exact Below.refl _ _ | exact hBw | refine Below.drew ?_ | refine below_drewN ?_ _ | refine bset ?_ (by simp <;> omega) _ | refine bal ?_ _)) hb1
  clear hb1 WC hBw hB
  have hB := hk
  have hBw := Below.refl w1.heap.size w1
  clear hk
  have TC := Lib.hid (fun V (qB : Below w1.heap.size w1 V) => list11_c (.slice xa P xc) l V (HXI.out.keep (bthen hB qB)) (by rw [HLN.out]; omega))
  go_wp2_with fail
  (with_reducible refine (TC.out _ ?_).mono ?_); (repeat (first | exact Below.refl _ _ | exact hBw | refine Below.drew ?_ | refine below_drewN ?_ _ | refine bset ?_ (by simp <;> omega) _ | refine bal ?_ _))
  rintro e w2 ⟨⟨vx, rfl, hvx⟩, hb2⟩
  have hk : Below w1.heap.size w1 w2 := bthen (by repeat (first | exact Below.refl _ _ | exact hBw | refine Below.drew ?_ | refine below_drewN ?_ _ | refine bset ?_ (by simp <;> omega) _ | refine bal ?_ _)) hb2
  have hBn := bthen hB hk
  clear TC hBw hB hb2
  have hB := hBn
  clear hBn
  have hBw := Below.refl w2.heap.size w2
  have HX := Lib.hid (show PRow 0 w2 vx l from hvx.row.rebase (Nat.zero_le _))
  obtain ⟨ya, yc, rfl⟩ := hvx.ex
  rw [HLN.out] at HX ⊢
  clear hvx hk
  by_cases hok : PtsOk n f
  rotate_left
  · have HNK := Lib.hid (show ¬ (1 ≤ l.length ∧ l.length ≤ 16 ∧ PtsOk n f) from fun q => hok q.2.2)
    have HNP := Lib.hid (show ¬ (1 ≤ (P : Int) ∧ (P : Int) ≤ 8 ∧ PtsOk n f) from fun q => hok q.2.2)
    clear hok
    have TC := Lib.hid (fun V (qB : Below w2.heap.size w2 V) => values_no (.slice ya P yc) l a n cap f V (IsRow.keep lims_int HX.out qB) (HP.out.keep (bthen hB qB)) hm HNK.out)
    go_wp2_with fail
    (with_reducible refine (TC.out _ ?_).mono ?_); (repeat (first | exact Below.refl _ _ | exact hBw | refine Below.drew ?_ | refine below_drewN ?_ _ | refine bset ?_ (by simp <;> omega) _ | refine bal ?_ _))
    rintro e w3 ⟨rfl, hb3⟩
    have hk : Below w2.heap.size w2 w3 := bthen (by repeat (first | exact Below.refl _ _ | exact hBw | refine Below.drew ?_ | refine below_drewN ?_ _ | refine bset ?_ (by simp <;> omega) _ | refine bal ?_ _)) hb3
    have hBn := bthen hB hk
    clear TC hBw hB hb3
    have hB := hBn
    clear hBn
    have hBw := Below.refl w3.heap.size w3
    clear hk
    have TC := Lib.hid (fun V (qB : Below w3.heap.size w3 V) => program_no (P : Int) a n cap f V (HP.out.keep (bthen hB qB)) hm HNP.out)
    go_wp2_with fail
    (with_reducible refine (TC.out _ ?_).mono ?_); (repeat (first | exact Below.refl _ _ | exact hBw | refine Below.drew ?_ | refine below_drewN ?_ _ | refine bset ?_ (by simp <;> omega) _ | refine bal ?_ _))
    rintro e w4 ⟨rfl, hb4⟩
    have hk : Below w3.heap.size w3 w4 := bthen (by repeat (first | exact Below.refl _ _ | exact hBw | refine Below.drew ?_ | refine below_drewN ?_ _ | refine bset ?_ (by simp <;> omega) _ | refine bal ?_ _)) hb4
    have hBn := bthen hB hk
    clear TC hBw hB hb4
    have hB := hBn
    clear hBn
    have hBw := Below.refl w4.heap.size w4
    clear hk
    have hq : ∀ w, (binOp .eql 43 (.slice none 0 0) (.slice none 0 0)).run Tryz.prog w = .ok (.bool true) w := fun w => Lib.run_eql_slice_nil w 43 50 none 0 0 0 0 Tryz.underlying43
    go_wp2
    go_ret
    exact ⟨rfl, by repeat (first | exact Below.refl _ _ | exact hB | refine Below.drew ?_ | refine below_drewN ?_ _ | refine bset ?_ (by simp <;> omega) _ | refine bal ?_ _)⟩
  have HOK := Lib.hid hok
  clear hok
  have TC := Lib.hid (fun V (qB : Below w2.heap.size w2 V) => values_c (.slice ya P yc) l 64 a n cap f V (IsRow.keep lims_int HX.out qB) (by rw [HLN.out]; exact hp1) (by rw [HLN.out]; omega) (HP.out.keep (bthen hB qB)) HOK.out HBI.out (by decide))
  go_wp2_with fail
  (with_reducible refine (TC.out _ ?_).mono ?_); (repeat (first | exact Below.refl _ _ | exact hBw | refine Below.drew ?_ | refine below_drewN ?_ _ | refine bset ?_ (by simp <;> omega) _ | refine bal ?_ _))
  rintro e w3 ⟨⟨vv, rfl, hvv⟩, hb3⟩
  have hk : Below w2.heap.size w2 w3 := bthen (by repeat (first | exact Below.refl _ _ | exact hBw | refine Below.drew ?_ | refine below_drewN ?_ _ | refine bset ?_ (by simp <;> omega) _ | refine bal ?_ _)) hb3
  have hBn := bthen hB hk
  clear TC hBw hB hb3
  have hB := hBn
  clear hBn
  have hBw := Below.refl w3.heap.size w3
  have HV := Lib.hid (show PRow 0 w3 vv (valsL l n f) from hvv.row.rebase (Nat.zero_le _))
  obtain ⟨za, zc, rfl⟩ := hvv.ex
  have HVL := Lib.hid (valsL_len l n f)
  rw [HVL.out] at HV ⊢
  replace HX := Lib.hid (prow_keep HX.out hk)
  clear hvv hk
  have TC := Lib.hid (fun V (qB : Below w3.heap.size w3 V) => (show Calls Tryz.prog 8 #[.int .i64 (P : Int), .slice a n cap] V (fun e w' => (∃ ca cc oa oc, e = .returned (.tuple #[.agg #[.int .i64 (P : Int), .int .i64 ((P + n + 1 : Nat) : Int), .slice ca (codeL P n f n).length cc, .slice oa (outsL P n).length oc], .int .i64 0]) ∧ InsV w' ca cc (codeL P n f n) ∧ IntsV w' oa oc (outsL P n) ∧ FromA V.heap.size 39 w' ca ∧ FromA V.heap.size 3 w' oa) ∧ Below V.heap.size V w') from program_c P a n cap f V (HP.out.keep (bthen hB qB)) hp1 hp8 HOK.out (HT.out.keep (bthen hB qB))))
  go_wp2_with fail
  (with_reducible refine (TC.out _ ?_).mono ?_); (repeat (first | exact Below.refl _ _ | exact hBw | refine Below.drew ?_ | refine below_drewN ?_ _ | refine bset ?_ (by simp <;> omega) _ | refine bal ?_ _))
  rintro e w4 ⟨⟨ca, cc, oa, oc, rfl, hci, hoi, -, -⟩, hb4⟩
  have hk : Below w3.heap.size w3 w4 := bthen (by repeat (first | exact Below.refl _ _ | exact hBw | refine Below.drew ?_ | refine below_drewN ?_ _ | refine bset ?_ (by simp <;> omega) _ | refine bal ?_ _)) hb4
  have hBn := bthen hB hk
  clear TC hBw hB hb4
  have hB := hBn
  clear hBn
  have hBw := Below.refl w4.heap.size w4
  have HC := Lib.hid (And.intro hci hoi)
  have hn15 : n ≤ 15 := HOK.out.2.1
  have hcl := codeL_le (k := P) (n := n) f hp1 hp8 hn15
  have hol := outsL_len P n
  obtain ⟨nc, hnc⟩ : ∃ x, (codeL P n f n).length = x := ⟨_, rfl⟩
  have HNC := Lib.hid hnc
  rw [hnc] at hcl
  rw [hol, hnc]
  have HOL := Lib.hid hol
  obtain ⟨RR, hRR⟩ : ∃ x, P + n + 1 = x := ⟨_, rfl⟩
  have HRR := Lib.hid hRR
  rw [hRR]
  replace HX := Lib.hid (prow_keep HX.out hk)
  replace HV := Lib.hid (prow_keep HV.out hk)
  clear hci hoi hk hnc hol hRR
  have TC := Lib.hid (fun V (qB : Below w4.heap.size w4 V) => copied11_c (P : Int) (RR : Int) ca oa cc oc _ _ nc n V (HC.out.1.keep qB) (HC.out.2.keep qB) HNC.out HOL.out (by omega) (by have := hn15; omega))
  go_wp2_with fail
  (with_reducible refine (TC.out _ ?_).mono ?_); (repeat (first | exact Below.refl _ _ | exact hBw | refine Below.drew ?_ | refine below_drewN ?_ _ | refine bset ?_ (by simp <;> omega) _ | refine bal ?_ _))
  rintro e w5 ⟨⟨ca5, cc5, oa5, oc5, rfl, hci, hoi⟩, hb5⟩
  have hk : Below w4.heap.size w4 w5 := bthen (by repeat (first | exact Below.refl _ _ | exact hBw | refine Below.drew ?_ | refine below_drewN ?_ _ | refine bset ?_ (by simp <;> omega) _ | refine bal ?_ _)) hb5
  have q0 : w5.cell? ⟨w4.heap.size, 0, none⟩ = some (.int .i64 (P : Int)) := bkc hb5
  have zq0 := cell_lt q0
  have q1 : w5.cell? ⟨w4.heap.size, 1, none⟩ = some (.int .i64 (RR : Int)) := bkc hb5
  have q2 : w5.cell? ⟨w4.heap.size, 2, none⟩ = some (.slice ca nc cc) := bkc hb5
  have q3 : w5.cell? ⟨w4.heap.size, 3, none⟩ = some (.slice oa n oc) := bkc hb5
  have hB : Below w.heap.size w w5 := bthen (by repeat (first | exact Below.refl _ _ | exact hB | refine Below.drew ?_ | refine below_drewN ?_ _ | refine bset ?_ (by simp <;> omega) _ | refine bal ?_ _)) hb5
  have hz : w.heap.size ≤ w5.heap.size := hB.size
  clear TC hBw hb5
  have hBw := Below.refl w5.heap.size w5
  have HC5 := Lib.hid (And.intro hci hoi)
  replace HX := Lib.hid (prow_keep HX.out hk)
  replace HV := Lib.hid (prow_keep HV.out hk)
  clear hci hoi hk HC
  have TC := Lib.hid (fun V (qB : Below w5.heap.size w5 V) => (show Calls Tryz.prog 26 #[.agg #[.int .i64 (P : Int), .int .i64 (RR : Int), .slice ca5 nc cc5, .slice oa5 n oc5], .slice ya P yc] V (fun e w' => (∃ a c, e = .returned (.tuple #[.slice a n c, .int .i64 0, .int .i64 0]) ∧ PRow 0 w' (.slice a n c) (valsL l n f)) ∧ Below V.heap.size V w') from by have := exRunOk_c P n f ca5 oa5 cc5 oc5 (.slice ya P yc) l 64 V (HC5.out.1.keep qB) (HC5.out.2.keep qB) (prow_keep HX.out qB) HLN.out hp1 hp8 HOK.out HBI.out (by decide); rw [HNC.out, HOL.out, HRR.out] at this; exact this))
  go_wp2_with fail
  (with_reducible refine (TC.out _ ?_).mono ?_); (repeat (first | exact Below.refl _ _ | exact hBw | refine Below.drew ?_ | refine below_drewN ?_ _ | refine bset ?_ (by simp <;> omega) _ | refine bal ?_ _))
  rintro e w6 ⟨⟨ra, rc, rfl, hr⟩, hb6⟩
  have hk : Below w5.heap.size w5 w6 := bthen (by repeat (first | exact Below.refl _ _ | exact hBw | refine Below.drew ?_ | refine below_drewN ?_ _ | refine bset ?_ (by simp <;> omega) _ | refine bal ?_ _)) hb6
  have q0 : w6.cell? ⟨w4.heap.size, 0, none⟩ = some (.int .i64 (P : Int)) := bkc hb6
  have zq0 := cell_lt q0
  have q1 : w6.cell? ⟨w4.heap.size, 1, none⟩ = some (.int .i64 (RR : Int)) := bkc hb6
  have q2 : w6.cell? ⟨w4.heap.size, 2, none⟩ = some (.slice ca nc cc) := bkc hb6
  have q3 : w6.cell? ⟨w4.heap.size, 3, none⟩ = some (.slice oa n oc) := bkc hb6
  have hB : Below w.heap.size w w6 := bthen (by repeat (first | exact Below.refl _ _ | exact hB | refine Below.drew ?_ | refine below_drewN ?_ _ | refine bset ?_ (by simp <;> omega) _ | refine bal ?_ _)) hb6
  have hz : w.heap.size ≤ w6.heap.size := hB.size
  clear TC hBw hb6
  have hBw := Below.refl w6.heap.size w6
  have HR := Lib.hid hr
  replace HX := Lib.hid (prow_keep HX.out hk)
  replace HV := Lib.hid (prow_keep HV.out hk)
  clear hr hk HC5
  have TC := Lib.hid (fun V (qB : Below w6.heap.size w6 V) => alike_y za ra zc rc (valsL l n f) n V (prow_keep HV.out qB) (prow_keep HR.out qB) HVL.out hm)
  go_wp2_with fail
  (with_reducible refine (TC.out _ ?_).mono ?_); (repeat (first | exact Below.refl _ _ | exact hBw | refine Below.drew ?_ | refine below_drewN ?_ _ | refine bset ?_ (by simp <;> omega) _ | refine bal ?_ _))
  rintro e w7 ⟨rfl, hb7⟩
  have hk : Below w6.heap.size w6 w7 := bthen (by repeat (first | exact Below.refl _ _ | exact hBw | refine Below.drew ?_ | refine below_drewN ?_ _ | refine bset ?_ (by simp <;> omega) _ | refine bal ?_ _)) hb7
  have q0 : w7.cell? ⟨w4.heap.size, 0, none⟩ = some (.int .i64 (P : Int)) := bkc hb7
  have zq0 := cell_lt q0
  have q1 : w7.cell? ⟨w4.heap.size, 1, none⟩ = some (.int .i64 (RR : Int)) := bkc hb7
  have q2 : w7.cell? ⟨w4.heap.size, 2, none⟩ = some (.slice ca nc cc) := bkc hb7
  have q3 : w7.cell? ⟨w4.heap.size, 3, none⟩ = some (.slice oa n oc) := bkc hb7
  have hB : Below w.heap.size w w7 := bthen (by repeat (first | exact Below.refl _ _ | exact hB | refine Below.drew ?_ | refine below_drewN ?_ _ | refine bset ?_ (by simp <;> omega) _ | refine bal ?_ _)) hb7
  have hz : w.heap.size ≤ w7.heap.size := hB.size
  clear TC hBw hb7
  have hBw := Below.refl w7.heap.size w7
  replace HX := Lib.hid (prow_keep HX.out hk)
  replace HV := Lib.hid (prow_keep HV.out hk)
  clear hk HR
  have NC := Lib.hid (fun V (q : Below w7.heap.size w7 V) => newS_c k1 k2 a n cap f V (HP.out.keep (bthen hB q)) hm)
  go_wp2_with fail
  (with_reducible refine (NC.out _ ?_).mono ?_); (repeat (first | exact Below.refl _ _ | exact hBw | refine Below.drew ?_ | refine below_drewN ?_ _ | refine bset ?_ (by simp <;> omega) _ | refine bal ?_ _))
  intro e w8 hN
  obtain ⟨hN, hb8⟩ := hN
  have hk : Below w7.heap.size w7 w8 := bthen (by repeat (first | exact Below.refl _ _ | exact hBw | refine Below.drew ?_ | refine below_drewN ?_ _ | refine bset ?_ (by simp <;> omega) _ | refine bal ?_ _)) hb8
  replace HX := Lib.hid (prow_keep HX.out hk)
  replace HV := Lib.hid (prow_keep HV.out hk)
  have hBn := bthen hB hk
  clear hB hBw NC hb8 hk q0 q1 q2 q3
  have hB := hBn
  clear hBn
  rcases hN with ⟨no, -, hne, rfl⟩ | ⟨hS, b, rfl, hs⟩
  · have hI : (no != 0) = true := by simpa using hne
    go_wp2
    go_ret
    exact ⟨rfl, by repeat (first | exact Below.refl _ _ | exact hB | refine Below.drew ?_ | refine below_drewN ?_ _ | refine bset ?_ (by simp <;> omega) _ | refine bal ?_ _)⟩
  have HS := Lib.hid hS
  have HSA := Lib.hid hs
  obtain ⟨p, hp⟩ := Int.eq_ofNat_of_zero_le (show 0 ≤ k1 by have := hS.cnt; unfold Cnt at this; omega)
  obtain ⟨q, hq⟩ := Int.eq_ofNat_of_zero_le (show 0 ≤ k2 by have := hS.cnt; unfold Cnt at this; omega)
  subst hp hq
  have HN := Lib.hid (show 1 ≤ p ∧ p ≤ 8 ∧ 1 ≤ q ∧ q ≤ 8 ∧ p + q - 1 = n ∧ 1 ≤ n ∧ n ≤ 15 from by have h1 := hS.cnt; have h2 := hS.len; unfold Cnt at h1; omega)
  clear hS hs
  have hBw := Below.refl w8.heap.size w8
  have TC := Lib.hid (fun V (qB : Below w8.heap.size w8 V) => leftS_c b p q n p f V (HSA.out.keep qB) HS.out.all rfl HN.out.1 (by have := HN.out; omega) HN.out.2.2.2.2.2.1 (by have := HN.out; omega))
  go_wp2_with fail
  (with_reducible refine (TC.out _ ?_).mono ?_); (repeat (first | exact Below.refl _ _ | exact hBw | refine Below.drew ?_ | refine below_drewN ?_ _ | refine bset ?_ (by simp <;> omega) _ | refine bal ?_ _))
  rintro e w9 ⟨⟨la, lc, rfl, hl⟩, hb9⟩
  have hk : Below w8.heap.size w8 w9 := bthen (by repeat (first | exact Below.refl _ _ | exact hBw | refine Below.drew ?_ | refine below_drewN ?_ _ | refine bset ?_ (by simp <;> omega) _ | refine bal ?_ _)) hb9
  have hBn := bthen hB hk
  clear TC hBw hB hb9
  have hB := hBn
  clear hBn
  have hBw := Below.refl w9.heap.size w9
  have ML := Lib.hid hl
  clear hl
  replace HSA := Lib.hid (HSA.out.keep hk)
  replace HX := Lib.hid (prow_keep HX.out hk)
  replace HV := Lib.hid (prow_keep HV.out hk)
  clear hk
  have TC := Lib.hid (fun V (qB : Below w9.heap.size w9 V) => rightS_c b p q n q f V (HSA.out.keep qB) HS.out.all rfl HN.out.2.2.1 (by have := HN.out; omega) HN.out.2.2.2.2.2.1 (by have := HN.out; omega))
  go_wp2_with fail
  (with_reducible refine (TC.out _ ?_).mono ?_); (repeat (first | exact Below.refl _ _ | exact hBw | refine Below.drew ?_ | refine below_drewN ?_ _ | refine bset ?_ (by simp <;> omega) _ | refine bal ?_ _))
  rintro e w10 ⟨⟨ra2, rc2, rfl, hl⟩, hb10⟩
  have hk : Below w9.heap.size w9 w10 := bthen (by repeat (first | exact Below.refl _ _ | exact hBw | refine Below.drew ?_ | refine below_drewN ?_ _ | refine bset ?_ (by simp <;> omega) _ | refine bal ?_ _)) hb10
  have hBn := bthen hB hk
  clear TC hBw hB hb10
  have hB := hBn
  clear hBn
  have hBw := Below.refl w10.heap.size w10
  have MR := Lib.hid hl
  clear hl
  replace ML := Lib.hid (ML.out.keep hk)
  replace HX := Lib.hid (prow_keep HX.out hk)
  replace HV := Lib.hid (prow_keep HV.out hk)
  clear hk HSA
  have HB10 := Lib.hid hB
  have HM := Lib.hid (And.intro ML.out MR.out)
  clear hB
  go_wp2
  go_loopw [91] (fun x wr => ∃ i : Nat, i ≤ 2 ∧ x = .int .i64 i ∧ Below w10.heap.size w10 wr ∧ wr.cell? ⟨w10.heap.size, 0, none⟩ = some (.slice la n lc) ∧ wr.cell? ⟨w10.heap.size, 1, none⟩ = some (.slice ra2 n rc2)) (fun x _ => 2 - (intOf x).toNat)
  case atStart => exact ⟨0, by omega, rfl, by repeat (first | exact Below.refl _ _ | exact hBw | refine Below.drew ?_ | refine below_drewN ?_ _ | refine bset ?_ (by simp <;> omega) _ | refine bal ?_ _), cell_new rfl rfl, cell_new rfl rfl⟩
  case round =>
    obtain ⟨i, hi, rfl, hBr, m0, m1⟩ := hrel
    clear hBw
    have zm := cell_lt m0
    have hB := bthen HB10.out hBr
    have hBw := Below.refl wr.heap.size wr
    by_cases h2 : i < 2
    · rcases (show i = 0 ∨ i = 1 by omega) with rfl | rfl
      · clear h2 hi
        by_cases hpp : p = P
        · have hI : ((p : Int) != (P : Int)) = false := by simp [hpp]
          have AC := Lib.hid (fun V (qq : Below wr.heap.size wr V) => (show Calls Tryz.prog 32 #[.agg #[.slice la n lc], .slice ya P yc] V (fun e w' => (∃ a c, e = .returned (.tuple #[.slice a n c, .int .i64 0]) ∧ PRow 0 w' (.slice a n c) (valsL l n f)) ∧ Below V.heap.size V w') from by
            refine (Mt.apply (n := n) ((HM.out.1).keep (bthen hBr qq)) (prow_keep HX.out (bthen hBr qq)) (by rw [pwG_cols f HN.out.2.2.2.2.2.1, HLN.out]; exact hpp.symm) HBI.out (by decide) (pwG_len n p f)).mono ?_
            rintro e w' ⟨⟨a, c, rfl, hu, -, -⟩, hb⟩
            rw [apply_pw (by rw [HLN.out]; exact hpp.symm)] at hu
            exact ⟨⟨a, c, rfl, hu⟩, hb⟩))
          clear hpp
          go_wp2_with fail
          (with_reducible refine (AC.out _ ?_).mono ?_); (repeat (first | exact Below.refl _ _ | exact hBw | refine Below.drew ?_ | refine below_drewN ?_ _ | refine bset ?_ (by simp <;> omega) _ | refine bal ?_ _))
          rintro e w11 ⟨⟨ua, uc, rfl, hu⟩, hb11⟩
          have hk : Below wr.heap.size wr w11 := bthen (by repeat (first | exact Below.refl _ _ | exact hBw | refine Below.drew ?_ | refine below_drewN ?_ _ | refine bset ?_ (by simp <;> omega) _ | refine bal ?_ _)) hb11
          have KC := Lib.hid (fun V (qq : Below w11.heap.size w11 V) => alike_y ua za uc zc (valsL l n f) n V (prow_keep hu qq) (prow_keep HV.out (bthen hBr (bthen hk qq))) HVL.out hm)
          have hBw1 := Below.refl w11.heap.size w11
          have m0' := bkeep hk m0
          have m1' := bkeep hk m1
          clear AC hb11 hu m0 m1 hBw
          go_wp2_with fail
          (with_reducible refine (KC.out _ ?_).mono ?_); (repeat (first | exact Below.refl _ _ | exact hBw1 | refine Below.drew ?_ | refine below_drewN ?_ _ | refine bset ?_ (by simp <;> omega) _ | refine bal ?_ _))
          rintro e w12 ⟨rfl, hb12⟩
          have hk2 : Below w11.heap.size w11 w12 := bthen (by repeat (first | exact Below.refl _ _ | exact hBw1 | refine Below.drew ?_ | refine below_drewN ?_ _ | refine bset ?_ (by simp <;> omega) _ | refine bal ?_ _)) hb12
          have m0 := bkeep hk2 m0'
          have m1 := bkeep hk2 m1'
          have hBf := bthen hBr (bthen hk hk2)
          clear KC hb12 m0' m1' hBw1
          go_wp2
          exact ⟨⟨1, by omega, by go_num, hBf, m0, m1⟩, by simp [intOf]⟩
        · have hI : ((p : Int) != (P : Int)) = true := by simpa using (show ¬ (p : Int) = (P : Int) by omega)
          clear hpp
          go_wp2
          exact ⟨⟨1, by omega, by go_num, by repeat (first | exact Below.refl _ _ | exact hBr | refine Below.drew ?_ | refine below_drewN ?_ _ | refine bset ?_ (by simp <;> omega) _ | refine bal ?_ _), by simp [go_sem, *], by simp [go_sem, *]⟩, by simp [intOf]⟩
      · clear h2 hi
        by_cases hpp : q = P
        · have hI : ((q : Int) != (P : Int)) = false := by simp [hpp]
          have AC := Lib.hid (fun V (qq : Below wr.heap.size wr V) => (show Calls Tryz.prog 32 #[.agg #[.slice ra2 n rc2], .slice ya P yc] V (fun e w' => (∃ a c, e = .returned (.tuple #[.slice a n c, .int .i64 0]) ∧ PRow 0 w' (.slice a n c) (valsL l n f)) ∧ Below V.heap.size V w') from by
            refine (Mt.apply (n := n) ((HM.out.2).keep (bthen hBr qq)) (prow_keep HX.out (bthen hBr qq)) (by rw [pwG_cols f HN.out.2.2.2.2.2.1, HLN.out]; exact hpp.symm) HBI.out (by decide) (pwG_len n q f)).mono ?_
            rintro e w' ⟨⟨a, c, rfl, hu, -, -⟩, hb⟩
            rw [apply_pw (by rw [HLN.out]; exact hpp.symm)] at hu
            exact ⟨⟨a, c, rfl, hu⟩, hb⟩))
          clear hpp
          go_wp2_with fail
          (with_reducible refine (AC.out _ ?_).mono ?_); (repeat (first | exact Below.refl _ _ | exact hBw | refine Below.drew ?_ | refine below_drewN ?_ _ | refine bset ?_ (by simp <;> omega) _ | refine bal ?_ _))
          rintro e w11 ⟨⟨ua, uc, rfl, hu⟩, hb11⟩
          have hk : Below wr.heap.size wr w11 := bthen (by repeat (first | exact Below.refl _ _ | exact hBw | refine Below.drew ?_ | refine below_drewN ?_ _ | refine bset ?_ (by simp <;> omega) _ | refine bal ?_ _)) hb11
          have KC := Lib.hid (fun V (qq : Below w11.heap.size w11 V) => alike_y ua za uc zc (valsL l n f) n V (prow_keep hu qq) (prow_keep HV.out (bthen hBr (bthen hk qq))) HVL.out hm)
          have hBw1 := Below.refl w11.heap.size w11
          have m0' := bkeep hk m0
          have m1' := bkeep hk m1
          clear AC hb11 hu m0 m1 hBw
          go_wp2_with fail
          (with_reducible refine (KC.out _ ?_).mono ?_); (repeat (first | exact Below.refl _ _ | exact hBw1 | refine Below.drew ?_ | refine below_drewN ?_ _ | refine bset ?_ (by simp <;> omega) _ | refine bal ?_ _))
          rintro e w12 ⟨rfl, hb12⟩
          have hk2 : Below w11.heap.size w11 w12 := bthen (by repeat (first | exact Below.refl _ _ | exact hBw1 | refine Below.drew ?_ | refine below_drewN ?_ _ | refine bset ?_ (by simp <;> omega) _ | refine bal ?_ _)) hb12
          have m0 := bkeep hk2 m0'
          have m1 := bkeep hk2 m1'
          have hBf := bthen hBr (bthen hk hk2)
          clear KC hb12 m0' m1' hBw1
          go_wp2
          exact ⟨⟨2, by omega, by go_num, hBf, m0, m1⟩, by simp [intOf]⟩
        · have hI : ((q : Int) != (P : Int)) = true := by simpa using (show ¬ (q : Int) = (P : Int) by omega)
          clear hpp
          go_wp2
          exact ⟨⟨2, by omega, by go_num, by repeat (first | exact Below.refl _ _ | exact hBr | refine Below.drew ?_ | refine below_drewN ?_ _ | refine bset ?_ (by simp <;> omega) _ | refine bal ?_ _), by simp [go_sem, *], by simp [go_sem, *]⟩, by simp [intOf]⟩
    · obtain rfl : i = 2 := by omega
      clear h2 hi
      go_wp2
      go_ret
      exact ⟨rfl, by repeat (first | exact Below.refl _ _ | exact hB | refine Below.drew ?_ | refine below_drewN ?_ _ | refine bset ?_ (by simp <;> omega) _ | refine bal ?_ _)⟩
theorem evalRuns_u (k1 k2 : Int) (pa : Option Addr) (n pc : Nat) (f : Nat → Int × Int) (va : Value) (l : List Int) (w : World) (wk1 : (Lit.int .i64 k1).wf = true) (wk2 : (Lit.int .i64 k2).wf = true) (wm : n * 16 ≤ 140737488355328) (h : PtsV w pa n pc f) (wi : ∀ i, i < n → I64 (f i).1 ∧ I64 (f i).2) (hx : RowI w va l) (bx : l.length ≤ 1152921504606846976) (hT : Tz64 w) :
    Calls Tryz.prog 6 #[.int .i64 k1, .int .i64 k2, .slice pa n pc, va] w fun e w' => e = .returned (.bool true) ∧ Below w.heap.size w w' :=
  evalRuns_h k1 k2 pa n pc f va l w h hx (by omega) hT
end Go.Proofs.YtdllbdfchloijaaGreatDoor

