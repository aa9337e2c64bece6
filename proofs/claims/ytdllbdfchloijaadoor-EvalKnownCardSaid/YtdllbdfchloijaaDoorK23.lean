/- Texts of this seat, laid together: EvK, EvL. Each opens with its own remark, which says what it proves, and under which conditions. -/
import Derived.Test.YtdllbdfchloijaaDoorK21
import Derived.Test.YtdllbdfchloijaaDoorK18
import Derived.Test.YtdllbdfchloijaaDoorK16
import Derived.Test.YtdllbdfchloijaaDoorK22
import Derived.Test.YtdllbdfchloijaaDoorK14
import Derived.Test.YtdllbdfchloijaaDoorK19
import Derived.Deep.RegionLaw
set_option linter.unusedVariables false
set_option linter.unusedSimpArgs false
/- eval: Evaluates. -/
namespace Go.Proofs.YtdllbdfchloijaaDoor
open Pt
open Num
open Go.ChangeShapes Go.WideShapes Go.ChangeAt Go.RowKit
set_option linter.unusedVariables false
set_option linter.unusedSimpArgs false
attribute [local go_sem ↓] Go.wp_at_zero Go.wp_at_succ
/-- whether a program that may be evaluates -/
def EvIs (ins R : Int) (code : List Ins) (outs : List Int) (k n : Nat) (f : Nat → Int × Int) : Prop := ins = k ∧ outs.length = n ∧ NoDiv code ∧ Evs code outs R.toNat k n f
/-- what Evaluates answers where it is asked rightly -/
def EvPost (ins R : Int) (code : List Ins) (outs : List Int) (k n : Nat) (f : Nat → Int × Int) (w : World) (e : Ending) (w' : World) : Prop :=
  ((¬ ProgOk ins R code outs ∧ e = .returned (.tuple #[.bool false, .int .i64 80])) ∨ (ProgOk ins R code outs ∧ EvIs ins R code outs k n f ∧ e = .returned (.tuple #[.bool true, .int .i64 0])) ∨
   (ProgOk ins R code outs ∧ ¬ EvIs ins R code outs k n f ∧ e = .returned (.tuple #[.bool false, .int .i64 0]))) ∧ Below w.heap.size w w'
theorem EvPost.no {ins R : Int} {code : List Ins} {outs : List Int} {k n : Nat} {f : Nat → Int × Int} {w w' : World} (h : ProgOk ins R code outs) (h2 : ¬ EvIs ins R code outs k n f) (hb : Below w.heap.size w w') : EvPost ins R code outs k n f w (.returned (.tuple #[.bool false, .int .i64 0])) w' := ⟨.inr (.inr ⟨h, h2, rfl⟩), hb⟩
theorem EvPost.yes {ins R : Int} {code : List Ins} {outs : List Int} {k n : Nat} {f : Nat → Int × Int} {w w' : World} (h : ProgOk ins R code outs) (h2 : EvIs ins R code outs k n f) (hb : Below w.heap.size w w') : EvPost ins R code outs k n f w (.returned (.tuple #[.bool true, .int .i64 0])) w' := ⟨.inr (.inl ⟨h, h2, rfl⟩), hb⟩
theorem fits_unit {k : Nat} (hk : 1 ≤ k) (hk8 : k ≤ 8) : FitsG k (unitG k) ∧ ((unitG k).getD 0 []).length = k := by
  have h : ((unitG k).getD 0 []).length = k := unit_rl (show 0 < k by omega)
  exact ⟨⟨by rw [unitG_len], by rw [h]; exact unitG_rect k, by rw [h]; omega⟩, h⟩
theorem exRowsN_c (regs : Int) (k : Nat) (ca oa : Option Addr) (cc oc : Nat) (code : List Ins) (outs : List Int) (vg : Value) (w : World) (hc : InsV w ca cc code) (ho : IntsV w oa oc outs) (hg : GridV w vg (unitG k)) (hk : 1 ≤ k) (hk8 : k ≤ 8) (hok : ProgOk k regs code outs) (hnd : NoDiv code) :
    Calls Tryd.prog 33 #[.agg #[.int .i64 (k : Int), .int .i64 regs, .slice ca code.length cc, .slice oa outs.length oc], vg] w fun e w' => (∃ (h : Grid) (v : Value), after code (startG (unitG k) regs.toNat k) code.length = some h ∧ e = .returned (.tuple #[v, .int .i64 0, .int .i64 0]) ∧ IsL 27 (PRow 0) 0 w' v (outsG outs h)) ∧ Below w.heap.size w w' := by
  obtain ⟨hf, hl⟩ := fits_unit hk hk8
  have := exRows_c k regs ca oa cc oc code outs vg (unitG k) 1 w hc ho hg (by rw [hl]; omega) (unitG_bd k) (by decide)
  refine this.mono ?_
  rintro e w' ⟨h1 | h1 | h1 | ⟨_, _, h, v, h3, h4, h5⟩, hb⟩
  · exact absurd hok h1.1
  · exact absurd hf h1.2.1
  · obtain ⟨_, _, m, h, hm, _, h2, _⟩ := h1
    obtain ⟨s, hs⟩ := nodiv_after (startG (unitG k) regs.toNat k) hnd (m + 1) (by omega)
    rw [hl] at h2
    rw [hs] at h2; cases h2
  · rw [hl] at h3
    exact ⟨⟨h, v, h3, h4, (h5.isL.mono fun u x h => h.row.rebase (Nat.zero_le _)).rebase (Nat.zero_le _)⟩, hb⟩
/-- comparison: 0 just where they are the same -/
theorem cmpE_c (vx vy : Value) (x y : Int) (w : World) (hx : IsInt w vx x) (hy : IsInt w vy y) (h : x = y) : Calls Tryd.prog 12 #[vx, vy] w fun e w' => e = .returned (.int .i64 0) ∧ Below w.heap.size w w' := by
  subst h
  refine (cmp_c vx vy x x w hx hy).mono ?_
  rintro e w' ⟨rfl, hb⟩
  exact ⟨by unfold cmpI; rw [if_neg (by omega), if_pos rfl], hb⟩
theorem cmpN_c (vx vy : Value) (x y : Int) (w : World) (hx : IsInt w vx x) (hy : IsInt w vy y) (h : x ≠ y) : ∃ c : Int, c ≠ 0 ∧ ∀ W, Below w.heap.size w W → Calls Tryd.prog 12 #[vx, vy] W fun e w' => e = .returned (.int .i64 c) ∧ Below W.heap.size W w' :=
  ⟨cmpI x y, by unfold cmpI; split <;> (try split) <;> omega, fun W k => cmp_c vx vy x y W (hx.keep k) (hy.keep k)⟩
set_option maxRecDepth 100000 in
set_option maxHeartbeats 16000000 in
theorem evals_c (ins R : Int) (ca oa : Option Addr) (cc oc : Nat) (code : List Ins) (outs : List Int) (k : Nat) (a : Option Addr) (n cap : Nat) (f : Nat → Int × Int) (w : World) (hc : InsV w ca cc code) (ho : IntsV w oa oc outs) (h : PtsV w a n cap f) (hk : 1 ≤ k) (hk8 : k ≤ 8) (hp : PtsOk n f) :
    Calls Tryd.prog 16 #[.agg #[.int .i64 ins, .int .i64 R, .slice ca code.length cc, .slice oa outs.length oc], .int .i64 (k : Int), .slice a n cap] w (EvPost ins R code outs k n f w) := by
  have hB := Below.refl w.heap.size w
  have HP := Lib.hid h
  have HC := Lib.hid (And.intro hc ho)
  have HK := Lib.hid hp
  have hn15 : n ≤ 15 := hp.2.1
  have d1 : decide ((k : Int) < 1) = false := decide_eq_false (by omega)
  have d2 : decide (8 < (k : Int)) = false := decide_eq_false (by omega)
  have PC := Lib.hid (fun V (q : Below w.heap.size w V) => evPoints_c a n cap f V (HP.out.keep q) (by omega))
  rw [(ptsB_iff n f).2 hp] at PC
  have KC := Lib.hid (fun V (q : Below w.heap.size w V) => check_c ins R ca oa cc oc code outs V (HC.out.1.keep q) (HC.out.2.keep q))
  clear h hp hc ho
  go_enter Tryd.func16, Tryd.ntmps16
  go_wp2_with fail
  (with_reducible refine (PC.out _ ?_).mono ?_); (repeat (first | exact Below.refl _ _ | exact hB | refine Below.drew ?_ | refine below_drewN ?_ _ | refine bset ?_ (by simp <;> omega) _ | refine bal ?_ _))
  rintro e w1 ⟨rfl, hb1⟩
  have p0 : w1.cell? ⟨w.heap.size, 0, none⟩ = some (.int .i64 ins) := bkc hb1
  have zp0 := cell_lt p0
  have p1 : w1.cell? ⟨w.heap.size, 1, none⟩ = some (.int .i64 R) := bkc hb1
  have p2 : w1.cell? ⟨w.heap.size, 2, none⟩ = some (.slice ca code.length cc) := bkc hb1
  have p3 : w1.cell? ⟨w.heap.size, 3, none⟩ = some (.slice oa outs.length oc) := bkc hb1
  have hB : Below w.heap.size w w1 := bthen (by repeat (first | exact Below.refl _ _ | exact hB | refine Below.drew ?_ | refine below_drewN ?_ _ | refine bset ?_ (by simp <;> omega) _ | refine bal ?_ _)) hb1
  have hz : w.heap.size ≤ w1.heap.size := hB.size
  clear PC hb1
  go_wp2_with fail
  (with_reducible refine (KC.out _ ?_).mono ?_); (repeat (first | exact Below.refl _ _ | exact hB | refine Below.drew ?_ | refine below_drewN ?_ _ | refine bset ?_ (by simp <;> omega) _ | refine bal ?_ _))
  rintro e w2 ⟨r, s, rfl, hres, hb2⟩
  have p0 : w2.cell? ⟨w.heap.size, 0, none⟩ = some (.int .i64 ins) := bkc hb2
  have zp0 := cell_lt p0
  have p1 : w2.cell? ⟨w.heap.size, 1, none⟩ = some (.int .i64 R) := bkc hb2
  have p2 : w2.cell? ⟨w.heap.size, 2, none⟩ = some (.slice ca code.length cc) := bkc hb2
  have p3 : w2.cell? ⟨w.heap.size, 3, none⟩ = some (.slice oa outs.length oc) := bkc hb2
  have hB : Below w.heap.size w w2 := bthen (by repeat (first | exact Below.refl _ _ | exact hB | refine Below.drew ?_ | refine below_drewN ?_ _ | refine bset ?_ (by simp <;> omega) _ | refine bal ?_ _)) hb2
  have hz : w.heap.size ≤ w2.heap.size := hB.size
  clear KC hb2
  rcases hres with ⟨hok, rfl, rfl⟩ | ⟨hok, rfl⟩
  rotate_left
  · have HOK := Lib.hid hok
    clear hok
    go_wp2
    go_ret2
    exact ⟨.inl ⟨HOK.out, rfl⟩, by repeat (first | exact Below.refl _ _ | exact hB | refine Below.drew ?_ | refine below_drewN ?_ _ | refine bset ?_ (by simp <;> omega) _ | refine bal ?_ _)⟩
  have HOK := Lib.hid hok
  have hcl : code.length ≤ 16384 := hok.c1
  have hol : outs.length ≤ 128 := hok.o2
  clear hok
  by_cases hik : ins = k
  rotate_left
  · have hI : (ins != (k : Int)) = true := by simpa using hik
    have HM := Lib.hid (show ¬ EvIs ins R code outs k n f from fun q => hik q.1)
    clear hik
    go_wp2
    go_ret2
    exact EvPost.no HOK.out HM.out hB
  subst hik
  by_cases hnn : outs.length = n
  rotate_left
  · have hI : ((outs.length : Int) != (n : Int)) = true := by simpa using (show ¬ (outs.length : Int) = (n : Int) by omega)
    have HM := Lib.hid (show ¬ EvIs k R code outs k n f from fun q => hnn q.2.1)
    clear hnn
    go_wp2
    go_ret2
    exact EvPost.no HOK.out HM.out hB
  have hI : ((outs.length : Int) != (n : Int)) = false := by simpa using (show (outs.length : Int) = (n : Int) by omega)
  have HNN := Lib.hid hnn
  clear hnn
  have hBw := Below.refl w2.heap.size w2
  have HPP := Lib.hid (And.intro p0 (And.intro p1 (And.intro p2 p3)))
  have HB2 := Lib.hid hB
  go_wp2
  go_loopw [54] (fun x wr => ∃ j : Nat, j ≤ code.length ∧ x = .int .i64 j ∧ Below w2.heap.size w2 wr ∧ Hid (∀ t, t < j → (code.getD t default).op ≠ 6 ∧ (code.getD t default).op ≠ 8)) (fun x _ => code.length - (intOf x).toNat)
  case atStart => exact ⟨0, Nat.zero_le _, rfl, by repeat (first | exact Below.refl _ _ | exact hBw | refine Below.drew ?_ | refine below_drewN ?_ _ | refine bset ?_ (by simp <;> omega) _ | refine bal ?_ _), Lib.hid (fun t ht => by omega)⟩
  case round =>
    obtain ⟨j, hj, rfl, hBr, hA⟩ := hrel
    have hB3 := bthen HB2.out hBr
    clear p0 p1 p2 p3 hB hBw
    have p0 := bkeep hBr HPP.out.1
    have p1 := bkeep hBr HPP.out.2.1
    have p2 := bkeep hBr HPP.out.2.2.1
    have p3 := bkeep hBr HPP.out.2.2.2
    have zp := cell_lt p0
    by_cases hlt : j < code.length
    · have hltI : (j : Int) < (code.length : Int) := by omega
      have hBw := Below.refl wr.heap.size wr
      rcases HC.out.1.keep hB3 with h0 | ⟨b, off, rfl, hcap, hcell⟩
      · rw [h0] at hlt; simp at hlt
      obtain ⟨q0, q1, q2, q3, q4⟩ := hcell j hlt
      have HLT := Lib.hid hlt
      have HAS := Lib.hid (show ((code.getD j default).op ≠ 6 ∧ (code.getD j default).op ≠ 8) → ∀ t, t < j + 1 → (code.getD t default).op ≠ 6 ∧ (code.getD t default).op ≠ 8 from fun h t ht => by
        by_cases e : t = j
        · subst e; exact h
        · exact hA.out t (by omega))
      have HNO := Lib.hid (show ¬ ((code.getD j default).op ≠ 6 ∧ (code.getD j default).op ≠ 8) → ¬ EvIs k R code outs k n f from fun h q => h (q.2.2.1 j hlt))
      obtain ⟨i, hi⟩ : ∃ i, code.getD j default = i := ⟨_, rfl⟩
      rw [hi] at q0 q1 q2 q3 q4 HAS HNO
      obtain ⟨op, it, ia, ib, ic⟩ := i
      dsimp only at q0 q1 q2 q3 q4 HAS HNO
      have zb := cell_lt q0
      clear hi hcell hcap hlt hA
      by_cases h6 : op = 6
      · have HM := Lib.hid (HNO.out (fun h => h.1 h6))
        subst h6
        go_wp2
        go_ret2
        exact EvPost.no HOK.out HM.out (by repeat (first | exact Below.refl _ _ | exact hB3 | refine Below.drew ?_ | refine below_drewN ?_ _ | refine bset ?_ (by simp <;> omega) _ | refine bal ?_ _))
      · have h6I : (op == 6) = false := by simpa using h6
        by_cases h8 : op = 8
        · have HM := Lib.hid (HNO.out (fun h => h.2 h8))
          subst h8
          go_wp2
          go_ret2
          exact EvPost.no HOK.out HM.out (by repeat (first | exact Below.refl _ _ | exact hB3 | refine Below.drew ?_ | refine below_drewN ?_ _ | refine bset ?_ (by simp <;> omega) _ | refine bal ?_ _))
        · have h8I : (op == 8) = false := by simpa using h8
          have HA2 := Lib.hid (HAS.out ⟨h6, h8⟩)
          have hl := HLT.out
          clear HAS HNO h6 h8
          go_wp2
          exact ⟨⟨j + 1, hl, by go_num, by repeat (first | exact Below.refl _ _ | exact hBr | refine Below.drew ?_ | refine below_drewN ?_ _ | refine bset ?_ (by simp <;> omega) _ | refine bal ?_ _), HA2⟩, measS hl (by go_num) rfl⟩
    · obtain rfl : j = code.length := by omega
      have hltI : ¬ (code.length : Int) < (code.length : Int) := by omega
      have HND := Lib.hid (show NoDiv code from hA.out)
      have HS := Lib.hid (show ∀ V, Below wr.heap.size wr V → V.cell? ⟨w.heap.size, 0, none⟩ = some (.int .i64 (k : Int)) ∧ V.cell? ⟨w.heap.size, 1, none⟩ = some (.int .i64 R) ∧ V.cell? ⟨w.heap.size, 2, none⟩ = some (.slice ca code.length cc) ∧ V.cell? ⟨w.heap.size, 3, none⟩ = some (.slice oa outs.length oc) from fun V q => ⟨bkeep q p0, bkeep q p1, bkeep q p2, bkeep q p3⟩)
      have UC := Lib.hid (fun V => units_c k V hk8)
      have RC := Lib.hid (fun V vg (q : Below wr.heap.size wr V) (hg : GridV V vg (unitG k)) => exRowsN_c R k ca oa cc oc code outs vg V (HC.out.1.keep (bthen hB3 q)) (HC.out.2.keep (bthen hB3 q)) hg hk hk8 HOK.out HND.out)
      have HB3 := Lib.hid hB3
      have hBw := Below.refl wr.heap.size wr
      clear hj hlt hA hB3 hBr
      go_wp2
      go_region_held3 (fun V => V.cell? ⟨w.heap.size, 0, none⟩ = some (.int .i64 (k : Int)) ∧ V.cell? ⟨w.heap.size, 1, none⟩ = some (.int .i64 R) ∧ V.cell? ⟨w.heap.size, 2, none⟩ = some (.slice ca code.length cc) ∧ V.cell? ⟨w.heap.size, 3, none⟩ = some (.slice oa outs.length oc))
        (first | (refine HS.out _ ?_; (repeat (first | exact Below.refl _ _ | exact hBw | refine Below.drew ?_ | refine below_drewN ?_ _ | refine bset ?_ (by simp <;> omega) _ | refine bal ?_ _)); done) | fail)
        (first
          | (go_at_call 34; refine (UC.out _).mono ?_; rintro e w5 ⟨⟨vu, rfl, hu⟩, hb5⟩; (have hBd : Below wr.heap.size wr w5 := bthen (by repeat (first | exact Below.refl _ _ | exact hBw | refine Below.drew ?_ | refine below_drewN ?_ _ | refine bset ?_ (by simp <;> omega) _ | refine bal ?_ _)) hb5; clear hBw; have hBw := hBd; clear hBd); have HU5 := Lib.hid (show GridV w5 vu (unitG k) from (hu.isL.mono fun u x h => IsRow.rebase h (Nat.zero_le _)).rebase (Nat.zero_le _)); have hy5 := Below.refl w5.heap.size w5; obtain ⟨ua, uc, rfl⟩ := hu.ex; clear hu)
          | (go_at_call 33; refine (RC.out _ _ ?_ (HU5.out.keep (prs_row lims_int _ _) ?_)).mono ?_; (repeat (first | exact Below.refl _ _ | exact hBw | refine Below.drew ?_ | refine below_drewN ?_ _ | refine bset ?_ (by simp <;> omega) _ | refine bal ?_ _)); (repeat (first | exact Below.refl _ _ | exact hy5 | refine Below.drew ?_ | refine below_drewN ?_ _ | refine bset ?_ (by simp <;> omega) _ | refine bal ?_ _)); rintro e w6 ⟨⟨H, vr, hH, rfl, hR⟩, hb6⟩; (have hBd : Below wr.heap.size wr w6 := bthen (by repeat (first | exact Below.refl _ _ | exact hBw | refine Below.drew ?_ | refine below_drewN ?_ _ | refine bset ?_ (by simp <;> omega) _ | refine bal ?_ _)) hb6; clear hBw; have hBw := hBd; clear hBd); have HR6 := Lib.hid (And.intro hH hR); obtain ⟨ra, rc, rfl⟩ : ∃ a c, vr = Value.slice a (outsG outs H).length c := (by obtain ⟨a, c, h, _⟩ := hR; exact ⟨a, c, h⟩); clear hH hR)
          | fail)
      all_goals
        have HB6 := Lib.hid (bthen HB3.out hBw)
        have hRect : Rect k H := after_rect (startG_rect (unitG_rect k)) (startG_len (by rw [unitG_len]; have := HOK.out.i2; omega)) (fun m hm => by have := (mayB_iff ..).1 (HOK.out.cs m hm); omega) (Nat.le_refl _) HR6.out.1
        have HRW := Lib.hid (show ∀ i, i < n → (outsG outs H).length = n ∧ ((outsG outs H).getD i []).length = k from fun i hi => by
          have e : (outsG outs H).length = n := by unfold outsG; rw [List.length_map, HNN.out]
          refine ⟨e, ?_⟩
          have hi2 : i < outs.length := by rw [HNN.out]; exact hi
          rw [show (outsG outs H).getD i [] = H.getD (outs.getD i 0).toNat [] by unfold outsG; simp [hi2]]
          have h1 := HOK.out.os i hi2
          exact hRect _ (by rw [after_len HR6.out.1, startG_len (by rw [unitG_len]; have := HOK.out.i2; omega)]; omega))
        have HEV := Lib.hid (show (∀ i, i < n → ∀ j, j < k → gat (outsG outs H) i j = Det.pf (f i).1 (f i).2 k j) → EvIs k R code outs k n f from fun q => ⟨rfl, HNN.out, HND.out, fun s hs i hi j hj => by rw [HR6.out.1] at hs; cases hs; exact q i hi j hj⟩)
        have HNE := Lib.hid (show ∀ i, i < n → ∀ j, j < k → gat (outsG outs H) i j ≠ Det.pf (f i).1 (f i).2 k j → ¬ EvIs k R code outs k n f from fun i hi j hj hne q => hne (q.2.2.2 H HR6.out.1 i hi j hj))
        have HRS := Lib.hid HR6.out.2
        obtain ⟨G, hG⟩ : ∃ G, outsG outs H = G := ⟨_, rfl⟩
        rw [hG] at HRW HEV HNE HRS ⊢
        have hBx := Below.refl w6.heap.size w6
        clear hRect hG HR6 HU5 UC RC HS hBw hy5 p0 p1 p2 p3 zp HPP HB2 HB3 HND
        go_wp2
        go_loopw [79] (fun x wr => ∃ i : Nat, i ≤ n ∧ x = .int .i64 i ∧ Below w6.heap.size w6 wr ∧ Hid (∀ i', i' < i → ∀ j, j < k → gat G i' j = Det.pf (f i').1 (f i').2 k j)) (fun x _ => n - (intOf x).toNat)
        case atStart => exact ⟨0, Nat.zero_le _, rfl, by repeat (first | exact Below.refl _ _ | exact hBx | refine Below.drew ?_ | refine below_drewN ?_ _ | refine bset ?_ (by simp <;> omega) _ | refine bal ?_ _), Lib.hid (fun i' h => by omega)⟩
        case round =>
          rename World => wi
          obtain ⟨i, hi, rfl, hBi, hA⟩ := hrel
          by_cases hlt : i < n
          · have hltI : (i : Int) < (n : Int) := by omega
            have HLT := Lib.hid hlt
            obtain ⟨b, off, e, hcap, c0, c1⟩ := (HP.out.keep (bthen HB6.out hBi)).atE hlt
            subst e
            have hpin := HK.out.2.2 i hlt
            have HPFI := Lib.hid (fun j => (show Det.pf (f i).1 (f i).2 k j = powF (f i).1 (f i).2 k j from rfl))
            have HNEI := Lib.hid (HNE.out i hlt)
            obtain ⟨q, hq⟩ : ∃ q, f i = q := ⟨_, rfl⟩
            have HQ := Lib.hid hq
            rw [hq] at c0 c1 hpin HPFI HNEI
            obtain ⟨q1, q2⟩ := q
            have PW := Lib.hid (fun V => ptPow_yes q1 q2 k V hpin (by omega))
            have zb := cell_lt c0
            have hBw := Below.refl wi.heap.size wi
            clear hq hpin hcap
            go_wp2_with fail
            (with_reducible refine (PW.out _).mono ?_)
            rintro e w7 ⟨⟨g, rfl, hg⟩, hb7⟩
            have hk7 : Below wi.heap.size wi w7 := bthen (by repeat (first | exact Below.refl _ _ | exact hBw | refine Below.drew ?_ | refine below_drewN ?_ _ | refine bset ?_ (by simp <;> omega) _ | refine bal ?_ _)) hb7
            have hB7 := bthen hBi hk7
            have HG7 := Lib.hid hg
            obtain ⟨_, _, e, -, hv⟩ := (HRS.out.keep (prs_row lims_int _ _) hB7).view
            cases e
            obtain ⟨rb, ro, u, e, hu, hr⟩ := hv i (by rw [(HRW.out i hlt).1]; exact hlt)
            cases e
            have hrl := (HRW.out i hlt).2
            have hge : G[i]'(by rw [(HRW.out i hlt).1]; exact hlt) = G.getD i [] := by simp [(HRW.out i hlt).1, hlt]
            rw [hge] at hr
            have HRI := Lib.hid hr
            have HGA := Lib.hid (fun j => (show gat G i j = (G.getD i []).getD j 0 from rfl))
            have hGL : (i : Int) < (G.length : Int) := by rw [(HRW.out i hlt).1]; exact hltI
            have hGL2 : i < G.length := by rw [(HRW.out i hlt).1]; exact hlt
            obtain ⟨row, hrow⟩ : ∃ r, G.getD i [] = r := ⟨_, rfl⟩
            rw [hrow] at HRI hr hrl HGA
            obtain ⟨xa, xc, rfl, -, -⟩ := hr.view
            rw [hrl] at hu
            have HRL := Lib.hid hrl
            have HB7 := Lib.hid hB7
            have zu := cell_lt hu
            have hBy := Below.refl w7.heap.size w7
            clear PW hb7 hk7 hB7 hg hv hr hge hrow hrl hBw c0 c1 zb
            go_wp2
            go_loopw [95] (fun x wr => ∃ j : Nat, j ≤ k ∧ x = .int .i64 j ∧ Below w7.heap.size w7 wr ∧ Hid (∀ j', j' < j → gat G i j' = Det.pf q1 q2 k j')) (fun x _ => k - (intOf x).toNat)
            case atStart => exact ⟨0, Nat.zero_le _, rfl, by repeat (first | exact Below.refl _ _ | exact hBy | refine Below.drew ?_ | refine below_drewN ?_ _ | refine bset ?_ (by simp <;> omega) _ | refine bal ?_ _), Lib.hid (fun j' h => by omega)⟩
            case round =>
              rename World => wj
              obtain ⟨j, hj, rfl, hBj, hE⟩ := hrel
              by_cases hjt : j < k
              · have hjI : (j : Int) < (k : Int) := by omega
                have HJT := Lib.hid hjt
                obtain ⟨_, _, e, -, vr⟩ := (IsRow.keep lims_int HRI.out hBj).view
                cases e
                obtain ⟨xb, xo, xn, xd, xl, xk, e, d0, d1, hx⟩ := vr j (by rw [HRL.out]; exact hjt)
                cases e
                obtain ⟨gn, ga, gl, gc, g0, g1, hgi⟩ := (HG7.out.keep lims_int hBj).at0 hjt
                have zd := cell_lt d0
                have zg := cell_lt g0
                have hBw := Below.refl wj.heap.size wj
                have HPJ := Lib.hid (HPFI.out j)
                have HNJ := Lib.hid (HNEI.out j hjt)
                have HGJ := Lib.hid (HGA.out j)
                clear vr hjt
                go_wp2
                refine wp_name fun w9 hW9 => ?_
                have hk9 : Below wj.heap.size wj w9 := by rw [hW9]; repeat (first | exact Below.refl _ _ | exact hBw | refine Below.drew ?_ | refine below_drewN ?_ _ | refine bset ?_ (by simp <;> omega) _ | refine bal ?_ _)
                have x0 : w9.cell? ⟨wj.heap.size, 0, none⟩ = some (.bool xn) := by rw [hW9]; simp [go_sem]
                have x1 : w9.cell? ⟨wj.heap.size, 1, none⟩ = some (.slice xd xl xk) := by rw [hW9]; simp [go_sem]
                have HX9 := Lib.hid (hx.lim (.of_below hk9))
                have HG9 := Lib.hid (hgi.lim (.of_below hk9))
                have hB9 := bthen hBj hk9
                replace g0 := bkeep hk9 g0
                replace g1 := bkeep hk9 g1
                have HS := Lib.hid (show ∀ V, Below w9.heap.size w9 V → V.cell? ⟨wj.heap.size, 0, none⟩ = some (.bool xn) ∧ V.cell? ⟨wj.heap.size, 1, none⟩ = some (.slice xd xl xk) ∧ V.cell? ⟨g, j * 2, none⟩ = some (.bool gn) ∧ V.cell? ⟨g, j * 2 + 1, none⟩ = some (.slice ga gl gc) from fun V q => ⟨bkeep q x0, bkeep q x1, bkeep q g0, bkeep q g1⟩)
                have zx := cell_lt x0
                replace zg := cell_lt g0
                clear hW9 hk9 hx hgi hBw d0 d1 zd hBj
                have hBw := Below.refl w9.heap.size w9
                by_cases hxy : gat G i j = Det.pf q1 q2 k j
                · have CC := Lib.hid (fun V (q : Below w9.heap.size w9 V) => cmpE_c (.agg #[.bool xn, .slice xd xl xk]) (.agg #[.bool gn, .slice ga gl gc]) (row.getD j 0) (powF q1 q2 k j) V (HX9.out.keep q) (HG9.out.keep q) (by rw [← HGJ.out, ← HPJ.out]; exact hxy))
                  have HE2 := Lib.hid (show ∀ j', j' < j + 1 → gat G i j' = Det.pf q1 q2 k j' from fun j' h => by
                    by_cases e : j' = j
                    · subst e; exact hxy
                    · exact hE.out j' (by omega))
                  clear hxy hE
                  go_region_held3 (fun V => V.cell? ⟨wj.heap.size, 0, none⟩ = some (.bool xn) ∧ V.cell? ⟨wj.heap.size, 1, none⟩ = some (.slice xd xl xk) ∧ V.cell? ⟨g, j * 2, none⟩ = some (.bool gn) ∧ V.cell? ⟨g, j * 2 + 1, none⟩ = some (.slice ga gl gc))
                    (first | (refine HS.out _ ?_; (repeat (first | exact Below.refl _ _ | exact hBw | refine Below.drew ?_ | refine below_drewN ?_ _ | refine bset ?_ (by simp <;> omega) _ | refine bal ?_ _)); done) | fail)
                    (first
                      | (go_at_call 12; refine (CC.out _ ?_).mono ?_; (repeat (first | exact Below.refl _ _ | exact hBw | refine Below.drew ?_ | refine below_drewN ?_ _ | refine bset ?_ (by simp <;> omega) _ | refine bal ?_ _)); rintro e w10 ⟨rfl, hb10⟩; (have hBd : Below w9.heap.size w9 w10 := bthen (by repeat (first | exact Below.refl _ _ | exact hBw | refine Below.drew ?_ | refine below_drewN ?_ _ | refine bset ?_ (by simp <;> omega) _ | refine bal ?_ _)) hb10; clear hBw; have hBw := hBd; clear hBd))
                      | fail)
                  all_goals
                    have hBz := bthen hB9 hBw
                    have hl := HJT.out
                    clear CC HS hBw hB9 x0 x1 g0 g1 zx zg
                    go_wp2
                    exact ⟨⟨j + 1, hl, by go_num, hBz, HE2⟩, measS hl (by go_num) rfl⟩
                · obtain ⟨c, hc0, CC'⟩ := cmpN_c (.agg #[.bool xn, .slice xd xl xk]) (.agg #[.bool gn, .slice ga gl gc]) (row.getD j 0) (powF q1 q2 k j) w9 HX9.out HG9.out (by rw [← HGJ.out, ← HPJ.out]; exact hxy)
                  have CC := Lib.hid CC'
                  have HM := Lib.hid (HNJ.out hxy)
                  have hcI : (c != 0) = true := by simpa using hc0
                  clear hxy hE CC' hc0
                  go_region_held3 (fun V => V.cell? ⟨wj.heap.size, 0, none⟩ = some (.bool xn) ∧ V.cell? ⟨wj.heap.size, 1, none⟩ = some (.slice xd xl xk) ∧ V.cell? ⟨g, j * 2, none⟩ = some (.bool gn) ∧ V.cell? ⟨g, j * 2 + 1, none⟩ = some (.slice ga gl gc))
                    (first | (refine HS.out _ ?_; (repeat (first | exact Below.refl _ _ | exact hBw | refine Below.drew ?_ | refine below_drewN ?_ _ | refine bset ?_ (by simp <;> omega) _ | refine bal ?_ _)); done) | fail)
                    (first
                      | (go_at_call 12; refine (CC.out _ ?_).mono ?_; (repeat (first | exact Below.refl _ _ | exact hBw | refine Below.drew ?_ | refine below_drewN ?_ _ | refine bset ?_ (by simp <;> omega) _ | refine bal ?_ _)); rintro e w10 ⟨rfl, hb10⟩; (have hBd : Below w9.heap.size w9 w10 := bthen (by repeat (first | exact Below.refl _ _ | exact hBw | refine Below.drew ?_ | refine below_drewN ?_ _ | refine bset ?_ (by simp <;> omega) _ | refine bal ?_ _)) hb10; clear hBw; have hBw := hBd; clear hBd))
                      | fail)
                  all_goals
                    have hBz := bthen HB6.out (bthen HB7.out (bthen hB9 hBw))
                    clear CC HS hBw hB9 x0 x1 g0 g1 zx zg
                    go_wp2
                    go_ret2
                    exact EvPost.no HOK.out HM.out (by repeat (first | exact Below.refl _ _ | exact hBz | refine Below.drew ?_ | refine below_drewN ?_ _ | refine bset ?_ (by simp <;> omega) _ | refine bal ?_ _))
              · obtain rfl : j = k := by omega
                have hjI : ¬ (j : Int) < (j : Int) := by omega
                have HA2 := Lib.hid (show ∀ i', i' < i + 1 → ∀ j', j' < j → gat G i' j' = Det.pf (f i').1 (f i').2 j j' from fun i' h j' h2 => by
                  by_cases e : i' = i
                  · subst e; rw [HQ.out]; exact hE.out j' h2
                  · exact hA.out i' (by omega) j' h2)
                have hBz := bthen HB7.out hBj
                have hl := HLT.out
                clear hE hBj hA
                go_wp2
                exact ⟨⟨i + 1, hl, by go_num, hBz, HA2⟩, measS hl (by go_num) rfl⟩
          · obtain rfl : i = n := by omega
            have hltI : ¬ (i : Int) < (i : Int) := by omega
            have HM := Lib.hid (HEV.out hA.out)
            go_wp2
            go_ret2
            exact EvPost.yes HOK.out HM.out (bthen HB6.out hBi)
end Go.Proofs.YtdllbdfchloijaaDoor

/- eval's laws: example, works. -/
namespace Go.Proofs.YtdllbdfchloijaaDoor
open Pt
open Num
open Go.ChangeShapes Go.WideShapes Go.ChangeAt Go.RowKit
set_option linter.unusedVariables false
set_option linter.unusedSimpArgs false
attribute [local go_sem ↓] Go.wp_at_zero Go.wp_at_succ
def eC : List Ins := [⟨3, 2, 0, 1, 0⟩]
def eO : List Int := [0, 2, 1]
def eP : List Int := [0, 1, 1, 1, 1, 0]
theorem lt3 {i : Nat} (h : i < 3) : i = 0 ∨ i = 1 ∨ i = 2 := by omega
theorem e_ok : ProgOk 2 3 eC eO := by
  refine ⟨by decide, by decide, by decide, by decide, by decide, by decide, fun k hk => ?_, fun k hk => ?_⟩
  · rcases lt3 hk with rfl | rfl | rfl <;> decide
  · obtain rfl : k = 0 := by have : k < 1 := hk; omega
    decide
theorem e_pts : PtsOk 3 (evF eP) := by
  refine ⟨by decide, by decide, fun i hi => ?_⟩
  rcases lt3 hi with rfl | rfl | rfl <;> (unfold PIn evF eP; decide)
theorem e_after : after eC (startG (unitG 2) 3 2) 1 = some [[1, 0], [0, 1], [1, 1]] := by kernel_rfl
theorem e_is : EvIs 2 3 eC eO (2 : Nat) 3 (evF eP) := by
  refine ⟨rfl, rfl, fun n hn => ?_, fun s hs i hi j hj => ?_⟩
  · obtain rfl : n = 0 := by have : n < 1 := hn; omega
    decide
  · have h := e_after.symm.trans hs
    cases h
    rcases lt3 hi with rfl | rfl | rfl <;> (rcases (show j = 0 ∨ j = 1 by omega) with rfl | rfl <;> decide)
theorem p_is (k n : Nat) (f : Nat → Int × Int) (hk : 1 ≤ k) (hq : ∀ i, i < n → PIn (f i).1 (f i).2) : EvIs k ((k + n + 1 : Nat) : Int) (codeL k n f n) (outsL k n) k n f :=
  ⟨rfl, outsL_len k n, code_nodiv hq, by rw [Int.toNat_natCast]; exact code_evs hk hq⟩
theorem EvPost.is {ins R : Int} {code : List Ins} {outs : List Int} {k n : Nat} {f : Nat → Int × Int} {w w' : World} {e : Ending} (h : EvPost ins R code outs k n f w e w') (h1 : ProgOk ins R code outs) (h2 : EvIs ins R code outs k n f) : e = .returned (.tuple #[.bool true, .int .i64 0]) ∧ Below w.heap.size w w' := by
  obtain ⟨h | h | h, hb⟩ := h
  · exact absurd h1 h.1
  · exact ⟨h.2.2, hb⟩
  · exact absurd h2 h.2.1
theorem rowI_lit {w : World} {b off c : Nat} {l : List Int} (hc : ∀ k, k < l.length → w.cell? ⟨b, off + k, none⟩ = some (.int .i64 (l.getD k 0))) (h : ∀ x ∈ l, I64 x) : RowI w (.slice (some ⟨b, off, none⟩) l.length c) l :=
  ⟨_, _, rfl, fun k hk => ⟨b, off, rfl, hc k hk, by rw [show l.getD k 0 = l[k] by simp [hk]]; exact h _ (List.getElem_mem hk)⟩⟩
theorem example11_c (w : World) : Calls Tryd.prog 17 #[] w fun e w' => (∃ a b, e = .returned (.agg #[.int .i64 2, .int .i64 3, .slice (some a) 1 1, .slice (some b) 3 3]) ∧ InsV w' (some a) 1 eC ∧ IntsV w' (some b) 3 eO) ∧ Below w.heap.size w w' := by
  have hB := Below.refl w.heap.size w
  go_enter Tryd.func17, Tryd.ntmps17
  go_wp2
  refine bodyPost_ret (v := .agg #[.int .i64 2, .int .i64 3, .slice (some ⟨w.heap.size + 1, 0, none⟩) 1 1, .slice (some ⟨w.heap.size + 1 + 1, 0, none⟩) 3 3]) (by simp [results, Tryd.results17, go_sem]) rfl ⟨⟨_, _, rfl, .inr ⟨_, _, rfl, Nat.le_refl _, fun k hk => ?_⟩, .inr ⟨_, _, rfl, Nat.le_refl _, fun k hk => ?_⟩⟩, by repeat (first | exact Below.refl _ _ | exact hB | refine Below.drew ?_ | refine below_drewN ?_ _ | refine bset ?_ (by simp <;> omega) _ | refine bal ?_ _)⟩
  · obtain rfl : k = 0 := by have : k < 1 := hk; omega
    constructor <;> simp [go_sem, eC]
  · rcases lt3 hk with rfl | rfl | rfl <;> simp [go_sem, eO]
theorem hv_123 : hvL [1, 2, 3] 1 2 = 11 := by kernel_rfl
theorem txt_11 : intTxt 11 = [49, 49] := by kernel_rfl
theorem bd_123 : ∀ j, Bd 8 (([1, 2, 3] : List Int).getD j 0) := fun j => by
  by_cases h : j < 3
  · rcases lt3 h with rfl | rfl | rfl <;> (unfold Bd; decide)
  · rw [List.getD_eq_getElem?_getD, List.getElem?_eq_none (by simp; omega)]; exact bd_zero
theorem six_cells {w : World} {g : Nat} (t : TypeId) (hg : g = w.heap.size) : ∀ k, k < 6 → (w.alloc (.cells #[.int .i64 0, .int .i64 1, .int .i64 1, .int .i64 1, .int .i64 1, .int .i64 0] t)).cell? ⟨g, 0 + k, none⟩ = some (.int .i64 (eP.getD k 0)) := by
  intro k hk
  rcases (show k = 0 ∨ k = 1 ∨ k = 2 ∨ k = 3 ∨ k = 4 ∨ k = 5 by omega) with rfl | rfl | rfl | rfl | rfl | rfl <;> exact cell_new hg rfl
set_option maxRecDepth 100000 in
set_option maxHeartbeats 16000000 in
theorem works11_c (w : World) (hT : Tz64 w) : Calls Tryd.prog 6 #[] w fun e w' => e = .returned (.bool true) ∧ Below w.heap.size w w' := by
  have hB := Below.refl w.heap.size w
  have HT := Lib.hid hT
  clear hT
  go_enter Tryd.func6, Tryd.ntmps6
  go_wp2_with fail
  (with_reducible refine (list11_c (.slice (some ⟨w.heap.size, 0, none⟩) 3 3) [1, 2, 3] _ ?_ (by decide)).mono ?_)
  · refine rowI_lit (l := [1, 2, 3]) (fun k hk => ?_) (fun x hx => by simp at hx; rcases hx with rfl | rfl | rfl <;> (unfold I64; decide))
    rcases lt3 hk with rfl | rfl | rfl <;> exact cell_new rfl rfl
  rintro e w1 ⟨⟨v1, rfl, hv1⟩, hb1⟩
  have hB1 : Below w.heap.size w w1 := bthen (by repeat (first | exact Below.refl _ _ | exact hB | refine Below.drew ?_ | refine below_drewN ?_ _ | refine bset ?_ (by simp <;> omega) _ | refine bal ?_ _)) hb1
  have HV1 := Lib.hid (show PRow 0 w1 v1 [1, 2, 3] from hv1.row.rebase (Nat.zero_le _))
  obtain ⟨a1, c1, rfl⟩ := hv1.ex
  have hBw := Below.refl w1.heap.size w1
  clear hv1 hb1 hB
  have TC := Lib.hid (fun V (qB : Below w1.heap.size w1 V) => value_c (.slice a1 3 c1) [1, 2, 3] 8 1 2 V (IsRow.keep lims_int HV1.out qB) (by decide) (by decide) (by unfold PIn; decide) bd_123 (by decide))
  rw [hv_123] at TC
  go_wp2_with fail
  (with_reducible refine (TC.out _ ?_).mono ?_); (repeat (first | exact Below.refl _ _ | exact hBw | refine Below.drew ?_ | refine below_drewN ?_ _ | refine bset ?_ (by simp <;> omega) _ | refine bal ?_ _))
  rintro e w2 ⟨⟨v2, rfl, hv2⟩, hb2⟩
  have hB2 := bthen hB1 (bthen (show Below w1.heap.size w1 _ by repeat (first | exact Below.refl _ _ | exact hBw | refine Below.drew ?_ | refine below_drewN ?_ _ | refine bset ?_ (by simp <;> omega) _ | refine bal ?_ _)) hb2)
  have HV2 := Lib.hid hv2
  obtain ⟨n2, a2, l2, c2, rfl⟩ := hv2.litE
  have hBw := Below.refl w2.heap.size w2
  clear TC hb2 hv2 hB1 HV1
  -- the example
  go_wp2_with fail
  (with_reducible refine (example11_c _).mono ?_)
  rintro e w3 ⟨⟨ea, eb, rfl, hec, heo⟩, hb3⟩
  have hk3 : Below w2.heap.size w2 w3 := bthen (by repeat (first | exact Below.refl _ _ | exact hBw | refine Below.drew ?_ | refine below_drewN ?_ _ | refine bset ?_ (by simp <;> omega) _ | refine bal ?_ _)) hb3
  have x0 : w3.cell? ⟨w2.heap.size, 0, none⟩ = some (.bool n2) := bkeep hb3 (by simp [go_sem])
  have x1 : w3.cell? ⟨w2.heap.size, 1, none⟩ = some (.slice a2 l2 c2) := bkeep hb3 (by simp [go_sem])
  have zx := cell_lt x0
  have HE3 := Lib.hid (And.intro hec heo)
  have HV3 := Lib.hid (HV2.out.keep hk3)
  have hB3 := bthen hB2 hk3
  have hBw := Below.refl w3.heap.size w3
  clear hb3 hk3 hec heo hB2 HV2
  go_wp2_with fail
  (with_reducible refine (points11_c w3.heap.size 0 6 6 3 eP _ rfl (by decide) (six_cells _ rfl)).mono ?_)
  rintro e w4 ⟨⟨pa, pc, rfl, hpp⟩, hb4⟩
  have hk4 : Below w3.heap.size w3 w4 := bthen (by repeat (first | exact Below.refl _ _ | exact hBw | refine Below.drew ?_ | refine below_drewN ?_ _ | refine bset ?_ (by simp <;> omega) _ | refine bal ?_ _)) hb4
  replace x0 := bkeep hk4 x0
  replace x1 := bkeep hk4 x1
  replace zx := cell_lt x0
  have HE4 := Lib.hid (And.intro (HE3.out.1.keep hk4) (HE3.out.2.keep hk4))
  have HP4 := Lib.hid hpp
  have HV4 := Lib.hid (HV3.out.keep hk4)
  have hB4 := bthen hB3 hk4
  have EC := Lib.hid (fun V (qB : Below w4.heap.size w4 V) => show Calls Tryd.prog 16 #[.agg #[.int .i64 2, .int .i64 3, .slice (some ea) 1 1, .slice (some eb) 3 3], .int .i64 2, .slice pa 3 pc] V (fun e w' => e = .returned (.tuple #[.bool true, .int .i64 0]) ∧ Below V.heap.size V w') from (evals_c 2 3 (some ea) (some eb) 1 3 eC eO 2 pa 3 pc (evF eP) V (HE4.out.1.keep qB) (HE4.out.2.keep qB) (HP4.out.keep qB) (by decide) (by decide) e_pts).mono fun e w' h => h.is e_ok e_is)
  have hBw := Below.refl w4.heap.size w4
  clear hb4 hk4 hpp hB3 HE3 HV3
  go_wp2_with fail
  (with_reducible refine (EC.out _ ?_).mono ?_); (repeat (first | exact Below.refl _ _ | exact hBw | refine Below.drew ?_ | refine below_drewN ?_ _ | refine bset ?_ (by simp <;> omega) _ | refine bal ?_ _))
  rintro e w5 ⟨rfl, hb5⟩
  have hk5 : Below w4.heap.size w4 w5 := bthen (by repeat (first | exact Below.refl _ _ | exact hBw | refine Below.drew ?_ | refine below_drewN ?_ _ | refine bset ?_ (by simp <;> omega) _ | refine bal ?_ _)) hb5
  replace x0 := bkeep hk5 x0
  replace x1 := bkeep hk5 x1
  replace zx := cell_lt x0
  have HV5 := Lib.hid (HV4.out.keep hk5)
  have hB5 := bthen hB4 hk5
  have hBw := Below.refl w5.heap.size w5
  clear EC hb5 hk5 hB4 HE4 HV4 HP4
  -- the program
  go_wp2_with fail
  (with_reducible refine (points11_c w5.heap.size 0 6 6 3 eP _ rfl (by decide) (six_cells _ rfl)).mono ?_)
  rintro e w6 ⟨⟨pa, pc, rfl, hpp⟩, hb6⟩
  have hk6 : Below w5.heap.size w5 w6 := bthen (by repeat (first | exact Below.refl _ _ | exact hBw | refine Below.drew ?_ | refine below_drewN ?_ _ | refine bset ?_ (by simp <;> omega) _ | refine bal ?_ _)) hb6
  replace x0 := bkeep hk6 x0
  replace x1 := bkeep hk6 x1
  replace zx := cell_lt x0
  have HP6 := Lib.hid hpp
  have HV6 := Lib.hid (HV5.out.keep hk6)
  have hB6 := bthen hB5 hk6
  have PC := Lib.hid (fun V (qB : Below w6.heap.size w6 V) => show Calls Tryd.prog 18 #[.int .i64 2, .slice pa 3 pc] V (ProgPost 2 3 (evF eP) V) from program_c 2 pa 3 pc (evF eP) V (HP6.out.keep qB) (by decide) (by decide) e_pts (HT.out.keep (bthen hB6 qB)))
  have hBw := Below.refl w6.heap.size w6
  clear hb6 hk6 hpp hB5 HV5
  go_wp2_with fail
  (with_reducible refine (PC.out _ ?_).mono ?_); (repeat (first | exact Below.refl _ _ | exact hBw | refine Below.drew ?_ | refine below_drewN ?_ _ | refine bset ?_ (by simp <;> omega) _ | refine bal ?_ _))
  rintro e w7 ⟨⟨ca, cc, oa, oc, rfl, hcv, hov, -, -⟩, hb7⟩
  have hk7 : Below w6.heap.size w6 w7 := bthen (by repeat (first | exact Below.refl _ _ | exact hBw | refine Below.drew ?_ | refine below_drewN ?_ _ | refine bset ?_ (by simp <;> omega) _ | refine bal ?_ _)) hb7
  replace x0 := bkeep hk7 x0
  replace x1 := bkeep hk7 x1
  replace zx := cell_lt x0
  have HE7 := Lib.hid (And.intro hcv hov)
  have HV7 := Lib.hid (HV6.out.keep hk7)
  have hB7 := bthen hB6 hk7
  have hBw := Below.refl w7.heap.size w7
  have HLN := Lib.hid (show (codeL 2 3 (evF eP) 3).length = (codeL 2 3 (evF eP) 3).length ∧ (outsL 2 3).length = (outsL 2 3).length from ⟨rfl, rfl⟩)
  clear PC hb7 hk7 hcv hov hB6 HV6 HP6
  have EC := Lib.hid (fun V pa pc (hc : InsV V ca cc (codeL 2 3 (evF eP) 3)) (ho : IntsV V oa oc (outsL 2 3)) (hp : PtsV V pa 3 pc (evF eP)) => show Calls Tryd.prog 16 #[.agg #[.int .i64 2, .int .i64 6, .slice ca (codeL 2 3 (evF eP) 3).length cc, .slice oa (outsL 2 3).length oc], .int .i64 2, .slice pa 3 pc] V (fun e w' => e = .returned (.tuple #[.bool true, .int .i64 0]) ∧ Below V.heap.size V w') from (evals_c 2 ((2 + 3 + 1 : Nat) : Int) ca oa cc oc (codeL 2 3 (evF eP) 3) (outsL 2 3) 2 pa 3 pc (evF eP) V hc ho hp (by decide) (by decide) e_pts).mono fun e w' h => h.is (code_ok (by decide) (by decide) (by decide) (by decide) e_pts.2.2) (p_is 2 3 (evF eP) (by decide) e_pts.2.2))
  obtain ⟨N, hN⟩ : ∃ N, (codeL 2 3 (evF eP) 3).length = N := ⟨_, rfl⟩
  obtain ⟨M, hM⟩ : ∃ M, (outsL 2 3).length = M := ⟨_, rfl⟩
  rw [hN, hM] at EC ⊢
  clear hN hM HLN
  go_wp2
  refine wp_name fun w8 hW8 => ?_
  have hk8 : Below w7.heap.size w7 w8 := by rw [hW8]; repeat (first | exact Below.refl _ _ | exact hBw | refine Below.drew ?_ | refine below_drewN ?_ _ | refine bset ?_ (by simp <;> omega) _ | refine bal ?_ _)
  have p0 : w8.cell? ⟨w7.heap.size, 0, none⟩ = some (.int .i64 2) := by rw [hW8]; simp [go_sem]
  have p1 : w8.cell? ⟨w7.heap.size, 1, none⟩ = some (.int .i64 6) := by rw [hW8]; simp [go_sem]
  have p2 : w8.cell? ⟨w7.heap.size, 2, none⟩ = some (.slice ca N cc) := by rw [hW8]; simp [go_sem]
  have p3 : w8.cell? ⟨w7.heap.size, 3, none⟩ = some (.slice oa M oc) := by rw [hW8]; simp [go_sem]
  replace x0 := bkeep hk8 x0
  replace x1 := bkeep hk8 x1
  replace zx := cell_lt x0
  have zp := cell_lt p0
  have HE8 := Lib.hid (And.intro (HE7.out.1.keep hk8) (HE7.out.2.keep hk8))
  have HV8 := Lib.hid (HV7.out.keep hk8)
  have hB8 := bthen hB7 hk8
  have HC := Lib.hid (show ∀ V, Below w8.heap.size w8 V → V.cell? ⟨w7.heap.size, 0, none⟩ = some (.int .i64 2) ∧ V.cell? ⟨w7.heap.size, 1, none⟩ = some (.int .i64 6) ∧ V.cell? ⟨w7.heap.size, 2, none⟩ = some (.slice ca N cc) ∧ V.cell? ⟨w7.heap.size, 3, none⟩ = some (.slice oa M oc) ∧ V.cell? ⟨w2.heap.size, 0, none⟩ = some (.bool n2) ∧ V.cell? ⟨w2.heap.size, 1, none⟩ = some (.slice a2 l2 c2) from fun V q => ⟨bkeep q p0, bkeep q p1, bkeep q p2, bkeep q p3, bkeep q x0, bkeep q x1⟩)
  clear hW8 hk8 hB7 HV7 HE7 hBw
  have hBw := Below.refl w8.heap.size w8
  go_region_law (go_simp; go_wp2_with (first
    | (go_at_call 15; (with_reducible refine (points11_c w8.heap.size 0 6 6 3 eP _ rfl (by decide) ?_).mono ?_); (first | exact six_cells _ rfl | exact fun k hk => cell_drew (six_cells _ rfl k hk)); rintro e w9 ⟨⟨pa2, pc2, rfl, hpp2⟩, hb9⟩; (have hBd : Below w8.heap.size w8 w9 := bthen (by repeat (first | exact Below.refl _ _ | exact hBw | refine Below.drew ?_ | refine below_drewN ?_ _ | refine bset ?_ (by simp <;> omega) _ | refine bal ?_ _)) hb9; clear hBw; have hBw := hBd; clear hBd); obtain ⟨p0, p1, p2, p3, x0, x1⟩ := HC.out w9 hBw; have HP9 := Lib.hid hpp2; have hy9 := Below.refl w9.heap.size w9; have zp9 := cell_lt p0; have zx9 := cell_lt x0; clear hpp2)
    | (go_at_call 16; (with_reducible refine (EC.out _ _ _ (HE8.out.1.keep ?_) (HE8.out.2.keep ?_) (HP9.out.keep ?_)).mono ?_); (repeat (first | exact Below.refl _ _ | exact hBw | refine Below.drew ?_ | refine below_drewN ?_ _ | refine bset ?_ (by simp <;> omega) _ | refine bal ?_ _)); (repeat (first | exact Below.refl _ _ | exact hBw | refine Below.drew ?_ | refine below_drewN ?_ _ | refine bset ?_ (by simp <;> omega) _ | refine bal ?_ _)); (repeat (first | exact Below.refl _ _ | exact hy9 | refine Below.drew ?_ | refine below_drewN ?_ _ | refine bset ?_ (by simp <;> omega) _ | refine bal ?_ _)); rintro e w10 ⟨rfl, hb10⟩; (have hBd : Below w8.heap.size w8 w10 := bthen (by repeat (first | exact Below.refl _ _ | exact hBw | refine Below.drew ?_ | refine below_drewN ?_ _ | refine bset ?_ (by simp <;> omega) _ | refine bal ?_ _)) hb10; clear hBw; have hBw := hBd; clear hBd); obtain ⟨p0, p1, p2, p3, x0, x1⟩ := HC.out w10 hBw; have zx10 := cell_lt x0)
    | fail))
  all_goals
    have HTX := Lib.hid (fun V (q : Below w10.heap.size w10 V) => intText_c (.agg #[.bool n2, .slice a2 l2 c2]) 11 8 V (HV8.out.keep (bthen hBw q)) (by unfold Bd; decide) (by decide))
    have hBf := bthen hB8 hBw
    have hBz := Below.refl w10.heap.size w10
    rw [txt_11] at HTX
    clear HC EC HE8 HV8 HP9 hy9 p0 p1 p2 p3 zp zp9 hBw hB8
    go_wp2_with fail
    (with_reducible refine (HTX.out _ ?_).mono ?_); (repeat (first | exact Below.refl _ _ | exact hBz | refine Below.drew ?_ | refine below_drewN ?_ _ | refine bset ?_ (by simp <;> omega) _ | refine bal ?_ _))
    rintro e w11 ⟨rfl, hb11⟩
    have hB11 := bthen hBf (bthen (show Below w10.heap.size w10 _ by repeat (first | exact Below.refl _ _ | exact hBz | refine Below.drew ?_ | refine below_drewN ?_ _ | refine bset ?_ (by simp <;> omega) _ | refine bal ?_ _)) hb11)
    go_wp2
    go_ret
    exact ⟨rfl, by repeat (first | exact Below.refl _ _ | exact hB11 | refine Below.drew ?_ | refine below_drewN ?_ _ | refine bset ?_ (by simp <;> omega) _ | refine bal ?_ _)⟩
end Go.Proofs.YtdllbdfchloijaaDoor

