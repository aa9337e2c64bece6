/- The reference for layer 11: Points, Right, Evaluates. -/
import Derived.Test.YtdllbdfchloijaaGreatDoorE30
import Derived.Test.YtdllbdfchloijaaGreatDoorE28
import Derived.Test.YtdllbdfchloijaaGreatDoorE22
import Derived.Test.YtdllbdfchloijaaGreatDoorE11
set_option linter.unusedVariables false
set_option linter.unusedSimpArgs false
namespace Go.Proofs.YtdllbdfchloijaaGreatDoor
open Pt
open Num
open Go.ChangeShapes Go.WideShapes Go.ChangeAt Go.RowKit
set_option linter.unusedVariables false
set_option linter.unusedSimpArgs false
attribute [local go_sem ↓] Go.wp_at_zero Go.wp_at_succ
set_option maxRecDepth 100000 in
set_option maxHeartbeats 4000000 in
theorem rpoints11_c (a : Option Addr) (n cap : Nat) (f : Nat → Int × Int) (w : World) (h : PtsV w a n cap f) (hn : n ≤ 4611686018427387904) :
    Calls Tryz.prog 17 #[.slice a n cap] w fun e w' => e = .returned (.bool (ptsB n f)) ∧ Below w.heap.size w w' := by
  have hB := Below.refl w.heap.size w
  have HP := Lib.hid h
  clear h
  go_enter Tryz.func17, Tryz.ntmps17
  go_wp2
  go_loopw [3] (fun x wr => ∃ j : Nat, j ≤ n ∧ x = .int .i64 j ∧ Below w.heap.size w wr ∧ Hid (∀ t, t < j → inB (f t).1 (f t).2 = true)) (fun x _ => n - (intOf x).toNat)
  case atStart => exact ⟨0, Nat.zero_le _, rfl, hB, Lib.hid (fun t ht => by omega)⟩
  case round =>
    obtain ⟨j, hj, rfl, hBr, hE⟩ := hrel
    by_cases hlt : j < n
    · have hltI : (j : Int) < (n : Int) := by omega
      obtain ⟨b, off, e, hcap, c0, c1⟩ := (HP.out.keep hBr).atE hlt
      subst e
      have zb := cell_lt c0
      obtain ⟨q, hq⟩ : ∃ q, f j = q := ⟨_, rfl⟩
      rw [hq] at c0 c1
      obtain ⟨q1, q2⟩ := q
      obtain ⟨v, hv⟩ : ∃ v, inB q1 q2 = v := ⟨_, rfl⟩
      have NC := Lib.hid (fun W => refIn_v q1 q2 v W hv)
      have HV := Lib.hid (show inB (f j).1 (f j).2 = v by rw [hq]; exact hv)
      have hBw := Below.refl wr.heap.size wr
      have HLT := Lib.hid hlt
      clear hq hv hcap
      go_wp2_with fail
      (with_reducible refine (NC.out _).mono ?_)
      rintro e w5 ⟨rfl, hb5⟩
      have hB5 := bthen hBr (bthen (show Below wr.heap.size wr _ by repeat (first | exact Below.refl _ _ | exact hBw | refine Below.drew ?_ | refine below_drewN ?_ _ | refine bset ?_ (by simp <;> omega) _ | refine bal ?_ _)) hb5)
      cases v with
      | false =>
        have HNO := Lib.hid (show ptsB n f = false from ptsB_no fun k => by
          have h1 := inB_yes (k.2.2 j HLT.out)
          rw [HV.out] at h1; cases h1)
        go_wp2
        go_ret
        exact ⟨ret_bool HNO.out.symm, hB5⟩
      | true =>
        have HE2 := Lib.hid (show ∀ t, t < j + 1 → inB (f t).1 (f t).2 = true from fun t ht => by
          by_cases e : t = j
          · subst e; exact HV.out
          · exact hE.out t (by omega))
        go_wp2
        exact ⟨⟨j + 1, hlt, by go_num, hB5, HE2⟩, measS hlt (by go_num) rfl⟩
    · obtain rfl : j = n := by omega
      have hltI : ¬ (j : Int) < (j : Int) := by omega
      by_cases h1 : 1 ≤ j
      · have h1I : (1 : Int) ≤ (j : Int) := by omega
        by_cases h2 : j ≤ 15
        · have h2I : (j : Int) ≤ 15 := by omega
          have HM := Lib.hid (show ptsB j f = true from (ptsB_iff j f).2 ⟨h1, h2, fun i hi => (inB_iff _ _).1 (hE.out i hi)⟩)
          go_wp2
          go_ret
          exact ⟨ret_bool HM.out.symm, hBr⟩
        · have h2I : ¬ (j : Int) ≤ 15 := by omega
          have HM := Lib.hid (show ptsB j f = false from ptsB_no fun k => h2 k.2.1)
          go_wp2
          go_ret
          exact ⟨ret_bool HM.out.symm, hBr⟩
      · have h1I : ¬ (1 : Int) ≤ (j : Int) := by omega
        have HM := Lib.hid (show ptsB j f = false from ptsB_no fun k => h1 k.1)
        go_wp2
        go_ret
        exact ⟨ret_bool HM.out.symm, hBr⟩
/-- are k and the points asked rightly? -/
def rightB (k : Int) (n : Nat) (f : Nat → Int × Int) : Bool := decide (1 ≤ k ∧ k ≤ 8) && ptsB n f
theorem rightB_iff (k : Int) (n : Nat) (f : Nat → Int × Int) : rightB k n f = true ↔ (1 ≤ k ∧ k ≤ 8 ∧ PtsOk n f) := by
  unfold rightB
  rw [Bool.and_eq_true, ptsB_iff, decide_eq_true_eq, and_assoc]
theorem rightB_no {k : Int} {n : Nat} {f : Nat → Int × Int} (h : ¬ (1 ≤ k ∧ k ≤ 8)) : rightB k n f = false := by
  rw [Bool.eq_false_iff]; exact fun e => h ⟨((rightB_iff k n f).1 e).1, ((rightB_iff k n f).1 e).2.1⟩
set_option maxRecDepth 100000 in
set_option maxHeartbeats 4000000 in
theorem rright11_c (k : Int) (a : Option Addr) (n cap : Nat) (f : Nat → Int × Int) (w : World) (h : PtsV w a n cap f) (hn : n ≤ 4611686018427387904) :
    Calls Tryz.prog 10 #[.int .i64 k, .slice a n cap] w fun e w' => e = .returned (.bool (rightB k n f)) ∧ Below w.heap.size w w' := by
  have hB := Below.refl w.heap.size w
  have HP := Lib.hid h
  clear h
  by_cases h1 : 1 ≤ k
  · have d1 : decide (1 ≤ k) = true := decide_eq_true h1
    by_cases h2 : k ≤ 8
    · have d2 : decide (k ≤ 8) = true := decide_eq_true h2
      have HE := Lib.hid (show rightB k n f = ptsB n f from by unfold rightB; rw [decide_eq_true (And.intro h1 h2), Bool.true_and])
      have PC := Lib.hid (fun V (q : Below w.heap.size w V) => rpoints11_c a n cap f V (HP.out.keep q) hn)
      rw [HE.out]
      obtain ⟨b, hb⟩ : ∃ b, ptsB n f = b := ⟨_, rfl⟩
      rw [hb] at PC ⊢
      clear hb HE
      go_enter Tryz.func10, Tryz.ntmps10
      go_wp2_with fail
      (with_reducible refine (PC.out _ ?_).mono ?_); (repeat (first | exact Below.refl _ _ | exact hB | refine Below.drew ?_ | refine below_drewN ?_ _ | refine bset ?_ (by simp <;> omega) _ | refine bal ?_ _))
      rintro e w1 ⟨rfl, hb1⟩
      have hB1 : Below w.heap.size w w1 := bthen (by repeat (first | exact Below.refl _ _ | exact hB | refine Below.drew ?_ | refine below_drewN ?_ _ | refine bset ?_ (by simp <;> omega) _ | refine bal ?_ _)) hb1
      clear PC hb1 hB
      go_wp2
      go_ret
      exact ⟨rfl, by repeat (first | exact Below.refl _ _ | exact hB1 | refine Below.drew ?_ | refine below_drewN ?_ _ | refine bset ?_ (by simp <;> omega) _ | refine bal ?_ _)⟩
    · have d2 : decide (k ≤ 8) = false := decide_eq_false h2
      have HM := Lib.hid (rightB_no (n := n) (f := f) (show ¬ (1 ≤ k ∧ k ≤ 8) from fun q => h2 q.2))
      go_enter Tryz.func10, Tryz.ntmps10
      go_wp2
      go_ret
      exact ⟨ret_bool HM.out.symm, by repeat (first | exact Below.refl _ _ | exact hB | refine Below.drew ?_ | refine below_drewN ?_ _ | refine bset ?_ (by simp <;> omega) _ | refine bal ?_ _)⟩
  · have d1 : decide (1 ≤ k) = false := decide_eq_false h1
    have HM := Lib.hid (rightB_no (n := n) (f := f) (show ¬ (1 ≤ k ∧ k ≤ 8) from fun q => h1 q.1))
    go_enter Tryz.func10, Tryz.ntmps10
    go_wp2
    go_ret
    exact ⟨ret_bool HM.out.symm, by repeat (first | exact Below.refl _ _ | exact hB | refine Below.drew ?_ | refine below_drewN ?_ _ | refine bset ?_ (by simp <;> omega) _ | refine bal ?_ _)⟩
theorem followN_c (R k : Nat) (ca oa : Option Addr) (cc oc : Nat) (code : List Ins) (outs : List Int) (vg : Value) (w : World) (hc : InsV w ca cc code) (ho : IntsV w oa oc outs) (hg : GridQ w vg (unitG k)) (hk : 1 ≤ k) (hk8 : k ≤ 8) (hok : ProgOk k R code outs) (hnd : NoDiv code) :
    Calls Tryz.prog 40 #[.agg #[.int .i64 (k : Int), .int .i64 (R : Int), .slice ca code.length cc, .slice oa outs.length oc], vg] w fun e w' => (∃ (h : Grid) (v u : Value), after code (startG (unitG k) R k) code.length = some h ∧ e = .returned (.tuple #[v, .int .i64 (-1), u]) ∧ IsL 91 (RRow 0) 0 w' u (outsG outs h)) ∧ Below w.heap.size w w' := by
  obtain ⟨hf, hl⟩ := fits_unit hk hk8
  refine (follow_c k R ca oa cc oc code outs vg (unitG k) k 1 w hc ho hg hok (by rw [unitG_len]) (unitG_rect k) hl (by omega) (unitG_bd k) (by decide)).mono ?_
  rintro e w' ⟨⟨m, h, v, hm, _, h2, _⟩ | ⟨h, v, u, h3, h4, _, h5⟩, hb⟩
  · obtain ⟨s, hs⟩ := nodiv_after (startG (unitG k) R k) hnd (m + 1) (by omega)
    rw [hs] at h2; cases h2
  · exact ⟨⟨h, v, u, h3, h4, h5.isL.rebase (Nat.zero_le _)⟩, hb⟩
/-- what the reference's Evaluates answers -/
def REvPost (ins R : Int) (code : List Ins) (outs : List Int) (k n : Nat) (f : Nat → Int × Int) (w : World) (e : Ending) (w' : World) : Prop :=
  ((EvIs ins R code outs k n f ∧ e = .returned (.bool true)) ∨ (¬ EvIs ins R code outs k n f ∧ e = .returned (.bool false))) ∧ Below w.heap.size w w'
theorem REvPost.no {ins R : Int} {code : List Ins} {outs : List Int} {k n : Nat} {f : Nat → Int × Int} {w w' : World} (h2 : ¬ EvIs ins R code outs k n f) (hb : Below w.heap.size w w') : REvPost ins R code outs k n f w (.returned (.bool false)) w' := ⟨.inr ⟨h2, rfl⟩, hb⟩
theorem REvPost.yes {ins R : Int} {code : List Ins} {outs : List Int} {k n : Nat} {f : Nat → Int × Int} {w w' : World} (h2 : EvIs ins R code outs k n f) (hb : Below w.heap.size w w') : REvPost ins R code outs k n f w (.returned (.bool true)) w' := ⟨.inl ⟨h2, rfl⟩, hb⟩
theorem rsame_v (vx vy : Value) (x y : Int) (b : Bool) (w : World) (hx : IsRef w vx x) (hy : IsRef w vy y) (h : decide (x = y) = b) : Calls Tryz.prog 43 #[vx, vy] w fun e w' => e = .returned (.bool b) ∧ Below w.heap.size w w' := by
  rw [← h]; exact rsame_c vx vy x y w hx hy
set_option maxRecDepth 100000 in
set_option maxHeartbeats 16000000 in
theorem revals_c (ins : Int) (R : Nat) (ca oa : Option Addr) (cc oc : Nat) (code : List Ins) (outs : List Int) (k : Nat) (a : Option Addr) (n cap : Nat) (f : Nat → Int × Int) (w : World) (hc : InsV w ca cc code) (ho : IntsV w oa oc outs) (h : PtsV w a n cap f) (hk : 1 ≤ k) (hk8 : k ≤ 8) (hp : PtsOk n f) (hok : ProgOk ins (R : Int) code outs) :
    Calls Tryz.prog 13 #[.agg #[.int .i64 ins, .int .i64 (R : Int), .slice ca code.length cc, .slice oa outs.length oc], .int .i64 (k : Int), .slice a n cap] w (REvPost ins (R : Int) code outs k n f w) := by
  have hB := Below.refl w.heap.size w
  have HP := Lib.hid h
  have HC := Lib.hid (And.intro hc ho)
  have HK := Lib.hid hp
  have hn15 : n ≤ 15 := hp.2.1
  have HOK := Lib.hid hok
  have hcl : code.length ≤ 16384 := hok.c1
  have hol : outs.length ≤ 128 := hok.o2
  clear h hp hc ho hok
  by_cases hik : ins = k
  rotate_left
  · have hI : (ins != (k : Int)) = true := by simpa using hik
    have HM := Lib.hid (show ¬ EvIs ins (R : Int) code outs k n f from fun q => hik q.1)
    clear hik
    go_enter Tryz.func13, Tryz.ntmps13
    go_wp2
    go_ret
    exact REvPost.no HM.out (by repeat (first | exact Below.refl _ _ | exact hB | refine Below.drew ?_ | refine below_drewN ?_ _ | refine bset ?_ (by simp <;> omega) _ | refine bal ?_ _))
  subst hik
  by_cases hnn : outs.length = n
  rotate_left
  · have hI : ((outs.length : Int) != (n : Int)) = true := by simpa using (show ¬ (outs.length : Int) = (n : Int) by omega)
    have HM := Lib.hid (show ¬ EvIs k (R : Int) code outs k n f from fun q => hnn q.2.1)
    clear hnn
    go_enter Tryz.func13, Tryz.ntmps13
    go_wp2
    go_ret
    exact REvPost.no HM.out (by repeat (first | exact Below.refl _ _ | exact hB | refine Below.drew ?_ | refine below_drewN ?_ _ | refine bset ?_ (by simp <;> omega) _ | refine bal ?_ _))
  have hI : ((outs.length : Int) != (n : Int)) = false := by simpa using (show (outs.length : Int) = (n : Int) by omega)
  have HNN := Lib.hid hnn
  clear hnn
  go_enter Tryz.func13, Tryz.ntmps13
  go_wp2
  refine wp_name fun w2 hW2 => ?_
  have hB2 : Below w.heap.size w w2 := by rw [hW2]; repeat (first | exact Below.refl _ _ | exact hB | refine Below.drew ?_ | refine below_drewN ?_ _ | refine bset ?_ (by simp <;> omega) _ | refine bal ?_ _)
  have HPP := Lib.hid (show w2.cell? ⟨w.heap.size, 0, none⟩ = some (.int .i64 (k : Int)) ∧ w2.cell? ⟨w.heap.size, 1, none⟩ = some (.int .i64 (R : Int)) ∧ w2.cell? ⟨w.heap.size, 2, none⟩ = some (.slice ca code.length cc) ∧ w2.cell? ⟨w.heap.size, 3, none⟩ = some (.slice oa outs.length oc) from by rw [hW2]; simp [go_sem])
  have hBw := Below.refl w2.heap.size w2
  have HB2 := Lib.hid hB2
  clear hW2 hB hB2
  go_loopw [7] (fun x wr => ∃ j : Nat, j ≤ code.length ∧ x = .int .i64 j ∧ Below w2.heap.size w2 wr ∧ Hid (∀ t, t < j → (code.getD t default).op ≠ 6 ∧ (code.getD t default).op ≠ 8)) (fun x _ => code.length - (intOf x).toNat)
  case atStart => exact ⟨0, Nat.zero_le _, rfl, by repeat (first | exact Below.refl _ _ | exact hBw | refine Below.drew ?_ | refine below_drewN ?_ _ | refine bset ?_ (by simp <;> omega) _ | refine bal ?_ _), Lib.hid (fun t ht => by omega)⟩
  case round =>
    obtain ⟨j, hj, rfl, hBr, hA⟩ := hrel
    have hB3 := bthen HB2.out hBr
    clear hBw
    have p0 := bkeep hBr HPP.out.1
    have p1 := bkeep hBr HPP.out.2.1
    have p2 := bkeep hBr HPP.out.2.2.1
    have p3 := bkeep hBr HPP.out.2.2.2
    have zp := cell_lt p0
    by_cases hlt : j < code.length
    · have hltI : (j : Int) < (code.length : Int) := by omega
      rcases HC.out.1.keep hB3 with h0 | ⟨b, off, rfl, hcap, hcell⟩
      · rw [h0] at hlt; simp at hlt
      obtain ⟨q0, q1, q2, q3, q4⟩ := hcell j hlt
      have HLT := Lib.hid hlt
      have HAS := Lib.hid (show ((code.getD j default).op ≠ 6 ∧ (code.getD j default).op ≠ 8) → ∀ t, t < j + 1 → (code.getD t default).op ≠ 6 ∧ (code.getD t default).op ≠ 8 from fun h t ht => by
        by_cases e : t = j
        · subst e; exact h
        · exact hA.out t (by omega))
      have HNO := Lib.hid (show ¬ ((code.getD j default).op ≠ 6 ∧ (code.getD j default).op ≠ 8) → ¬ EvIs k (R : Int) code outs k n f from fun h q => h (q.2.2.1 j hlt))
      obtain ⟨i, hi⟩ : ∃ i, code.getD j default = i := ⟨_, rfl⟩
      rw [hi] at q0 q1 q2 q3 q4 HAS HNO
      obtain ⟨op, it, ia, ib, ic⟩ := i
      dsimp only at q0 q1 q2 q3 q4 HAS HNO
      have zb := cell_lt q0
      clear hi hcell hcap hlt hA
      by_cases h6 : op = 6
      · have HM := Lib.hid (HNO.out (fun h => h.1 h6))
        subst h6
        go_wp2
        go_ret
        exact REvPost.no HM.out (by repeat (first | exact Below.refl _ _ | exact hB3 | refine Below.drew ?_ | refine below_drewN ?_ _ | refine bset ?_ (by simp <;> omega) _ | refine bal ?_ _))
      · have h6I : (op == 6) = false := by simpa using h6
        by_cases h8 : op = 8
        · have HM := Lib.hid (HNO.out (fun h => h.2 h8))
          subst h8
          go_wp2
          go_ret
          exact REvPost.no HM.out (by repeat (first | exact Below.refl _ _ | exact hB3 | refine Below.drew ?_ | refine below_drewN ?_ _ | refine bset ?_ (by simp <;> omega) _ | refine bal ?_ _))
        · have h8I : (op == 8) = false := by simpa using h8
          have HA2 := Lib.hid (HAS.out ⟨h6, h8⟩)
          have hl := HLT.out
          clear HAS HNO h6 h8
          go_wp2
          exact ⟨⟨j + 1, hl, by go_num, by repeat (first | exact Below.refl _ _ | exact hBr | refine Below.drew ?_ | refine below_drewN ?_ _ | refine bset ?_ (by simp <;> omega) _ | refine bal ?_ _), HA2⟩, measS hl (by go_num) rfl⟩
    · obtain rfl : j = code.length := by omega
      have hltI : ¬ (code.length : Int) < (code.length : Int) := by omega
      have HND := Lib.hid (show NoDiv code from hA.out)
      have HS := Lib.hid (show ∀ V, Below wr.heap.size wr V → V.cell? ⟨w.heap.size, 0, none⟩ = some (.int .i64 (k : Int)) ∧ V.cell? ⟨w.heap.size, 1, none⟩ = some (.int .i64 (R : Int)) ∧ V.cell? ⟨w.heap.size, 2, none⟩ = some (.slice ca code.length cc) ∧ V.cell? ⟨w.heap.size, 3, none⟩ = some (.slice oa outs.length oc) from fun V q => ⟨bkeep q p0, bkeep q p1, bkeep q p2, bkeep q p3⟩)
      have UC := Lib.hid (fun V => runits_c k V hk8)
      have RC := Lib.hid (fun V vg (q : Below wr.heap.size wr V) (hg : GridQ V vg (unitG k)) => followN_c R k ca oa cc oc code outs vg V (HC.out.1.keep (bthen hB3 q)) (HC.out.2.keep (bthen hB3 q)) hg hk hk8 HOK.out HND.out)
      have HB3 := Lib.hid hB3
      have hBw := Below.refl wr.heap.size wr
      clear hj hlt hA hB3 hBr
      go_wp2
      go_region_held3 (fun V => V.cell? ⟨w.heap.size, 0, none⟩ = some (.int .i64 (k : Int)) ∧ V.cell? ⟨w.heap.size, 1, none⟩ = some (.int .i64 (R : Int)) ∧ V.cell? ⟨w.heap.size, 2, none⟩ = some (.slice ca code.length cc) ∧ V.cell? ⟨w.heap.size, 3, none⟩ = some (.slice oa outs.length oc))
        (first | (refine HS.out _ ?_; (repeat (first | exact Below.refl _ _ | exact hBw | refine Below.drew ?_ | refine below_drewN ?_ _ | refine bset ?_ (by simp <;> omega) _ | refine bal ?_ _)); done) | fail)
        (first
          | (go_at_call 41; refine (UC.out _).mono ?_; rintro e w5 ⟨⟨vu, rfl, hu⟩, hb5⟩; (have hBd : Below wr.heap.size wr w5 := bthen (by repeat (first | exact Below.refl _ _ | exact hBw | refine Below.drew ?_ | refine below_drewN ?_ _ | refine bset ?_ (by simp <;> omega) _ | refine bal ?_ _)) hb5; clear hBw; have hBw := hBd; clear hBd); have HU5 := Lib.hid (show GridQ w5 vu (unitG k) from (hu.isL.mono fun u x h => IsRow.rebase h (Nat.zero_le _)).rebase (Nat.zero_le _)); have hy5 := Below.refl w5.heap.size w5; obtain ⟨ua, uc, rfl⟩ := hu.ex; clear hu)
          | (go_at_call 40; refine (RC.out _ _ ?_ (HU5.out.keep (prs_row lims_ref _ _) ?_)).mono ?_; (repeat (first | exact Below.refl _ _ | exact hBw | refine Below.drew ?_ | refine below_drewN ?_ _ | refine bset ?_ (by simp <;> omega) _ | refine bal ?_ _)); (repeat (first | exact Below.refl _ _ | exact hy5 | refine Below.drew ?_ | refine below_drewN ?_ _ | refine bset ?_ (by simp <;> omega) _ | refine bal ?_ _)); rintro e w6 ⟨⟨H, vt, vr, hH, rfl, hR⟩, hb6⟩; (have hBd : Below wr.heap.size wr w6 := bthen (by repeat (first | exact Below.refl _ _ | exact hBw | refine Below.drew ?_ | refine below_drewN ?_ _ | refine bset ?_ (by simp <;> omega) _ | refine bal ?_ _)) hb6; clear hBw; have hBw := hBd; clear hBd); have HR6 := Lib.hid (And.intro hH hR); obtain ⟨ra, rc, rfl⟩ : ∃ a c, vr = Value.slice a (outsG outs H).length c := (by obtain ⟨a, c, h, _⟩ := hR; exact ⟨a, c, h⟩); clear hH hR)
          | fail)
      all_goals
        have HB6 := Lib.hid (bthen HB3.out hBw)
        have hRect : Rect k H := after_rect (startG_rect (unitG_rect k)) (startG_len (by rw [unitG_len]; have := HOK.out.i2; omega)) (fun m hm => by have := (mayB_iff ..).1 (HOK.out.cs m hm); omega) (Nat.le_refl _) HR6.out.1
        have HRW := Lib.hid (show ∀ i, i < n → (outsG outs H).length = n ∧ ((outsG outs H).getD i []).length = k from fun i hi => by
          have e : (outsG outs H).length = n := by unfold outsG; rw [List.length_map, HNN.out]
          refine ⟨e, ?_⟩
          have hi2 : i < outs.length := by rw [HNN.out]; exact hi
          rw [show (outsG outs H).getD i [] = H.getD (outs.getD i 0).toNat [] by unfold outsG; simp [hi2]]
          have h1 := HOK.out.os i hi2
          exact hRect _ (by rw [after_len HR6.out.1, startG_len (by rw [unitG_len]; have := HOK.out.i2; omega)]; omega))
        have HEV := Lib.hid (show (∀ i, i < n → ∀ j, j < k → gat (outsG outs H) i j = Det.pf (f i).1 (f i).2 k j) → EvIs k (R : Int) code outs k n f from fun q => ⟨rfl, HNN.out, HND.out, fun s hs i hi j hj => by rw [Int.toNat_natCast, HR6.out.1] at hs; cases hs; exact q i hi j hj⟩)
        have HNE := Lib.hid (show ∀ i, i < n → ∀ j, j < k → gat (outsG outs H) i j ≠ Det.pf (f i).1 (f i).2 k j → ¬ EvIs k (R : Int) code outs k n f from fun i hi j hj hne q => hne (q.2.2.2 H (by rw [Int.toNat_natCast]; exact HR6.out.1) i hi j hj))
        have HRS := Lib.hid HR6.out.2
        obtain ⟨G, hG⟩ : ∃ G, outsG outs H = G := ⟨_, rfl⟩
        rw [hG] at HRW HEV HNE HRS ⊢
        have hBx := Below.refl w6.heap.size w6
        clear hRect hG HR6 HU5 UC RC HS hBw hy5 p0 p1 p2 p3 zp HPP HB2 HB3 HND
        go_wp2
        go_loopw [11] (fun x wr => ∃ i : Nat, i ≤ n ∧ x = .int .i64 i ∧ Below w6.heap.size w6 wr ∧ Hid (∀ i', i' < i → ∀ j, j < k → gat G i' j = Det.pf (f i').1 (f i').2 k j)) (fun x _ => n - (intOf x).toNat)
        case atStart => exact ⟨0, Nat.zero_le _, rfl, by repeat (first | exact Below.refl _ _ | exact hBx | refine Below.drew ?_ | refine below_drewN ?_ _ | refine bset ?_ (by simp <;> omega) _ | refine bal ?_ _), Lib.hid (fun i' h => by omega)⟩
        case round =>
          rename World => wi
          obtain ⟨i, hi, rfl, hBi, hA⟩ := hrel
          by_cases hlt : i < n
          · have hltI : (i : Int) < (n : Int) := by omega
            have HLT := Lib.hid hlt
            obtain ⟨b, off, e, hcap, c0, c1⟩ := (HP.out.keep (bthen HB6.out hBi)).atE hlt
            subst e
            have hpin := HK.out.2.2 i hlt
            have HPFI := Lib.hid (fun j => (show Det.pf (f i).1 (f i).2 k j = powF (f i).1 (f i).2 k j from rfl))
            have HNEI := Lib.hid (HNE.out i hlt)
            obtain ⟨q, hq⟩ : ∃ q, f i = q := ⟨_, rfl⟩
            have HQ := Lib.hid hq
            rw [hq] at c0 c1 hpin HPFI HNEI
            obtain ⟨q1, q2⟩ := q
            have PW := Lib.hid (fun V => refPow_c q1 q2 k V hpin (by omega))
            have zb := cell_lt c0
            have hBw := Below.refl wi.heap.size wi
            clear hq hpin hcap
            go_wp2_with fail
            (with_reducible refine (PW.out _).mono ?_)
            rintro e w7 ⟨vw, rfl, hg⟩
            have hk7 : Below wi.heap.size wi w7 := bthen (by repeat (first | exact Below.refl _ _ | exact hBw | refine Below.drew ?_ | refine below_drewN ?_ _ | refine bset ?_ (by simp <;> omega) _ | refine bal ?_ _)) hg.bel
            have hB7 := bthen hBi hk7
            have HG7 := Lib.hid hg
            obtain ⟨ga, gc, hgv, -⟩ := hg.view
            subst hgv
            obtain ⟨_, _, e, -, hv⟩ := (HRS.out.keep (prs_row lims_ref _ _) hB7).view
            cases e
            obtain ⟨rb, ro, u, e, hu, hr⟩ := hv i (by rw [(HRW.out i hlt).1]; exact hlt)
            cases e
            have hrl := (HRW.out i hlt).2
            have hge : G[i]'(by rw [(HRW.out i hlt).1]; exact hlt) = G.getD i [] := by simp [(HRW.out i hlt).1, hlt]
            rw [hge] at hr
            have HRI := Lib.hid hr
            have HGA := Lib.hid (fun j => (show gat G i j = (G.getD i []).getD j 0 from rfl))
            have hGL : (i : Int) < (G.length : Int) := by rw [(HRW.out i hlt).1]; exact hltI
            have hGL2 : i < G.length := by rw [(HRW.out i hlt).1]; exact hlt
            obtain ⟨row, hrow⟩ : ∃ r, G.getD i [] = r := ⟨_, rfl⟩
            rw [hrow] at HRI hr hrl HGA
            obtain ⟨xa, xc, rfl, -, -⟩ := hr.view
            rw [hrl] at hu
            have HRL := Lib.hid hrl
            have HB7 := Lib.hid hB7
            have HU7 := Lib.hid hu
            have hBy := Below.refl w7.heap.size w7
            clear PW hk7 hB7 hg hv hr hge hrow hrl hBw c0 c1 zb hu
            go_wp2
            go_loopw [13] (fun x wr => ∃ j : Nat, j ≤ k ∧ x = .int .i64 j ∧ Below w7.heap.size w7 wr ∧ Hid (∀ j', j' < j → gat G i j' = Det.pf q1 q2 k j')) (fun x _ => k - (intOf x).toNat)
            case atStart => exact ⟨0, Nat.zero_le _, rfl, by repeat (first | exact Below.refl _ _ | exact hBy | refine Below.drew ?_ | refine below_drewN ?_ _ | refine bset ?_ (by simp <;> omega) _ | refine bal ?_ _), Lib.hid (fun j' h => by omega)⟩
            case round =>
              rename World => wj
              obtain ⟨j, hj, rfl, hBj, hE⟩ := hrel
              by_cases hjt : j < k
              · have hjI : (j : Int) < (k : Int) := by omega
                have HJT := Lib.hid hjt
                obtain ⟨_, _, e, -, vr⟩ := (IsRow.keep lims_ref HRI.out hBj).view
                cases e
                obtain ⟨xb, xo, xn, xd, xl, xk, e, d0, d1, hx⟩ := vr j (by rw [HRL.out]; exact hjt)
                cases e
                obtain ⟨_, _, e, -, -, hgr⟩ := (HG7.out.below lims_ref hBj).view
                cases e
                rcases hgr with hk0 | ⟨g, rfl, -, hgi⟩
                · omega
                obtain ⟨gn, gd, gl, gk, g0, g1, hgv⟩ := hgi.at0 hjt
                have hu := bkeep hBj HU7.out
                have HX9 := Lib.hid hx
                have HG9 := Lib.hid hgv
                have HPJ := Lib.hid (HPFI.out j)
                have HNJ := Lib.hid (HNEI.out j hjt)
                have HGJ := Lib.hid (HGA.out j)
                have HS := Lib.hid (show ∀ V, Below wj.heap.size wj V → V.cell? ⟨rb, ro + i, none⟩ = some (.slice (some ⟨xb, xo, none⟩) k xc) ∧ V.cell? ⟨xb, xo + j * 2, none⟩ = some (.bool xn) ∧ V.cell? ⟨xb, xo + j * 2 + 1, none⟩ = some (.slice xd xl xk) ∧ V.cell? ⟨g, j * 2, none⟩ = some (.bool gn) ∧ V.cell? ⟨g, j * 2 + 1, none⟩ = some (.slice gd gl gk) from fun V q => ⟨bkeep q hu, bkeep q d0, bkeep q d1, bkeep q g0, bkeep q g1⟩)
                have hB9 := hBj
                have hkJ : j < k := hjt
                have hGI : i < G.length := hGL2
                have zd := cell_lt d0
                have zg := cell_lt g0
                have zu := cell_lt hu
                have hBw := Below.refl wj.heap.size wj
                clear vr hjt hx hgv hgi hBj
                by_cases hxy : gat G i j = Det.pf q1 q2 k j
                · have CC := Lib.hid (fun V (q : Below wj.heap.size wj V) => rsame_v (.agg #[.bool xn, .slice xd xl xk]) (.agg #[.bool gn, .slice gd gl gk]) (row.getD j 0) (powF q1 q2 k j) true V (HX9.out.lim (.of_below q)) (HG9.out.lim (.of_below q)) (decide_eq_true (by rw [← HGJ.out, ← HPJ.out]; exact hxy)))
                  have HE2 := Lib.hid (show ∀ j', j' < j + 1 → gat G i j' = Det.pf q1 q2 k j' from fun j' h => by
                    by_cases e : j' = j
                    · subst e; exact hxy
                    · exact hE.out j' (by omega))
                  clear hxy hE
                  go_wp2
                  go_region_held3 (fun V => V.cell? ⟨rb, ro + i, none⟩ = some (.slice (some ⟨xb, xo, none⟩) k xc) ∧ V.cell? ⟨xb, xo + j * 2, none⟩ = some (.bool xn) ∧ V.cell? ⟨xb, xo + j * 2 + 1, none⟩ = some (.slice xd xl xk) ∧ V.cell? ⟨g, j * 2, none⟩ = some (.bool gn) ∧ V.cell? ⟨g, j * 2 + 1, none⟩ = some (.slice gd gl gk))
                    (first | (refine HS.out _ ?_; (repeat (first | exact Below.refl _ _ | exact hBw | refine Below.drew ?_ | refine below_drewN ?_ _ | refine bset ?_ (by simp <;> omega) _ | refine bal ?_ _)); done) | fail)
                    (first
                      | (go_at_call 43; refine (CC.out _ ?_).mono ?_; (repeat (first | exact Below.refl _ _ | exact hBw | refine Below.drew ?_ | refine below_drewN ?_ _ | refine bset ?_ (by simp <;> omega) _ | refine bal ?_ _)); rintro e w10 ⟨rfl, hb10⟩; (have hBd : Below wj.heap.size wj w10 := bthen (by repeat (first | exact Below.refl _ _ | exact hBw | refine Below.drew ?_ | refine below_drewN ?_ _ | refine bset ?_ (by simp <;> omega) _ | refine bal ?_ _)) hb10; clear hBw; have hBw := hBd; clear hBd))
                      | fail)
                  all_goals
                    have hBz := bthen hB9 hBw
                    have hl := HJT.out
                    clear CC HS hBw hB9 g0 g1 d0 d1 hu zu zd zg
                    go_wp2
                    exact ⟨⟨j + 1, hl, by go_num, hBz, HE2⟩, measS hl (by go_num) rfl⟩
                · have CC := Lib.hid (fun V (q : Below wj.heap.size wj V) => rsame_v (.agg #[.bool xn, .slice xd xl xk]) (.agg #[.bool gn, .slice gd gl gk]) (row.getD j 0) (powF q1 q2 k j) false V (HX9.out.lim (.of_below q)) (HG9.out.lim (.of_below q)) (decide_eq_false (by rw [← HGJ.out, ← HPJ.out]; exact hxy)))
                  have HM := Lib.hid (HNJ.out hxy)
                  clear hxy hE
                  go_wp2
                  go_region_held3 (fun V => V.cell? ⟨rb, ro + i, none⟩ = some (.slice (some ⟨xb, xo, none⟩) k xc) ∧ V.cell? ⟨xb, xo + j * 2, none⟩ = some (.bool xn) ∧ V.cell? ⟨xb, xo + j * 2 + 1, none⟩ = some (.slice xd xl xk) ∧ V.cell? ⟨g, j * 2, none⟩ = some (.bool gn) ∧ V.cell? ⟨g, j * 2 + 1, none⟩ = some (.slice gd gl gk))
                    (first | (refine HS.out _ ?_; (repeat (first | exact Below.refl _ _ | exact hBw | refine Below.drew ?_ | refine below_drewN ?_ _ | refine bset ?_ (by simp <;> omega) _ | refine bal ?_ _)); done) | fail)
                    (first
                      | (go_at_call 43; refine (CC.out _ ?_).mono ?_; (repeat (first | exact Below.refl _ _ | exact hBw | refine Below.drew ?_ | refine below_drewN ?_ _ | refine bset ?_ (by simp <;> omega) _ | refine bal ?_ _)); rintro e w10 ⟨rfl, hb10⟩; (have hBd : Below wj.heap.size wj w10 := bthen (by repeat (first | exact Below.refl _ _ | exact hBw | refine Below.drew ?_ | refine below_drewN ?_ _ | refine bset ?_ (by simp <;> omega) _ | refine bal ?_ _)) hb10; clear hBw; have hBw := hBd; clear hBd))
                      | fail)
                  all_goals
                    have hBz := bthen HB6.out (bthen HB7.out (bthen hB9 hBw))
                    clear CC HS hBw hB9 g0 g1 d0 d1 hu zu zd zg
                    go_wp2
                    go_ret
                    exact REvPost.no HM.out (by repeat (first | exact Below.refl _ _ | exact hBz | refine Below.drew ?_ | refine below_drewN ?_ _ | refine bset ?_ (by simp <;> omega) _ | refine bal ?_ _))
              · obtain rfl : j = k := by omega
                have hjI : ¬ (j : Int) < (j : Int) := by omega
                have HA2 := Lib.hid (show ∀ i', i' < i + 1 → ∀ j', j' < j → gat G i' j' = Det.pf (f i').1 (f i').2 j j' from fun i' h j' h2 => by
                  by_cases e : i' = i
                  · subst e; rw [HQ.out]; exact hE.out j' h2
                  · exact hA.out i' (by omega) j' h2)
                have hBz := bthen HB7.out hBj
                have hl := HLT.out
                clear hE hBj hA
                go_wp2
                exact ⟨⟨i + 1, hl, by go_num, hBz, HA2⟩, measS hl (by go_num) rfl⟩
          · obtain rfl : i = n := by omega
            have hltI : ¬ (i : Int) < (i : Int) := by omega
            have HM := Lib.hid (HEV.out hA.out)
            go_wp2
            go_ret
            exact REvPost.yes HM.out (bthen HB6.out hBi)
end Go.Proofs.YtdllbdfchloijaaGreatDoor

