/- Texts of this seat, laid together: EvL, EvN, EvV, Wp, Wr. Each opens with its own remark, which says what it proves, and under which conditions. -/
import Derived.Test.YtdllbdfchloijaaGreatDoorW26
import Derived.Test.YtdllbdfchloijaaGreatDoorW18
import Derived.Test.YtdllbdfchloijaaGreatDoorW22
import Derived.Test.YtdllbdfchloijaaGreatDoorW27
import Derived.Deep.RegionLaw
import Derived.Test.YtdllbdfchloijaaGreatDoorW03
import Derived.Test.YtdllbdfchloijaaGreatDoorW06
import Derived.Test.YtdllbdfchloijaaGreatDoorW25
import Derived.Test.YtdllbdfchloijaaGreatDoorW01
set_option linter.unusedVariables false
set_option linter.unusedSimpArgs false
/- eval's laws: example, works. -/
namespace Go.Proofs.YtdllbdfchloijaaGreatDoor
open Pt
open Num
open Go.ChangeShapes Go.WideShapes Go.ChangeAt Go.RowKit
set_option linter.unusedVariables false
set_option linter.unusedSimpArgs false
attribute [local go_sem ↓] Go.wp_at_zero Go.wp_at_succ
def eC : List Ins := [⟨3, 2, 0, 1, 0⟩]
def eO : List Int := [0, 2, 1]
def eP : List Int := [0, 1, 1, 1, 1, 0]
theorem lt3 {i : Nat} (h : i < 3) : i = 0 ∨ i = 1 ∨ i = 2 := by omega
theorem e_ok : ProgOk 2 3 eC eO := by
  refine ⟨by decide, by decide, by decide, by decide, by decide, by decide, fun k hk => ?_, fun k hk => ?_⟩
  · rcases lt3 hk with rfl | rfl | rfl <;> decide
  · obtain rfl : k = 0 := by have : k < 1 := hk; omega
    decide
theorem e_pts : PtsOk 3 (evF eP) := by
  refine ⟨by decide, by decide, fun i hi => ?_⟩
  rcases lt3 hi with rfl | rfl | rfl <;> (unfold PIn evF eP; decide)
theorem e_after : after eC (startG (unitG 2) 3 2) 1 = some [[1, 0], [0, 1], [1, 1]] := by kernel_rfl
theorem e_is : EvIs 2 3 eC eO (2 : Nat) 3 (evF eP) := by
  refine ⟨rfl, rfl, fun n hn => ?_, fun s hs i hi j hj => ?_⟩
  · obtain rfl : n = 0 := by have : n < 1 := hn; omega
    decide
  · have h := e_after.symm.trans hs
    cases h
    rcases lt3 hi with rfl | rfl | rfl <;> (rcases (show j = 0 ∨ j = 1 by omega) with rfl | rfl <;> decide)
theorem p_is (k n : Nat) (f : Nat → Int × Int) (hk : 1 ≤ k) (hq : ∀ i, i < n → PIn (f i).1 (f i).2) : EvIs k ((k + n + 1 : Nat) : Int) (codeL k n f n) (outsL k n) k n f :=
  ⟨rfl, outsL_len k n, code_nodiv hq, by rw [Int.toNat_natCast]; exact code_evs hk hq⟩
theorem EvPost.is {ins R : Int} {code : List Ins} {outs : List Int} {k n : Nat} {f : Nat → Int × Int} {w w' : World} {e : Ending} (h : EvPost ins R code outs k n f w e w') (h1 : ProgOk ins R code outs) (h2 : EvIs ins R code outs k n f) : e = .returned (.tuple #[.bool true, .int .i64 0]) ∧ Below w.heap.size w w' := by
  obtain ⟨h | h | h, hb⟩ := h
  · exact absurd h1 h.1
  · exact ⟨h.2.2, hb⟩
  · exact absurd h2 h.2.1
theorem rowI_lit {w : World} {b off c : Nat} {l : List Int} (hc : ∀ k, k < l.length → w.cell? ⟨b, off + k, none⟩ = some (.int .i64 (l.getD k 0))) (h : ∀ x ∈ l, I64 x) : RowI w (.slice (some ⟨b, off, none⟩) l.length c) l :=
  ⟨_, _, rfl, fun k hk => ⟨b, off, rfl, hc k hk, by rw [show l.getD k 0 = l[k] by simp [hk]]; exact h _ (List.getElem_mem hk)⟩⟩
theorem example11_c (w : World) : Calls Tryz.prog 33 #[] w fun e w' => (∃ a b, e = .returned (.agg #[.int .i64 2, .int .i64 3, .slice (some a) 1 1, .slice (some b) 3 3]) ∧ InsV w' (some a) 1 eC ∧ IntsV w' (some b) 3 eO) ∧ Below w.heap.size w w' := by
  have hB := Below.refl w.heap.size w
  go_enter Tryz.func33, Tryz.ntmps33
  go_wp2
  refine bodyPost_ret (v := .agg #[.int .i64 2, .int .i64 3, .slice (some ⟨w.heap.size + 1, 0, none⟩) 1 1, .slice (some ⟨w.heap.size + 1 + 1, 0, none⟩) 3 3]) (by simp [results, Tryz.results33, go_sem]) rfl ⟨⟨_, _, rfl, .inr ⟨_, _, rfl, Nat.le_refl _, fun k hk => ?_⟩, .inr ⟨_, _, rfl, Nat.le_refl _, fun k hk => ?_⟩⟩, by repeat (first | exact Below.refl _ _ | exact hB | refine Below.drew ?_ | refine below_drewN ?_ _ | refine bset ?_ (by simp <;> omega) _ | refine bal ?_ _)⟩
  · obtain rfl : k = 0 := by have : k < 1 := hk; omega
    constructor <;> simp [go_sem, eC]
  · rcases lt3 hk with rfl | rfl | rfl <;> simp [go_sem, eO]
theorem hv_123 : hvL [1, 2, 3] 1 2 = 11 := by kernel_rfl
theorem txt_11 : intTxt 11 = [49, 49] := by kernel_rfl
theorem bd_123 : ∀ j, Bd 8 (([1, 2, 3] : List Int).getD j 0) := fun j => by
  by_cases h : j < 3
  · rcases lt3 h with rfl | rfl | rfl <;> (unfold Bd; decide)
  · rw [List.getD_eq_getElem?_getD, List.getElem?_eq_none (by simp; omega)]; exact bd_zero
theorem six_cells {w : World} {g : Nat} (t : TypeId) (hg : g = w.heap.size) : ∀ k, k < 6 → (w.alloc (.cells #[.int .i64 0, .int .i64 1, .int .i64 1, .int .i64 1, .int .i64 1, .int .i64 0] t)).cell? ⟨g, 0 + k, none⟩ = some (.int .i64 (eP.getD k 0)) := by
  intro k hk
  rcases (show k = 0 ∨ k = 1 ∨ k = 2 ∨ k = 3 ∨ k = 4 ∨ k = 5 by omega) with rfl | rfl | rfl | rfl | rfl | rfl <;> exact cell_new hg rfl
set_option maxRecDepth 100000 in
set_option maxHeartbeats 16000000 in
theorem works11_c (w : World) (hT : Tz64 w) : Calls Tryz.prog 7 #[] w fun e w' => e = .returned (.bool true) ∧ Below w.heap.size w w' := by
  have hB := Below.refl w.heap.size w
  have HT := Lib.hid hT
  clear hT
  go_enter Tryz.func7, Tryz.ntmps7
  go_wp2_with fail
  (with_reducible refine (list11_c (.slice (some ⟨w.heap.size, 0, none⟩) 3 3) [1, 2, 3] _ ?_ (by decide)).mono ?_)
  · refine rowI_lit (l := [1, 2, 3]) (fun k hk => ?_) (fun x hx => by simp at hx; rcases hx with rfl | rfl | rfl <;> (unfold I64; decide))
    rcases lt3 hk with rfl | rfl | rfl <;> exact cell_new rfl rfl
  rintro e w1 ⟨⟨v1, rfl, hv1⟩, hb1⟩
  have hB1 : Below w.heap.size w w1 := bthen (by repeat (first | exact Below.refl _ _ | exact hB | refine Below.drew ?_ | refine below_drewN ?_ _ | refine bset ?_ (by simp <;> omega) _ | refine bal ?_ _)) hb1
  have HV1 := Lib.hid (show PRow 0 w1 v1 [1, 2, 3] from hv1.row.rebase (Nat.zero_le _))
  obtain ⟨a1, c1, rfl⟩ := hv1.ex
  have hBw := Below.refl w1.heap.size w1
  clear hv1 hb1 hB
  have TC := Lib.hid (fun V (qB : Below w1.heap.size w1 V) => value_c (.slice a1 3 c1) [1, 2, 3] 8 1 2 V (IsRow.keep lims_int HV1.out qB) (by decide) (by decide) (by unfold PIn; decide) bd_123 (by decide))
  rw [hv_123] at TC
  go_wp2_with fail
  (with_reducible refine (TC.out _ ?_).mono ?_); (repeat (first | exact Below.refl _ _ | exact hBw | refine Below.drew ?_ | refine below_drewN ?_ _ | refine bset ?_ (by simp <;> omega) _ | refine bal ?_ _))
  rintro e w2 ⟨⟨v2, rfl, hv2⟩, hb2⟩
  have hB2 := bthen hB1 (bthen (show Below w1.heap.size w1 _ by repeat (first | exact Below.refl _ _ | exact hBw | refine Below.drew ?_ | refine below_drewN ?_ _ | refine bset ?_ (by simp <;> omega) _ | refine bal ?_ _)) hb2)
  have HV2 := Lib.hid hv2
  obtain ⟨n2, a2, l2, c2, rfl⟩ := hv2.litE
  have hBw := Below.refl w2.heap.size w2
  clear TC hb2 hv2 hB1 HV1
  -- the example
  go_wp2_with fail
  (with_reducible refine (example11_c _).mono ?_)
  rintro e w3 ⟨⟨ea, eb, rfl, hec, heo⟩, hb3⟩
  have hk3 : Below w2.heap.size w2 w3 := bthen (by repeat (first | exact Below.refl _ _ | exact hBw | refine Below.drew ?_ | refine below_drewN ?_ _ | refine bset ?_ (by simp <;> omega) _ | refine bal ?_ _)) hb3
  have x0 : w3.cell? ⟨w2.heap.size, 0, none⟩ = some (.bool n2) := bkeep hb3 (by simp [go_sem])
  have x1 : w3.cell? ⟨w2.heap.size, 1, none⟩ = some (.slice a2 l2 c2) := bkeep hb3 (by simp [go_sem])
  have zx := cell_lt x0
  have HE3 := Lib.hid (And.intro hec heo)
  have HV3 := Lib.hid (HV2.out.keep hk3)
  have hB3 := bthen hB2 hk3
  have hBw := Below.refl w3.heap.size w3
  clear hb3 hk3 hec heo hB2 HV2
  go_wp2_with fail
  (with_reducible refine (points11_c w3.heap.size 0 6 6 3 eP _ rfl (by decide) (six_cells _ rfl)).mono ?_)
  rintro e w4 ⟨⟨pa, pc, rfl, hpp⟩, hb4⟩
  have hk4 : Below w3.heap.size w3 w4 := bthen (by repeat (first | exact Below.refl _ _ | exact hBw | refine Below.drew ?_ | refine below_drewN ?_ _ | refine bset ?_ (by simp <;> omega) _ | refine bal ?_ _)) hb4
  replace x0 := bkeep hk4 x0
  replace x1 := bkeep hk4 x1
  replace zx := cell_lt x0
  have HE4 := Lib.hid (And.intro (HE3.out.1.keep hk4) (HE3.out.2.keep hk4))
  have HP4 := Lib.hid hpp
  have HV4 := Lib.hid (HV3.out.keep hk4)
  have hB4 := bthen hB3 hk4
  have EC := Lib.hid (fun V (qB : Below w4.heap.size w4 V) => show Calls Tryz.prog 14 #[.agg #[.int .i64 2, .int .i64 3, .slice (some ea) 1 1, .slice (some eb) 3 3], .int .i64 2, .slice pa 3 pc] V (fun e w' => e = .returned (.tuple #[.bool true, .int .i64 0]) ∧ Below V.heap.size V w') from (evals_c 2 3 (some ea) (some eb) 1 3 eC eO 2 pa 3 pc (evF eP) V (HE4.out.1.keep qB) (HE4.out.2.keep qB) (HP4.out.keep qB) (by decide) (by decide) e_pts).mono fun e w' h => h.is e_ok e_is)
  have hBw := Below.refl w4.heap.size w4
  clear hb4 hk4 hpp hB3 HE3 HV3
  go_wp2_with fail
  (with_reducible refine (EC.out _ ?_).mono ?_); (repeat (first | exact Below.refl _ _ | exact hBw | refine Below.drew ?_ | refine below_drewN ?_ _ | refine bset ?_ (by simp <;> omega) _ | refine bal ?_ _))
  rintro e w5 ⟨rfl, hb5⟩
  have hk5 : Below w4.heap.size w4 w5 := bthen (by repeat (first | exact Below.refl _ _ | exact hBw | refine Below.drew ?_ | refine below_drewN ?_ _ | refine bset ?_ (by simp <;> omega) _ | refine bal ?_ _)) hb5
  replace x0 := bkeep hk5 x0
  replace x1 := bkeep hk5 x1
  replace zx := cell_lt x0
  have HV5 := Lib.hid (HV4.out.keep hk5)
  have hB5 := bthen hB4 hk5
  have hBw := Below.refl w5.heap.size w5
  clear EC hb5 hk5 hB4 HE4 HV4 HP4
  -- the program
  go_wp2_with fail
  (with_reducible refine (points11_c w5.heap.size 0 6 6 3 eP _ rfl (by decide) (six_cells _ rfl)).mono ?_)
  rintro e w6 ⟨⟨pa, pc, rfl, hpp⟩, hb6⟩
  have hk6 : Below w5.heap.size w5 w6 := bthen (by repeat (first | exact Below.refl _ _ | exact hBw | refine Below.drew ?_ | refine below_drewN ?_ _ | refine bset ?_ (by simp <;> omega) _ | refine bal ?_ _)) hb6
  replace x0 := bkeep hk6 x0
  replace x1 := bkeep hk6 x1
  replace zx := cell_lt x0
  have HP6 := Lib.hid hpp
  have HV6 := Lib.hid (HV5.out.keep hk6)
  have hB6 := bthen hB5 hk6
  have PC := Lib.hid (fun V (qB : Below w6.heap.size w6 V) => show Calls Tryz.prog 8 #[.int .i64 2, .slice pa 3 pc] V (ProgPost 2 3 (evF eP) V) from program_c 2 pa 3 pc (evF eP) V (HP6.out.keep qB) (by decide) (by decide) e_pts (HT.out.keep (bthen hB6 qB)))
  have hBw := Below.refl w6.heap.size w6
  clear hb6 hk6 hpp hB5 HV5
  go_wp2_with fail
  (with_reducible refine (PC.out _ ?_).mono ?_); (repeat (first | exact Below.refl _ _ | exact hBw | refine Below.drew ?_ | refine below_drewN ?_ _ | refine bset ?_ (by simp <;> omega) _ | refine bal ?_ _))
  rintro e w7 ⟨⟨ca, cc, oa, oc, rfl, hcv, hov, -, -⟩, hb7⟩
  have hk7 : Below w6.heap.size w6 w7 := bthen (by repeat (first | exact Below.refl _ _ | exact hBw | refine Below.drew ?_ | refine below_drewN ?_ _ | refine bset ?_ (by simp <;> omega) _ | refine bal ?_ _)) hb7
  replace x0 := bkeep hk7 x0
  replace x1 := bkeep hk7 x1
  replace zx := cell_lt x0
  have HE7 := Lib.hid (And.intro hcv hov)
  have HV7 := Lib.hid (HV6.out.keep hk7)
  have hB7 := bthen hB6 hk7
  have hBw := Below.refl w7.heap.size w7
  have HLN := Lib.hid (show (codeL 2 3 (evF eP) 3).length = (codeL 2 3 (evF eP) 3).length ∧ (outsL 2 3).length = (outsL 2 3).length from ⟨rfl, rfl⟩)
  clear PC hb7 hk7 hcv hov hB6 HV6 HP6
  have EC := Lib.hid (fun V pa pc (hc : InsV V ca cc (codeL 2 3 (evF eP) 3)) (ho : IntsV V oa oc (outsL 2 3)) (hp : PtsV V pa 3 pc (evF eP)) => show Calls Tryz.prog 14 #[.agg #[.int .i64 2, .int .i64 6, .slice ca (codeL 2 3 (evF eP) 3).length cc, .slice oa (outsL 2 3).length oc], .int .i64 2, .slice pa 3 pc] V (fun e w' => e = .returned (.tuple #[.bool true, .int .i64 0]) ∧ Below V.heap.size V w') from (evals_c 2 ((2 + 3 + 1 : Nat) : Int) ca oa cc oc (codeL 2 3 (evF eP) 3) (outsL 2 3) 2 pa 3 pc (evF eP) V hc ho hp (by decide) (by decide) e_pts).mono fun e w' h => h.is (code_ok (by decide) (by decide) (by decide) (by decide) e_pts.2.2) (p_is 2 3 (evF eP) (by decide) e_pts.2.2))
  obtain ⟨N, hN⟩ : ∃ N, (codeL 2 3 (evF eP) 3).length = N := ⟨_, rfl⟩
  obtain ⟨M, hM⟩ : ∃ M, (outsL 2 3).length = M := ⟨_, rfl⟩
  rw [hN, hM] at EC ⊢
  clear hN hM HLN
  go_wp2
  refine wp_name fun w8 hW8 => ?_
  have hk8 : Below w7.heap.size w7 w8 := by rw [hW8]; repeat (first | exact Below.refl _ _ | exact hBw | refine Below.drew ?_ | refine below_drewN ?_ _ | refine bset ?_ (by simp <;> omega) _ | refine bal ?_ _)
  have p0 : w8.cell? ⟨w7.heap.size, 0, none⟩ = some (.int .i64 2) := by rw [hW8]; simp [go_sem]
  have p1 : w8.cell? ⟨w7.heap.size, 1, none⟩ = some (.int .i64 6) := by rw [hW8]; simp [go_sem]
  have p2 : w8.cell? ⟨w7.heap.size, 2, none⟩ = some (.slice ca N cc) := by rw [hW8]; simp [go_sem]
  have p3 : w8.cell? ⟨w7.heap.size, 3, none⟩ = some (.slice oa M oc) := by rw [hW8]; simp [go_sem]
  replace x0 := bkeep hk8 x0
  replace x1 := bkeep hk8 x1
  replace zx := cell_lt x0
  have zp := cell_lt p0
  have HE8 := Lib.hid (And.intro (HE7.out.1.keep hk8) (HE7.out.2.keep hk8))
  have HV8 := Lib.hid (HV7.out.keep hk8)
  have hB8 := bthen hB7 hk8
  have HC := Lib.hid (show ∀ V, Below w8.heap.size w8 V → V.cell? ⟨w7.heap.size, 0, none⟩ = some (.int .i64 2) ∧ V.cell? ⟨w7.heap.size, 1, none⟩ = some (.int .i64 6) ∧ V.cell? ⟨w7.heap.size, 2, none⟩ = some (.slice ca N cc) ∧ V.cell? ⟨w7.heap.size, 3, none⟩ = some (.slice oa M oc) ∧ V.cell? ⟨w2.heap.size, 0, none⟩ = some (.bool n2) ∧ V.cell? ⟨w2.heap.size, 1, none⟩ = some (.slice a2 l2 c2) from fun V q => ⟨bkeep q p0, bkeep q p1, bkeep q p2, bkeep q p3, bkeep q x0, bkeep q x1⟩)
  clear hW8 hk8 hB7 HV7 HE7 hBw
  have hBw := Below.refl w8.heap.size w8
  go_region_law (go_simp; go_wp2_with (first
    | (go_at_call 34; (with_reducible refine (points11_c w8.heap.size 0 6 6 3 eP _ rfl (by decide) ?_).mono ?_); (first | exact six_cells _ rfl | exact fun k hk => cell_drew (six_cells _ rfl k hk)); rintro e w9 ⟨⟨pa2, pc2, rfl, hpp2⟩, hb9⟩; (have hBd : Below w8.heap.size w8 w9 := bthen (by repeat (first | exact Below.refl _ _ | exact hBw | refine Below.drew ?_ | refine below_drewN ?_ _ | refine bset ?_ (by simp <;> omega) _ | refine bal ?_ _)) hb9; clear hBw; have hBw := hBd; clear hBd); obtain ⟨p0, p1, p2, p3, x0, x1⟩ := HC.out w9 hBw; have HP9 := Lib.hid hpp2; have hy9 := Below.refl w9.heap.size w9; have zp9 := cell_lt p0; have zx9 := cell_lt x0; clear hpp2)
    | (go_at_call 14; (with_reducible refine (EC.out _ _ _ (HE8.out.1.keep ?_) (HE8.out.2.keep ?_) (HP9.out.keep ?_)).mono ?_); (repeat (first | exact Below.refl _ _ | exact hBw | refine Below.drew ?_ | refine below_drewN ?_ _ | refine bset ?_ (by simp <;> omega) _ | refine bal ?_ _)); (repeat (first | exact Below.refl _ _ | exact hBw | refine Below.drew ?_ | refine below_drewN ?_ _ | refine bset ?_ (by simp <;> omega) _ | refine bal ?_ _)); (repeat (first | exact Below.refl _ _ | exact hy9 | refine Below.drew ?_ | refine below_drewN ?_ _ | refine bset ?_ (by simp <;> omega) _ | refine bal ?_ _)); rintro e w10 ⟨rfl, hb10⟩; (have hBd : Below w8.heap.size w8 w10 := bthen (by repeat (first | exact Below.refl _ _ | exact hBw | refine Below.drew ?_ | refine below_drewN ?_ _ | refine bset ?_ (by simp <;> omega) _ | refine bal ?_ _)) hb10; clear hBw; have hBw := hBd; clear hBd); obtain ⟨p0, p1, p2, p3, x0, x1⟩ := HC.out w10 hBw; have zx10 := cell_lt x0)
    | fail))
  all_goals
    have HTX := Lib.hid (fun V (q : Below w10.heap.size w10 V) => intText_c (.agg #[.bool n2, .slice a2 l2 c2]) 11 8 V (HV8.out.keep (bthen hBw q)) (by unfold Bd; decide) (by decide))
    have hBf := bthen hB8 hBw
    have hBz := Below.refl w10.heap.size w10
    rw [txt_11] at HTX
    clear HC EC HE8 HV8 HP9 hy9 p0 p1 p2 p3 zp zp9 hBw hB8
    go_wp2_with fail
    (with_reducible refine (HTX.out _ ?_).mono ?_); (repeat (first | exact Below.refl _ _ | exact hBz | refine Below.drew ?_ | refine below_drewN ?_ _ | refine bset ?_ (by simp <;> omega) _ | refine bal ?_ _))
    rintro e w11 ⟨rfl, hb11⟩
    have hB11 := bthen hBf (bthen (show Below w10.heap.size w10 _ by repeat (first | exact Below.refl _ _ | exact hBz | refine Below.drew ?_ | refine below_drewN ?_ _ | refine bset ?_ (by simp <;> omega) _ | refine bal ?_ _)) hb11)
    go_wp2
    go_ret
    exact ⟨rfl, by repeat (first | exact Below.refl _ _ | exact hB11 | refine Below.drew ?_ | refine below_drewN ?_ _ | refine bset ?_ (by simp <;> omega) _ | refine bal ?_ _)⟩
end Go.Proofs.YtdllbdfchloijaaGreatDoor

/- EvalHolds: whether any program evaluates so many coefficients at any points. -/
namespace Go.Proofs.YtdllbdfchloijaaGreatDoor
open Pt
open Num
open Go.ChangeShapes Go.WideShapes Go.ChangeAt Go.RowKit
set_option linter.unusedVariables false
set_option linter.unusedSimpArgs false
attribute [local go_sem ↓] Go.wp_at_zero Go.wp_at_succ
end Go.Proofs.YtdllbdfchloijaaGreatDoor

/- EvalPrograms: a program that evaluates, wherever it is asked rightly. -/
namespace Go.Proofs.YtdllbdfchloijaaGreatDoor
open Pt
open Num
open Go.ChangeShapes Go.WideShapes Go.ChangeAt Go.RowKit
set_option linter.unusedVariables false
set_option linter.unusedSimpArgs false
attribute [local go_sem ↓] Go.wp_at_zero Go.wp_at_succ
end Go.Proofs.YtdllbdfchloijaaGreatDoor

/- A list of points that came in, no slice past what can be reached. -/
namespace Go.Proofs.YtdllbdfchloijaaGreatDoor
open Go.ChangeShapes Go.WideShapes Go.ChangeAt Go.RowKit Go.Joins Go.Deep
set_option maxRecDepth 100000
theorem cells_pt : Tryz.prog.cellsOf 33 = 2 := by kernel_rfl
theorem bytes_pt : Tryz.prog.bytesOf 33 = 16 := by kernel_rfl
theorem open_pts_w {H : Type} {enc : TypeId × Value → H} {W : World} {b0 : Nat} {r : Reach} {v : Value} {d : DataW H} {p : List MemPlace}
    (hv : Value.okWide Tryz.prog W r b0 22 v) (h : DataW.Trod enc Tryz.prog W 0 (fun _ => true) true 22 v d p) (hw : ∀ n ∈ d.weights Tryz.prog 22, n ≤ reachBytes) :
    ∃ a n cap f, v = .slice a n cap ∧ n * 16 ≤ 140737488355328 ∧ PtsV W a n cap f ∧ ∀ k, k < n → I64 (f k).1 ∧ I64 (f k).2 := by
  obtain ⟨a, n, cap, rfl⟩ := okWide_slice Tryz.underlying22 hv
  obtain ⟨fuel, hf⟩ := h
  rcases open_slice_fields Tryz.underlying22 Tryz.underlying33 (by kernel_rfl) cells_pt hf with ⟨hcs, _⟩ | ⟨x, l, c, m, D, Pl, hcs, _, hl, hm, hmm, hx, hcell⟩
  · simp [Value.cells] at hcs
    obtain ⟨rfl, rfl, rfl⟩ := hcs
    exact ⟨_, _, _, fun _ => (0, 0), rfl, by simp, .inl rfl, fun k hk => by omega⟩
  · simp [Value.cells] at hcs
    obtain ⟨rfl, rfl, rfl⟩ := hcs
    simp only [if_true] at hmm
    subst hmm
    have hwt : n * 16 ≤ 140737488355328 := by
      simp only [Prod.mk.injEq] at hx
      have hmem : (((List.range n).map D).length + ((List.range (m - n)).map fun j => D (n + j)).length) * Tryz.prog.bytesOf 33 ∈ d.weights Tryz.prog 22 := by
        rw [hx.1]
        simp only [DataW.weights, Tryz.underlying22]
        exact List.mem_cons.2 (.inl rfl)
      have h8 := hw _ hmem
      have h9 := reachBytes_lt
      rw [bytes_pt] at h8
      simp only [List.length_map, List.length_range] at h8
      omega
    by_cases h0 : n = 0
    · exact ⟨_, _, _, fun _ => (0, 0), rfl, hwt, .inl h0, fun k hk => by omega⟩
    have hall : ∀ i, i < m → ∃ q : Int × Int, W.cell? (x.add (i * 2)) = some (.int .i64 q.1) ∧ W.cell? (x.add (i * 2 + 1)) = some (.int .i64 q.2) ∧ I64 q.1 ∧ I64 q.2 := by
      intro i hi
      obtain ⟨ys, k, _, _, _, hf⟩ := hcell i hi
      obtain ⟨u, y, c0, _, t0⟩ := hf 0 _ rfl
      obtain ⟨u', y', c1, _, t1⟩ := hf 1 _ rfl
      obtain ⟨a0, e0, _, i0⟩ := DataW.trod_int Tryz.underlying3 t0
      obtain ⟨a1, e1, _, i1⟩ := DataW.trod_int Tryz.underlying3 t1
      simp at e0 e1
      subst e0 e1
      exact ⟨(a0, a1), c0, c1, i64_of i0, i64_of i1⟩
    have hf : ∃ f : Nat → Int × Int, ∀ i, i < m → W.cell? (x.add (i * 2)) = some (.int .i64 (f i).1) ∧ W.cell? (x.add (i * 2 + 1)) = some (.int .i64 (f i).2) ∧ I64 (f i).1 ∧ I64 (f i).2 := by
      refine ⟨fun i => if hi : i < m then (hall i hi).choose else (0, 0), fun i hi => ?_⟩
      simp only [dif_pos hi]
      exact (hall i hi).choose_spec
    obtain ⟨f, hf⟩ := hf
    obtain ⟨b, o, rfl⟩ := plain_at (by have := (hf 0 (by omega)).1; simpa using this)
    refine ⟨_, _, _, f, rfl, hwt, .inr ⟨b, o, rfl, by omega, fun k hk => ?_⟩, fun k hk => (hf k (by omega)).2.2⟩
    obtain ⟨c0, c1, _⟩ := hf k (by omega)
    rw [add_plain] at c0 c1
    exact ⟨c0, by rw [Nat.add_assoc]; exact c1⟩
end Go.Proofs.YtdllbdfchloijaaGreatDoor

/- A list of points that came in: its bytes stay below what can be reached. -/
namespace Go.Proofs.YtdllbdfchloijaaGreatDoor
open Go.ChangeShapes Go.WideShapes Go.ChangeAt Go.RowKit Go.Joins Go.Deep
set_option maxRecDepth 100000
theorem pts_reach {H : Type} {enc : TypeId × Value → H} {W : World} {b0 : Nat} {r : Reach} {v : Value} {d : DataW H} {p : List MemPlace}
    (hv : Value.okWide Tryz.prog W r b0 22 v) (h : DataW.Trod enc Tryz.prog W 0 (fun _ => true) true 22 v d p) (hw : ∀ n ∈ d.weights Tryz.prog 22, n ≤ reachBytes) :
    ∀ a n cap, v = .slice a n cap → n * 16 ≤ 140737488351232 := by
  obtain ⟨a, n, cap, rfl⟩ := okWide_slice Tryz.underlying22 hv
  obtain ⟨fuel, hf⟩ := h
  rcases open_slice_fields Tryz.underlying22 Tryz.underlying33 (by kernel_rfl) cells_pt hf with ⟨hcs, _⟩ | ⟨x, l, c, m, D, Pl, hcs, _, hl, hm, hmm, hx, hcell⟩
  · simp [Value.cells] at hcs
    obtain ⟨rfl, rfl, rfl⟩ := hcs
    intro _ _ _ e
    cases e
    simp
  · simp [Value.cells] at hcs
    obtain ⟨rfl, rfl, rfl⟩ := hcs
    simp only [if_true] at hmm
    subst hmm
    intro _ _ _ e
    cases e
    simp only [Prod.mk.injEq] at hx
    have hmem : (((List.range n).map D).length + ((List.range (m - n)).map fun j => D (n + j)).length) * Tryz.prog.bytesOf 33 ∈ d.weights Tryz.prog 22 := by
      rw [hx.1]
      simp only [DataW.weights, Tryz.underlying22]
      exact List.mem_cons.2 (.inl rfl)
    have h8 := hw _ hmem
    rw [bytes_pt] at h8
    simp only [List.length_map, List.length_range] at h8
    have h9 : reachBytes = 140737488351232 := rfl
    omega
end Go.Proofs.YtdllbdfchloijaaGreatDoor

