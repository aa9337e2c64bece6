/- Texts of this seat, laid together: MwB, MwC, MwD, MwE, MwF. Each opens with its own remark, which says what it proves, and under which conditions. -/
import Derived.Test.YthaohpfbengabaaDoorQ14
import Derived.Test.YthaohpfbengabaaDoorQ13
import Derived.Test.YthaohpfbengabaaDoorQ08
set_option linter.unusedVariables false
set_option linter.unusedSimpArgs false
/- matrix's laws: works answers true. -/
namespace Go.Proofs.YthaohpfbengabaaDoor
open Num
open Go.ChangeShapes Go.WideShapes Go.ChangeAt Go.RowKit
set_option linter.unusedVariables false
set_option linter.unusedSimpArgs false
attribute [local go_sem ↓] Go.wp_at_zero Go.wp_at_succ
theorem equalIn_func_nil {P : Program} (w : World) (d : Nat) (t : TypeId) {ps rs : Array TypeId} {v : Bool} (f : Fn) (bs cs : Array Value) (h : P.underlying t = some (.func ps rs v)) : (Op.equalIn (d + 1) t (.func f bs cs) .nilFunc).run P w = .ok false w := by
  simp [Op.equalIn, run_underlying h]
theorem eql_func_nil {P : Program} (w : World) (t : TypeId) {ps rs : Array TypeId} {v : Bool} (f : Fn) (bs cs : Array Value) (h : P.underlying t = some (.func ps rs v)) : (binOp .eql t (.func f bs cs) .nilFunc).run P w = .ok (.bool false) w := by
  simp only [binOp]
  simp [Op.equal, Op.maxDepth, equalIn_func_nil w 9999 t f bs cs h]
theorem wt1_r : ∀ i, i < ([[7, 10], [15, 22]] : Grid).length → (Lib.join ((([[7, 10], [15, 22]] : Grid).getD i []).map intTxt) [32]).length ≤ 140737488355328 := by
  intro i hi
  have h2 : i < 2 := hi
  have e0 : (Lib.join (([7, 10] : List Int).map intTxt) [32]).length = 4 := by kernel_rfl
  have e1 : (Lib.join (([15, 22] : List Int).map intTxt) [32]).length = 5 := by kernel_rfl
  rcases (show i = 0 ∨ i = 1 by omega) with rfl | rfl
  · exact Nat.le_trans (Nat.le_of_eq e0) (by decide)
  · exact Nat.le_trans (Nat.le_of_eq e1) (by decide)
theorem wt1_m : (Lib.join (([[7, 10], [15, 22]] : Grid).map rowTxt) [32]).length ≤ 140737488355328 := by
  have e : (Lib.join (([[7, 10], [15, 22]] : Grid).map rowTxt) [32]).length = 14 := by kernel_rfl
  exact Nat.le_trans (Nat.le_of_eq e) (by decide)
theorem wt2_r : ∀ i, i < ([[-4, 2], [3, -1]] : Grid).length → (Lib.join ((([[-4, 2], [3, -1]] : Grid).getD i []).map intTxt) [32]).length ≤ 140737488355328 := by
  intro i hi
  have h2 : i < 2 := hi
  have e0 : (Lib.join (([-4, 2] : List Int).map intTxt) [32]).length = 4 := by kernel_rfl
  have e1 : (Lib.join (([3, -1] : List Int).map intTxt) [32]).length = 4 := by kernel_rfl
  rcases (show i = 0 ∨ i = 1 by omega) with rfl | rfl
  · exact Nat.le_trans (Nat.le_of_eq e0) (by decide)
  · exact Nat.le_trans (Nat.le_of_eq e1) (by decide)
theorem wt2_m : (Lib.join (([[-4, 2], [3, -1]] : Grid).map rowTxt) [32]).length ≤ 140737488355328 := by
  have e : (Lib.join (([[-4, 2], [3, -1]] : Grid).map rowTxt) [32]).length = 13 := by kernel_rfl
  exact Nat.le_trans (Nat.le_of_eq e) (by decide)
set_option maxRecDepth 100000 in
set_option maxHeartbeats 8000000 in
theorem works_c (w : World) : Calls Tryd.prog 7 #[] w fun e w' => e = .returned (.bool true) ∧ Below w.heap.size w w' := by
  have hB := Below.refl w.heap.size w
  go_enter Tryd.func7, Tryd.ntmps7
  go_wp2_with fail
  refine (list_c _ [1, 2] _ (rowI_two (cell_new rfl rfl) (cell_new rfl rfl) (by unfold I64; omega) (by unfold I64; omega)) (by decide)).mono ?_
  rintro e w1 ⟨⟨v1, rfl, hv1⟩, hb1⟩
  have hB1 : Below w.heap.size w w1 := bthen (by repeat (first | exact Below.refl _ _ | exact hB | refine Below.drew ?_ | refine below_drewN ?_ _ | refine bset ?_ (by simp <;> omega) _ | refine bal ?_ _)) hb1
  have HV1 := Lib.hid (show PRow 0 w1 v1 [1, 2] from hv1.row.rebase (Nat.zero_le _))
  obtain ⟨a1, c1, hv1e⟩ := hv1.ex
  replace hv1e : v1 = .slice a1 2 c1 := hv1e
  subst hv1e
  have hBw1 := Below.refl w1.heap.size w1
  clear hv1 hb1
  go_wp2_with fail
  refine (list_c _ [3, 4] _ (rowI_two (cell_new rfl rfl) (cell_new rfl rfl) (by unfold I64; omega) (by unfold I64; omega)) (by decide)).mono ?_
  rintro e w2 ⟨⟨v2, rfl, hv2⟩, hb2⟩
  have hb12 : Below w1.heap.size w1 w2 := bthen (by repeat (first | exact Below.refl _ _ | exact hBw1 | refine Below.drew ?_ | refine below_drewN ?_ _ | refine bset ?_ (by simp <;> omega) _ | refine bal ?_ _)) hb2
  have hB2 := bthen hB1 hb12
  have HV2 := Lib.hid (show PRow 0 w2 v2 [3, 4] from hv2.row.rebase (Nat.zero_le _))
  have HV12 := Lib.hid (HV1.out.keep lims_int hb12)
  obtain ⟨a2, c2, hv2e⟩ := hv2.ex
  replace hv2e : v2 = .slice a2 2 c2 := hv2e
  subst hv2e
  have hBw2 := Below.refl w2.heap.size w2
  clear hv2 hb2 HV1
  go_wp2_with fail
  refine (newM_c _ wG _ (isL_rows2 (cell_new rfl rfl) (cell_new rfl rfl) (by decide) (by unfold maxLen; decide) (typ_fresh rfl) (HV12.out.keep lims_int (bal (Below.refl _ _) _)) (HV2.out.keep lims_int (bal (Below.refl _ _) _))) (by unfold wG; decide)).mono ?_
  rintro e w3 ⟨(⟨-, v3, rfl, hv3⟩ | ⟨hs, -⟩), hb3⟩
  rotate_left
  · exact absurd wG_fits hs
  have hb23 : Below w2.heap.size w2 w3 := bthen (by repeat (first | exact Below.refl _ _ | exact hBw2 | refine Below.drew ?_ | refine below_drewN ?_ _ | refine bset ?_ (by simp <;> omega) _ | refine bal ?_ _)) hb3
  have hB3 := bthen hB2 hb23
  have HV3 := Lib.hid (hv3.rebase (Nat.zero_le _))
  obtain ⟨a3, c3, hv3e⟩ := hv3.lit
  replace hv3e : v3 = .agg #[.slice a3 2 c3] := hv3e
  subst hv3e
  have hBw3 := Below.refl w3.heap.size w3
  clear hv3 hb3 HV2 HV12
  go_wp2_with fail
  refine (rowsM_c a3 2 c3 _).mono ?_
  rintro e w4 ⟨rfl, hb4⟩
  have hb34 : Below w3.heap.size w3 w4 := bthen (by repeat (first | exact Below.refl _ _ | exact hBw3 | refine Below.drew ?_ | refine below_drewN ?_ _ | refine bset ?_ (by simp <;> omega) _ | refine bal ?_ _)) hb4
  have m0 : w4.cell? ⟨w3.heap.size, 0, none⟩ = some (.slice a3 2 c3) := bkeep hb4 (cell_new rfl rfl)
  have HV4 := Lib.hid (HV3.out.keep hb34)
  have hB4 := bthen hB3 hb34
  have zm := cell_lt m0
  have hBw4 := Below.refl w4.heap.size w4
  clear hb4
  go_wp2_with fail
  have hc5 : ∀ W, Below w4.heap.size w4 W → Calls Tryd.prog 10 #[.agg #[.slice a3 2 c3]] W fun e w' => e = .returned (.int .i64 2) ∧ Below W.heap.size W w' := fun W q => by
    obtain ⟨a', c', e, hl⟩ := HV4.out.keep q
    cases e
    exact colsM_c _ _ wG W hl
  refine (hc5 _ (by repeat (first | exact Below.refl _ _ | exact hBw4 | refine Below.drew ?_ | refine below_drewN ?_ _ | refine bset ?_ (by simp <;> omega) _ | refine bal ?_ _))).mono ?_
  rintro e w5 ⟨rfl, hb5⟩
  have hb45 : Below w4.heap.size w4 w5 := bthen (by repeat (first | exact Below.refl _ _ | exact hBw4 | refine Below.drew ?_ | refine below_drewN ?_ _ | refine bset ?_ (by simp <;> omega) _ | refine bal ?_ _)) hb5
  replace m0 := bkeep hb45 m0
  have HV5 := Lib.hid (HV4.out.keep hb45)
  have hB5 := bthen hB4 hb45
  replace zm := cell_lt m0
  have hBw5 := Below.refl w5.heap.size w5
  clear hb5 hc5 HV4 HV3
  go_wp2_with fail
  refine (pivots_v _ a3 2 c3 _ rfl).mono ?_
  rintro e w6 ⟨rfl, hb6⟩
  have hb56 : Below w5.heap.size w5 w6 := bthen (by repeat (first | exact Below.refl _ _ | exact hBw5 | refine Below.drew ?_ | refine below_drewN ?_ _ | refine bset ?_ (by simp <;> omega) _ | refine bal ?_ _)) hb6
  replace m0 := bkeep hb56 m0
  have HV6 := Lib.hid (HV5.out.keep hb56)
  have hB6 := bthen hB5 hb56
  replace zm := cell_lt m0
  have hBw6 := Below.refl w6.heap.size w6
  clear hb6 HV5
  have hrc : Rct wG (cols wG) := by intro i hi; have h2 : i < 2 := hi; rcases (show i = 0 ∨ i = 1 by omega) with rfl | rfl <;> rfl
  have HRC := Lib.hid hrc
  clear hrc
  have hfn := fun W f bs cs => eql_func_nil (P := Tryd.prog) W 68 f bs cs Tryd.underlying68
  go_wp2_with fail
  refine (timesM_c _ _ wG wG 3 3 _ (HV6.out.keep (by repeat (first | exact Below.refl _ _ | exact hBw6 | refine Below.drew ?_ | refine below_drewN ?_ _ | refine bset ?_ (by simp <;> omega) _ | refine bal ?_ _))) (HV6.out.keep (by repeat (first | exact Below.refl _ _ | exact hBw6 | refine Below.drew ?_ | refine below_drewN ?_ _ | refine bset ?_ (by simp <;> omega) _ | refine bal ?_ _))) HRC.out HRC.out (bdM_of (by unfold wG; decide)) (bdM_of (by unfold wG; decide)) (by decide) (by decide) (by decide) (by decide)).mono ?_
  rintro e w7 ⟨(⟨-, v7, rfl, hv7⟩ | ⟨hs, -⟩), hb7⟩
  rotate_left
  · exact absurd ⟨rfl, by decide⟩ hs
  have hb67 : Below w6.heap.size w6 w7 := bthen (by repeat (first | exact Below.refl _ _ | exact hBw6 | refine Below.drew ?_ | refine below_drewN ?_ _ | refine bset ?_ (by simp <;> omega) _ | refine bal ?_ _)) hb7
  replace m0 := bkeep hb67 m0
  rw [wG_times] at hv7
  have HP7 := Lib.hid (hv7.rebase (Nat.zero_le _))
  have HV7 := Lib.hid (HV6.out.keep hb67)
  have hB7 := bthen hB6 hb67
  replace zm := cell_lt m0
  obtain ⟨a7, c7, hv7e⟩ := hv7.lit
  replace hv7e : v7 = .agg #[.slice a7 2 c7] := hv7e
  subst hv7e
  have hBw7 := Below.refl w7.heap.size w7
  clear hv7 hb7 HV6
  go_wp2_with fail
  refine (invM_c _ wG 3 _ (HV7.out.keep (by repeat (first | exact Below.refl _ _ | exact hBw7 | refine Below.drew ?_ | refine below_drewN ?_ _ | refine bset ?_ (by simp <;> omega) _ | refine bal ?_ _))) HRC.out (by decide) (by decide) (bdM_of (by unfold wG; decide)) (by decide)).mono ?_
  rintro e w8 ⟨(⟨-, -, v8, u8, rfl, hv8, hu8⟩ | ⟨-, hs, -⟩ | ⟨hs, -⟩), hb8⟩
  rotate_left
  · rw [wG_det] at hs; cases hs
  · rw [wG_sq] at hs; cases hs
  rw [wG_inv] at hv8
  rw [wG_invD] at hu8
  have hb78 : Below w7.heap.size w7 w8 := bthen (by repeat (first | exact Below.refl _ _ | exact hBw7 | refine Below.drew ?_ | refine below_drewN ?_ _ | refine bset ?_ (by simp <;> omega) _ | refine bal ?_ _)) hb8
  have p0 : w8.cell? ⟨w7.heap.size, 0, none⟩ = some (.slice a7 2 c7) := bkeep hb8 (cell_new rfl rfl)
  have HP8 := Lib.hid (HP7.out.keep hb78)
  have HW8 := Lib.hid (hv8.rebase (Nat.zero_le _))
  have HU8 := Lib.hid hu8
  have hB8 := bthen hB7 hb78
  have zp := cell_lt p0
  obtain ⟨a8, c8, hv8e⟩ := hv8.lit
  replace hv8e : v8 = .agg #[.slice a8 2 c8] := hv8e
  subst hv8e
  obtain ⟨n9, a9, c9, l9, rfl, -⟩ := hu8
  unfold iv at *
  have hBw8 := Below.refl w8.heap.size w8
  clear hv8 hb8 HP7 HV7 m0 zm
  go_wp2_with fail
  refine (matText_c _ [[7, 10], [15, 22]] 8 _ (HP8.out.keep (by repeat (first | exact Below.refl _ _ | exact hBw8 | refine Below.drew ?_ | refine below_drewN ?_ _ | refine bset ?_ (by simp <;> omega) _ | refine bal ?_ _))) (by decide) (by decide) (bdM_of (by decide)) (by decide) wt1_r wt1_m).mono ?_
  rw [wG_txt1]
  rintro e w9 ⟨rfl, hb9⟩
  have hb89 : Below w8.heap.size w8 w9 := bthen (by repeat (first | exact Below.refl _ _ | exact hBw8 | refine Below.drew ?_ | refine below_drewN ?_ _ | refine bset ?_ (by simp <;> omega) _ | refine bal ?_ _)) hb9
  have q0 : w9.cell? ⟨w8.heap.size, 0, none⟩ = some (.slice a8 2 c8) := bkeep hb9 (by simp [go_sem])
  have u0 : w9.cell? ⟨w8.heap.size + 1, 0, none⟩ = some (.bool n9) := bkeep hb9 (by simp [go_sem])
  have u1 : w9.cell? ⟨w8.heap.size + 1, 1, none⟩ = some (.slice a9 l9.length c9) := bkeep hb9 (by simp [go_sem])
  have HW9 := Lib.hid (HW8.out.keep hb89)
  have HU9 := Lib.hid (HU8.out.keep hb89)
  have hB9 := bthen hB8 hb89
  have zq := cell_lt q0
  have zu := cell_lt u0
  have hBw9 := Below.refl w9.heap.size w9
  clear hb9 HP8 HW8 HU8 p0 zp
  go_wp2_with fail
  refine (matText_c _ [[-4, 2], [3, -1]] 8 _ (HW9.out.keep (by repeat (first | exact Below.refl _ _ | exact hBw9 | refine Below.drew ?_ | refine below_drewN ?_ _ | refine bset ?_ (by simp <;> omega) _ | refine bal ?_ _))) (by decide) (by decide) (bdM_of (by decide)) (by decide) wt2_r wt2_m).mono ?_
  rw [wG_txt2]
  rintro e w10 ⟨rfl, hb10⟩
  have hb910 : Below w9.heap.size w9 w10 := bthen (by repeat (first | exact Below.refl _ _ | exact hBw9 | refine Below.drew ?_ | refine below_drewN ?_ _ | refine bset ?_ (by simp <;> omega) _ | refine bal ?_ _)) hb10
  replace u0 := bkeep hb910 u0
  replace u1 := bkeep hb910 u1
  have HU10 := Lib.hid (HU9.out.keep hb910)
  have hB10 := bthen hB9 hb910
  replace zu := cell_lt u0
  have hBw10 := Below.refl w10.heap.size w10
  clear hb10 HW9 HU9 q0 zq
  go_wp2_with fail
  refine (intText_c _ 2 8 _ (HU10.out.keep (by repeat (first | exact Below.refl _ _ | exact hBw10 | refine Below.drew ?_ | refine below_drewN ?_ _ | refine bset ?_ (by simp <;> omega) _ | refine bal ?_ _))) (by unfold Bd; decide) (by decide)).mono ?_
  rw [wG_txt3]
  rintro e w11 ⟨rfl, hb11⟩
  have hB11 := bthen hB10 (bthen (show Below w10.heap.size w10 _ by repeat (first | exact Below.refl _ _ | exact hBw10 | refine Below.drew ?_ | refine below_drewN ?_ _ | refine bset ?_ (by simp <;> omega) _ | refine bal ?_ _)) hb11)
  clear HU10 u0 u1
  go_wp2
  go_ret
  exact ⟨rfl, hB11⟩
end Go.Proofs.YthaohpfbengabaaDoor

/- matrix's laws: same, line, is, comes; the matrix's Row; the reference's Cols. -/
namespace Go.Proofs.YthaohpfbengabaaDoor
open Num
open Go.ChangeShapes Go.WideShapes Go.ChangeAt Go.RowKit
set_option linter.unusedVariables false
set_option linter.unusedSimpArgs false
attribute [local go_sem ↓] Go.wp_at_zero Go.wp_at_succ
theorem bool_beq (s : ByteArray) : (s == s) = true := by cases s with | mk d => show (d == d) = true; simp
set_option maxRecDepth 100000 in
set_option maxHeartbeats 4000000 in
theorem mSame_c (vx vy : Value) (x : Int) (k : Nat) (w : World) (hx : IsInt w vx x) (hy : IsRef w vy x) (bx : Bd k x) (hk : k ≤ 1073741824) :
    Calls Tryd.prog 93 #[vx, vy] w fun e w' => e = .returned (.bool true) ∧ Below w.heap.size w w' := by
  have HX := Lib.hid hx
  have HY := Lib.hid hy
  obtain ⟨n1, a1, c1, l1, rfl, -⟩ := hx
  obtain ⟨n2, a2, c2, l2, rfl, -⟩ := hy
  unfold iv at *
  have tx := Lib.hid (fun W (q : Below w.heap.size w W) => intText_c (.agg #[.bool n1, .slice a1 l1.length c1]) x k W (HX.out.keep q) bx (by omega))
  have ty := Lib.hid (fun W (q : Below w.heap.size w W) => rtext_c (.agg #[.bool n2, .slice a2 l2.length c2]) x k W (HY.out.keep q) bx hk)
  obtain ⟨s, hs⟩ : ∃ s, (⟨(intTxt x).toArray⟩ : ByteArray) = s := ⟨_, rfl⟩
  rw [hs] at tx ty
  clear HX HY bx hs
  have hB := Below.refl w.heap.size w
  go_enter Tryd.func93, Tryd.ntmps93
  go_wp2
  refine wp_name fun w0 hW0 => ?_
  have hB0 : Below w.heap.size w w0 := by rw [hW0]; repeat (first | exact Below.refl _ _ | exact hB | refine Below.drew ?_ | refine below_drewN ?_ _ | refine bset ?_ (by simp <;> omega) _ | refine bal ?_ _)
  obtain ⟨x0, x1, y0, y1⟩ : w0.cell? ⟨w.heap.size, 0, none⟩ = some (.bool n1) ∧ w0.cell? ⟨w.heap.size, 1, none⟩ = some (.slice a1 l1.length c1) ∧ w0.cell? ⟨w.heap.size + 1, 0, none⟩ = some (.bool n2) ∧ w0.cell? ⟨w.heap.size + 1, 1, none⟩ = some (.slice a2 l2.length c2) := by rw [hW0]; simp [go_sem]
  clear hW0
  have HS := Lib.hid (show ∀ W, Below w0.heap.size w0 W → W.cell? ⟨w.heap.size, 0, none⟩ = some (.bool n1) ∧ W.cell? ⟨w.heap.size, 1, none⟩ = some (.slice a1 l1.length c1) ∧ W.cell? ⟨w.heap.size + 1, 0, none⟩ = some (.bool n2) ∧ W.cell? ⟨w.heap.size + 1, 1, none⟩ = some (.slice a2 l2.length c2) from fun W h => ⟨bkeep h x0, bkeep h x1, bkeep h y0, bkeep h y1⟩)
  have zx := cell_lt x0
  have zy := cell_lt y0
  have hBc := Below.refl w0.heap.size w0
  have hbeq := bool_beq s
  go_region_held3 (fun W => W.cell? ⟨w.heap.size, 0, none⟩ = some (.bool n1) ∧ W.cell? ⟨w.heap.size, 1, none⟩ = some (.slice a1 l1.length c1) ∧ W.cell? ⟨w.heap.size + 1, 0, none⟩ = some (.bool n2) ∧ W.cell? ⟨w.heap.size + 1, 1, none⟩ = some (.slice a2 l2.length c2))
    (first | (refine HS.out _ ?_; (repeat (first | exact Below.refl _ _ | exact hBc | refine Below.drew ?_ | refine below_drewN ?_ _ | refine bset ?_ (by simp <;> omega) _ | refine bal ?_ _)); done) | fail)
    (first
    | (go_at_call 34; (with_reducible refine (tx.out _ ?_).mono ?_); (refine bthen hB0 ?_; (repeat (first | exact Below.refl _ _ | exact hBc | refine Below.drew ?_ | refine below_drewN ?_ _ | refine bset ?_ (by simp <;> omega) _ | refine bal ?_ _))); rintro e w5 ⟨rfl, hb5⟩; (have hBd : Below w0.heap.size w0 w5 := bthen (by repeat (first | exact Below.refl _ _ | exact hBc | refine Below.drew ?_ | refine below_drewN ?_ _ | refine bset ?_ (by simp <;> omega) _ | refine bal ?_ _)) hb5; clear hBc; have hBc := hBd; clear hBd))
    | (go_at_call 107; (with_reducible refine (ty.out _ ?_).mono ?_); (refine bthen hB0 ?_; (repeat (first | exact Below.refl _ _ | exact hBc | refine Below.drew ?_ | refine below_drewN ?_ _ | refine bset ?_ (by simp <;> omega) _ | refine bal ?_ _))); rintro e w6 ⟨rfl, hb6⟩; (have hBd : Below w0.heap.size w0 w6 := bthen (by repeat (first | exact Below.refl _ _ | exact hBc | refine Below.drew ?_ | refine below_drewN ?_ _ | refine bset ?_ (by simp <;> omega) _ | refine bal ?_ _)) hb6; clear hBc; have hBc := hBd; clear hBd))
    | fail)
  all_goals
    have hB6 := bthen hB0 hBc
    go_wp2
    go_ret
    exact ⟨by simp, by repeat (first | exact Below.refl _ _ | exact hB6 | refine Below.drew ?_ | refine below_drewN ?_ _ | refine bset ?_ (by simp <;> omega) _ | refine bal ?_ _)⟩
set_option maxRecDepth 100000 in
set_option maxHeartbeats 4000000 in
theorem mLine_c (va vb : Value) (l : List Int) (k : Nat) (w : World) (ha : PRow 0 w va l) (hb : RRow 0 w vb l) (bl : ∀ j, Bd k (l.getD j 0)) (hk : k ≤ 1073741824) (hl : l.length ≤ 1099511627775) :
    Calls Tryd.prog 74 #[va, vb] w fun e w' => e = .returned (.bool true) ∧ Below w.heap.size w w' := by
  have HA := Lib.hid ha
  have HBB := Lib.hid hb
  have HBD := Lib.hid bl
  obtain ⟨aa, ca, rfl, -⟩ := ha
  obtain ⟨ab, cb, rfl, -⟩ := hb
  clear bl
  have hB := Below.refl w.heap.size w
  have hnn : ((l.length : Int) != (l.length : Int)) = false := by simp
  go_enter Tryd.func74, Tryd.ntmps74
  go_wp2
  go_loopw [13] (fun x wr => ∃ j : Nat, j ≤ l.length ∧ x = .int .i64 j ∧ Below w.heap.size w wr) (fun x _ => l.length - (intOf x).toNat)
  case atStart => exact ⟨0, Nat.zero_le _, rfl, hB⟩
  case round =>
    obtain ⟨j, hj, rfl, hBr⟩ := hrel
    by_cases hlt : j < l.length
    · have hltI : (j : Int) < (l.length : Int) := by omega
      obtain ⟨a', c', he, -, vr⟩ := HA.out.view
      obtain ⟨rfl, -, rfl⟩ := Value.slice.inj he
      obtain ⟨b', d', he2, -, vs⟩ := HBB.out.view
      obtain ⟨rfl, -, rfl⟩ := Value.slice.inj he2
      obtain ⟨rb, ro, n3, a3, l3, c3, rfl, r0, r1, hi⟩ := vr j hlt
      obtain ⟨sb, so, n4, a4, l4, c4, rfl, s0, s1, hi2⟩ := vs j hlt
      have oc := fun W (h : Below wr.heap.size wr W) => mSame_c _ _ (l.getD j 0) k W (hi.keep (bthen hBr h)) (hi2.keep (bthen hBr h)) (HBD.out j) hk
      have HS := Lib.hid (show ∀ W, Below wr.heap.size wr W → W.cell? ⟨rb, ro + j * 2, none⟩ = some (.bool n3) ∧ W.cell? ⟨rb, ro + j * 2 + 1, none⟩ = some (.slice a3 l3 c3) ∧ W.cell? ⟨sb, so + j * 2, none⟩ = some (.bool n4) ∧ W.cell? ⟨sb, so + j * 2 + 1, none⟩ = some (.slice a4 l4 c4) from fun W h => ⟨bkeep (bthen hBr h) r0, bkeep (bthen hBr h) r1, bkeep (bthen hBr h) s0, bkeep (bthen hBr h) s1⟩)
      have hBc := Below.refl wr.heap.size wr
      obtain ⟨q5, q6, q7, q8⟩ := HS.out wr hBc
      have zz5 := cell_lt q5
      have zz7 := cell_lt q7
      clear hi hi2 r0 r1 s0 s1 vr vs he he2
      go_wp2
      go_region_held3 (fun w' => w'.cell? ⟨rb, ro + j * 2, none⟩ = some (.bool n3) ∧ w'.cell? ⟨rb, ro + j * 2 + 1, none⟩ = some (.slice a3 l3 c3) ∧ w'.cell? ⟨sb, so + j * 2, none⟩ = some (.bool n4) ∧ w'.cell? ⟨sb, so + j * 2 + 1, none⟩ = some (.slice a4 l4 c4))
        (first | (refine HS.out _ ?_; (repeat (first | exact Below.refl _ _ | exact hBc | refine Below.drew ?_ | refine below_drewN ?_ _ | refine bset ?_ (by simp <;> omega) _ | refine bal ?_ _)); done) | fail)
        (first
          | (go_at_call 93; (with_reducible refine (oc _ ?_).mono ?_); (repeat (first | exact Below.refl _ _ | exact hBc | refine Below.drew ?_ | refine below_drewN ?_ _ | refine bset ?_ (by simp <;> omega) _ | refine bal ?_ _)); rintro e w5 ⟨rfl, hb5⟩; (have hBd : Below wr.heap.size wr w5 := bthen (by repeat (first | exact Below.refl _ _ | exact hBc | refine Below.drew ?_ | refine below_drewN ?_ _ | refine bset ?_ (by simp <;> omega) _ | refine bal ?_ _)) hb5; clear hBc; have hBc := hBd; clear hBd))
          | fail)
      all_goals
        have hB5 := bthen hBr hBc
        clear oc q5 q6 q7 q8
        go_wp2
        exact ⟨⟨j + 1, hlt, by go_num, by repeat (first | exact Below.refl _ _ | exact hB5 | refine Below.drew ?_ | refine below_drewN ?_ _ | refine bset ?_ (by simp <;> omega) _ | refine bal ?_ _)⟩, meas hlt (by go_num) rfl⟩
    · obtain rfl : j = l.length := by omega
      go_wp2
      go_ret
      exact ⟨rfl, hBr⟩
set_option maxRecDepth 100000 in
set_option maxHeartbeats 4000000 in
/-- a row of a matrix that is there -/
theorem rowM_c (v : Value) (g : Grid) (i : Nat) (w : World) (hv : IsM 0 w v g) (hi : i < g.length) (hn : g.length ≤ 65536) (hl : (g.getD i []).length ≤ 1099511627775) :
    Calls Tryd.prog 73 #[v, .int .i64 (i : Nat)] w fun e w' => (∃ u, e = .returned (.tuple #[u, .int .i64 0]) ∧ RowO IsInt 33 w.heap.size w' u (g.getD i [])) ∧ Below w.heap.size w w' := by
  have HV := Lib.hid hv
  obtain ⟨a, c, rfl, -⟩ := hv
  obtain ⟨gb, go, ra, rc, rfl, hu, hp⟩ := HV.out.rowAt hi
  have HP := Lib.hid hp
  obtain ⟨n, hnE⟩ : ∃ n, g.length = n := ⟨_, rfl⟩
  rw [hnE] at hi hn HV ⊢
  obtain ⟨row, hrow⟩ : ∃ r, g.getD i [] = r := ⟨_, rfl⟩
  rw [hrow] at hu HP hl ⊢
  have rc1 := fun V => rowsM_c (some ⟨gb, go, none⟩) n c V
  have kc := fun W (q : Below w.heap.size w W) => cloneRow_c 0 (.slice ra row.length rc) row W (HP.out.keep lims_int q) (by omega)
  have h1 : ¬ ((i : Int) < 0) := by omega
  have h2 : ¬ ((n : Int) ≤ (i : Int)) := by omega
  have h3 : (i : Int) < (n : Int) := by omega
  have zu := cell_lt hu
  clear hnE hrow hp HV
  have hB := Below.refl w.heap.size w
  go_enter Tryd.func73, Tryd.ntmps73
  go_wp2_with fail
  refine (rc1 _).mono ?_
  rintro e w1 ⟨rfl, hb1⟩
  have m0 : w1.cell? ⟨w.heap.size, 0, none⟩ = some (.slice (some ⟨gb, go, none⟩) n c) := bkc hb1
  have zm0 := cell_lt m0
  have hu : w1.cell? ⟨gb, go + i, none⟩ = some (.slice ra row.length rc) := bkc hb1
  have zhu := cell_lt hu
  have hB : Below w.heap.size w w1 := bthen (by repeat (first | exact Below.refl _ _ | exact hB | refine Below.drew ?_ | refine below_drewN ?_ _ | refine bset ?_ (by simp <;> omega) _ | refine bal ?_ _)) hb1
  have hz : w.heap.size ≤ w1.heap.size := hB.size
  go_wp2_with fail
  refine (kc _ (by repeat (first | exact Below.refl _ _ | exact hB | refine Below.drew ?_ | refine below_drewN ?_ _ | refine bset ?_ (by simp <;> omega) _ | refine bal ?_ _))).mono ?_
  rintro e w2 ⟨⟨v2, rfl, hv2⟩, hb2⟩
  have hB2 : Below w.heap.size w w2 := bthen (by repeat (first | exact Below.refl _ _ | exact hB | refine Below.drew ?_ | refine below_drewN ?_ _ | refine bset ?_ (by simp <;> omega) _ | refine bal ?_ _)) hb2
  have HV2 := Lib.hid (hv2.rebase (show w.heap.size ≤ _ from (show Below w.heap.size w _ by repeat (first | exact Below.refl _ _ | exact hB | refine Below.drew ?_ | refine below_drewN ?_ _ | refine bset ?_ (by simp <;> omega) _ | refine bal ?_ _)).size))
  obtain ⟨a2, c2, rfl⟩ := hv2.ex
  clear rc1 kc hv2
  go_wp2
  refine bodyPost_ret (v := .tuple #[.slice a2 row.length c2, .int .i64 0]) (by simp [results, Tryd.results73, go_sem, *]) rfl ⟨⟨_, rfl, HV2.out⟩, hB2⟩
theorem prs_rrow : Prs (fun t => t = 89 ∨ t = 84) (RRow 0) := prs_row lims_ref _ _
theorem IsL.rrow {w : World} {v : Value} {g : Grid} (h : IsL 81 (RRow 0) 0 w v g) {i : Nat} (hi : i < g.length) :
    ∃ c gb go ra rc, v = .slice (some ⟨gb, go, none⟩) g.length c ∧ w.cell? ⟨gb, go + i, none⟩ = some (.slice ra (g.getD i []).length rc) ∧ RRow 0 w (.slice ra (g.getD i []).length rc) (g.getD i []) := by
  obtain ⟨a, c, e, _, hv⟩ := h.view
  obtain ⟨gb, go, u, rfl, hu, hr⟩ := hv i hi
  have e2 : g[i] = g.getD i [] := by simp [hi]
  rw [e2] at hr
  have hr2 := hr
  obtain ⟨ra, rc, rfl, _⟩ := hr2
  exact ⟨c, gb, go, ra, rc, e, hu, hr⟩
set_option maxRecDepth 100000 in
set_option maxHeartbeats 1000000 in
theorem rcols_c (v : Value) (g : Grid) (w : World) (h : IsL 81 (RRow 0) 0 w v g) : Calls Tryd.prog 72 #[v] w fun e w' => e = .returned (.int .i64 (cols g : Nat)) ∧ Below w.heap.size w w' := by
  have hB := Below.refl w.heap.size w
  obtain ⟨a, c, rfl, -⟩ : ∃ a c, v = .slice a g.length c ∧ True := by obtain ⟨a, c, e, _⟩ := h.view; exact ⟨a, c, e, trivial⟩
  by_cases h0 : g.length = 0
  · have hg : g = [] := List.length_eq_zero_iff.1 h0
    subst hg
    rw [show cols [] = 0 from rfl, show ([] : Grid).length = 0 from rfl]
    clear h h0
    go_enter Tryd.func72, Tryd.ntmps72
    go_wp2
    go_ret
    exact ⟨rfl, by repeat (first | exact Below.refl _ _ | exact hB | refine Below.drew ?_ | refine below_drewN ?_ _ | refine bset ?_ (by simp <;> omega) _ | refine bal ?_ _)⟩
  · obtain ⟨c', gb, go, ra, rc, e, hu, hp⟩ := h.rrow (show 0 < g.length by omega)
    obtain ⟨rfl, -, rfl⟩ := Value.slice.inj e
    rw [Nat.add_zero] at hu
    have zu := cell_lt hu
    unfold cols
    obtain ⟨m, hm⟩ : ∃ m, (g.getD 0 []).length = m := ⟨_, rfl⟩
    obtain ⟨n, hn⟩ : ∃ n, g.length = n := ⟨_, rfl⟩
    rw [hm] at hu ⊢
    rw [hn] at h0 ⊢
    have hn0 : ((n : Int) == 0) = false := by simp; omega
    have hn1 : (0 : Int) < (n : Int) := by omega
    clear h hp e hm hn
    go_enter Tryd.func72, Tryd.ntmps72
    go_wp2
    go_ret
    exact ⟨rfl, by repeat (first | exact Below.refl _ _ | exact hB | refine Below.drew ?_ | refine below_drewN ?_ _ | refine bset ?_ (by simp <;> omega) _ | refine bal ?_ _)⟩
end Go.Proofs.YthaohpfbengabaaDoor

/- matrix's laws: is, comes. -/
namespace Go.Proofs.YthaohpfbengabaaDoor
open Num
open Go.ChangeShapes Go.WideShapes Go.ChangeAt Go.RowKit
set_option linter.unusedVariables false
set_option linter.unusedSimpArgs false
attribute [local go_sem ↓] Go.wp_at_zero Go.wp_at_succ
/-- the reference's matrix -/
def RefM (w : World) (v : Value) (g : Grid) : Prop := IsL 81 (RRow 0) 0 w v g
theorem RefM.keep {w w' : World} {v : Value} {g : Grid} (h : RefM w v g) (k : Below w.heap.size w w') : RefM w' v g := IsL.keep prs_rrow h k
theorem RefM.nil (w : World) : RefM w (.slice none 0 0) [] := IsL.nil _ _ _ _
set_option maxRecDepth 100000 in
set_option maxHeartbeats 8000000 in
theorem mIs_c (vm vr : Value) (g : Grid) (k : Nat) (w : World) (hm : IsM 0 w vm g) (hr : RefM w vr g) (rg : Rct g (cols g)) (hn : g.length ≤ 65536) (hc : cols g ≤ 65536) (hb : BdM k g) (hk : k ≤ 1073741824) :
    Calls Tryd.prog 46 #[vm, vr] w fun e w' => e = .returned (.bool true) ∧ Below w.heap.size w w' := by
  have HM := Lib.hid hm
  have HR := Lib.hid hr
  have HRG := Lib.hid rg
  have HBD := Lib.hid hb
  obtain ⟨a, c, rfl, -⟩ := hm
  obtain ⟨ra, rc, rfl, -⟩ : ∃ a c, vr = .slice a g.length c ∧ True := by obtain ⟨a, c, e, _⟩ := (show IsL _ _ _ _ _ _ from hr).view; exact ⟨a, c, e, trivial⟩
  have ROC := Lib.hid (fun V => rowsM_c a g.length c V)
  have COC := Lib.hid (fun V (q : Below w.heap.size w V) => (show Calls Tryd.prog 10 #[.agg #[.slice a g.length c]] V fun e w' => e = .returned (.int .i64 (cols g : Nat)) ∧ Below V.heap.size V w' from by
    obtain ⟨a', c', e, hl⟩ := HM.out.keep q
    cases e
    exact colsM_c _ _ g V hl))
  have RCC := Lib.hid (fun V (q : Below w.heap.size w V) => rcols_c (.slice ra g.length rc) g V (HR.out.keep q))
  have RWC := Lib.hid (fun V i (q : Below w.heap.size w V) (hi : i < g.length) => rowM_c (.agg #[.slice a g.length c]) g i V (HM.out.keep q) hi hn (by rw [HRG.out i hi]; omega))
  clear hr rg hb
  obtain ⟨n, hnE⟩ : ∃ n, g.length = n := ⟨_, rfl⟩
  have HN := Lib.hid hnE
  rw [hnE] at ROC COC RCC RWC hn ⊢
  obtain ⟨m, hmE⟩ : ∃ m, cols g = m := ⟨_, rfl⟩
  rw [hmE] at COC RCC hc
  have HMC := Lib.hid hmE
  clear hnE hmE
  have hnn : ((n : Int) != (n : Int)) = false := by simp
  have hmm : ((m : Int) != (m : Int)) = false := by simp
  have hB := Below.refl w.heap.size w
  go_enter Tryd.func46, Tryd.ntmps46
  go_wp2_with fail
  (with_reducible refine (ROC.out _).mono ?_)
  rintro e w1 ⟨rfl, hb1⟩
  have m0 : w1.cell? ⟨w.heap.size, 0, none⟩ = some (.slice a n c) := bkc hb1
  have zm0 := cell_lt m0
  have hB : Below w.heap.size w w1 := bthen (by repeat (first | exact Below.refl _ _ | exact hB | refine Below.drew ?_ | refine below_drewN ?_ _ | refine bset ?_ (by simp <;> omega) _ | refine bal ?_ _)) hb1
  have hz : w.heap.size ≤ w1.heap.size := hB.size
  go_wp2_with fail
  (with_reducible refine (COC.out _ ?_).mono ?_); (repeat (first | exact Below.refl _ _ | exact hB | refine Below.drew ?_ | refine below_drewN ?_ _ | refine bset ?_ (by simp <;> omega) _ | refine bal ?_ _))
  rintro e w2 ⟨rfl, hb2⟩
  have m0 : w2.cell? ⟨w.heap.size, 0, none⟩ = some (.slice a n c) := bkc hb2
  have zm0 := cell_lt m0
  have hB : Below w.heap.size w w2 := bthen (by repeat (first | exact Below.refl _ _ | exact hB | refine Below.drew ?_ | refine below_drewN ?_ _ | refine bset ?_ (by simp <;> omega) _ | refine bal ?_ _)) hb2
  have hz : w.heap.size ≤ w2.heap.size := hB.size
  go_wp2_with fail
  (with_reducible refine (RCC.out _ ?_).mono ?_); (repeat (first | exact Below.refl _ _ | exact hB | refine Below.drew ?_ | refine below_drewN ?_ _ | refine bset ?_ (by simp <;> omega) _ | refine bal ?_ _))
  rintro e w3 ⟨rfl, hb3⟩
  have m0 : w3.cell? ⟨w.heap.size, 0, none⟩ = some (.slice a n c) := bkc hb3
  have zm0 := cell_lt m0
  have hB : Below w.heap.size w w3 := bthen (by repeat (first | exact Below.refl _ _ | exact hB | refine Below.drew ?_ | refine below_drewN ?_ _ | refine bset ?_ (by simp <;> omega) _ | refine bal ?_ _)) hb3
  have hz : w.heap.size ≤ w3.heap.size := hB.size
  clear ROC COC RCC hb1 hb2 hb3
  have hB3 := Below.refl w3.heap.size w3
  go_wp2
  go_loopw [22] (fun x wr => ∃ i : Nat, i ≤ n ∧ x = .int .i64 i ∧ Below w3.heap.size w3 wr) (fun x _ => n - (intOf x).toNat)
  case atStart => exact ⟨0, Nat.zero_le _, rfl, hB3⟩
  case round =>
    obtain ⟨i, hi, rfl, hBr⟩ := hrel
    have hBw := bthen hB hBr
    have m0r := bkeep hBr m0
    have zmr := cell_lt m0r
    by_cases hlt : i < n
    · have hltI : (i : Int) < (n : Int) := by omega
      have hig : i < g.length := by rw [HN.out]; exact hlt
      have hrw := fun V (q : Below wr.heap.size wr V) => RWC.out V i (bthen hBw q) hlt
      have hbr := Below.refl wr.heap.size wr
      go_wp2_with fail
      (with_reducible refine (hrw _ ?_).mono ?_); (repeat (first | exact Below.refl _ _ | exact hbr | refine Below.drew ?_ | refine below_drewN ?_ _ | refine bset ?_ (by simp <;> omega) _ | refine bal ?_ _))
      rintro e w4 ⟨⟨u4, rfl, hu4⟩, hb4⟩
      have hb4' : Below wr.heap.size wr w4 := bthen (by repeat (first | exact Below.refl _ _ | exact hbr | refine Below.drew ?_ | refine below_drewN ?_ _ | refine bset ?_ (by simp <;> omega) _ | refine bal ?_ _)) hb4
      have hBw4 := bthen hBw hb4'
      obtain ⟨c2, gb, go, xa, xc, e2, hu, hp⟩ := IsL.rrow (HR.out.keep hBw4) hig
      obtain ⟨rfl, -, rfl⟩ := Value.slice.inj e2
      have hrl := HRG.out i hig
      rw [HMC.out] at hrl
      have hbj : ∀ t, Bd k ((g.getD i []).getD t 0) := fun t => HBD.out i t
      obtain ⟨row, hrow⟩ : ∃ r, g.getD i [] = r := ⟨_, rfl⟩
      rw [hrow] at hu hp hrl hbj hu4
      have lc := fun V (q : Below w4.heap.size w4 V) => mLine_c u4 (.slice xa row.length xc) row k V ((hu4.row.rebase (Nat.zero_le _)).keep lims_int q) (hp.keep lims_ref q) hbj hk (by omega)
      have LC := Lib.hid lc
      obtain ⟨ua, uc, rfl⟩ := hu4.ex
      have zu := cell_lt hu
      have hbr4 := Below.refl w4.heap.size w4
      have hBr4 := bthen hBr hb4'
      clear lc hp hu4 e2 hrow hrl hbj hb4 hrw
      go_wp2_with fail
      (with_reducible refine (LC.out _ ?_).mono ?_); (repeat (first | exact Below.refl _ _ | exact hbr4 | refine Below.drew ?_ | refine below_drewN ?_ _ | refine bset ?_ (by simp <;> omega) _ | refine bal ?_ _))
      rintro e w5 ⟨rfl, hb5⟩
      have hBr5 := bthen hBr4 (bthen (show Below w4.heap.size w4 _ by repeat (first | exact Below.refl _ _ | exact hbr4 | refine Below.drew ?_ | refine below_drewN ?_ _ | refine bset ?_ (by simp <;> omega) _ | refine bal ?_ _)) hb5)
      clear LC hu zu
      go_wp2
      exact ⟨⟨i + 1, hlt, by go_num, hBr5⟩, meas hlt (by go_num) rfl⟩
    · obtain rfl : i = n := by omega
      have hltI : ¬ (i : Int) < (i : Int) := by omega
      go_wp2
      go_ret
      exact ⟨rfl, hBw⟩
set_option maxRecDepth 100000 in
set_option maxHeartbeats 4000000 in
/-- that came -/
theorem mComes_yes (vm vr : Value) (g : Grid) (k : Nat) (w : World) (hm : IsM 0 w vm g) (hr : RefM w vr g) (rg : Rct g (cols g)) (hn : g.length ≤ 65536) (hc : cols g ≤ 65536) (hb : BdM k g) (hk : k ≤ 1073741824) :
    Calls Tryd.prog 22 #[vm, .int .i64 0, vr, .int .i64 0] w fun e w' => e = .returned (.bool true) ∧ Below w.heap.size w w' := by
  have IC := Lib.hid (fun V (q : Below w.heap.size w V) => mIs_c vm vr g k V (hm.keep q) (hr.keep q) rg hn hc hb hk)
  obtain ⟨a, c, rfl, -⟩ := hm
  obtain ⟨ra, rc, rfl, -⟩ : ∃ a c, vr = .slice a g.length c ∧ True := by obtain ⟨a, c, e, _⟩ := (show IsL _ _ _ _ _ _ from hr).view; exact ⟨a, c, e, trivial⟩
  clear hr rg hb
  have hB := Below.refl w.heap.size w
  go_enter Tryd.func22, Tryd.ntmps22
  go_wp2_with fail
  (with_reducible refine (IC.out _ ?_).mono ?_); (repeat (first | exact Below.refl _ _ | exact hB | refine Below.drew ?_ | refine below_drewN ?_ _ | refine bset ?_ (by simp <;> omega) _ | refine bal ?_ _))
  rintro e w1 ⟨rfl, hb1⟩
  have hB1 : Below w.heap.size w w1 := bthen (by repeat (first | exact Below.refl _ _ | exact hB | refine Below.drew ?_ | refine below_drewN ?_ _ | refine bset ?_ (by simp <;> omega) _ | refine bal ?_ _)) hb1
  clear IC
  go_wp2
  go_ret
  exact ⟨rfl, hB1⟩
set_option maxRecDepth 100000 in
set_option maxHeartbeats 4000000 in
/-- just that error, and none -/
theorem mComes_no (no : Int) (vr : Value) (w : World) (h0 : no ≠ 0) (hvr : ∃ a n c, vr = .slice a n c) :
    Calls Tryd.prog 22 #[.agg #[.slice none 0 0], .int .i64 no, vr, .int .i64 no] w fun e w' => e = .returned (.bool true) ∧ Below w.heap.size w w' := by
  have IC := Lib.hid (fun V => mIs_c (.agg #[.slice none 0 0]) (.slice none 0 0) [] 1 V (IsM.nil _ _) (RefM.nil _) (fun i hi => by simp at hi) (by decide) (by decide) (bdM_of (by simp)) (by decide))
  obtain ⟨a, n, c, rfl⟩ := hvr
  have hne : (no != 0) = true := by simpa using h0
  have hB := Below.refl w.heap.size w
  clear h0
  go_enter Tryd.func22, Tryd.ntmps22
  go_wp2_with fail
  (with_reducible refine (IC.out _).mono ?_)
  rintro e w1 ⟨rfl, hb1⟩
  have hB1 : Below w.heap.size w w1 := bthen (by repeat (first | exact Below.refl _ _ | exact hB | refine Below.drew ?_ | refine below_drewN ?_ _ | refine bset ?_ (by simp <;> omega) _ | refine bal ?_ _)) hb1
  clear IC
  go_wp2
  go_ret
  exact ⟨rfl, hB1⟩
end Go.Proofs.YthaohpfbengabaaDoor

/- the reference's identity. -/
namespace Go.Proofs.YthaohpfbengabaaDoor
open Num
open Go.ChangeShapes Go.WideShapes Go.ChangeAt Go.RowKit
set_option linter.unusedVariables false
set_option linter.unusedSimpArgs false
attribute [local go_sem ↓] Go.wp_at_zero Go.wp_at_succ
theorem infoRRow5 : (Tryd.prog.info? 81).map (fun i => (i.zero, i.size, i.bytes)) = some (some (.slice none 0 0), 1, 24) := by kernel_rfl
theorem elMat : Elt Tryd.prog 50 81 1 24 := Elt.mk' Tryd.underlying50 infoRRow5 rfl (by decide) (by decide)
/-- a row of the call's own lies in a block -/
theorem rowO_blk5 {R : World → Value → Int → Prop} {E : TypeId} {base : Nat} {w : World} {v : Value} {l : List Int} (h : RowO R E base w v l) (hl : 0 < l.length) :
    ∃ b c, v = .slice (some ⟨b, 0, none⟩) l.length c ∧ l.length ≤ c ∧ c ≤ maxLen ∧ base ≤ b ∧ typOf w b = some E ∧ Free w b ∧ IntsF R w b 0 l.length (fun k => l.getD k 0) := by
  obtain ⟨xs, ⟨hlen, h1⟩, h2⟩ := h
  rcases h1 with ⟨rfl, h0⟩ | ⟨g, cap, cur, rfl, hg, hh, hc, hm, hs, ht⟩
  · omega
  · have hty : typOf w g = some E := by unfold typOf; rw [hh]
    refine ⟨g, cap, rfl, hc, hm, hg, hty, ⟨typ_lt hty, fun j => by simp [World.frozen?, hh]⟩, fun k hk => ?_⟩
    obtain ⟨nb, a, len, c, k1, k2, k3⟩ := h2 k hk
    have cel : ∀ j u, xs[j]? = some u → w.cell? ⟨g, j, none⟩ = some u := fun j u hj => by
      have hj2 : j < l.length * 2 := by have := (List.getElem?_eq_some_iff.1 hj).1; omega
      rw [← ht, List.getElem?_take_of_lt (by omega)] at hj
      simpa [World.cell?, hh] using hj
    exact ⟨nb, a, len, c, by rw [Nat.zero_add]; exact cel _ _ k1, by rw [Nat.zero_add]; exact cel _ _ k2, k3⟩
/-- the identity's row -/
def idR (n i : Nat) : List Int := (List.range n).map fun j => if i = j then 1 else 0
theorem idR_len (n i : Nat) : (idR n i).length = n := by simp [idR]
theorem idR_at {n i k : Nat} (h : k < n) : (idR n i).getD k 0 = if k = i then 1 else 0 := by
  simp [idR, h, eq_comm]
theorem idG_row {n i : Nat} (h : i < n) : (idG n).getD i [] = idR n i := tab_row h
theorem idG_take {n i : Nat} (h : i < n) : (idG n).take (i + 1) = (idG n).take i ++ [idR n i] := by
  rw [take_getD [] (by rw [show (idG n).length = n from tab_len _ _ _]; exact h), idG_row h]
theorem idR_of {w : World} {b n i c : Nat} (hc : n ≤ c) (hm : c ≤ maxLen) (ht : typOf w b = some 84) {f : Nat → Int} (hf : ∀ k, k < n → f k = if k = i then 1 else 0) (h : IntsF IsRef w b 0 n f) : RRow 0 w (.slice (some ⟨b, 0, none⟩) n c) (idR n i) := by
  refine ⟨_, c, by rw [idR_len], by rw [idR_len]; exact hc, hm, .inr ⟨b, 0, rfl, Nat.zero_le _, ht, ?_⟩⟩
  rw [idR_len]
  exact h.congr fun k hk => by rw [hf k hk, idR_at hk]
set_option maxRecDepth 100000 in
set_option maxHeartbeats 8000000 in
theorem rident_c (n : Nat) (w : World) (hn : n ≤ 65536) : Calls Tryd.prog 23 #[.int .i64 (n : Nat)] w fun e w' => (∃ v, e = .returned v ∧ RefM w' v (idG n)) ∧ Below w.heap.size w w' := by
  have hB := Below.refl w.heap.size w
  go_enter Tryd.func23, Tryd.ntmps23
  go_wp2
  go_loopw [3, 4] (fun v x wr => ∃ i : Nat, i ≤ n ∧ x = .int .i64 i ∧ Hid (OwnL 81 (RRow 0) w wr v ((idG n).take i))) (fun _ x _ => n - (intOf x).toNat)
  case atStart => exact ⟨0, Nat.zero_le _, rfl, Lib.hid (OwnL.nil _ _ hB)⟩
  case round =>
    obtain ⟨i, hi, rfl, hO⟩ := hrel
    have hBr := hO.out.bel
    have hlen : ((idG n).take i).length = i := by rw [List.length_take, show (idG n).length = n from tab_len _ _ _]; omega
    have HLEN := Lib.hid hlen
    obtain ⟨oa, oc, hvv⟩ := hO.out.ex
    rw [hlen] at hvv
    subst hvv
    clear hlen
    by_cases hlt : i < n
    · have hltI : (i : Int) < (n : Int) := by omega
      have HT := Lib.hid (idG_take hlt)
      have zc := fun W => rzero_c n W (by omega)
      have ofc := fun W => rof_c 1 W (by decide) (by decide)
      have hBw := Below.refl wr.heap.size wr
      go_wp2_with fail
      refine (zc _).mono ?_
      rintro e w5 ⟨⟨a5, c5, rfl, hr5⟩, hb5⟩
      have hb5' : Below wr.heap.size wr w5 := bthen (by repeat (first | exact Below.refl _ _ | exact hBw | refine Below.drew ?_ | refine below_drewN ?_ _ | refine bset ?_ (by simp <;> omega) _ | refine bal ?_ _)) hb5
      obtain ⟨b, c, e5, hc1, hc2, hbb, hty, hfr, hI⟩ := rowO_blk5 hr5 (by rw [List.length_replicate]; omega)
      rw [List.length_replicate] at e5 hc1 hI
      obtain ⟨rfl, -, rfl⟩ := Value.slice.inj e5
      have HO5 := Lib.hid (hO.out.below prs_rrow hb5')
      have HI5 := Lib.hid hI
      have HFR := Lib.hid hfr
      have HC := Lib.hid (And.intro hc1 (And.intro hc2 hty))
      have hBw5 := Below.refl w5.heap.size w5
      have HO0 := hO
      clear zc hr5 e5 hc1 hc2 hty hfr hI hb5 hBw hO
      go_wp2_with fail
      refine (ofc _).mono ?_
      rintro e w6 ⟨⟨v6, rfl, hv6⟩, hb6⟩
      have hb6' : Below w5.heap.size w5 w6 := bthen (by repeat (first | exact Below.refl _ _ | exact hBw5 | refine Below.drew ?_ | refine below_drewN ?_ _ | refine bset ?_ (by simp <;> omega) _ | refine bal ?_ _)) hb6
      have HO6 := Lib.hid (HO5.out.below prs_rrow hb6')
      have HI6 := Lib.hid (HI5.out.keep lims_ref hb6')
      have HFR6 := HFR.out.keep hb6'
      have HV6 := Lib.hid hv6
      obtain ⟨n6, a6, c6, l6, rfl, -⟩ := hv6
      obtain ⟨nb, na, nl, ncp, d0, d1, -⟩ := HI6.out.at0 hlt
      have d0f := HFR6.2 (i * 2)
      have d1f := HFR6.2 (i * 2 + 1)
      have zd := cell_lt d0
      unfold iv at *
      have hbW : Below wr.heap.size wr ((w6.setCell ⟨b, i * 2, none⟩ (.bool n6)).setCell ⟨b, i * 2 + 1, none⟩ (.slice a6 l6.length c6)) := bset (bset (bthen hb5' hb6') hbb _) hbb _
      have HO7 := Lib.hid (HO0.out.below prs_rrow hbW)
      have HR7 := Lib.hid (idR_of (n := n) (i := i) HC.out.1 HC.out.2.1 (show typOf ((w6.setCell ⟨b, i * 2, none⟩ (.bool n6)).setCell ⟨b, i * 2 + 1, none⟩ (.slice a6 l6.length c6)) b = some 84 from by rw [typ_set, typ_set]; exact typ_keep HC.out.2.2 hb6') (fun k hk => by show (if k = i then (1 : Int) else (List.replicate n 0).getD k 0) = _; split <;> simp [hk]) (HI6.out.store0 lims_ref hlt HV6.out))
      have hLL : (((idG n).take i).length + 1) * 24 ≤ 140737488355328 := by rw [HLEN.out]; omega
      have hLM : ((idG n).take i).length + 1 ≤ maxLen := by rw [HLEN.out]; unfold maxLen; omega
      clear HO5 HO6 HI5 HI6 HFR HV6 HO0 hbb hBw5 hb5' hb6' hb6
      go_wp2_with (at_builtin; refine appL elMat prs_rrow (by decide) (by rfl) (by rfl) (HO7.out.below prs_rrow (bal (Below.refl _ _) _)) (prs_rrow.kp HR7.out (Kp.of_below _ (bal (Below.refl _ _) _))) (by rfl) (by rfl) (cell_new (by simp) rfl) hLL hLM ?_)
      intro v' w8 hO8 hk8
      have HO8 := Lib.hid hO8
      rw [← HT.out] at HO8
      clear hO8 hk8
      go_wp2
      exact ⟨⟨i + 1, hlt, by go_num, HO8⟩, meas hlt (by go_num) rfl⟩
    · obtain rfl : i = n := by omega
      have HR := Lib.hid (show RefM wr _ (idG i) from by
        have h := hO.out.isL
        rw [show (idG i).take i = idG i from List.take_of_length_le (Nat.le_of_eq (tab_len _ _ _))] at h
        exact h.rebase (Nat.zero_le _))
      go_wp2
      go_ret
      exact ⟨⟨_, rfl, HR.out⟩, hBr⟩
end Go.Proofs.YthaohpfbengabaaDoor

/- MatrixUnits: any number of rows. -/
namespace Go.Proofs.YthaohpfbengabaaDoor
open Num
open Go.ChangeShapes Go.WideShapes Go.ChangeAt Go.RowKit
set_option linter.unusedVariables false
set_option linter.unusedSimpArgs false
attribute [local go_sem ↓] Go.wp_at_zero Go.wp_at_succ
theorem idG_bd (n : Nat) : BdM 1 (idG n) := by
  intro i j
  by_cases h : i < n ∧ j < n
  · unfold idG
    rw [tab_gat h.1 h.2]
    split <;> (unfold Bd; decide)
  · have h0 : gat (idG n) i j = 0 := by
      show ((idG n).getD i []).getD j 0 = 0
      by_cases e1 : i < n
      · rw [idG_row e1, List.getD_eq_getElem?_getD, List.getElem?_eq_none (by rw [idR_len]; omega)]; rfl
      · have h3 : (idG n).getD i [] = [] := by rw [List.getD_eq_getElem?_getD, List.getElem?_eq_none (by rw [show (idG n).length = n from tab_len _ _ _]; omega)]; rfl
        rw [h3]; rfl
    rw [h0]; exact bd_zero
set_option maxRecDepth 100000 in
set_option maxHeartbeats 8000000 in
theorem matrixUnits_h (n : Int) (w : World) (hwf : (Lit.int .i64 n).wf = true) : Calls Tryd.prog 4 #[.int .i64 n] w fun e w' => e = .returned (.bool true) ∧ Below w.heap.size w w' := by
  have hB := Below.refl w.heap.size w
  go_enter Tryd.func4, Tryd.ntmps4
  go_wp2_with fail
  (with_reducible refine (works_c _).mono ?_)
  rintro e w1 ⟨rfl, hb1⟩
  have hB1 : Below w.heap.size w w1 := bthen (by repeat (first | exact Below.refl _ _ | exact hB | refine Below.drew ?_ | refine below_drewN ?_ _ | refine bset ?_ (by simp <;> omega) _ | refine bal ?_ _)) hb1
  have hBw1 := Below.refl w1.heap.size w1
  clear hb1
  go_wp2_with fail
  (with_reducible refine (identity_c n _).mono ?_)
  unfold IdentPost
  rintro e w2 ⟨(⟨hn, rfl⟩ | ⟨hn, rfl⟩ | ⟨hn1, hn2, v2, rfl, hv2⟩), hb2⟩
  · have hB2 : Below w.heap.size w w2 := bthen hB1 (bthen (by repeat (first | exact Below.refl _ _ | exact hBw1 | refine Below.drew ?_ | refine below_drewN ?_ _ | refine bset ?_ (by simp <;> omega) _ | refine bal ?_ _)) hb2)
    have hBw2 := Below.refl w2.heap.size w2
    clear hb2
    go_wp2_with fail
    refine (mComes_no 2 _ _ (by decide) ⟨_, _, _, rfl⟩).mono ?_
    rintro e w3 ⟨rfl, hb3⟩
    have hB3 : Below w.heap.size w w3 := bthen hB2 (bthen (by repeat (first | exact Below.refl _ _ | exact hBw2 | refine Below.drew ?_ | refine below_drewN ?_ _ | refine bset ?_ (by simp <;> omega) _ | refine bal ?_ _)) hb3)
    go_wp2
    go_ret
    exact ⟨rfl, hB3⟩
  · have hn0 : ¬ n < 1 := by omega
    have hB2 : Below w.heap.size w w2 := bthen hB1 (bthen (by repeat (first | exact Below.refl _ _ | exact hBw1 | refine Below.drew ?_ | refine below_drewN ?_ _ | refine bset ?_ (by simp <;> omega) _ | refine bal ?_ _)) hb2)
    have hBw2 := Below.refl w2.heap.size w2
    clear hb2
    go_wp2_with fail
    refine (mComes_no 3 _ _ (by decide) ⟨_, _, _, rfl⟩).mono ?_
    rintro e w3 ⟨rfl, hb3⟩
    have hB3 : Below w.heap.size w w3 := bthen hB2 (bthen (by repeat (first | exact Below.refl _ _ | exact hBw2 | refine Below.drew ?_ | refine below_drewN ?_ _ | refine bset ?_ (by simp <;> omega) _ | refine bal ?_ _)) hb3)
    go_wp2
    go_ret
    exact ⟨rfl, hB3⟩
  · obtain ⟨k, rfl⟩ : ∃ k : Nat, n = k := ⟨n.toNat, by omega⟩
    have hn0 : ¬ (k : Int) < 1 := by omega
    have hn3 : ¬ (16 : Int) < (k : Int) := by omega
    have hk1 : 1 ≤ k := by omega
    have hk2 : k ≤ 16 := by omega
    rw [Int.toNat_natCast] at hv2
    have hB2 : Below w.heap.size w w2 := bthen hB1 (bthen (by repeat (first | exact Below.refl _ _ | exact hBw1 | refine Below.drew ?_ | refine below_drewN ?_ _ | refine bset ?_ (by simp <;> omega) _ | refine bal ?_ _)) hb2)
    have HV2 := Lib.hid (hv2.rebase (Nat.zero_le _))
    obtain ⟨a2, c2, rfl⟩ := hv2.lit
    have hBw2 := Below.refl w2.heap.size w2
    clear hb2 hv2 hn1 hn2
    obtain ⟨L, hL⟩ : ∃ L, (idG k).length = L := ⟨_, rfl⟩
    rw [hL] at HV2 ⊢
    clear hL
    go_wp2
    refine wp_name fun w3 hW3 => ?_
    have hb23 : Below w2.heap.size w2 w3 := by rw [hW3]; repeat (first | exact Below.refl _ _ | exact hBw2 | refine Below.drew ?_ | refine below_drewN ?_ _ | refine bset ?_ (by simp <;> omega) _ | refine bal ?_ _)
    have m0 : w3.cell? ⟨w2.heap.size, 0, none⟩ = some (.slice a2 L c2) := by rw [hW3]; simp [go_sem]
    have HV3 := Lib.hid (HV2.out.keep hb23)
    have hB3 := bthen hB2 hb23
    clear hW3
    have zm := cell_lt m0
    have hBx := Below.refl w3.heap.size w3
    have HS := Lib.hid (show ∀ V, Below w3.heap.size w3 V → V.cell? ⟨w2.heap.size, 0, none⟩ = some (.slice a2 L c2) from fun V q => bkeep q m0)
    have ric := fun V => rident_c k V (by omega)
    have cyc := Lib.hid (fun vr V (q : Below w3.heap.size w3 V) (hr : RefM V vr (idG k)) => mComes_yes (.agg #[.slice a2 L c2]) vr (idG k) 1 V (HV3.out.keep q) hr (by rw [show cols (idG k) = k from tab_cols _ hk1]; exact tab_rect _ _ _) (by rw [show (idG k).length = k from tab_len _ _ _]; omega) (by rw [show cols (idG k) = k from tab_cols _ hk1]; omega) (idG_bd k) (by decide))
    go_region_held3 (fun V => V.cell? ⟨w2.heap.size, 0, none⟩ = some (.slice a2 L c2))
      (first | (refine HS.out _ ?_; (repeat (first | exact Below.refl _ _ | exact hBx | refine Below.drew ?_ | refine below_drewN ?_ _ | refine bset ?_ (by simp <;> omega) _ | refine bal ?_ _)); done) | fail)
      (first
      | (go_at_call 23; (with_reducible refine (ric _).mono ?_); rintro e w5 ⟨⟨v5, rfl, hv5⟩, hb5⟩; (have hBd : Below w3.heap.size w3 w5 := bthen (by repeat (first | exact Below.refl _ _ | exact hBx | refine Below.drew ?_ | refine below_drewN ?_ _ | refine bset ?_ (by simp <;> omega) _ | refine bal ?_ _)) hb5; clear hBx; have hBx := hBd; clear hBd); have HV5 := Lib.hid hv5; clear hv5 hb5)
      | (go_at_call 22; (with_reducible refine (cyc.out _ _ ?_ (HV5.out.keep ?_)).mono ?_); (repeat (first | exact Below.refl _ _ | exact hBx | refine Below.drew ?_ | refine below_drewN ?_ _ | refine bset ?_ (by simp <;> omega) _ | refine bal ?_ _)); (have hBy := Below.refl w5.heap.size w5; (repeat (first | exact Below.refl _ _ | exact hBy | refine Below.drew ?_ | refine below_drewN ?_ _ | refine bset ?_ (by simp <;> omega) _ | refine bal ?_ _))); rintro e w6 ⟨rfl, hb6⟩; (have hBd : Below w3.heap.size w3 w6 := bthen (by repeat (first | exact Below.refl _ _ | exact hBx | refine Below.drew ?_ | refine below_drewN ?_ _ | refine bset ?_ (by simp <;> omega) _ | refine bal ?_ _)) hb6; clear hBx; have hBx := hBd; clear hBd))
      | fail)
    all_goals
      have hB6 := bthen hB3 hBx
      go_wp2
      go_ret
      exact ⟨rfl, by repeat (first | exact Below.refl _ _ | exact hB6 | refine Below.drew ?_ | refine below_drewN ?_ _ | refine bset ?_ (by simp <;> omega) _ | refine bal ?_ _)⟩
end Go.Proofs.YthaohpfbengabaaDoor

