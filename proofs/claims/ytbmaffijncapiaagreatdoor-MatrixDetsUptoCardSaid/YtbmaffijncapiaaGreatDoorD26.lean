/- Texts of this seat, laid together: MwB, MwC, MwJ, MwK, MwG, MwS, MwW, MwX, MwD, MwE, MwY. Each opens with its own remark, which says what it proves, and under which conditions. -/
import Derived.Test.YtbmaffijncapiaaGreatDoorD25
import Derived.Test.YtbmaffijncapiaaGreatDoorD24
import Derived.Test.YtbmaffijncapiaaGreatDoorD18
import Derived.Test.YtbmaffijncapiaaGreatDoorD21
import Derived.Test.YtbmaffijncapiaaGreatDoorD22
import Derived.Test.YtbmaffijncapiaaGreatDoorD01
import Derived.Deep.DeepCutAuto
import Derived.Test.YtbmaffijncapiaaGreatDoorD14
set_option linter.unusedVariables false
set_option linter.unusedSimpArgs false
/- matrix's laws: works answers true. -/
namespace Go.Proofs.YtbmaffijncapiaaGreatDoor
open Num
open Go.ChangeShapes Go.WideShapes Go.ChangeAt Go.RowKit
set_option linter.unusedVariables false
set_option linter.unusedSimpArgs false
attribute [local go_sem ↓] Go.wp_at_zero Go.wp_at_succ
theorem equalIn_func_nil {P : Program} (w : World) (d : Nat) (t : TypeId) {ps rs : Array TypeId} {v : Bool} (f : Fn) (bs cs : Array Value) (h : P.underlying t = some (.func ps rs v)) : (Op.equalIn (d + 1) t (.func f bs cs) .nilFunc).run P w = .ok false w := by
  simp [Op.equalIn, run_underlying h]
theorem eql_func_nil {P : Program} (w : World) (t : TypeId) {ps rs : Array TypeId} {v : Bool} (f : Fn) (bs cs : Array Value) (h : P.underlying t = some (.func ps rs v)) : (binOp .eql t (.func f bs cs) .nilFunc).run P w = .ok (.bool false) w := by
  simp only [binOp]
  simp [Op.equal, Op.maxDepth, equalIn_func_nil w 9999 t f bs cs h]
theorem wt1_r : ∀ i, i < ([[7, 10], [15, 22]] : Grid).length → (Lib.join ((([[7, 10], [15, 22]] : Grid).getD i []).map intTxt) [32]).length ≤ 140737488355328 := by
  intro i hi
  have h2 : i < 2 := hi
  have e0 : (Lib.join (([7, 10] : List Int).map intTxt) [32]).length = 4 := by kernel_rfl
  have e1 : (Lib.join (([15, 22] : List Int).map intTxt) [32]).length = 5 := by kernel_rfl
  rcases (show i = 0 ∨ i = 1 by omega) with rfl | rfl
  · exact Nat.le_trans (Nat.le_of_eq e0) (by decide)
  · exact Nat.le_trans (Nat.le_of_eq e1) (by decide)
theorem wt1_m : (Lib.join (([[7, 10], [15, 22]] : Grid).map rowTxt) [32]).length ≤ 140737488355328 := by
  have e : (Lib.join (([[7, 10], [15, 22]] : Grid).map rowTxt) [32]).length = 14 := by kernel_rfl
  exact Nat.le_trans (Nat.le_of_eq e) (by decide)
theorem wt2_r : ∀ i, i < ([[-4, 2], [3, -1]] : Grid).length → (Lib.join ((([[-4, 2], [3, -1]] : Grid).getD i []).map intTxt) [32]).length ≤ 140737488355328 := by
  intro i hi
  have h2 : i < 2 := hi
  have e0 : (Lib.join (([-4, 2] : List Int).map intTxt) [32]).length = 4 := by kernel_rfl
  have e1 : (Lib.join (([3, -1] : List Int).map intTxt) [32]).length = 4 := by kernel_rfl
  rcases (show i = 0 ∨ i = 1 by omega) with rfl | rfl
  · exact Nat.le_trans (Nat.le_of_eq e0) (by decide)
  · exact Nat.le_trans (Nat.le_of_eq e1) (by decide)
theorem wt2_m : (Lib.join (([[-4, 2], [3, -1]] : Grid).map rowTxt) [32]).length ≤ 140737488355328 := by
  have e : (Lib.join (([[-4, 2], [3, -1]] : Grid).map rowTxt) [32]).length = 13 := by kernel_rfl
  exact Nat.le_trans (Nat.le_of_eq e) (by decide)
set_option maxRecDepth 100000 in
set_option maxHeartbeats 8000000 in
theorem works_c (w : World) : Calls Tryz.prog 58 #[] w fun e w' => e = .returned (.bool true) ∧ Below w.heap.size w w' := by
  have hB := Below.refl w.heap.size w
  go_enter Tryz.func58, Tryz.ntmps58
  go_wp2_with fail
  refine (list_c _ [1, 2] _ (rowI_two (cell_new rfl rfl) (cell_new rfl rfl) (by unfold I64; omega) (by unfold I64; omega)) (by decide)).mono ?_
  rintro e w1 ⟨⟨v1, rfl, hv1⟩, hb1⟩
  have hB1 : Below w.heap.size w w1 := bthen (by repeat (first|exact bzR _ _|exact hB|refine bzD ?_|refine bzN ?_|refine bzS ?_|refine bzA ?_)) hb1
  have HV1 := Lib.hid (show PRow 0 w1 v1 [1, 2] from hv1.row.rebase (Nat.zero_le _))
  obtain ⟨a1, c1, hv1e⟩ := hv1.ex
  replace hv1e : v1 = .slice a1 2 c1 := hv1e
  subst hv1e
  have hBw1 := Below.refl w1.heap.size w1
  clear hv1 hb1
  go_wp2_with fail
  refine (list_c _ [3, 4] _ (rowI_two (cell_new rfl rfl) (cell_new rfl rfl) (by unfold I64; omega) (by unfold I64; omega)) (by decide)).mono ?_
  rintro e w2 ⟨⟨v2, rfl, hv2⟩, hb2⟩
  have hb12 : Below w1.heap.size w1 w2 := bthen (by repeat (first|exact bzR _ _|exact hBw1|refine bzD ?_|refine bzN ?_|refine bzS ?_|refine bzA ?_)) hb2
  have hB2 := bthen hB1 hb12
  have HV2 := Lib.hid (show PRow 0 w2 v2 [3, 4] from hv2.row.rebase (Nat.zero_le _))
  have HV12 := Lib.hid (HV1.out.keep lims_int hb12)
  obtain ⟨a2, c2, hv2e⟩ := hv2.ex
  replace hv2e : v2 = .slice a2 2 c2 := hv2e
  subst hv2e
  have hBw2 := Below.refl w2.heap.size w2
  clear hv2 hb2 HV1
  go_wp2_with fail
  refine (newM_c _ wG _ (isL_rows2 (cell_new rfl rfl) (cell_new rfl rfl) (by decide) (by unfold maxLen; decide) (typ_fresh rfl) (HV12.out.keep lims_int (bal (Below.refl _ _) _)) (HV2.out.keep lims_int (bal (Below.refl _ _) _))) (by unfold wG; decide)).mono ?_
  rintro e w3 ⟨(⟨-, v3, rfl, hv3⟩ | ⟨hs, -⟩), hb3⟩
  rotate_left
  · exact absurd wG_fits hs
  have hb23 : Below w2.heap.size w2 w3 := bthen (by repeat (first|exact bzR _ _|exact hBw2|refine bzD ?_|refine bzN ?_|refine bzS ?_|refine bzA ?_)) hb3
  have hB3 := bthen hB2 hb23
  have HV3 := Lib.hid (hv3.rebase (Nat.zero_le _))
  obtain ⟨a3, c3, hv3e⟩ := hv3.lit
  replace hv3e : v3 = .agg #[.slice a3 2 c3] := hv3e
  subst hv3e
  have hBw3 := Below.refl w3.heap.size w3
  clear hv3 hb3 HV2 HV12
  go_wp2_with fail
  refine (rowsM_c a3 2 c3 _).mono ?_
  rintro e w4 ⟨rfl, hb4⟩
  have hb34 : Below w3.heap.size w3 w4 := bthen (by repeat (first|exact bzR _ _|exact hBw3|refine bzD ?_|refine bzN ?_|refine bzS ?_|refine bzA ?_)) hb4
  have m0 : w4.cell? ⟨w3.heap.size, 0, none⟩ = some (.slice a3 2 c3) := bkeep hb4 (cell_new rfl rfl)
  have HV4 := Lib.hid (HV3.out.keep hb34)
  have hB4 := bthen hB3 hb34
  have zm := cell_lt m0
  have hBw4 := Below.refl w4.heap.size w4
  clear hb4
  go_wp2_with fail
  have hc5 : ∀ W, Below w4.heap.size w4 W → Calls Tryz.prog 27 #[.agg #[.slice a3 2 c3]] W fun e w' => e = .returned (.int .i64 2) ∧ Below W.heap.size W w' := fun W q => by
    obtain ⟨a', c', e, hl⟩ := HV4.out.keep q
    cases e
    exact colsM_c _ _ wG W hl
  refine (hc5 _ (by repeat (first|exact bzR _ _|exact hBw4|refine bzD ?_|refine bzN ?_|refine bzS ?_|refine bzA ?_))).mono ?_
  rintro e w5 ⟨rfl, hb5⟩
  have hb45 : Below w4.heap.size w4 w5 := bthen (by repeat (first|exact bzR _ _|exact hBw4|refine bzD ?_|refine bzN ?_|refine bzS ?_|refine bzA ?_)) hb5
  replace m0 := bkeep hb45 m0
  have HV5 := Lib.hid (HV4.out.keep hb45)
  have hB5 := bthen hB4 hb45
  replace zm := cell_lt m0
  have hBw5 := Below.refl w5.heap.size w5
  clear hb5 hc5 HV4 HV3
  go_wp2_with fail
  refine (pivots_v _ a3 2 c3 _ rfl).mono ?_
  rintro e w6 ⟨rfl, hb6⟩
  have hb56 : Below w5.heap.size w5 w6 := bthen (by repeat (first|exact bzR _ _|exact hBw5|refine bzD ?_|refine bzN ?_|refine bzS ?_|refine bzA ?_)) hb6
  replace m0 := bkeep hb56 m0
  have HV6 := Lib.hid (HV5.out.keep hb56)
  have hB6 := bthen hB5 hb56
  replace zm := cell_lt m0
  have hBw6 := Below.refl w6.heap.size w6
  clear hb6 HV5
  have hrc : Rct wG (cols wG) := by intro i hi; have h2 : i < 2 := hi; rcases (show i = 0 ∨ i = 1 by omega) with rfl | rfl <;> rfl
  have HRC := Lib.hid hrc
  clear hrc
  have hfn := fun W f bs cs => eql_func_nil (P := Tryz.prog) W 117 f bs cs Tryz.underlying117
  go_wp2_with fail
  refine (timesM_c _ _ wG wG 3 3 _ (HV6.out.keep (by repeat (first|exact bzR _ _|exact hBw6|refine bzD ?_|refine bzN ?_|refine bzS ?_|refine bzA ?_))) (HV6.out.keep (by repeat (first|exact bzR _ _|exact hBw6|refine bzD ?_|refine bzN ?_|refine bzS ?_|refine bzA ?_))) HRC.out HRC.out (bdM_of (by unfold wG; decide)) (bdM_of (by unfold wG; decide)) (by decide) (by decide) (by decide) (by decide)).mono ?_
  rintro e w7 ⟨(⟨-, v7, rfl, hv7⟩ | ⟨hs, -⟩), hb7⟩
  rotate_left
  · exact absurd ⟨rfl, by decide⟩ hs
  have hb67 : Below w6.heap.size w6 w7 := bthen (by repeat (first|exact bzR _ _|exact hBw6|refine bzD ?_|refine bzN ?_|refine bzS ?_|refine bzA ?_)) hb7
  replace m0 := bkeep hb67 m0
  rw [wG_times] at hv7
  have HP7 := Lib.hid (hv7.rebase (Nat.zero_le _))
  have HV7 := Lib.hid (HV6.out.keep hb67)
  have hB7 := bthen hB6 hb67
  replace zm := cell_lt m0
  obtain ⟨a7, c7, hv7e⟩ := hv7.lit
  replace hv7e : v7 = .agg #[.slice a7 2 c7] := hv7e
  subst hv7e
  have hBw7 := Below.refl w7.heap.size w7
  clear hv7 hb7 HV6
  go_wp2_with fail
  refine (invM_c _ wG 3 _ (HV7.out.keep (by repeat (first|exact bzR _ _|exact hBw7|refine bzD ?_|refine bzN ?_|refine bzS ?_|refine bzA ?_))) HRC.out (by decide) (by decide) (bdM_of (by unfold wG; decide)) (by decide)).mono ?_
  rintro e w8 ⟨(⟨-, -, v8, u8, rfl, hv8, hu8⟩ | ⟨-, hs, -⟩ | ⟨hs, -⟩), hb8⟩
  rotate_left
  · rw [wG_det] at hs; cases hs
  · rw [wG_sq] at hs; cases hs
  rw [wG_inv] at hv8
  rw [wG_invD] at hu8
  have hb78 : Below w7.heap.size w7 w8 := bthen (by repeat (first|exact bzR _ _|exact hBw7|refine bzD ?_|refine bzN ?_|refine bzS ?_|refine bzA ?_)) hb8
  have p0 : w8.cell? ⟨w7.heap.size, 0, none⟩ = some (.slice a7 2 c7) := bkeep hb8 (cell_new rfl rfl)
  have HP8 := Lib.hid (HP7.out.keep hb78)
  have HW8 := Lib.hid (hv8.rebase (Nat.zero_le _))
  have HU8 := Lib.hid hu8
  have hB8 := bthen hB7 hb78
  have zp := cell_lt p0
  obtain ⟨a8, c8, hv8e⟩ := hv8.lit
  replace hv8e : v8 = .agg #[.slice a8 2 c8] := hv8e
  subst hv8e
  obtain ⟨n9, a9, c9, l9, rfl, -⟩ := hu8
  unfold iv at *
  have hBw8 := Below.refl w8.heap.size w8
  clear hv8 hb8 HP7 HV7 m0 zm
  go_wp2_with fail
  refine (matText_c _ [[7, 10], [15, 22]] 8 _ (HP8.out.keep (by repeat (first|exact bzR _ _|exact hBw8|refine bzD ?_|refine bzN ?_|refine bzS ?_|refine bzA ?_))) (by decide) (by decide) (bdM_of (by decide)) (by decide) wt1_r wt1_m).mono ?_
  rw [wG_txt1]
  rintro e w9 ⟨rfl, hb9⟩
  have hb89 : Below w8.heap.size w8 w9 := bthen (by repeat (first|exact bzR _ _|exact hBw8|refine bzD ?_|refine bzN ?_|refine bzS ?_|refine bzA ?_)) hb9
  have q0 : w9.cell? ⟨w8.heap.size, 0, none⟩ = some (.slice a8 2 c8) := bkeep hb9 (by simp [go_sem])
  have u0 : w9.cell? ⟨w8.heap.size + 1, 0, none⟩ = some (.bool n9) := bkeep hb9 (by simp [go_sem])
  have u1 : w9.cell? ⟨w8.heap.size + 1, 1, none⟩ = some (.slice a9 l9.length c9) := bkeep hb9 (by simp [go_sem])
  have HW9 := Lib.hid (HW8.out.keep hb89)
  have HU9 := Lib.hid (HU8.out.keep hb89)
  have hB9 := bthen hB8 hb89
  have zq := cell_lt q0
  have zu := cell_lt u0
  have hBw9 := Below.refl w9.heap.size w9
  clear hb9 HP8 HW8 HU8 p0 zp
  go_wp2_with fail
  refine (matText_c _ [[-4, 2], [3, -1]] 8 _ (HW9.out.keep (by repeat (first|exact bzR _ _|exact hBw9|refine bzD ?_|refine bzN ?_|refine bzS ?_|refine bzA ?_))) (by decide) (by decide) (bdM_of (by decide)) (by decide) wt2_r wt2_m).mono ?_
  rw [wG_txt2]
  rintro e w10 ⟨rfl, hb10⟩
  have hb910 : Below w9.heap.size w9 w10 := bthen (by repeat (first|exact bzR _ _|exact hBw9|refine bzD ?_|refine bzN ?_|refine bzS ?_|refine bzA ?_)) hb10
  replace u0 := bkeep hb910 u0
  replace u1 := bkeep hb910 u1
  have HU10 := Lib.hid (HU9.out.keep hb910)
  have hB10 := bthen hB9 hb910
  replace zu := cell_lt u0
  have hBw10 := Below.refl w10.heap.size w10
  clear hb10 HW9 HU9 q0 zq
  go_wp2_with fail
  refine (intText_c _ 2 8 _ (HU10.out.keep (by repeat (first|exact bzR _ _|exact hBw10|refine bzD ?_|refine bzN ?_|refine bzS ?_|refine bzA ?_))) (by unfold Bd; decide) (by decide)).mono ?_
  rw [wG_txt3]
  rintro e w11 ⟨rfl, hb11⟩
  have hB11 := bthen hB10 (bthen (show Below w10.heap.size w10 _ by repeat (first|exact bzR _ _|exact hBw10|refine bzD ?_|refine bzN ?_|refine bzS ?_|refine bzA ?_)) hb11)
  clear HU10 u0 u1
  go_wp2
  go_ret
  exact ⟨rfl, hB11⟩
end Go.Proofs.YtbmaffijncapiaaGreatDoor

/- matrix's laws: same, line, is, comes; the matrix's Row; the reference's Cols. -/
namespace Go.Proofs.YtbmaffijncapiaaGreatDoor
open Num
open Go.ChangeShapes Go.WideShapes Go.ChangeAt Go.RowKit
set_option linter.unusedVariables false
set_option linter.unusedSimpArgs false
attribute [local go_sem ↓] Go.wp_at_zero Go.wp_at_succ
theorem bool_beq (s : ByteArray) : (s == s) = true := by cases s with | mk d => show (d == d) = true; simp
set_option maxRecDepth 100000 in
set_option maxHeartbeats 4000000 in
theorem mSame_c (vx vy : Value) (x : Int) (k : Nat) (w : World) (hx : IsInt w vx x) (hy : IsRef w vy x) (bx : Bd k x) (hk : k ≤ 1073741824) :
    Calls Tryz.prog 62 #[vx, vy] w fun e w' => e = .returned (.bool true) ∧ Below w.heap.size w w' := by
  have HX := Lib.hid hx
  have HY := Lib.hid hy
  obtain ⟨n1, a1, c1, l1, rfl, -⟩ := hx
  obtain ⟨n2, a2, c2, l2, rfl, -⟩ := hy
  unfold iv at *
  have tx := Lib.hid (fun W (q : Below w.heap.size w W) => intText_c (.agg #[.bool n1, .slice a1 l1.length c1]) x k W (HX.out.keep q) bx (by omega))
  have ty := Lib.hid (fun W (q : Below w.heap.size w W) => rtext_c (.agg #[.bool n2, .slice a2 l2.length c2]) x k W (HY.out.keep q) bx hk)
  obtain ⟨s, hs⟩ : ∃ s, (⟨(intTxt x).toArray⟩ : ByteArray) = s := ⟨_, rfl⟩
  rw [hs] at tx ty
  clear HX HY bx hs
  have hB := Below.refl w.heap.size w
  go_enter Tryz.func62, Tryz.ntmps62
  go_wp2
  refine wp_name fun w0 hW0 => ?_
  have hB0 : Below w.heap.size w w0 := by rw [hW0]; repeat (first|exact bzR _ _|exact hB|refine bzD ?_|refine bzN ?_|refine bzS ?_|refine bzA ?_)
  obtain ⟨x0, x1, y0, y1⟩ : w0.cell? ⟨w.heap.size, 0, none⟩ = some (.bool n1) ∧ w0.cell? ⟨w.heap.size, 1, none⟩ = some (.slice a1 l1.length c1) ∧ w0.cell? ⟨w.heap.size + 1, 0, none⟩ = some (.bool n2) ∧ w0.cell? ⟨w.heap.size + 1, 1, none⟩ = some (.slice a2 l2.length c2) := by rw [hW0]; simp [go_sem]
  clear hW0
  have HS := Lib.hid (show ∀ W, Below w0.heap.size w0 W → W.cell? ⟨w.heap.size, 0, none⟩ = some (.bool n1) ∧ W.cell? ⟨w.heap.size, 1, none⟩ = some (.slice a1 l1.length c1) ∧ W.cell? ⟨w.heap.size + 1, 0, none⟩ = some (.bool n2) ∧ W.cell? ⟨w.heap.size + 1, 1, none⟩ = some (.slice a2 l2.length c2) from fun W h => ⟨bkeep h x0, bkeep h x1, bkeep h y0, bkeep h y1⟩)
  have zx := cell_lt x0
  have zy := cell_lt y0
  have hBc := Below.refl w0.heap.size w0
  have hbeq := bool_beq s
  go_region_held3 (fun W => W.cell? ⟨w.heap.size, 0, none⟩ = some (.bool n1) ∧ W.cell? ⟨w.heap.size, 1, none⟩ = some (.slice a1 l1.length c1) ∧ W.cell? ⟨w.heap.size + 1, 0, none⟩ = some (.bool n2) ∧ W.cell? ⟨w.heap.size + 1, 1, none⟩ = some (.slice a2 l2.length c2))
    (first | (refine HS.out _ ?_; (repeat (first|exact bzR _ _|exact hBc|refine bzD ?_|refine bzN ?_|refine bzS ?_|refine bzA ?_)); done) | fail)
    (first
    | (go_at_call 28; (with_reducible refine (tx.out _ ?_).mono ?_); (refine bthen hB0 ?_; (repeat (first|exact bzR _ _|exact hBc|refine bzD ?_|refine bzN ?_|refine bzS ?_|refine bzA ?_))); rintro e w5 ⟨rfl, hb5⟩; (have hBd : Below w0.heap.size w0 w5 := bthen (by repeat (first|exact bzR _ _|exact hBc|refine bzD ?_|refine bzN ?_|refine bzS ?_|refine bzA ?_)) hb5; clear hBc; have hBc := hBd; clear hBd))
    | (go_at_call 29; (with_reducible refine (ty.out _ ?_).mono ?_); (refine bthen hB0 ?_; (repeat (first|exact bzR _ _|exact hBc|refine bzD ?_|refine bzN ?_|refine bzS ?_|refine bzA ?_))); rintro e w6 ⟨rfl, hb6⟩; (have hBd : Below w0.heap.size w0 w6 := bthen (by repeat (first|exact bzR _ _|exact hBc|refine bzD ?_|refine bzN ?_|refine bzS ?_|refine bzA ?_)) hb6; clear hBc; have hBc := hBd; clear hBd))
    | fail)
  all_goals
    have hB6 := bthen hB0 hBc
    go_wp2
    go_ret
    exact ⟨by simp, by repeat (first|exact bzR _ _|exact hB6|refine bzD ?_|refine bzN ?_|refine bzS ?_|refine bzA ?_)⟩
theorem prs_rrow : Prs (fun t => t = 177 ∨ t = 56) (RRow 0) := prs_row lims_ref _ _
theorem IsL.rrow {w : World} {v : Value} {g : Grid} (h : IsL 110 (RRow 0) 0 w v g) {i : Nat} (hi : i < g.length) :
    ∃ c gb go ra rc, v = .slice (some ⟨gb, go, none⟩) g.length c ∧ w.cell? ⟨gb, go + i, none⟩ = some (.slice ra (g.getD i []).length rc) ∧ RRow 0 w (.slice ra (g.getD i []).length rc) (g.getD i []) := by
  obtain ⟨a, c, e, _, hv⟩ := h.view
  obtain ⟨gb, go, u, rfl, hu, hr⟩ := hv i hi
  have e2 : g[i] = g.getD i [] := by simp [hi]
  rw [e2] at hr
  have hr2 := hr
  obtain ⟨ra, rc, rfl, _⟩ := hr2
  exact ⟨c, gb, go, ra, rc, e, hu, hr⟩
set_option maxRecDepth 100000 in
set_option maxHeartbeats 1000000 in
theorem rcols_c (v : Value) (g : Grid) (w : World) (h : IsL 110 (RRow 0) 0 w v g) : Calls Tryz.prog 149 #[v] w fun e w' => e = .returned (.int .i64 (cols g : Nat)) ∧ Below w.heap.size w w' := by
  have hB := Below.refl w.heap.size w
  obtain ⟨a, c, rfl, -⟩ : ∃ a c, v = .slice a g.length c ∧ True := by obtain ⟨a, c, e, _⟩ := h.view; exact ⟨a, c, e, trivial⟩
  by_cases h0 : g.length = 0
  · have hg : g = [] := List.length_eq_zero_iff.1 h0
    subst hg
    rw [show cols [] = 0 from rfl, show ([] : Grid).length = 0 from rfl]
    clear h h0
    go_enter Tryz.func149, Tryz.ntmps149
    go_wp2
    go_ret
    exact ⟨rfl, by repeat (first|exact bzR _ _|exact hB|refine bzD ?_|refine bzN ?_|refine bzS ?_|refine bzA ?_)⟩
  · obtain ⟨c', gb, go, ra, rc, e, hu, hp⟩ := h.rrow (show 0 < g.length by omega)
    obtain ⟨rfl, -, rfl⟩ := Value.slice.inj e
    rw [Nat.add_zero] at hu
    have zu := cell_lt hu
    unfold cols
    obtain ⟨m, hm⟩ : ∃ m, (g.getD 0 []).length = m := ⟨_, rfl⟩
    obtain ⟨n, hn⟩ : ∃ n, g.length = n := ⟨_, rfl⟩
    rw [hm] at hu ⊢
    rw [hn] at h0 ⊢
    have hn0 : ((n : Int) == 0) = false := by simp; omega
    have hn1 : (0 : Int) < (n : Int) := by omega
    clear h hp e hm hn
    go_enter Tryz.func149, Tryz.ntmps149
    go_wp2
    go_ret
    exact ⟨rfl, by repeat (first|exact bzR _ _|exact hB|refine bzD ?_|refine bzN ?_|refine bzS ?_|refine bzA ?_)⟩
end Go.Proofs.YtbmaffijncapiaaGreatDoor

/- matrix: Apply. -/
namespace Go.Proofs.YtbmaffijncapiaaGreatDoor
open Num
open Go.ChangeShapes Go.WideShapes Go.ChangeAt Go.RowKit
set_option linter.unusedVariables false
set_option linter.unusedSimpArgs false
attribute [local go_sem ↓] Go.wp_at_zero Go.wp_at_succ
end Go.Proofs.YtbmaffijncapiaaGreatDoor

/- matrices, plain: the laws of sums and products. -/
namespace Go.Proofs.YtbmaffijncapiaaGreatDoor
open Num
set_option linter.unusedVariables false
set_option linter.unusedSimpArgs false
end Go.Proofs.YtbmaffijncapiaaGreatDoor

/- matrix's laws: rows, made. -/
namespace Go.Proofs.YtbmaffijncapiaaGreatDoor
open Num
open Go.ChangeShapes Go.WideShapes Go.ChangeAt Go.RowKit
set_option linter.unusedVariables false
set_option linter.unusedSimpArgs false
attribute [local go_sem ↓] Go.wp_at_zero Go.wp_at_succ
set_option maxRecDepth 100000 in
set_option maxHeartbeats 4000000 in
theorem rows5_c (v : Value) (g : Grid) (w : World) (hv : GridI w v g) (hg : g.length ≤ 1048576) (hl : ∀ k, k < g.length → (g.getD k []).length ≤ 1048576) :
    Calls Tryz.prog 146 #[v] w fun e w' => (∃ u, e = .returned u ∧ OwnL 68 (RowO IsInt 50 w.heap.size) w w' u g) ∧ Below w.heap.size w w' := by
  obtain ⟨ga, gc, rfl, hv⟩ := hv
  have HV := Lib.hid hv
  have HL := Lib.hid hl
  clear hv hl
  have hB := Below.refl w.heap.size w
  go_enter Tryz.func146, Tryz.ntmps146
  go_wp2
  go_loopw [3, 8] (fun v x wr => ∃ k : Nat, k ≤ g.length ∧ x = .int .i64 k ∧ Hid (OwnL 68 (RowO IsInt 50 w.heap.size) w wr v (g.take k))) (fun _ x _ => g.length - (intOf x).toNat)
  case atStart => exact ⟨0, Nat.zero_le _, rfl, Lib.hid (OwnL.nil _ _ hB)⟩
  case round =>
    obtain ⟨k, hk, rfl, hO⟩ := hrel
    have hBr := hO.out.bel
    have hlen : (g.take k).length = k := by rw [List.length_take]; omega
    have HLEN := Lib.hid hlen
    obtain ⟨va, vc, hvv⟩ := hO.out.ex
    rw [hlen] at hvv
    subst hvv
    clear hlen
    by_cases hlt : k < g.length
    · have hltI : (k : Int) < (g.length : Int) := by omega
      obtain ⟨gb, go, u, rfl, hu, hrow⟩ := HV.out k hlt
      have hr2 := hrow.keep hBr
      obtain ⟨ra, rc, rfl, -⟩ := hrow
      have hl3 := HL.out k hlt
      have HT := Lib.hid (take_getD [] hlt)
      have hu2 := bkeep hBr hu
      obtain ⟨l, hle⟩ : ∃ l, g.getD k [] = l := ⟨_, rfl⟩
      rw [hle] at hr2 hu2 hl3 HT
      have zu := cell_lt hu2
      have lc := fun W (q : Below wr.heap.size wr W) => list_c (.slice ra l.length rc) l W (hr2.keep q) (by omega)
      have LC := Lib.hid lc
      have hLL : ((g.take k).length + 1) * 24 ≤ 140737488355328 := by rw [HLEN.out]; omega
      have hLM : (g.take k).length + 1 ≤ maxLen := by rw [HLEN.out]; unfold maxLen; omega
      have hBw := Below.refl wr.heap.size wr
      clear hu hr2 hle lc
      go_wp2_with fail
      (with_reducible refine (LC.out _ ?_).mono ?_); (repeat (first|exact bzR _ _|exact hBw|refine bzD ?_|refine bzN ?_|refine bzS ?_|refine bzA ?_))
      rintro e w5 ⟨⟨v5, rfl, hr5⟩, hb5⟩
      have hb5' : Below wr.heap.size wr w5 := bthen (by repeat (first|exact bzR _ _|exact hBw|refine bzD ?_|refine bzN ?_|refine bzS ?_|refine bzA ?_)) hb5
      have HR5 := Lib.hid (show RowO IsInt 50 w.heap.size w5 v5 l from hr5.rebase (show w.heap.size ≤ _ from Nat.le_trans hBr.size (show Below wr.heap.size wr _ by repeat (first|exact bzR _ _|exact hBw|refine bzD ?_|refine bzN ?_|refine bzS ?_|refine bzA ?_)).size))
      have HO5 := Lib.hid (hO.out.below (prs_rowO lims_int _ _) hb5')
      obtain ⟨a5, c5, rfl⟩ := hr5.ex
      clear LC hr5 hb5 hO
      go_wp2_with (at_builtin; refine appL elRow (prs_rowO lims_int _ _) (by decide) (by rfl) (by rfl) (HO5.out.below (prs_rowO lims_int _ _) (bal (Below.refl _ _) _)) (HR5.out.keep lims_int (bal (Below.refl _ _) _)) (by rfl) (by rfl) (cell_new (by simp) rfl) hLL hLM ?_)
      intro v' w8 hO8 hk8
      have HO8 := Lib.hid hO8
      rw [← HT.out] at HO8
      clear hO8 hk8
      go_wp2
      exact ⟨⟨k + 1, hlt, by go_num, HO8⟩, meas hlt (by go_num) rfl⟩
    · obtain rfl : k = g.length := by omega
      rw [List.take_length] at hO
      go_wp2
      go_ret
      exact ⟨⟨_, rfl, hO.out⟩, hBr⟩
end Go.Proofs.YtbmaffijncapiaaGreatDoor

/- matrices that New makes: what is done to them, in one form. -/
namespace Go.Proofs.YtbmaffijncapiaaGreatDoor
open Num
open Go.ChangeShapes Go.WideShapes Go.ChangeAt Go.RowKit
set_option linter.unusedVariables false
set_option linter.unusedSimpArgs false
theorem fits_yes2 {g : Grid} (h : fitsE g = 0) : (0 < g.length ∧ 0 < cols g ∧ g.length ≤ 16 ∧ cols g ≤ 16) ∧ Rct g (cols g) := by
  unfold fitsE at h
  split at h
  · cases h
  · split at h
    · cases h
    · split at h
      · refine ⟨⟨by omega, by omega, by omega, by omega⟩, fun i hi => ?_⟩
        rename_i h3
        exact h3 i hi
      · cases h
structure Mt (k : Nat) (g : Grid) (v : Value) (w : World) : Prop where
  m : IsM 0 w v g
  rc : Rct g (cols g)
  sz : 0 < g.length ∧ 0 < cols g ∧ g.length ≤ 16 ∧ cols g ≤ 16
  bd : BdM k g
theorem Mt.keep {k : Nat} {g : Grid} {v : Value} {w w' : World} (h : Mt k g v w) (b : Below w.heap.size w w') : Mt k g v w' := ⟨h.m.keep b, h.rc, h.sz, h.bd⟩
theorem colsI {n : Nat} {g : Grid} {v : Value} {w : World} (h1 : IsM 0 w v g) (hn : cols g = n) :
    Calls Tryz.prog 27 #[v] w fun e w' => e = .returned (.int .i64 (n : Nat)) ∧ Below w.heap.size w w' := by
  obtain ⟨a, c, rfl, hl⟩ := h1
  rw [← hn]
  exact colsM_c a c g w hl
end Go.Proofs.YtbmaffijncapiaaGreatDoor

/- matrix: what Pivots' iterator tells; Rank. -/
namespace Go.Proofs.YtbmaffijncapiaaGreatDoor
open Num
open Go.ChangeShapes Go.WideShapes Go.ChangeAt Go.RowKit
set_option linter.unusedVariables false
set_option linter.unusedSimpArgs false
attribute [local go_sem ↓] Go.wp_at_zero Go.wp_at_succ
def KpC (c : Nat) (X Y : World) : Prop := X.heap.size ≤ Y.heap.size ∧ ∀ (B i : Nat) (v : Value), B ≠ c → X.cell? ⟨B, i, none⟩ = some v → Y.cell? ⟨B, i, none⟩ = some v
theorem KpC.refl (c : Nat) (X : World) : KpC c X X := ⟨Nat.le_refl _, fun _ _ _ _ h => h⟩
theorem KpC.trans {c : Nat} {X Y Z : World} (h : KpC c X Y) (k : KpC c Y Z) : KpC c X Z := ⟨Nat.le_trans h.1 k.1, fun B i v hb hv => k.2 B i v hb (h.2 B i v hb hv)⟩
theorem KpC.put {c l : Nat} {X : World} {o o' : Obj} (h : X.heap[l]? = some o) (ho : o.isCells = false) : KpC c X (X.putObj l o') := ⟨Nat.le_of_eq (by simp), fun B i v _ hc => by
  have e : B ≠ l := fun e => by
    subst e
    obtain ⟨o2, h2, c2⟩ := cells_of_cell hc
    have h2' : X.heap[B]? = some o2 := h2
    rw [h] at h2'; cases h2'; rw [ho] at c2; cases c2
  rw [World.cell?_of_block (w := X) (World.putObj_heap_other e)]; exact hc⟩
def IsPv (b0 : Nat) (w : World) (v : Value) (L : List Nat) : Prop := IsL 3 PInt b0 w v L
theorem IsPv.al {b0 : Nat} {w : World} {v : Value} {L : List Nat} (h : IsPv b0 w v L) (o : Obj) : IsPv b0 (w.alloc o) v L := IsL.keep prs_pint h (bal (Below.refl _ _) _)
theorem IsPv.setT {b0 : Nat} {w : World} {v : Value} {L : List Nat} (h : IsPv b0 w v L) {p : Addr} (ht : typOf w p.block = some 50) (u : Value) : IsPv b0 (w.setCell p u) v L :=
  IsL.kp (S' := fun t => t ≠ 50) prs_pint h ((Kp.refl _ _).set (fun t ht' => by rw [ht] at ht'; cases ht'; exact fun h => h rfl) _) (fun t ht => ht.elim) (by decide)
theorem IsL.view0 {α : Type} {T : TypeId} {Pr : World → Value → α → Prop} {base : Nat} {w : World} {v : Value} {g : List α} (h : IsL T Pr base w v g) : ∃ a c, v = .slice a g.length c ∧ g.length ≤ c ∧ ∀ k (hk : k < g.length), ∃ b off u, a = some ⟨b, off, none⟩ ∧ base ≤ b ∧ w.cell? ⟨b, off + k, none⟩ = some u ∧ Pr w u g[k] := by
  obtain ⟨a, c, h1, h2, h3, h4⟩ := h
  refine ⟨a, c, h1, h2, fun k hk => ?_⟩
  rcases h4 with h4 | ⟨b, off, e, hb, ht, hi⟩
  · subst h4; exact absurd hk (by simp)
  · obtain ⟨u, hu, hp⟩ := hi k hk
    exact ⟨b, off, u, e, hb, hu, hp⟩
def pivL (g : Grid) : List Nat := (Det.elR g.length (gat g) (cols g)).p
set_option maxRecDepth 100000 in
set_option maxHeartbeats 8000000 in
theorem pivs1_c (l B c N K : Nat) (g : Grid) (a : Option Addr) (cp : Nat) (J Jx : List Nat → World → Prop) (hJ : ∀ pre W W', J pre W → W.grownBy W' none → J pre W')
    (hY : ∀ pre x W1, J pre W1 → pre.length < N → YieldAt Fence.wide 3 Tryz.prog l #[.int .i64 (x : Nat)] W1 fun e W' => (e = .returned (.bool true) ∧ J (pre ++ [x]) W' ∧ KpC c W1 W') ∨ (e = .returned (.bool false) ∧ Jx (pre ++ [x]) W'))
    (W : World) (hc : c < W.heap.size) (hv : IsM 0 W (.agg #[.slice a g.length cp]) g) (hm : W.cell? ⟨B, 0, none⟩ = some (.slice a g.length cp)) (rg : Rct g (cols g)) (hn : g.length ≤ 65536) (hcl : cols g ≤ 65536) (hp0 : 0 < g.length → 0 < cols g) (hK1 : 1 ≤ K) (hbd : BdM K g) (hK : kb K (cols g) ≤ 4294967296) (h0 : J [] W) (hN : (pivL g).length ≤ N) :
    Calls Tryz.prog 155 #[.func (.yield l) #[] #[], .pointer (some ⟨B, 0, none⟩)] W fun e W' => (∃ v, e = .returned v) ∧ ((∃ xs, xs = pivL g ∧ J xs W') ∨ (∃ pre, pre <+: pivL g ∧ Jx pre W')) := by
  have hz0 : g.length = 0 → cols g = 0 := fun h => by rw [List.length_eq_zero_iff.1 h]; rfl
  have EC := Lib.hid (fun V (q : Below W.heap.size W V) => (show Calls Tryz.prog 156 #[.slice a g.length cp, .int .i64 (cols g : Nat)] V (ElimPost g (cols g) V) from by
    obtain ⟨a', c', e, hl⟩ := hv.keep q
    cases e
    exact elim_c _ g (cols g) (cols g) K V hl rg (by omega) (by omega) (Nat.le_refl _) hz0 hp0 hK1 hbd hK))
  have CC := Lib.hid (fun V (q : Below W.heap.size W V) => colsI (hv.keep q) (n := cols g) rfl)
  unfold ElimPost at EC
  have eL : (Det.elR g.length (gat g) (cols g)).p = pivL g := rfl
  rw [eL] at EC
  obtain ⟨L, hL⟩ : ∃ L, pivL g = L := ⟨_, rfl⟩
  rw [hL] at EC hN ⊢
  obtain ⟨z, hz⟩ : ∃ z, (Det.elR g.length (gat g) (cols g)).last * (Det.elR g.length (gat g) (cols g)).sign = z := ⟨_, rfl⟩
  rw [hz] at EC
  clear eL hL hz hz0
  obtain ⟨n, hnE⟩ : ∃ n, g.length = n := ⟨_, rfl⟩
  obtain ⟨m, hmE⟩ : ∃ m, cols g = m := ⟨_, rfl⟩
  rw [hnE] at EC CC hm
  rw [hmE] at EC CC
  have HY := Lib.hid hY
  have HJ := Lib.hid hJ
  have HN := Lib.hid hN
  clear hv rg hn hcl hp0 hbd hK hnE hmE hY hJ hN
  have hB := Below.refl W.heap.size W
  have zm := cell_lt hm
  go_enter Tryz.func155, Tryz.ntmps155
  go_wp2
  go_cut [4] (fun s4 wx => ∃ pa pc, s4 = .slice pa L.length pc ∧ Hid (IsPv W.heap.size wx (.slice pa L.length pc) L) ∧ Below W.heap.size W wx)
  case first =>
    have HS := Lib.hid (show ∀ V, Below W.heap.size W V → V.cell? ⟨B, 0, none⟩ = some (.slice a n cp) from fun V q => bkeep q hm)
    have hBj := Below.refl W.heap.size W
    have hla1 := hBj.size
    go_region_held3 (fun V => V.cell? ⟨B, 0, none⟩ = some (.slice a n cp))
      (first | (refine HS.out _ ?_; (repeat' (first | exact Below.refl _ _ | exact hBj | refine Below.drew ?_ | refine below_drewN ?_ _ | refine bal ?_ _ | refine bset ?_ ?_ _ | exact hla11 | exact Nat.le_trans hla11 (Nat.le_succ _) | exact hla12 | exact Nat.le_trans hla12 (Nat.le_succ _) | exact Nat.le_refl _ | exact Nat.le_succ _)); done) | fail)
      (first
      | (go_at_call 27; (with_reducible refine (CC.out _ ?_).mono ?_); (repeat (first|exact bzR _ _|exact hBj|refine bzD ?_|refine bzN ?_|refine bzS ?_|refine bzA ?_)); rintro e w11 ⟨rfl, hb11⟩; (have hBd : Below W.heap.size W w11 := bthen (by repeat (first|exact bzR _ _|exact hBj|refine bzD ?_|refine bzN ?_|refine bzS ?_|refine bzA ?_)) hb11; clear hBj; have hBj := hBd; clear hBd); have hc11 := (bcell hb11).1; have hf11 := (bcell hb11).2; have ht11 := tcell hb11; have hla11 := hBj.size; have hs11 := hb11.size; (try simp [go_sem] at hs11); (try have qa11 : W.heap.size < w11.heap.size := by omega))
      | (go_at_call 156; (with_reducible refine (EC.out _ ?_).mono ?_); (repeat (first|exact bzR _ _|exact hBj|refine bzD ?_|refine bzN ?_|refine bzS ?_|refine bzA ?_)); rintro e w12 ⟨⟨ea, ec, pa, pc, zv, rfl, hp, hzv⟩, hb12⟩; have HP := Lib.hid (show IsPv W.heap.size w12 (.slice pa L.length pc) L from IsL.rebase hp (show Below W.heap.size W _ by repeat (first|exact bzR _ _|exact hBj|refine bzD ?_|refine bzN ?_|refine bzS ?_|refine bzA ?_)).size); (have hBd : Below W.heap.size W w12 := bthen (by repeat (first|exact bzR _ _|exact hBj|refine bzD ?_|refine bzN ?_|refine bzS ?_|refine bzA ?_)) hb12; clear hBj; have hBj := hBd; clear hBd); have hc12 := (bcell hb12).1; have hf12 := (bcell hb12).2; have ht12 := tcell hb12; have hla12 := hBj.size; have hs12 := hb12.size; (try simp [go_sem] at hs12); (try have qa12 : W.heap.size < w12.heap.size := by omega); (try have qb12 : w11.heap.size < w12.heap.size := by omega); obtain ⟨nz, az, cz, lz, rfl, -⟩ := hzv; unfold iv at *; clear hp)
      | fail)
    all_goals
      go_wp2_with fail
      go_meet
      refine (fun hbx => ⟨pa, pc, rfl, Lib.hid ?_, hbx⟩ : Below W.heap.size W _ → _) ?_
      all_goals first
        | ((repeat' (first | exact Below.refl _ _ | exact hBj | refine Below.drew ?_ | refine below_drewN ?_ _ | refine bal ?_ _ | refine bset ?_ ?_ _ | exact hla11 | exact Nat.le_trans hla11 (Nat.le_succ _) | exact hla12 | exact Nat.le_trans hla12 (Nat.le_succ _) | exact Nat.le_refl _ | exact Nat.le_succ _)); done)
        | ((repeat' (first | exact HP.out | refine IsPv.al ?_ _ | refine IsPv.dr ?_ | refine IsPv.setT ?_ ?_ _)) <;> (simp (disch := (first | (simp; done) | (simp; omega) | omega)) only [typ_set, typ_alloc_eq, typ_alloc_lt, ht11, ht12, typ_drew]; done))
  case rest =>
    obtain ⟨pa, pc, rfl, HP, hk⟩ := hcut
    have hj0 := HJ.out [] W wc h0 (grown_of_below hk)
    have hcs := hk.size
    have hLb : L.length ≤ 9223372036854775807 := by
      obtain ⟨_, c9, e9, h9, h10, _⟩ := (show IsL 3 PInt W.heap.size wc (.slice pa L.length pc) L from HP.out)
      unfold maxLen at h10; omega
    clear EC CC hm zm hB h0
    go_wp2
    go_loopw [19] (fun x wr => ∃ k : Nat, k ≤ L.length ∧ x = .int .i64 k ∧ J (L.take k) wr ∧ KpC c wc wr) (fun x _ => L.length - (intOf x).toNat)
    case atStart => exact ⟨0, Nat.zero_le _, rfl, hj0, KpC.refl _ _⟩
    case round =>
      obtain ⟨k, hkl, rfl, hj, hkp⟩ := hrel
      by_cases hlt : k < L.length
      · have hltI : (k : Int) < (L.length : Int) := by omega
        obtain ⟨a', c', he, -, vr⟩ := IsL.view0 (show IsL 3 PInt W.heap.size wc (.slice pa L.length pc) L from HP.out)
        obtain ⟨rfl, -, rfl⟩ := Value.slice.inj he
        obtain ⟨b, off, u, rfl, hbb, hu, hpi⟩ := vr k hlt
        have hpi2 : u = .int .i64 (L[k] : Nat) := hpi
        subst hpi2
        have hu2 := hkp.2 b (off + k) _ (by omega) hu
        have HT := Lib.hid (show L.take (k + 1) = L.take k ++ [L[k]] by
          rw [List.take_add_one, List.getElem?_eq_getElem hlt]; rfl)
        obtain ⟨fn, tmps, asg, body, hy, hR⟩ := HY.out (L.take k) L[k] wr hj (by rw [List.length_take]; have := HN.out; omega)
        obtain ⟨x, hx⟩ : ∃ x, L[k] = x := ⟨_, rfl⟩
        rw [hx] at hy hR hu2 HT
        have zu := cell_lt hu2
        clear he vr hu hpi hx hj
        go_upto_region 4 with (fail)
        refine (wpIn_wide (n := 4)).1 ?_
        gi_wp2
        refine hR.mono ?_
        rintro e W' (⟨rfl, hJ', hk'⟩ | ⟨rfl, hJx'⟩)
        · gi_wp2
          go_wp2
          exact ⟨⟨k + 1, hlt, by go_num, by rw [HT.out]; exact hJ', hkp.trans hk'⟩, meas hlt (by go_num) rfl⟩
        · gi_wp2
          go_wp2
          refine bodyPost_ret (results_none rfl _ _ _) rfl ?_
          exact ⟨⟨_, rfl⟩, .inr ⟨L.take (k + 1), List.take_prefix _ _, by rw [HT.out]; exact hJx'⟩⟩
      · obtain rfl : k = L.length := by omega
        have hltI : ¬ (L.length : Int) < (L.length : Int) := by omega
        rw [List.take_length] at hj
        go_wp2
        refine bodyPost_end (results_none rfl _ _ _) rfl ?_
        first | exact ⟨⟨_, rfl⟩, .inl hj⟩ | exact ⟨⟨_, rfl⟩, .inl ⟨L, rfl, hj⟩⟩
theorem pivs_stops (B c N K n : Nat) (g : Grid) (a : Option Addr) (cp : Nat) (w : World) (hc : c < w.heap.size) (hv : IsM 0 w (.agg #[.slice a g.length cp]) g) (hm : w.cell? ⟨B, 0, none⟩ = some (.slice a g.length cp)) (rg : Rct g (cols g)) (hn : g.length ≤ 65536) (hcl : cols g ≤ 65536) (hp0 : 0 < g.length → 0 < cols g) (hK1 : 1 ≤ K) (hbd : BdM K g) (hK : kb K (cols g) ≤ 4294967296) (hN : (pivL g).length ≤ N) :
    SeqStopsK Fence.wide n Tryz.prog 155 #[.pointer (some ⟨B, 0, none⟩)] (fun x : Nat => #[.int .i64 (x : Nat)]) (KpC c) (· = pivL g) (· <+: pivL g) N w := by
  intro l J Jx W hW hJ hJx hY h0
  refine callsIn_wide.2 ?_
  exact pivs1_c l B c N K g a cp J Jx (fun pre W1 W2 hj hg => hJ pre W1 W2 none hj hg (fun r e => by cases e)) (fun pre x W1 hp hl => yieldAt_wide (hY pre x W1 hp hl)) W (Nat.lt_of_lt_of_le hc hW.size) (hv.keep hW) (bkeep hW hm) rg hn hcl hp0 hK1 hbd hK h0 hN
end Go.Proofs.YtbmaffijncapiaaGreatDoor

/- matrix: Rank. -/
namespace Go.Proofs.YtbmaffijncapiaaGreatDoor
open Num
open Go.ChangeShapes Go.WideShapes Go.ChangeAt Go.RowKit
set_option linter.unusedVariables false
set_option linter.unusedSimpArgs false
attribute [local go_sem ↓] Go.wp_at_zero Go.wp_at_succ
attribute [local go_sem] Oper.semAt_some
set_option maxRecDepth 100000 in
theorem pivots_b (a : Option Addr) (n c : Nat) (w : World) : Calls Tryz.prog 65 #[.agg #[.slice a n c]] w fun e w' => (e = .returned (.func (.func 155) #[] #[.pointer (some ⟨w.heap.size, 0, none⟩)]) ∧ w'.cell? ⟨w.heap.size, 0, none⟩ = some (.slice a n c)) ∧ Below w.heap.size w w' := by
  have hB := Below.refl w.heap.size w
  go_enter Tryz.func65, Tryz.ntmps65
  go_wp2
  go_ret
  exact ⟨⟨rfl, by simp [go_sem]⟩, by repeat (first|exact bzR _ _|exact hB|refine bzD ?_|refine bzN ?_|refine bzS ?_|refine bzA ?_)⟩
set_option maxRecDepth 100000 in
set_option maxHeartbeats 8000000 in
theorem rank_c (v : Value) (g : Grid) (K : Nat) (w : World) (hv : IsM 0 w v g) (rg : Rct g (cols g)) (hn : g.length ≤ 65536) (hcl : cols g ≤ 65536) (hp0 : 0 < g.length → 0 < cols g) (hK1 : 1 ≤ K) (hbd : BdM K g) (hK : kb K (cols g) ≤ 4294967296) (hL : (pivL g).length ≤ 65536) :
    Calls Tryz.prog 66 #[v] w fun e w' => e = .returned (.int .i64 ((pivL g).length : Nat)) ∧ Below w.heap.size w w' := by
  have HV := Lib.hid hv
  obtain ⟨a, cp, rfl, -⟩ := hv
  obtain ⟨n, hnE⟩ : ∃ n, g.length = n := ⟨_, rfl⟩
  have HS := Lib.hid (fun V B (q : Below w.heap.size w V) (hc : w.heap.size + 1 < V.heap.size) (hm : V.cell? ⟨B, 0, none⟩ = some (.slice a g.length cp)) => pivs_stops B (w.heap.size + 1) (pivL g).length K 8 g a cp V hc (HV.out.keep q) hm rg hn hcl hp0 hK1 hbd hK (Nat.le_refl _))
  rw [hnE] at HS ⊢
  have hB := Below.refl w.heap.size w
  obtain ⟨L, hL2⟩ : ∃ L, pivL g = L := ⟨_, rfl⟩
  rw [hL2] at HS hL ⊢
  have HLL := Lib.hid hL
  clear hL2 hnE rg hn hcl hp0 hbd hK HV hL
  refine calls_of_wp_marks Tryz.func66 rfl ?_
  simp only [Tryz.ntmps66, List.size_toArray, List.length_cons, List.length_nil, Nat.reduceAdd, Nat.reduceSub, Array.replicate_succ, Array.replicate_zero, List.push_toArray, List.append_toArray, List.nil_append, List.cons_append]
  go_wp2_with fail
  (with_reducible refine (pivots_b _ _ _ _).mono ?_)
  rintro e w2 ⟨⟨rfl, hm2⟩, hb2⟩
  have r0 : w2.cell? ⟨w.heap.size + 1, 0, none⟩ = some (.int .i64 0) := bkc hb2
  have zr0 := cell_lt r0
  have r0f : w2.frozen? ⟨w.heap.size + 1, 0, none⟩ = false := bkcf (v := .int .i64 0) hb2
  have hB : Below w.heap.size w w2 := bthen (by repeat (first|exact bzR _ _|exact hB|refine bzD ?_|refine bzN ?_|refine bzS ?_|refine bzA ?_)) hb2
  have hz : w.heap.size ≤ w2.heap.size := hB.size
  have hs2 := hb2.size
  simp only [World.size_alloc] at hm2 hs2
  have HI2 := Lib.hid (And.intro r0 (And.intro r0f (And.intro hB (Nat.le_refl w2.heap.size))))
  have HSQ := HS.out w2 (w.heap.size + 1 + 1) hB (by omega) hm2
  have HC := Lib.hid hs2
  clear HS hm2 hb2 r0 r0f zr0 hz
  go_wp2
  refine wp_rangeK (gf := 155) (lb := #[.pointer (some ⟨w.heap.size + 1 + 1, 0, none⟩)]) (w0 := w2) (L := L) (N := L.length) (Kp := KpC (w.heap.size + 1)) (by simp [Act.eval]) (enters_of Tryz.func155 (by kernel_rfl) rfl)
    (encs := fun x : Nat => #[.int .i64 (x : Nat)]) HSQ (fun h k => h.trans k)
    (fun W l o o' h1 h2 h3 h4 => KpC.put h2 h3) (Below.refl _ _) (fun _ => rfl)
    (fun pre W => (W.cell? ⟨w.heap.size + 1, 0, none⟩ = some (.int .i64 (pre.length : Int)) ∧ W.frozen? ⟨w.heap.size + 1, 0, none⟩ = false ∧ Below w.heap.size w W ∧ w2.heap.size ≤ W.heap.size))
    (fun c pre W => False)
    ?_ ?_ ?_ ?_ ?_
    (fun T x a' W => a' = { tmps := T.setIfInBounds 6 (.int .i64 (x : Nat)), defers := [] } ∧ w2.heap.size ≤ W.heap.size)
    ?_ ?_ ?assign0 ?body0 ?done0 ?stop0
  case assign0 =>
    rintro l pre x W K hi hK
    gi_wp2
    exact hK _ _ (KeepsFrom.refl _ _) (KpC.refl _ _) hi ⟨by simp, hi.2.2.2⟩
  case body0 =>
    rintro l pre x a' w6 ⟨n0, n0f, hB6, hs6⟩ ⟨rfl, _⟩ hl
    simp only [List.setIfInBounds_toArray, List.set_cons_succ, List.set_cons_zero]
    have hpl : (pre.length : Int) < 65536 := by have := HLL.out; omega
    have hz1 := cell_lt n0
    gi_wp2
    refine ⟨kf_set (KeepsFrom.refl _ _) _ _, ⟨by simp, fun B i v hb hv => cell_far hv (fun e => hb (congrArg Addr.block e).symm) _⟩, ?_⟩
    dsimp only
    rw [show ((pre ++ [x]).length : Int) = (pre.length : Int) + 1 by simp]
    exact ⟨cell_here n0 _, by rw [World.frozen?_setCell]; exact n0f, bset hB6 (by simp) _, by simp; exact hs6⟩
  case done0 =>
    rintro D w8 hDs ⟨n0, n0f, hB8, hs8⟩ hK0
    have hDl := (Array.getElem?_eq_some_iff.1 hK0).1
    have hz1 := cell_lt n0
    go_wp2
    refine ⟨by simp, .inl ⟨_, _, rfl, run_takeDeferred (b := D) (ds := []) hK0, ?_⟩⟩
    refine ⟨.int .i64 (L.length : Nat), ?_, rfl, b_put hB8 (by have := hB8.size; omega) _⟩
    simp [results, Tryz.results66, go_sem]
  case stop0 => intro D c pre W _ _ h; cases h
  · exact fun pre W W' h s => ⟨s.cell h.1, s.frozen h.1 h.2.1, h.2.2.1.trans (s.below.mono (by have := HI2.out.2.2.1.size; omega)), Nat.le_trans h.2.2.2 s.below.size⟩
  · exact fun c pre W W' h s => h
  · exact fun pre W h => h.2.2.2
  · exact fun c pre W h => h.elim
  · exact HI2.out
  · rintro x a' W W' ⟨rfl, h⟩ s; exact ⟨rfl, Nat.le_trans h s.below.size⟩
  · rintro x a' W ⟨rfl, h⟩; exact h
end Go.Proofs.YtbmaffijncapiaaGreatDoor

/- matrix's laws: is, comes. -/
namespace Go.Proofs.YtbmaffijncapiaaGreatDoor
open Num
open Go.ChangeShapes Go.WideShapes Go.ChangeAt Go.RowKit
set_option linter.unusedVariables false
set_option linter.unusedSimpArgs false
attribute [local go_sem ↓] Go.wp_at_zero Go.wp_at_succ
def RefM (w : World) (v : Value) (g : Grid) : Prop := IsL 110 (RRow 0) 0 w v g
theorem RefM.keep {w w' : World} {v : Value} {g : Grid} (h : RefM w v g) (k : Below w.heap.size w w') : RefM w' v g := IsL.keep prs_rrow h k
end Go.Proofs.YtbmaffijncapiaaGreatDoor

/- the reference's identity. -/
namespace Go.Proofs.YtbmaffijncapiaaGreatDoor
open Num
open Go.ChangeShapes Go.WideShapes Go.ChangeAt Go.RowKit
set_option linter.unusedVariables false
set_option linter.unusedSimpArgs false
attribute [local go_sem ↓] Go.wp_at_zero Go.wp_at_succ
theorem infoRRow5 : (Tryz.prog.info? 110).map (fun i => (i.zero, i.size, i.bytes)) = some (some (.slice none 0 0), 1, 24) := by kernel_rfl
theorem elMat : Elt Tryz.prog 107 110 1 24 := Elt.mk' Tryz.underlying107 infoRRow5 rfl (by decide) (by decide)
end Go.Proofs.YtbmaffijncapiaaGreatDoor

/- matrices, plain: determinants of what is turned, swapped, multiplied; ranks. -/
namespace Go.Proofs.YtbmaffijncapiaaGreatDoor
open Num
open Go.ChangeShapes Go.WideShapes Go.ChangeAt Go.RowKit
set_option linter.unusedVariables false
set_option linter.unusedSimpArgs false
theorem piv_le (g : Grid) : (pivL g).length ≤ g.length := by
  obtain ⟨q, h⟩ := Det.inv_all g.length (cols g) (gat g) (cols g) (Nat.le_refl _)
  exact h.k
theorem Mt.rank {K : Nat} {g : Grid} {v : Value} {w : World} (h : Mt K g v w) (hK1 : 1 ≤ K) (hK : kb K 16 ≤ 4294967296) :
    Calls Tryz.prog 66 #[v] w fun e w' => e = .returned (.int .i64 ((pivL g).length : Nat)) ∧ Below w.heap.size w w' := by
  have s := h.sz
  exact rank_c v g K w h.m h.rc (by omega) (by omega) (fun _ => s.2.1) hK1 h.bd (Nat.le_trans (kb_mono K s.2.2.2) hK) (Nat.le_trans (piv_le g) (by omega))
end Go.Proofs.YtbmaffijncapiaaGreatDoor

