/- Texts of this seat, laid together: MwB, MwC, MwJ, MwK, MwG. Each opens with its own remark, which says what it proves, and under which conditions. -/
import Derived.Test.YthaohpfbengabaaGreatDoorV23
import Derived.Test.YthaohpfbengabaaGreatDoorV16
import Derived.Test.YthaohpfbengabaaGreatDoorV17
set_option linter.unusedVariables false
set_option linter.unusedSimpArgs false
/- matrix's laws: works answers true. -/
namespace Go.Proofs.YthaohpfbengabaaGreatDoor
open Num
open Go.ChangeShapes Go.WideShapes Go.ChangeAt Go.RowKit
set_option linter.unusedVariables false
set_option linter.unusedSimpArgs false
attribute [local go_sem ↓] Go.wp_at_zero Go.wp_at_succ
theorem equalIn_func_nil {P : Program} (w : World) (d : Nat) (t : TypeId) {ps rs : Array TypeId} {v : Bool} (f : Fn) (bs cs : Array Value) (h : P.underlying t = some (.func ps rs v)) : (Op.equalIn (d + 1) t (.func f bs cs) .nilFunc).run P w = .ok false w := by
  simp [Op.equalIn, run_underlying h]
theorem eql_func_nil {P : Program} (w : World) (t : TypeId) {ps rs : Array TypeId} {v : Bool} (f : Fn) (bs cs : Array Value) (h : P.underlying t = some (.func ps rs v)) : (binOp .eql t (.func f bs cs) .nilFunc).run P w = .ok (.bool false) w := by
  simp only [binOp]
  simp [Op.equal, Op.maxDepth, equalIn_func_nil w 9999 t f bs cs h]
theorem wt1_r : ∀ i, i < ([[7, 10], [15, 22]] : Grid).length → (Lib.join ((([[7, 10], [15, 22]] : Grid).getD i []).map intTxt) [32]).length ≤ 140737488355328 := by
  intro i hi
  have h2 : i < 2 := hi
  have e0 : (Lib.join (([7, 10] : List Int).map intTxt) [32]).length = 4 := by kernel_rfl
  have e1 : (Lib.join (([15, 22] : List Int).map intTxt) [32]).length = 5 := by kernel_rfl
  rcases (show i = 0 ∨ i = 1 by omega) with rfl | rfl
  · exact Nat.le_trans (Nat.le_of_eq e0) (by decide)
  · exact Nat.le_trans (Nat.le_of_eq e1) (by decide)
theorem wt1_m : (Lib.join (([[7, 10], [15, 22]] : Grid).map rowTxt) [32]).length ≤ 140737488355328 := by
  have e : (Lib.join (([[7, 10], [15, 22]] : Grid).map rowTxt) [32]).length = 14 := by kernel_rfl
  exact Nat.le_trans (Nat.le_of_eq e) (by decide)
theorem wt2_r : ∀ i, i < ([[-4, 2], [3, -1]] : Grid).length → (Lib.join ((([[-4, 2], [3, -1]] : Grid).getD i []).map intTxt) [32]).length ≤ 140737488355328 := by
  intro i hi
  have h2 : i < 2 := hi
  have e0 : (Lib.join (([-4, 2] : List Int).map intTxt) [32]).length = 4 := by kernel_rfl
  have e1 : (Lib.join (([3, -1] : List Int).map intTxt) [32]).length = 4 := by kernel_rfl
  rcases (show i = 0 ∨ i = 1 by omega) with rfl | rfl
  · exact Nat.le_trans (Nat.le_of_eq e0) (by decide)
  · exact Nat.le_trans (Nat.le_of_eq e1) (by decide)
theorem wt2_m : (Lib.join (([[-4, 2], [3, -1]] : Grid).map rowTxt) [32]).length ≤ 140737488355328 := by
  have e : (Lib.join (([[-4, 2], [3, -1]] : Grid).map rowTxt) [32]).length = 13 := by kernel_rfl
  exact Nat.le_trans (Nat.le_of_eq e) (by decide)
set_option maxRecDepth 100000 in
set_option maxHeartbeats 8000000 in
theorem works_c (w : World) : Calls Tryz.prog 9 #[] w fun e w' => e = .returned (.bool true) ∧ Below w.heap.size w w' := by
  have hB := Below.refl w.heap.size w
  go_enter Tryz.func9, Tryz.ntmps9
  go_wp2_with fail
  refine (list_c _ [1, 2] _ (rowI_two (cell_new rfl rfl) (cell_new rfl rfl) (by unfold I64; omega) (by unfold I64; omega)) (by decide)).mono ?_
  rintro e w1 ⟨⟨v1, rfl, hv1⟩, hb1⟩
  have hB1 : Below w.heap.size w w1 := bthen (by repeat (first | exact Below.refl _ _ | exact hB | refine Below.drew ?_ | refine below_drewN ?_ _ | refine bset ?_ (by simp <;> omega) _ | refine bal ?_ _)) hb1
  have HV1 := Lib.hid (show PRow 0 w1 v1 [1, 2] from hv1.row.rebase (Nat.zero_le _))
  obtain ⟨a1, c1, hv1e⟩ := hv1.ex
  replace hv1e : v1 = .slice a1 2 c1 := hv1e
  subst hv1e
  have hBw1 := Below.refl w1.heap.size w1
  clear hv1 hb1
  go_wp2_with fail
  refine (list_c _ [3, 4] _ (rowI_two (cell_new rfl rfl) (cell_new rfl rfl) (by unfold I64; omega) (by unfold I64; omega)) (by decide)).mono ?_
  rintro e w2 ⟨⟨v2, rfl, hv2⟩, hb2⟩
  have hb12 : Below w1.heap.size w1 w2 := bthen (by repeat (first | exact Below.refl _ _ | exact hBw1 | refine Below.drew ?_ | refine below_drewN ?_ _ | refine bset ?_ (by simp <;> omega) _ | refine bal ?_ _)) hb2
  have hB2 := bthen hB1 hb12
  have HV2 := Lib.hid (show PRow 0 w2 v2 [3, 4] from hv2.row.rebase (Nat.zero_le _))
  have HV12 := Lib.hid (HV1.out.keep lims_int hb12)
  obtain ⟨a2, c2, hv2e⟩ := hv2.ex
  replace hv2e : v2 = .slice a2 2 c2 := hv2e
  subst hv2e
  have hBw2 := Below.refl w2.heap.size w2
  clear hv2 hb2 HV1
  go_wp2_with fail
  refine (newM_c _ wG _ (isL_rows2 (cell_new rfl rfl) (cell_new rfl rfl) (by decide) (by unfold maxLen; decide) (typ_fresh rfl) (HV12.out.keep lims_int (bal (Below.refl _ _) _)) (HV2.out.keep lims_int (bal (Below.refl _ _) _))) (by unfold wG; decide)).mono ?_
  rintro e w3 ⟨(⟨-, v3, rfl, hv3⟩ | ⟨hs, -⟩), hb3⟩
  rotate_left
  · exact absurd wG_fits hs
  have hb23 : Below w2.heap.size w2 w3 := bthen (by repeat (first | exact Below.refl _ _ | exact hBw2 | refine Below.drew ?_ | refine below_drewN ?_ _ | refine bset ?_ (by simp <;> omega) _ | refine bal ?_ _)) hb3
  have hB3 := bthen hB2 hb23
  have HV3 := Lib.hid (hv3.rebase (Nat.zero_le _))
  obtain ⟨a3, c3, hv3e⟩ := hv3.lit
  replace hv3e : v3 = .agg #[.slice a3 2 c3] := hv3e
  subst hv3e
  have hBw3 := Below.refl w3.heap.size w3
  clear hv3 hb3 HV2 HV12
  go_wp2_with fail
  refine (rowsM_c a3 2 c3 _).mono ?_
  rintro e w4 ⟨rfl, hb4⟩
  have hb34 : Below w3.heap.size w3 w4 := bthen (by repeat (first | exact Below.refl _ _ | exact hBw3 | refine Below.drew ?_ | refine below_drewN ?_ _ | refine bset ?_ (by simp <;> omega) _ | refine bal ?_ _)) hb4
  have m0 : w4.cell? ⟨w3.heap.size, 0, none⟩ = some (.slice a3 2 c3) := bkeep hb4 (cell_new rfl rfl)
  have HV4 := Lib.hid (HV3.out.keep hb34)
  have hB4 := bthen hB3 hb34
  have zm := cell_lt m0
  have hBw4 := Below.refl w4.heap.size w4
  clear hb4
  go_wp2_with fail
  have hc5 : ∀ W, Below w4.heap.size w4 W → Calls Tryz.prog 61 #[.agg #[.slice a3 2 c3]] W fun e w' => e = .returned (.int .i64 2) ∧ Below W.heap.size W w' := fun W q => by
    obtain ⟨a', c', e, hl⟩ := HV4.out.keep q
    cases e
    exact colsM_c _ _ wG W hl
  refine (hc5 _ (by repeat (first | exact Below.refl _ _ | exact hBw4 | refine Below.drew ?_ | refine below_drewN ?_ _ | refine bset ?_ (by simp <;> omega) _ | refine bal ?_ _))).mono ?_
  rintro e w5 ⟨rfl, hb5⟩
  have hb45 : Below w4.heap.size w4 w5 := bthen (by repeat (first | exact Below.refl _ _ | exact hBw4 | refine Below.drew ?_ | refine below_drewN ?_ _ | refine bset ?_ (by simp <;> omega) _ | refine bal ?_ _)) hb5
  replace m0 := bkeep hb45 m0
  have HV5 := Lib.hid (HV4.out.keep hb45)
  have hB5 := bthen hB4 hb45
  replace zm := cell_lt m0
  have hBw5 := Below.refl w5.heap.size w5
  clear hb5 hc5 HV4 HV3
  go_wp2_with fail
  refine (pivots_v _ a3 2 c3 _ rfl).mono ?_
  rintro e w6 ⟨rfl, hb6⟩
  have hb56 : Below w5.heap.size w5 w6 := bthen (by repeat (first | exact Below.refl _ _ | exact hBw5 | refine Below.drew ?_ | refine below_drewN ?_ _ | refine bset ?_ (by simp <;> omega) _ | refine bal ?_ _)) hb6
  replace m0 := bkeep hb56 m0
  have HV6 := Lib.hid (HV5.out.keep hb56)
  have hB6 := bthen hB5 hb56
  replace zm := cell_lt m0
  have hBw6 := Below.refl w6.heap.size w6
  clear hb6 HV5
  have hrc : Rct wG (cols wG) := by intro i hi; have h2 : i < 2 := hi; rcases (show i = 0 ∨ i = 1 by omega) with rfl | rfl <;> rfl
  have HRC := Lib.hid hrc
  clear hrc
  have hfn := fun W f bs cs => eql_func_nil (P := Tryz.prog) W 49 f bs cs Tryz.underlying49
  go_wp2_with fail
  refine (timesM_c _ _ wG wG 3 3 _ (HV6.out.keep (by repeat (first | exact Below.refl _ _ | exact hBw6 | refine Below.drew ?_ | refine below_drewN ?_ _ | refine bset ?_ (by simp <;> omega) _ | refine bal ?_ _))) (HV6.out.keep (by repeat (first | exact Below.refl _ _ | exact hBw6 | refine Below.drew ?_ | refine below_drewN ?_ _ | refine bset ?_ (by simp <;> omega) _ | refine bal ?_ _))) HRC.out HRC.out (bdM_of (by unfold wG; decide)) (bdM_of (by unfold wG; decide)) (by decide) (by decide) (by decide) (by decide)).mono ?_
  rintro e w7 ⟨(⟨-, v7, rfl, hv7⟩ | ⟨hs, -⟩), hb7⟩
  rotate_left
  · exact absurd ⟨rfl, by decide⟩ hs
  have hb67 : Below w6.heap.size w6 w7 := bthen (by repeat (first | exact Below.refl _ _ | exact hBw6 | refine Below.drew ?_ | refine below_drewN ?_ _ | refine bset ?_ (by simp <;> omega) _ | refine bal ?_ _)) hb7
  replace m0 := bkeep hb67 m0
  rw [wG_times] at hv7
  have HP7 := Lib.hid (hv7.rebase (Nat.zero_le _))
  have HV7 := Lib.hid (HV6.out.keep hb67)
  have hB7 := bthen hB6 hb67
  replace zm := cell_lt m0
  obtain ⟨a7, c7, hv7e⟩ := hv7.lit
  replace hv7e : v7 = .agg #[.slice a7 2 c7] := hv7e
  subst hv7e
  have hBw7 := Below.refl w7.heap.size w7
  clear hv7 hb7 HV6
  go_wp2_with fail
  refine (invM_c _ wG 3 _ (HV7.out.keep (by repeat (first | exact Below.refl _ _ | exact hBw7 | refine Below.drew ?_ | refine below_drewN ?_ _ | refine bset ?_ (by simp <;> omega) _ | refine bal ?_ _))) HRC.out (by decide) (by decide) (bdM_of (by unfold wG; decide)) (by decide)).mono ?_
  rintro e w8 ⟨(⟨-, -, v8, u8, rfl, hv8, hu8⟩ | ⟨-, hs, -⟩ | ⟨hs, -⟩), hb8⟩
  rotate_left
  · rw [wG_det] at hs; cases hs
  · rw [wG_sq] at hs; cases hs
  rw [wG_inv] at hv8
  rw [wG_invD] at hu8
  have hb78 : Below w7.heap.size w7 w8 := bthen (by repeat (first | exact Below.refl _ _ | exact hBw7 | refine Below.drew ?_ | refine below_drewN ?_ _ | refine bset ?_ (by simp <;> omega) _ | refine bal ?_ _)) hb8
  have p0 : w8.cell? ⟨w7.heap.size, 0, none⟩ = some (.slice a7 2 c7) := bkeep hb8 (cell_new rfl rfl)
  have HP8 := Lib.hid (HP7.out.keep hb78)
  have HW8 := Lib.hid (hv8.rebase (Nat.zero_le _))
  have HU8 := Lib.hid hu8
  have hB8 := bthen hB7 hb78
  have zp := cell_lt p0
  obtain ⟨a8, c8, hv8e⟩ := hv8.lit
  replace hv8e : v8 = .agg #[.slice a8 2 c8] := hv8e
  subst hv8e
  obtain ⟨n9, a9, c9, l9, rfl, -⟩ := hu8
  unfold iv at *
  have hBw8 := Below.refl w8.heap.size w8
  clear hv8 hb8 HP7 HV7 m0 zm
  go_wp2_with fail
  refine (matText_c _ [[7, 10], [15, 22]] 8 _ (HP8.out.keep (by repeat (first | exact Below.refl _ _ | exact hBw8 | refine Below.drew ?_ | refine below_drewN ?_ _ | refine bset ?_ (by simp <;> omega) _ | refine bal ?_ _))) (by decide) (by decide) (bdM_of (by decide)) (by decide) wt1_r wt1_m).mono ?_
  rw [wG_txt1]
  rintro e w9 ⟨rfl, hb9⟩
  have hb89 : Below w8.heap.size w8 w9 := bthen (by repeat (first | exact Below.refl _ _ | exact hBw8 | refine Below.drew ?_ | refine below_drewN ?_ _ | refine bset ?_ (by simp <;> omega) _ | refine bal ?_ _)) hb9
  have q0 : w9.cell? ⟨w8.heap.size, 0, none⟩ = some (.slice a8 2 c8) := bkeep hb9 (by simp [go_sem])
  have u0 : w9.cell? ⟨w8.heap.size + 1, 0, none⟩ = some (.bool n9) := bkeep hb9 (by simp [go_sem])
  have u1 : w9.cell? ⟨w8.heap.size + 1, 1, none⟩ = some (.slice a9 l9.length c9) := bkeep hb9 (by simp [go_sem])
  have HW9 := Lib.hid (HW8.out.keep hb89)
  have HU9 := Lib.hid (HU8.out.keep hb89)
  have hB9 := bthen hB8 hb89
  have zq := cell_lt q0
  have zu := cell_lt u0
  have hBw9 := Below.refl w9.heap.size w9
  clear hb9 HP8 HW8 HU8 p0 zp
  go_wp2_with fail
  refine (matText_c _ [[-4, 2], [3, -1]] 8 _ (HW9.out.keep (by repeat (first | exact Below.refl _ _ | exact hBw9 | refine Below.drew ?_ | refine below_drewN ?_ _ | refine bset ?_ (by simp <;> omega) _ | refine bal ?_ _))) (by decide) (by decide) (bdM_of (by decide)) (by decide) wt2_r wt2_m).mono ?_
  rw [wG_txt2]
  rintro e w10 ⟨rfl, hb10⟩
  have hb910 : Below w9.heap.size w9 w10 := bthen (by repeat (first | exact Below.refl _ _ | exact hBw9 | refine Below.drew ?_ | refine below_drewN ?_ _ | refine bset ?_ (by simp <;> omega) _ | refine bal ?_ _)) hb10
  replace u0 := bkeep hb910 u0
  replace u1 := bkeep hb910 u1
  have HU10 := Lib.hid (HU9.out.keep hb910)
  have hB10 := bthen hB9 hb910
  replace zu := cell_lt u0
  have hBw10 := Below.refl w10.heap.size w10
  clear hb10 HW9 HU9 q0 zq
  go_wp2_with fail
  refine (intText_c _ 2 8 _ (HU10.out.keep (by repeat (first | exact Below.refl _ _ | exact hBw10 | refine Below.drew ?_ | refine below_drewN ?_ _ | refine bset ?_ (by simp <;> omega) _ | refine bal ?_ _))) (by unfold Bd; decide) (by decide)).mono ?_
  rw [wG_txt3]
  rintro e w11 ⟨rfl, hb11⟩
  have hB11 := bthen hB10 (bthen (show Below w10.heap.size w10 _ by repeat (first | exact Below.refl _ _ | exact hBw10 | refine Below.drew ?_ | refine below_drewN ?_ _ | refine bset ?_ (by simp <;> omega) _ | refine bal ?_ _)) hb11)
  clear HU10 u0 u1
  go_wp2
  go_ret
  exact ⟨rfl, hB11⟩
end Go.Proofs.YthaohpfbengabaaGreatDoor

/- matrix's laws: same, line, is, comes; the matrix's Row; the reference's Cols. -/
namespace Go.Proofs.YthaohpfbengabaaGreatDoor
open Num
open Go.ChangeShapes Go.WideShapes Go.ChangeAt Go.RowKit
set_option linter.unusedVariables false
set_option linter.unusedSimpArgs false
attribute [local go_sem ↓] Go.wp_at_zero Go.wp_at_succ
set_option maxRecDepth 100000 in
set_option maxHeartbeats 4000000 in
/-- a row of a matrix that is there -/
theorem rowM_c (v : Value) (g : Grid) (i : Nat) (w : World) (hv : IsM 0 w v g) (hi : i < g.length) (hn : g.length ≤ 65536) (hl : (g.getD i []).length ≤ 1099511627775) :
    Calls Tryz.prog 28 #[v, .int .i64 (i : Nat)] w fun e w' => (∃ u, e = .returned (.tuple #[u, .int .i64 0]) ∧ RowO IsInt 36 w.heap.size w' u (g.getD i [])) ∧ Below w.heap.size w w' := by
  have HV := Lib.hid hv
  obtain ⟨a, c, rfl, -⟩ := hv
  obtain ⟨gb, go, ra, rc, rfl, hu, hp⟩ := HV.out.rowAt hi
  have HP := Lib.hid hp
  obtain ⟨n, hnE⟩ : ∃ n, g.length = n := ⟨_, rfl⟩
  rw [hnE] at hi hn HV ⊢
  obtain ⟨row, hrow⟩ : ∃ r, g.getD i [] = r := ⟨_, rfl⟩
  rw [hrow] at hu HP hl ⊢
  have rc1 := fun V => rowsM_c (some ⟨gb, go, none⟩) n c V
  have kc := fun W (q : Below w.heap.size w W) => cloneRow_c 0 (.slice ra row.length rc) row W (HP.out.keep lims_int q) (by omega)
  have h1 : ¬ ((i : Int) < 0) := by omega
  have h2 : ¬ ((n : Int) ≤ (i : Int)) := by omega
  have h3 : (i : Int) < (n : Int) := by omega
  have zu := cell_lt hu
  clear hnE hrow hp HV
  have hB := Below.refl w.heap.size w
  go_enter Tryz.func28, Tryz.ntmps28
  go_wp2_with fail
  refine (rc1 _).mono ?_
  rintro e w1 ⟨rfl, hb1⟩
  have m0 : w1.cell? ⟨w.heap.size, 0, none⟩ = some (.slice (some ⟨gb, go, none⟩) n c) := bkc hb1
  have zm0 := cell_lt m0
  have hu : w1.cell? ⟨gb, go + i, none⟩ = some (.slice ra row.length rc) := bkc hb1
  have zhu := cell_lt hu
  have hB : Below w.heap.size w w1 := bthen (by repeat (first | exact Below.refl _ _ | exact hB | refine Below.drew ?_ | refine below_drewN ?_ _ | refine bset ?_ (by simp <;> omega) _ | refine bal ?_ _)) hb1
  have hz : w.heap.size ≤ w1.heap.size := hB.size
  go_wp2_with fail
  refine (kc _ (by repeat (first | exact Below.refl _ _ | exact hB | refine Below.drew ?_ | refine below_drewN ?_ _ | refine bset ?_ (by simp <;> omega) _ | refine bal ?_ _))).mono ?_
  rintro e w2 ⟨⟨v2, rfl, hv2⟩, hb2⟩
  have hB2 : Below w.heap.size w w2 := bthen (by repeat (first | exact Below.refl _ _ | exact hB | refine Below.drew ?_ | refine below_drewN ?_ _ | refine bset ?_ (by simp <;> omega) _ | refine bal ?_ _)) hb2
  have HV2 := Lib.hid (hv2.rebase (show w.heap.size ≤ _ from (show Below w.heap.size w _ by repeat (first | exact Below.refl _ _ | exact hB | refine Below.drew ?_ | refine below_drewN ?_ _ | refine bset ?_ (by simp <;> omega) _ | refine bal ?_ _)).size))
  obtain ⟨a2, c2, rfl⟩ := hv2.ex
  clear rc1 kc hv2
  go_wp2
  refine bodyPost_ret (v := .tuple #[.slice a2 row.length c2, .int .i64 0]) (by simp [results, Tryz.results28, go_sem, *]) rfl ⟨⟨_, rfl, HV2.out⟩, hB2⟩
end Go.Proofs.YthaohpfbengabaaGreatDoor

/- matrix: Apply. -/
namespace Go.Proofs.YthaohpfbengabaaGreatDoor
open Num
open Go.ChangeShapes Go.WideShapes Go.ChangeAt Go.RowKit
set_option linter.unusedVariables false
set_option linter.unusedSimpArgs false
attribute [local go_sem ↓] Go.wp_at_zero Go.wp_at_succ
/-- what a matrix turns numbers into -/
def applyG (g : Grid) (l : List Int) : List Int := g.map fun r => dotL r l
/-- what Apply answers -/
def AppPost (g : Grid) (l : List Int) (w : World) (e : Ending) (w' : World) : Prop :=
  ((cols g ≠ 0 ∧ l.length = cols g ∧ ∃ v, e = .returned (.tuple #[v, .int .i64 0]) ∧ RowO IsInt 36 w.heap.size w' v (applyG g l)) ∨ (¬ (cols g ≠ 0 ∧ l.length = cols g) ∧ e = .returned (.tuple #[.slice none 0 0, .int .i64 5]))) ∧ Below w.heap.size w w'
theorem app_get {g : Grid} {l : List Int} {i : Nat} (h : i < g.length) : (applyG g l).getD i 0 = dotL (g.getD i []) l := by simp [applyG, h]
set_option maxRecDepth 100000 in
set_option maxHeartbeats 8000000 in
theorem applyM_c (vm vl : Value) (g : Grid) (l : List Int) (k m : Nat) (w : World) (hm : IsM 0 w vm g) (hv : PRow 0 w vl l) (rg : Rct g (cols g)) (hn : g.length ≤ 65536) (hc : cols g ≤ 65536) (hl : l.length ≤ 1099511627775) (bg : BdM k g) (bl : ∀ j, Bd m (l.getD j 0)) (hk : k + m + cols g ≤ 17179869184) :
    Calls Tryz.prog 44 #[vm, vl] w (AppPost g l w) := by
  have HM := Lib.hid hm
  have HV := Lib.hid hv
  have HRG := Lib.hid rg
  have HBD := Lib.hid (And.intro bg bl)
  obtain ⟨a, c, rfl, -⟩ := hm
  obtain ⟨la, lc, rfl, -⟩ := hv
  have COC := Lib.hid (fun V (q : Below w.heap.size w V) => (show Calls Tryz.prog 61 #[.agg #[.slice a g.length c]] V fun e w' => e = .returned (.int .i64 (cols g : Nat)) ∧ Below V.heap.size V w' from by
    obtain ⟨a', c', e, hl⟩ := HM.out.keep q
    cases e
    exact colsM_c _ _ g V hl))
  have hzg : g.length = 0 → cols g = 0 := fun h => by rw [List.length_eq_zero_iff.1 h]; rfl
  have HZG := Lib.hid hzg
  have HAP := Lib.hid (fun i (h : i < g.length) => app_get (l := l) h)
  have HAL := Lib.hid (show (applyG g l).length = g.length by simp [applyG])
  unfold AppPost
  obtain ⟨n, hnE⟩ : ∃ n, g.length = n := ⟨_, rfl⟩
  have HN := Lib.hid hnE
  obtain ⟨cc, hcE⟩ : ∃ n, cols g = n := ⟨_, rfl⟩
  rw [hnE] at COC hn HZG
  rw [hcE] at COC hc hk HRG HZG
  have HCC := Lib.hid hcE
  rw [hnE]
  clear rg bg bl hnE hcE hzg
  have hB := Below.refl w.heap.size w
  by_cases h0 : cc = 0
  · have hI : ((cc : Int) == 0) = true := by simp [h0]
    have HNO := Lib.hid (show ¬ (cols g ≠ 0 ∧ l.length = cols g) from fun h => h.1 (by rw [HCC.out]; exact h0))
    clear h0
    go_enter Tryz.func44, Tryz.ntmps44
    go_wp2_with fail
    (with_reducible refine (COC.out _ ?_).mono ?_); (repeat (first | exact Below.refl _ _ | exact hB | refine Below.drew ?_ | refine below_drewN ?_ _ | refine bset ?_ (by simp <;> omega) _ | refine bal ?_ _))
    rintro e w1 ⟨rfl, hb1⟩
    have hB1 : Below w.heap.size w w1 := bthen (by repeat (first | exact Below.refl _ _ | exact hB | refine Below.drew ?_ | refine below_drewN ?_ _ | refine bset ?_ (by simp <;> omega) _ | refine bal ?_ _)) hb1
    clear COC
    go_wp2
    refine bodyPost_ret (v := .tuple #[.slice none 0 0, .int .i64 5]) (by simp [results, Tryz.results44, go_sem, *]) rfl ⟨.inr ⟨HNO.out, rfl⟩, hB1⟩
  · have hI : ((cc : Int) == 0) = false := by simp; omega
    by_cases hlc : l.length = cc
    · have HYES := Lib.hid (show cols g ≠ 0 ∧ l.length = cols g from by rw [HCC.out]; exact ⟨h0, hlc⟩)
      have hI2 : ((l.length : Int) != (cc : Int)) = false := by simp [hlc]
      have HLC := Lib.hid hlc
      obtain ⟨ll, hll⟩ : ∃ x, l.length = x := ⟨_, rfl⟩
      rw [hll] at hI2 hl HLC
      have HLL := Lib.hid hll
      have hnp : 0 < n := Nat.pos_of_ne_zero fun e => h0 (HZG.out e)
      rw [hll] at hlc
      rw [hll]
      clear h0 hlc hll
      go_enter Tryz.func44, Tryz.ntmps44
      go_wp2_with fail
      (with_reducible refine (COC.out _ ?_).mono ?_); (repeat (first | exact Below.refl _ _ | exact hB | refine Below.drew ?_ | refine below_drewN ?_ _ | refine bset ?_ (by simp <;> omega) _ | refine bal ?_ _))
      rintro e w1 ⟨rfl, hb1⟩
      have m0 : w1.cell? ⟨w.heap.size, 0, none⟩ = some (.slice a n c) := bkc hb1
      have zm0 := cell_lt m0
      have hB : Below w.heap.size w w1 := bthen (by repeat (first | exact Below.refl _ _ | exact hB | refine Below.drew ?_ | refine below_drewN ?_ _ | refine bset ?_ (by simp <;> omega) _ | refine bal ?_ _)) hb1
      have hz : w.heap.size ≤ w1.heap.size := hB.size
      go_wp2_with fail
      (with_reducible refine (COC.out _ ?_).mono ?_); (repeat (first | exact Below.refl _ _ | exact hB | refine Below.drew ?_ | refine below_drewN ?_ _ | refine bset ?_ (by simp <;> omega) _ | refine bal ?_ _))
      rintro e w2 ⟨rfl, hb2⟩
      have m0 : w2.cell? ⟨w.heap.size, 0, none⟩ = some (.slice a n c) := bkc hb2
      have zm0 := cell_lt m0
      have hB : Below w.heap.size w w2 := bthen (by repeat (first | exact Below.refl _ _ | exact hB | refine Below.drew ?_ | refine below_drewN ?_ _ | refine bset ?_ (by simp <;> omega) _ | refine bal ?_ _)) hb2
      have hz : w.heap.size ≤ w2.heap.size := hB.size
      have HM2 := Lib.hid (HM.out.keep hB)
      have HV2 := Lib.hid (HV.out.keep lims_int hB)
      obtain ⟨gb, go, rfl⟩ : ∃ gb go, a = some ⟨gb, go, none⟩ := by
        obtain ⟨gb, go, ra, rc, e, -⟩ := HM.out.rowAt (i := 0) (by rw [HN.out]; exact hnp)
        exact ⟨gb, go, e⟩
      have hB22 := Below.refl w2.heap.size w2
      clear COC hb1 hb2
      go_wp2
      go_loopw [6, 24] (fun v x wr => ∃ i : Nat, i ≤ n ∧ x = .int .i64 i ∧ Hid (OwnF IsInt 36 w2 wr v ((applyG g l).take i).length (fun t => ((applyG g l).take i).getD t 0))) (fun _ x _ => n - (intOf x).toNat)
      case atStart => exact ⟨0, Nat.zero_le _, rfl, Lib.hid (OwnF.nil _ _ _ hB22)⟩
      case round =>
        obtain ⟨i, hi, rfl, hF⟩ := hrel
        have hBr := hF.out.bel
        have hlt' : ((applyG g l).take i).length = i := by rw [List.length_take, HAL.out, HN.out]; omega
        have HLT := Lib.hid hlt'
        obtain ⟨fa, fc, hfv⟩ : ∃ a c, _ = Value.slice a i c := by obtain ⟨a, c, h, _⟩ := hF.out.view; rw [hlt'] at h; exact ⟨a, c, h⟩
        subst hfv
        clear hlt'
        by_cases hlt : i < n
        · have hltI : (i : Int) < (n : Int) := by omega
          have hig : i < g.length := by rw [HN.out]; exact hlt
          obtain ⟨gb2, go2, ra, rc, e2, hu, hp⟩ := (HM2.out.keep hBr).rowAt hig
          obtain ⟨rfl, rfl⟩ : gb = gb2 ∧ go = go2 := by simp at e2; exact e2
          have hrl := HRG.out i hig
          have hbj : ∀ t, Bd k ((g.getD i []).getD t 0) := fun t => HBD.out.1 i t
          have HAI := Lib.hid (HAP.out i hig)
          obtain ⟨row, hrow⟩ : ∃ r, g.getD i [] = r := ⟨_, rfl⟩
          rw [hrow] at hu hp hrl hbj HAI
          have DC := Lib.hid (fun W (q : Below wr.heap.size wr W) => dot_c (.slice ra row.length rc) (.slice la ll lc) row l k m W (hp.keep lims_int q) (by rw [← HLL.out]; exact (HV2.out.keep lims_int (bthen hBr q))) (by rw [hrl]; omega) (by rw [hrl, HLL.out, HLC.out]) hbj HBD.out.2 (by rw [hrl]; exact hk))
          have HTK := Lib.hid (take_getD (l := applyG g l) (k := i) 0 (by rw [HAL.out]; exact hig))
          rw [HAI.out] at HTK
          obtain ⟨z, hz⟩ : ∃ z, dotL row l = z := ⟨_, rfl⟩
          rw [hz] at DC HTK
          rw [hrl] at hu DC
          have zu := cell_lt hu
          have hBw := Below.refl wr.heap.size wr
          clear e2 hp hrow hbj hz hrl
          go_wp2_with fail
          (with_reducible refine (DC.out _ ?_).mono ?_); (repeat (first | exact Below.refl _ _ | exact hBw | refine Below.drew ?_ | refine below_drewN ?_ _ | refine bset ?_ (by simp <;> omega) _ | refine bal ?_ _))
          rintro e w5 ⟨⟨v5, rfl, hi5⟩, hb5⟩
          have hb5' : Below wr.heap.size wr w5 := bthen (by repeat (first | exact Below.refl _ _ | exact hBw | refine Below.drew ?_ | refine below_drewN ?_ _ | refine bset ?_ (by simp <;> omega) _ | refine bal ?_ _)) hb5
          have HF5 := Lib.hid (hF.out.below lims_int hb5')
          have HI5 := Lib.hid hi5
          obtain ⟨n5, a5, c5, l5, rfl, -⟩ := hi5
          unfold iv at *
          clear DC hu hF
          obtain ⟨L, hL⟩ : ∃ L, (applyG g l).take i = L := ⟨_, rfl⟩
          rw [hL] at HF5 HTK HLT
          have hLn : L.length + [z].length ≤ 1099511627776 := by rw [HLT.out]; simp; omega
          clear hL
          go_wp2_with (at_builtin; refine app_cat (l := [z]) (b := w5.heap.size + 1) (off := 0) (by rfl) (by rfl) (HF5.out.below lims_int (bal (bal (Below.refl _ _) _) _)) (fun k hk => by
            have hk0 : k = 0 := by simpa using hk
            subst hk0
            exact ⟨n5, a5, l5.length, c5, cell_new (by simp) rfl, cell_new (by simp) rfl, HI5.out.keep (bal (bal (Below.refl _ _) _) _)⟩) (by rfl) (by rfl) hLn ?_)
          intro v' w8 HO7
          have HF8 := Lib.hid (show OwnF IsInt 36 w2 w8 v' (L ++ [z]).length (fun t => (L ++ [z]).getD t 0) from by rw [List.length_append]; exact HO7.out)
          rw [← HTK.out] at HF8
          clear HO7
          go_wp2
          exact ⟨⟨i + 1, hlt, by go_num, HF8⟩, meas hlt (by go_num) rfl⟩
        · obtain rfl : i = n := by omega
          have HRO := Lib.hid (show RowO IsInt 36 w.heap.size wr _ (applyG g l) from (OwnF.rowO (w0 := w2) (by have h := hF.out; rw [List.take_of_length_le (by rw [HAL.out, HN.out]; exact Nat.le_refl _)] at h; exact h)).rebase hB.size)
          have hB5 := bthen hB hBr
          clear hF
          go_wp2
          refine bodyPost_ret (v := .tuple #[.slice fa i fc, .int .i64 0]) (by simp [results, Tryz.results44, go_sem, *]) rfl ⟨.inl ⟨HYES.out.1, by rw [← HYES.out.2, HLL.out], _, rfl, HRO.out⟩, hB5⟩
    · have hI2 : ((l.length : Int) != (cc : Int)) = true := by simp; omega
      have HNO := Lib.hid (show ¬ (cols g ≠ 0 ∧ l.length = cols g) from fun h => hlc (by rw [← HCC.out]; exact h.2))
      clear h0 hlc
      go_enter Tryz.func44, Tryz.ntmps44
      go_wp2_with fail
      (with_reducible refine (COC.out _ ?_).mono ?_); (repeat (first | exact Below.refl _ _ | exact hB | refine Below.drew ?_ | refine below_drewN ?_ _ | refine bset ?_ (by simp <;> omega) _ | refine bal ?_ _))
      rintro e w1 ⟨rfl, hb1⟩
      have m0 : w1.cell? ⟨w.heap.size, 0, none⟩ = some (.slice a n c) := bkc hb1
      have zm0 := cell_lt m0
      have hB : Below w.heap.size w w1 := bthen (by repeat (first | exact Below.refl _ _ | exact hB | refine Below.drew ?_ | refine below_drewN ?_ _ | refine bset ?_ (by simp <;> omega) _ | refine bal ?_ _)) hb1
      have hz : w.heap.size ≤ w1.heap.size := hB.size
      go_wp2_with fail
      (with_reducible refine (COC.out _ ?_).mono ?_); (repeat (first | exact Below.refl _ _ | exact hB | refine Below.drew ?_ | refine below_drewN ?_ _ | refine bset ?_ (by simp <;> omega) _ | refine bal ?_ _))
      rintro e w2 ⟨rfl, hb2⟩
      have m0 : w2.cell? ⟨w.heap.size, 0, none⟩ = some (.slice a n c) := bkc hb2
      have zm0 := cell_lt m0
      have hB : Below w.heap.size w w2 := bthen (by repeat (first | exact Below.refl _ _ | exact hB | refine Below.drew ?_ | refine below_drewN ?_ _ | refine bset ?_ (by simp <;> omega) _ | refine bal ?_ _)) hb2
      have hz : w.heap.size ≤ w2.heap.size := hB.size
      clear COC
      go_wp2
      refine bodyPost_ret (v := .tuple #[.slice none 0 0, .int .i64 5]) (by simp [results, Tryz.results44, go_sem, *]) rfl ⟨.inr ⟨HNO.out, rfl⟩, hB⟩
end Go.Proofs.YthaohpfbengabaaGreatDoor

/- matrices, plain: the laws of sums and products. -/
namespace Go.Proofs.YthaohpfbengabaaGreatDoor
open Num
set_option linter.unusedVariables false
set_option linter.unusedSimpArgs false
theorem isum_zero (n : Nat) : Det.isum n (fun _ => 0) = 0 := by
  induction n with
  | zero => rfl
  | succ n ih => show Det.isum n _ + 0 = 0; rw [ih]; rfl
theorem isum_add (n : Nat) (f g : Nat → Int) : Det.isum n (fun i => f i + g i) = Det.isum n f + Det.isum n g := by
  induction n with
  | zero => rfl
  | succ n ih => show Det.isum n _ + (f n + g n) = (Det.isum n f + f n) + (Det.isum n g + g n); rw [ih]; omega
theorem isum_mulL (n : Nat) (f : Nat → Int) (c : Int) : Det.isum n (fun i => c * f i) = c * Det.isum n f := by
  induction n with
  | zero => show (0 : Int) = c * 0; rw [Int.mul_zero]
  | succ n ih => show Det.isum n _ + c * f n = c * (Det.isum n f + f n); rw [ih, Int.mul_add]
theorem isum_mulR (n : Nat) (f : Nat → Int) (c : Int) : Det.isum n (fun i => f i * c) = Det.isum n f * c := by
  rw [Int.mul_comm, ← isum_mulL]; exact Det.isum_congr fun i _ => Int.mul_comm _ _
theorem isum_comm (n m : Nat) (f : Nat → Nat → Int) : Det.isum n (fun i => Det.isum m fun j => f i j) = Det.isum m fun j => Det.isum n fun i => f i j := by
  induction n with
  | zero => show (0 : Int) = _; exact (isum_zero m).symm
  | succ n ih => show Det.isum n _ + Det.isum m _ = _; rw [ih, ← isum_add]; rfl
theorem times_len (g h : Grid) : (timesG g h).length = g.length := tab_len _ _ _
theorem times_cols {g h : Grid} (hg : 0 < g.length) : cols (timesG g h) = cols h := tab_cols _ hg
theorem times_gat {g h : Grid} {i j : Nat} (hi : i < g.length) (hj : j < cols h) : gat (timesG g h) i j = Det.isum (cols g) fun t => gat g i t * gat h t j := tab_gat hi hj
theorem times_rct (g h : Grid) : Rct (timesG g h) (cols h) := tab_rect _ _ _
theorem plus_len (g h : Grid) : (plusG g h).length = g.length := tab_len _ _ _
theorem plus_cols {g h : Grid} (hg : 0 < g.length) : cols (plusG g h) = cols g := tab_cols _ hg
/-- the sum of products, by places -/
theorem dotL_isum : ∀ (a b : List Int), a.length = b.length → dotL a b = Det.isum a.length fun t => a.getD t 0 * b.getD t 0 := by
  intro a b h
  have key : ∀ n, n ≤ a.length → dotL (a.take n) (b.take n) = Det.isum n fun t => a.getD t 0 * b.getD t 0 := by
    intro n
    induction n with
    | zero => intro _; rfl
    | succ n ih =>
      intro hn
      have e1 : a.take (n + 1) = a.take n ++ [a.getD n 0] := take_getD 0 (by omega)
      have e2 : b.take (n + 1) = b.take n ++ [b.getD n 0] := take_getD 0 (by omega)
      show dotL (a.take (n + 1)) (b.take (n + 1)) = Det.isum n _ + a.getD n 0 * b.getD n 0
      rw [e1, e2, ← ih (by omega)]
      unfold dotL
      rw [List.zipWith_append (by rw [List.length_take, List.length_take, h])]
      show sumL (_ ++ [a.getD n 0 * b.getD n 0]) = _
      rw [sumL_snoc]
  have := key a.length (Nat.le_refl _)
  rw [List.take_length, h, List.take_length] at this
  rw [h]; exact this
theorem app_len (g : Grid) (l : List Int) : (applyG g l).length = g.length := by simp [applyG]
theorem app_at {g : Grid} {l : List Int} {m i : Nat} (hr : Rct g m) (hl : l.length = m) (hi : i < g.length) : (applyG g l).getD i 0 = Det.isum m fun t => gat g i t * l.getD t 0 := by
  rw [app_get hi, dotL_isum _ _ (by rw [hr i hi, hl]), hr i hi]; rfl
theorem app_times {x y : Grid} {l : List Int} (hx : 0 < x.length) (hy : 0 < y.length) (rx : Rct x (cols x)) (ry : Rct y (cols y)) (h1 : cols x = y.length) (hl : l.length = cols y) : applyG x (applyG y l) = applyG (timesG x y) l := by
  refine List.ext_getElem (by rw [app_len, app_len, times_len]) fun i h2 h3 => ?_
  rw [app_len] at h2
  have e1 : (applyG x (applyG y l))[i] = (applyG x (applyG y l)).getD i 0 := by simp [applyG, h2]
  have e2 : (applyG (timesG x y) l)[i] = (applyG (timesG x y) l).getD i 0 := by simp [applyG, times_len, h2]
  rw [e1, e2, app_at rx (by rw [app_len, h1]) h2, app_at (times_rct x y) hl (by rw [times_len]; exact h2)]
  have a1 : Det.isum (cols x) (fun s => gat x i s * (applyG y l).getD s 0) = Det.isum (cols x) fun s => Det.isum (cols y) fun t => gat x i s * gat y s t * l.getD t 0 :=
    Det.isum_congr fun s hs => by
      rw [app_at ry hl (by omega), ← isum_mulL]
      exact Det.isum_congr fun t _ => (Int.mul_assoc _ _ _).symm
  have a2 : Det.isum (cols y) (fun t => gat (timesG x y) i t * l.getD t 0) = Det.isum (cols y) fun t => Det.isum (cols x) fun s => gat x i s * gat y s t * l.getD t 0 :=
    Det.isum_congr fun t ht => by rw [times_gat h2 ht, isum_mulR]
  rw [a1, a2, isum_comm]
end Go.Proofs.YthaohpfbengabaaGreatDoor

/- matrix's laws: rows, made. -/
namespace Go.Proofs.YthaohpfbengabaaGreatDoor
open Num
open Go.ChangeShapes Go.WideShapes Go.ChangeAt Go.RowKit
set_option linter.unusedVariables false
set_option linter.unusedSimpArgs false
attribute [local go_sem ↓] Go.wp_at_zero Go.wp_at_succ
set_option maxRecDepth 100000 in
set_option maxHeartbeats 4000000 in
theorem rows5_c (v : Value) (g : Grid) (w : World) (hv : GridI w v g) (hg : g.length ≤ 1048576) (hl : ∀ k, k < g.length → (g.getD k []).length ≤ 1048576) :
    Calls Tryz.prog 21 #[v] w fun e w' => (∃ u, e = .returned u ∧ OwnL 59 (RowO IsInt 36 w.heap.size) w w' u g) ∧ Below w.heap.size w w' := by
  obtain ⟨ga, gc, rfl, hv⟩ := hv
  have HV := Lib.hid hv
  have HL := Lib.hid hl
  clear hv hl
  have hB := Below.refl w.heap.size w
  go_enter Tryz.func21, Tryz.ntmps21
  go_wp2
  go_loopw [3, 8] (fun v x wr => ∃ k : Nat, k ≤ g.length ∧ x = .int .i64 k ∧ Hid (OwnL 59 (RowO IsInt 36 w.heap.size) w wr v (g.take k))) (fun _ x _ => g.length - (intOf x).toNat)
  case atStart => exact ⟨0, Nat.zero_le _, rfl, Lib.hid (OwnL.nil _ _ hB)⟩
  case round =>
    obtain ⟨k, hk, rfl, hO⟩ := hrel
    have hBr := hO.out.bel
    have hlen : (g.take k).length = k := by rw [List.length_take]; omega
    have HLEN := Lib.hid hlen
    obtain ⟨va, vc, hvv⟩ := hO.out.ex
    rw [hlen] at hvv
    subst hvv
    clear hlen
    by_cases hlt : k < g.length
    · have hltI : (k : Int) < (g.length : Int) := by omega
      obtain ⟨gb, go, u, rfl, hu, hrow⟩ := HV.out k hlt
      have hr2 := hrow.keep hBr
      obtain ⟨ra, rc, rfl, -⟩ := hrow
      have hl3 := HL.out k hlt
      have HT := Lib.hid (take_getD [] hlt)
      have hu2 := bkeep hBr hu
      obtain ⟨l, hle⟩ : ∃ l, g.getD k [] = l := ⟨_, rfl⟩
      rw [hle] at hr2 hu2 hl3 HT
      have zu := cell_lt hu2
      have lc := fun W (q : Below wr.heap.size wr W) => list_c (.slice ra l.length rc) l W (hr2.keep q) (by omega)
      have LC := Lib.hid lc
      have hLL : ((g.take k).length + 1) * 24 ≤ 140737488355328 := by rw [HLEN.out]; omega
      have hLM : (g.take k).length + 1 ≤ maxLen := by rw [HLEN.out]; unfold maxLen; omega
      have hBw := Below.refl wr.heap.size wr
      clear hu hr2 hle lc
      go_wp2_with fail
      (with_reducible refine (LC.out _ ?_).mono ?_); (repeat (first | exact Below.refl _ _ | exact hBw | refine Below.drew ?_ | refine below_drewN ?_ _ | refine bset ?_ (by simp <;> omega) _ | refine bal ?_ _))
      rintro e w5 ⟨⟨v5, rfl, hr5⟩, hb5⟩
      have hb5' : Below wr.heap.size wr w5 := bthen (by repeat (first | exact Below.refl _ _ | exact hBw | refine Below.drew ?_ | refine below_drewN ?_ _ | refine bset ?_ (by simp <;> omega) _ | refine bal ?_ _)) hb5
      have HR5 := Lib.hid (show RowO IsInt 36 w.heap.size w5 v5 l from hr5.rebase (show w.heap.size ≤ _ from Nat.le_trans hBr.size (show Below wr.heap.size wr _ by repeat (first | exact Below.refl _ _ | exact hBw | refine Below.drew ?_ | refine below_drewN ?_ _ | refine bset ?_ (by simp <;> omega) _ | refine bal ?_ _)).size))
      have HO5 := Lib.hid (hO.out.below (prs_rowO lims_int _ _) hb5')
      obtain ⟨a5, c5, rfl⟩ := hr5.ex
      clear LC hr5 hb5 hO
      go_wp2_with (at_builtin; refine appL elRow (prs_rowO lims_int _ _) (by decide) (by rfl) (by rfl) (HO5.out.below (prs_rowO lims_int _ _) (bal (Below.refl _ _) _)) (HR5.out.keep lims_int (bal (Below.refl _ _) _)) (by rfl) (by rfl) (cell_new (by simp) rfl) hLL hLM ?_)
      intro v' w8 hO8 hk8
      have HO8 := Lib.hid hO8
      rw [← HT.out] at HO8
      clear hO8 hk8
      go_wp2
      exact ⟨⟨k + 1, hlt, by go_num, HO8⟩, meas hlt (by go_num) rfl⟩
    · obtain rfl : k = g.length := by omega
      rw [List.take_length] at hO
      go_wp2
      go_ret
      exact ⟨⟨_, rfl, hO.out⟩, hBr⟩
/-- what made answers -/
def MadePost (g : Grid) (w : World) (e : Ending) (w' : World) : Prop :=
  ((g.length ≤ 64 ∧ fitsE g = 0 ∧ ∃ v, e = .returned (.tuple #[v, .bool true]) ∧ IsM 0 w' v g) ∨ (¬ (g.length ≤ 64 ∧ fitsE g = 0) ∧ e = .returned (.tuple #[.agg #[.slice none 0 0], .bool false]))) ∧ Below w.heap.size w w'
set_option maxRecDepth 100000 in
set_option maxHeartbeats 4000000 in
theorem made5_c (v : Value) (g : Grid) (w : World) (hv : GridI w v g) (hl : ∀ k, k < g.length → (g.getD k []).length ≤ 1048576) (hgI : g.length ≤ 4611686018427387904) :
    Calls Tryz.prog 59 #[v] w (MadePost g w) := by
  have HV := Lib.hid hv
  have HL := Lib.hid hl
  obtain ⟨ga, gc, rfl, -⟩ := hv
  clear hl
  have hB := Below.refl w.heap.size w
  by_cases h64 : g.length ≤ 64
  · have hI : ¬ (64 : Int) < (g.length : Int) := by omega
    have rc := Lib.hid (fun W (q : Below w.heap.size w W) => rows5_c (.slice ga g.length gc) g W (HV.out.keep q) (by omega) HL.out)
    go_enter Tryz.func59, Tryz.ntmps59
    go_wp2_with fail
    (with_reducible refine (rc.out _ ?_).mono ?_); (repeat (first | exact Below.refl _ _ | exact hB | refine Below.drew ?_ | refine below_drewN ?_ _ | refine bset ?_ (by simp <;> omega) _ | refine bal ?_ _))
    rintro e w1 ⟨⟨u1, rfl, hu1⟩, hb1⟩
    have r0 : w1.cell? ⟨w.heap.size, 0, none⟩ = some (.slice none 0 0) := bkc hb1
    have zr0 := cell_lt r0
    have r0f : w1.frozen? ⟨w.heap.size, 0, none⟩ = false := bkcf (v := .slice none 0 0) hb1
    have hB : Below w.heap.size w w1 := bthen (by repeat (first | exact Below.refl _ _ | exact hB | refine Below.drew ?_ | refine below_drewN ?_ _ | refine bset ?_ (by simp <;> omega) _ | refine bal ?_ _)) hb1
    have hz : w.heap.size ≤ w1.heap.size := hB.size
    have HU1 := Lib.hid (show IsL 59 (PRow 0) 0 w1 u1 g from (hu1.isL.mono fun u x h => h.row.rebase (Nat.zero_le _)).rebase (Nat.zero_le _))
    obtain ⟨a1, c1, rfl⟩ := hu1.ex
    have nc := Lib.hid (fun W (q : Below w1.heap.size w1 W) => newM_c (.slice a1 g.length c1) g W (HU1.out.keep (prs_prow 0) q) (fun i hi => Nat.le_trans (HL.out i hi) (by decide)))
    have hBw1 := Below.refl w1.heap.size w1
    clear rc hu1
    go_wp2_with fail
    (with_reducible refine (nc.out _ ?_).mono ?_); (repeat (first | exact Below.refl _ _ | exact hBw1 | refine Below.drew ?_ | refine below_drewN ?_ _ | refine bset ?_ (by simp <;> omega) _ | refine bal ?_ _))
    rintro e w2 ⟨(⟨hf, v2, rfl, hv2⟩ | ⟨hf, rfl⟩), hb2⟩
    ·
      have r0 : w2.cell? ⟨w.heap.size, 0, none⟩ = some (.slice none 0 0) := bkc hb2
      have zr0 := cell_lt r0
      have r0f : w2.frozen? ⟨w.heap.size, 0, none⟩ = false := bkcf (v := .slice none 0 0) hb2
      have hB : Below w.heap.size w w2 := bthen (by repeat (first | exact Below.refl _ _ | exact hB | refine Below.drew ?_ | refine below_drewN ?_ _ | refine bset ?_ (by simp <;> omega) _ | refine bal ?_ _)) hb2
      have hz : w.heap.size ≤ w2.heap.size := hB.size
      have HV2 := Lib.hid (hv2.rebase (Nat.zero_le _))
      obtain ⟨a2, c2, rfl⟩ := hv2.lit
      have HF := Lib.hid hf
      clear nc hv2 hf
      have HT := Lib.hid (show typOf w1 w.heap.size = some 27 from typ_keep (typ_fresh rfl) hb1)
      have HT2 := typ_keep (typ_keep HT.out (show Below w1.heap.size w1 _ by repeat (first | exact Below.refl _ _ | exact hBw1 | refine Below.drew ?_ | refine below_drewN ?_ _ | refine bset ?_ (by simp <;> omega) _ | refine bal ?_ _))) hb2
      go_wp2
      refine bodyPost_ret (v := .tuple #[.agg #[.slice a2 g.length c2], .bool true]) (by simp [results, Tryz.results59, go_sem, *]) rfl ⟨.inl ⟨h64, HF.out, _, rfl, ?_⟩, ?_⟩
      · first | exact HV2.out.setM HT2 _ | exact (HV2.out.setM HT2 _).keep (bal (Below.refl _ _) _) | exact (HV2.out.keep (bal (Below.refl _ _) _)).setM (typ_keep HT2 (bal (Below.refl _ _) _)) _
      ·
        repeat (first | exact Below.refl _ _ | exact hB | refine Below.drew ?_ | refine below_drewN ?_ _ | refine bset ?_ (by simp <;> omega) _ | refine bal ?_ _)
    ·
      have r0 : w2.cell? ⟨w.heap.size, 0, none⟩ = some (.slice none 0 0) := bkc hb2
      have zr0 := cell_lt r0
      have r0f : w2.frozen? ⟨w.heap.size, 0, none⟩ = false := bkcf (v := .slice none 0 0) hb2
      have hB : Below w.heap.size w w2 := bthen (by repeat (first | exact Below.refl _ _ | exact hB | refine Below.drew ?_ | refine below_drewN ?_ _ | refine bset ?_ (by simp <;> omega) _ | refine bal ?_ _)) hb2
      have hz : w.heap.size ≤ w2.heap.size := hB.size
      have hne : (fitsE g == 0) = false := by simpa using hf
      have HNO := Lib.hid (show ¬ (g.length ≤ 64 ∧ fitsE g = 0) from fun h => hf h.2)
      clear nc hf
      go_wp2
      refine bodyPost_ret (v := .tuple #[.agg #[.slice none 0 0], .bool false]) (by simp [results, Tryz.results59, go_sem, *]) rfl ⟨.inr ⟨HNO.out, rfl⟩, ?_⟩
      repeat (first | exact Below.refl _ _ | exact hB | refine Below.drew ?_ | refine below_drewN ?_ _ | refine bset ?_ (by simp <;> omega) _ | refine bal ?_ _)
  · have hI : (64 : Int) < (g.length : Int) := by omega
    have HNO := Lib.hid (show ¬ (g.length ≤ 64 ∧ fitsE g = 0) from fun h => h64 h.1)
    clear h64
    go_enter Tryz.func59, Tryz.ntmps59
    go_wp2
    refine bodyPost_ret (v := .tuple #[.agg #[.slice none 0 0], .bool false]) (by simp [results, Tryz.results59, go_sem, *]) rfl ⟨.inr ⟨HNO.out, rfl⟩, ?_⟩
    repeat (first | exact Below.refl _ _ | exact hB | refine Below.drew ?_ | refine below_drewN ?_ _ | refine bset ?_ (by simp <;> omega) _ | refine bal ?_ _)
end Go.Proofs.YthaohpfbengabaaGreatDoor

