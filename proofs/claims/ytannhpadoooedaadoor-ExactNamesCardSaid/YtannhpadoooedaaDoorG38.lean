/- Texts of this seat, laid together: VwF, VwG. Each opens with its own remark, which says what it proves, and under which conditions. -/
import Derived.Test.YtannhpadoooedaaDoorG27
import Derived.Test.YtannhpadoooedaaDoorG31
import Derived.Test.YtannhpadoooedaaDoorG37
/- vm's laws: works. -/
namespace Go.Proofs.YtannhpadoooedaaDoor
open Num
open Go.ChangeShapes Go.WideShapes Go.ChangeAt Go.RowKit
set_option linter.unusedVariables false
set_option linter.unusedSimpArgs false
theorem exOk : ProgOk 2 3 exCode exOuts :=
  ⟨by decide, by decide, by decide, by decide, by decide, by decide, fun k hk => by
    have : k < 2 := hk
    rcases (show k = 0 ∨ k = 1 by omega) with rfl | rfl <;> decide, fun k hk => by
    have : k < 2 := hk
    rcases (show k = 0 ∨ k = 1 by omega) with rfl | rfl <;> decide⟩
theorem bdG_i64 {g : Grid} (h : ∀ k, k < g.length → ∀ j, j < (g.getD k []).length → I64 ((g.getD k []).getD j 0)) : BdG 64 g := by
  intro i j
  by_cases hi : i < g.length
  · by_cases hj : j < (g.getD i []).length
    · have := h i hi j hj
      unfold I64 at this; unfold Bd; omega
    · rw [List.getD_eq_getElem?_getD (l := g.getD i []), List.getElem?_eq_none (by omega)]; exact bd_zero
  · rw [List.getD_eq_getElem?_getD (l := g), List.getElem?_eq_none (by omega)]
    simp [bd_zero]
/-- two rows of literals -/
theorem gridLit {w : World} {b b1 b2 : Nat} {l1 l2 : List Int} {n1 n2 n c : Nat} (h0 : w.cell? ⟨b, 0, none⟩ = some (.slice (some ⟨b1, 0, none⟩) n1 n1)) (h1 : w.cell? ⟨b, 1, none⟩ = some (.slice (some ⟨b2, 0, none⟩) n2 n2)) (e1 : l1.length = n1) (e2 : l2.length = n2)
    (k1 : ∀ k, k < n1 → w.cell? ⟨b1, k, none⟩ = some (.int .i64 (l1.getD k 0)) ∧ I64 (l1.getD k 0)) (k2 : ∀ k, k < n2 → w.cell? ⟨b2, k, none⟩ = some (.int .i64 (l2.getD k 0)) ∧ I64 (l2.getD k 0)) : GridI w (.slice (some ⟨b, 0, none⟩) 2 c) [l1, l2] := by
  subst e1 e2
  refine ⟨_, _, rfl, fun k hk => ?_⟩
  have hk2 : k < 2 := hk
  rcases (show k = 0 ∨ k = 1 by omega) with rfl | rfl
  · exact ⟨b, 0, _, rfl, h0, _, _, rfl, fun j hj => ⟨b1, 0, rfl, by rw [Nat.zero_add]; exact (k1 j hj).1, (k1 j hj).2⟩⟩
  · exact ⟨b, 0, _, rfl, h1, _, _, rfl, fun j hj => ⟨b2, 0, rfl, by rw [Nat.zero_add]; exact (k2 j hj).1, (k2 j hj).2⟩⟩
theorem runs1 {w : World} {e : Ending} {w' : World} (h : RunPost 2 3 exCode exOuts [[7, 5], [3, 1]] w e w') : ∃ v, e = .returned (.tuple #[v, .int .i64 2, .int .i64 0]) ∧ OwnL 31 (RowW w.heap.size) w w' v [[2, 2], [7, 5]] ∧ Below w.heap.size w w' := by
  have a2 : after exCode (startG [[7, 5], [3, 1]] (3 : Int).toNat (([[7, 5], [3, 1]] : Grid).getD 0 []).length) 2 = some [[7, 5], [3, 1], [2, 2]] := by decide +kernel
  obtain ⟨h, hB⟩ := h
  rcases h with ⟨hn, _⟩ | ⟨_, hn, _⟩ | ⟨_, _, k, h, hk, h1, h2, _⟩ | ⟨_, _, h, v, h1, h2, h3⟩
  · exact absurd exOk hn
  · exact absurd ⟨by decide, fun k hk => by have : k < 2 := hk; rcases (show k = 0 ∨ k = 1 by omega) with rfl | rfl <;> rfl, by decide⟩ hn
  · have : k < 2 := hk
    have := after_mono h2 (show k + 1 ≤ 2 by omega)
    rw [a2] at this; cases this
  · rw [show exCode.length = 2 from rfl, a2] at h1
    cases h1
    exact ⟨v, h2, h3, hB⟩
theorem runs2 {w : World} {e : Ending} {w' : World} (h : RunPost 2 3 exCode exOuts [[7, 5], [3, 2]] w e w') : e = .returned (.tuple #[.slice none 0 0, .int .i64 1, .int .i64 20]) ∧ Below w.heap.size w w' := by
  have a1 : after exCode (startG [[7, 5], [3, 2]] (3 : Int).toNat (([[7, 5], [3, 2]] : Grid).getD 0 []).length) 1 = some [[7, 5], [3, 2], [4, 3]] := by decide +kernel
  have a2 : after exCode (startG [[7, 5], [3, 2]] (3 : Int).toNat (([[7, 5], [3, 2]] : Grid).getD 0 []).length) 2 = none := by decide +kernel
  obtain ⟨h, hB⟩ := h
  rcases h with ⟨hn, _⟩ | ⟨_, hn, _⟩ | ⟨_, _, k, h, hk, h1, h2, h3⟩ | ⟨_, _, h, v, h1, h2, h3⟩
  · exact absurd exOk hn
  · exact absurd ⟨by decide, fun k hk => by have : k < 2 := hk; rcases (show k = 0 ∨ k = 1 by omega) with rfl | rfl <;> rfl, by decide⟩ hn
  · have : k < 2 := hk
    rcases (show k = 0 ∨ k = 1 by omega) with rfl | rfl
    · rw [a1] at h2; cases h2
    · exact ⟨h3, hB⟩
  · rw [show exCode.length = 2 from rfl, a2] at h1
    cases h1
theorem news1 {w : World} {e : Ending} {w' : World} (h : NewPost 2 3 exCode exOuts [[7], [3]] w e w') : (∃ b rb rc, e = .returned (.tuple #[.pointer (some ⟨b, 0, none⟩), .int .i64 0]) ∧ Mach w.heap.size w' b rb rc 2 3 exCode exOuts [[7], [3], [0]] 0) ∧ Below w.heap.size w w' := by
  obtain ⟨h, hB⟩ := h
  rcases h with ⟨hn, _⟩ | ⟨_, hn, _⟩ | ⟨_, _, h⟩
  · exact absurd exOk hn
  · exact absurd ⟨by decide, fun k hk => by have : k < 2 := hk; rcases (show k = 0 ∨ k = 1 by omega) with rfl | rfl <;> rfl, by decide⟩ hn
  · exact ⟨h, hB⟩
theorem steps1 {base b rb rc : Nat} {w : World} {e : Ending} {w' : World} (h : StepPost base b rb rc 2 3 exCode exOuts [[7], [3], [0]] 0 w e w') : e = .returned (.int .i64 0) ∧ Mach base w' b rb rc 2 3 exCode exOuts [[7], [3], [4]] 1 ∧ Out (fun k => k = b ∨ k = rb) w w' := by
  have hs : stepR (exCode.getD 0 default) (([[7], [3], [0]] : Grid).getD (exCode.getD 0 default).a.toNat []) (([[7], [3], [0]] : Grid).getD (exCode.getD 0 default).b.toNat []) = some [4] := by decide +kernel
  unfold StepPost at h
  rw [hs] at h
  exact h
end Go.Proofs.YtannhpadoooedaaDoor
/- vm's laws: works answers true. -/
namespace Go.Proofs.YtannhpadoooedaaDoor
open Num
open Go.ChangeShapes Go.WideShapes Go.ChangeAt Go.RowKit
set_option linter.unusedVariables false
set_option linter.unusedSimpArgs false
theorem gridLit22 (w : World) (a b c d : Int) (T1 T2 T3 : TypeId) (ha : I64 a) (hb : I64 b) (hc : I64 c) (hd : I64 d) :
    GridI (((w.alloc (.cells #[.int .i64 a, .int .i64 b] T1)).alloc (.cells #[.int .i64 c, .int .i64 d] T2)).alloc (.cells #[.slice (some ⟨w.heap.size, 0, none⟩) 2 2, .slice (some ⟨w.heap.size + 1, 0, none⟩) 2 2] T3)) (.slice (some ⟨w.heap.size + 1 + 1, 0, none⟩) 2 2) [[a, b], [c, d]] := by
  refine gridLit (n := 0) (n1 := 2) (n2 := 2) (b1 := w.heap.size) (b2 := w.heap.size + 1) (cell_new (by simp) rfl) (cell_new (by simp) rfl) rfl rfl (fun k hk => ?_) (fun k hk => ?_)
  · rcases (show k = 0 ∨ k = 1 by omega) with rfl | rfl
    · exact ⟨cell_alloc (cell_alloc (cell_new rfl rfl) _) _, ha⟩
    · exact ⟨cell_alloc (cell_alloc (cell_new rfl rfl) _) _, hb⟩
  · rcases (show k = 0 ∨ k = 1 by omega) with rfl | rfl
    · exact ⟨cell_alloc (cell_new (by simp) rfl) _, hc⟩
    · exact ⟨cell_alloc (cell_new (by simp) rfl) _, hd⟩
theorem gridLit11 (w : World) (a c : Int) (T1 T2 T3 : TypeId) (ha : I64 a) (hc : I64 c) :
    GridI (((w.alloc (.cells #[.int .i64 a] T1)).alloc (.cells #[.int .i64 c] T2)).alloc (.cells #[.slice (some ⟨w.heap.size, 0, none⟩) 1 1, .slice (some ⟨w.heap.size + 1, 0, none⟩) 1 1] T3)) (.slice (some ⟨w.heap.size + 1 + 1, 0, none⟩) 2 2) [[a], [c]] := by
  refine gridLit (n := 0) (n1 := 1) (n2 := 1) (b1 := w.heap.size) (b2 := w.heap.size + 1) (cell_new (by simp) rfl) (cell_new (by simp) rfl) rfl rfl (fun k hk => ?_) (fun k hk => ?_)
  · obtain rfl : k = 0 := by omega
    exact ⟨cell_alloc (cell_alloc (cell_new rfl rfl) _) _, ha⟩
  · obtain rfl : k = 0 := by omega
    exact ⟨cell_alloc (cell_new (by simp) rfl) _, hc⟩
theorem OwnL.gridV {w0 w : World} {v : Value} {g : Grid} (h : OwnL 31 (RowO IsInt 34 w0.heap.size) w0 w v g) : GridV w v g :=
  (h.isL.mono fun u x hr => (hr.row.rebase (Nat.zero_le _))).rebase (Nat.zero_le _)
theorem OwnL.blkV {w0 w : World} {v : Value} {g : Grid} (h : OwnL 57 (RowO IsRef 84 w0.heap.size) w0 w v g) : IsL 57 (RRow 0) 0 w v g :=
  (h.isL.mono fun u x hr => (hr.row.rebase (Nat.zero_le _))).rebase (Nat.zero_le _)
theorem bdL {g : Grid} (h : g.all (fun l => l.all fun x => decide (x.natAbs < 2 ^ 64)) = true) : BdG 64 g := by
  intro i j
  by_cases hi : i < g.length
  · have h1 := List.all_eq_true.1 h (g.getD i []) (by rw [show g.getD i [] = g[i] by simp [hi]]; exact List.getElem_mem _)
    by_cases hj : j < (g.getD i []).length
    · have h2 := List.all_eq_true.1 h1 ((g.getD i []).getD j 0) (by rw [show (g.getD i []).getD j 0 = (g.getD i [])[j] from by rw [List.getD_eq_getElem?_getD, List.getElem?_eq_getElem hj]; rfl]; exact List.getElem_mem _)
      unfold Bd; exact of_decide_eq_true h2
    · rw [List.getD_eq_getElem?_getD (l := g.getD i []), List.getElem?_eq_none (by omega)]; exact bd_zero
  · rw [List.getD_eq_getElem?_getD (l := g), List.getElem?_eq_none (by omega)]
    simp [bd_zero]
set_option maxRecDepth 100000 in
set_option maxHeartbeats 16000000 in
theorem works_c (w : World) (hT : Tz32 w) : Calls Tryd.prog 7 #[] w fun e w' => e = .returned (.bool true) ∧ Below w.heap.size w w' := by
  have HT := Lib.hid hT
  clear hT
  have hB := Below.refl w.heap.size w
  go_enter Tryd.func7, Tryd.ntmps7
  go_wp2_with fail
  refine (example_c _).mono ?_
  rintro e w1 ⟨a1, b1, rfl, hi1, ho1, hb1⟩
  have hB1 : Below w.heap.size w w1 := bthen hB hb1
  have HI1 := Lib.hid (And.intro hi1 ho1)
  clear hi1 ho1
  have hBw1 := Below.refl w1.heap.size w1
  go_wp2_with fail
  refine (lists_c _ [[7, 5], [3, 1]] _ (gridLit22 _ 7 5 3 1 _ _ _ (by unfold I64; omega) (by unfold I64; omega) (by unfold I64; omega) (by unfold I64; omega)) (by decide) (by decide)).mono ?_
  rintro e w2 ⟨v2, rfl, hO2⟩
  have hbx2 : Below w1.heap.size w1 w2 := bthen (by repeat (first | exact Below.refl _ _ | exact hBw1 | refine Below.drew ?_ | refine below_drewN ?_ _ | refine bset ?_ (by simp <;> omega) _ | refine bal ?_ _)) hO2.bel
  have HO2 := Lib.hid hO2
  obtain ⟨va2, vc2, hv2⟩ := hO2.ex
  replace hv2 : v2 = .slice va2 2 vc2 := hv2
  subst hv2
  clear hO2
  go_wp2_with fail
  refine (run_c 2 3 (some a1) (some b1) 2 2 exCode exOuts _ [[7, 5], [3, 1]] 64 _ (HI1.out.1.keep hbx2) (HI1.out.2.keep hbx2) (fun e => by cases e) (fun e => by cases e) HO2.out.gridV (by decide) (by decide) (by decide) (bdL (by decide)) (by omega) (HT.out.keep (bthen hB1 hbx2))).mono ?_
  rintro e w3 hr
  obtain ⟨v3, rfl, hO3, hb3⟩ := runs1 hr
  have HO3 := Lib.hid hO3
  obtain ⟨va3, vc3, hv3⟩ := hO3.ex
  replace hv3 : v3 = .slice va3 2 vc3 := hv3
  subst hv3
  have hB3 := bthen (bthen hB1 hbx2) hb3
  clear hr hO3
  go_wp2_with fail
  refine (example_c _).mono ?_
  rintro e w4 ⟨a4, b4, rfl, hi4, ho4, hb4⟩
  have hB4 : Below w.heap.size w w4 := bthen hB3 hb4
  have HI4 := Lib.hid (And.intro hi4 ho4)
  clear hi4 ho4
  have hBw4 := Below.refl w4.heap.size w4
  go_wp2_with fail
  refine (lists_c _ [[7, 5], [3, 2]] _ (gridLit22 _ 7 5 3 2 _ _ _ (by unfold I64; omega) (by unfold I64; omega) (by unfold I64; omega) (by unfold I64; omega)) (by decide) (by decide)).mono ?_
  rintro e w5 ⟨v5, rfl, hO5⟩
  have hbx5 : Below w4.heap.size w4 w5 := bthen (by repeat (first | exact Below.refl _ _ | exact hBw4 | refine Below.drew ?_ | refine below_drewN ?_ _ | refine bset ?_ (by simp <;> omega) _ | refine bal ?_ _)) hO5.bel
  have HO5 := Lib.hid hO5
  obtain ⟨va5, vc5, hv5⟩ := hO5.ex
  replace hv5 : v5 = .slice va5 2 vc5 := hv5
  subst hv5
  clear hO5
  go_wp2_with fail
  refine (run_c 2 3 (some a4) (some b4) 2 2 exCode exOuts _ [[7, 5], [3, 2]] 64 _ (HI4.out.1.keep hbx5) (HI4.out.2.keep hbx5) (fun e => by cases e) (fun e => by cases e) HO5.out.gridV (by decide) (by decide) (by decide) (bdL (by decide)) (by omega) (HT.out.keep (bthen hB4 hbx5))).mono ?_
  rintro e w6 hr
  obtain ⟨rfl, hb6⟩ := runs2 hr
  have hB6 := bthen (bthen hB4 hbx5) hb6
  clear hr
  go_wp2_with fail
  refine (example_c _).mono ?_
  rintro e w7 ⟨a7, b7, rfl, hi7, ho7, hb7⟩
  have hB7 : Below w.heap.size w w7 := bthen hB6 hb7
  have HI7 := Lib.hid (And.intro hi7 ho7)
  clear hi7 ho7
  have hBw7 := Below.refl w7.heap.size w7
  go_wp2_with fail
  refine (lists_c _ [[7], [3]] _ (gridLit11 _ 7 3 _ _ _ (by unfold I64; omega) (by unfold I64; omega)) (by decide) (by decide)).mono ?_
  rintro e w8 ⟨v8, rfl, hO8⟩
  have hbx8 : Below w7.heap.size w7 w8 := bthen (by repeat (first | exact Below.refl _ _ | exact hBw7 | refine Below.drew ?_ | refine below_drewN ?_ _ | refine bset ?_ (by simp <;> omega) _ | refine bal ?_ _)) hO8.bel
  have HO8 := Lib.hid hO8
  obtain ⟨va8, vc8, hv8⟩ := hO8.ex
  replace hv8 : v8 = .slice va8 2 vc8 := hv8
  subst hv8
  clear hO8
  go_wp2_with fail
  refine (new_c 2 3 (some a7) (some b7) 2 2 exCode exOuts _ [[7], [3]] _ (HI7.out.1.keep hbx8) (HI7.out.2.keep hbx8) (fun e => by cases e) (fun e => by cases e) HO8.out.gridV (by decide) (by decide) (by decide)).mono ?_
  rintro e w9 hr
  obtain ⟨⟨b, rb, rc, rfl, hM⟩, hb9⟩ := news1 hr
  have HM := Lib.hid hM
  have hB9 := bthen (bthen hB7 hbx8) hb9
  have HO9 := Lib.hid (HO3.out.below (prs_rowO lims_int _ _) (bthen hb4 (bthen hbx5 (bthen hb6 (bthen hb7 (bthen hbx8 hb9))))))
  have hBw9 := Below.refl w9.heap.size w9
  clear hr hM
  go_wp2_with fail
  refine (refs_c _ [[2, 2], [7, 5]] _ (gridLit22 _ 2 2 7 5 _ _ _ (by unfold I64; omega) (by unfold I64; omega) (by unfold I64; omega) (by unfold I64; omega)) (by decide) (by decide)).mono ?_
  rintro e w10 ⟨v10, rfl, hO10⟩
  have hb10 : Below w9.heap.size w9 w10 := bthen (by repeat (first | exact Below.refl _ _ | exact hBw9 | refine Below.drew ?_ | refine below_drewN ?_ _ | refine bset ?_ (by simp <;> omega) _ | refine bal ?_ _)) hO10.bel
  have HO10 := Lib.hid hO10
  obtain ⟨va10, vc10, hv10⟩ := hO10.ex
  replace hv10 : v10 = .slice va10 2 vc10 := hv10
  subst hv10
  clear hO10
  go_wp2_with fail
  refine (blocks_c _ _ [[2, 2], [7, 5]] 64 _ (HO9.out.below (prs_rowO lims_int _ _) hb10).gridV HO10.out.blkV (bdL (by decide)) (by omega) (by decide) (fun j hj => by have h2 : j < 2 := hj; rcases (show j = 0 ∨ j = 1 by omega) with rfl | rfl <;> simp)).mono ?_
  rintro e w11 ⟨rfl, hb11⟩
  have hb911 : Below w9.heap.size w9 w11 := bthen hb10 hb11
  have hB11 := bthen hB9 hb911
  go_wp2_with fail
  refine (step_c (m := 1) (k := 64) _ (HM.out.keep hb911) (by decide) (by decide) (insOk_of (by decide) (by decide)) (fun k hk => by have h2 : k < 3 := hk; rcases (show k = 0 ∨ k = 1 ∨ k = 2 by omega) with rfl | rfl | rfl <;> rfl) (by omega) (bdL (by decide)) (by omega) (HT.out.keep hB11)).mono ?_
  rintro e w12 hs
  obtain ⟨rfl, hM12, hO12⟩ := steps1 hs
  have hB12 := out_below hB11 hO12 (fun q hq => by
    have h1 := hM12.lo
    have h2 := hM12.rlo
    have h3 := (bthen hB7 hbx8).size
    rcases hq with rfl | rfl <;> omega)
  have HM12 := Lib.hid hM12
  clear hs hM12 hO12
  go_wp2_with fail
  refine (next_c _ HM12.out).mono ?_
  rintro e w13 ⟨rfl, hb13⟩
  go_wp2
  go_ret
  exact ⟨rfl, bthen hB12 hb13⟩
end Go.Proofs.YtannhpadoooedaaDoor
