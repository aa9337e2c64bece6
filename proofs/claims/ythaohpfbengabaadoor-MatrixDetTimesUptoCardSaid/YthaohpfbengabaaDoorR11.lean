/- Texts of this seat, laid together: MxF, MxG, MxH, MxK, IntM, Dec, TxtR, Jn, Vo, Wo, Wi. Each opens with its own remark, which says what it proves, and under which conditions. -/
import Derived.Test.YthaohpfbengabaaDoorR10
import Derived.Lib.AppendZeros
import Derived.Test.YthaohpfbengabaaDoorR09
import Derived.Test.YthaohpfbengabaaDoorR06
import Derived.Test.YthaohpfbengabaaDoorR04
import Derived.Deep.DeepFit
import Derived.Deep.DeepCutAuto
import Derived.Test.YthaohpfbengabaaDoorR01
import Derived.Test.YthaohpfbengabaaDoorR05
import Derived.Test.YthaohpfbengabaaDoorR02
import Derived.Laws.IdiomStrings
import Derived.Laws.BytesArg
import Derived.Deep.LoopGhost
import Derived.Shelf.Strings.OnBuilder
import Derived.Test.YthaohpfbengabaaDoorRows
import Derived.Lib.SmallJoins
import Derived.Deep.Slices
import Derived.Deep.Matrix
import Derived.Deep.Fields
import Derived.ChangeSame
import Derived.DataShut
import Derived.SizedLaws
set_option linter.unusedVariables false
set_option linter.unusedSimpArgs false
/- matrix: Times, square, New. -/
namespace Go.Proofs.YthaohpfbengabaaDoor
open Num
open Go.ChangeShapes Go.WideShapes Go.ChangeAt Go.RowKit
set_option linter.unusedVariables false
set_option linter.unusedSimpArgs false
attribute [local go_sem ↓] Go.wp_at_zero Go.wp_at_succ
def timesG (g h : Grid) : Grid := tab g.length (cols h) fun i j => Det.isum (cols g) fun t => gat g i t * gat h t j
set_option maxRecDepth 100000 in
set_option maxHeartbeats 4000000 in
theorem timesM_c (v u : Value) (g h : Grid) (k kh : Nat) (w : World) (hv : IsM 0 w v g) (hu : IsM 0 w u h) (rg : Rct g (cols g)) (rh : Rct h (cols h)) (kg : BdM k g) (kh' : BdM kh h) (hk : k + kh + cols g ≤ 17179869184) (lg : g.length ≤ 1099511627775) (lc : cols h ≤ 1099511627775) (lcg : cols g ≤ 1099511627775) :
    Calls Tryd.prog 19 #[v, u] w (MOr (cols g = h.length ∧ 0 < cols g) 5 (timesG g h) w) := by
  obtain ⟨ag, cg, rfl, lv⟩ := hv
  obtain ⟨ah, ch, rfl, lu⟩ := hu
  have rc1 := fun V => rowsM_c ag g.length cg V
  have rc2 := fun V => rowsM_c ah h.length ch V
  have cc1 := fun V (q : Below w.heap.size w V) => colsM_c ag cg g V (lv.keep (prs_prow 0) q)
  have cc2 := fun V (q : Below w.heap.size w V) => colsM_c ah ch h V (lu.keep (prs_prow 0) q)
  have fc := fun V (q : Below w.heap.size w V) (e1 : V.cell? ⟨w.heap.size, 0, none⟩ = some (.slice ag g.length cg)) (e2 : V.cell? ⟨w.heap.size + 1, 0, none⟩ = some (.slice ah h.length ch)) (hn : cols g = h.length) =>
    filled_c g.length (cols h) (fun i j => Det.isum (cols g) fun t => gat g i t * gat h t j) 42 #[.pointer (some ⟨w.heap.size, 0, none⟩), .pointer (some ⟨w.heap.size + 1, 0, none⟩)] V (times1_c _ _ g h g.length (cols g) (cols h) k kh V (lv.box q e1) (lu.box q e2) rfl hn.symm rg rh kg kh' lcg hk) (ens Tryd.func42 (by kernel_rfl) rfl) (by omega) lc
  have FC := Lib.hid fc
  clear fc lv lu rg rh kg kh' lg lc hk lcg
  unfold timesG
  obtain ⟨FF, hFF⟩ : ∃ FF, (fun i j => Det.isum (cols g) fun t => gat g i t * gat h t j) = FF := ⟨_, rfl⟩
  rw [hFF] at FC ⊢
  clear hFF
  obtain ⟨N, hN⟩ : ∃ N, g.length = N := ⟨_, rfl⟩
  obtain ⟨N', hN'⟩ : ∃ N, h.length = N := ⟨_, rfl⟩
  obtain ⟨C, hC⟩ : ∃ N, cols g = N := ⟨_, rfl⟩
  obtain ⟨C', hC'⟩ : ∃ N, cols h = N := ⟨_, rfl⟩
  rw [hN, hN', hC, hC'] at FC
  rw [hN] at rc1 cc1
  rw [hN'] at rc2 cc2
  rw [hC] at cc1
  rw [hC'] at cc2
  rw [hN, hN', hC, hC']
  clear hN hN' hC hC'
  have RC1 := Lib.hid rc1
  have RC2 := Lib.hid rc2
  have CC1 := Lib.hid cc1
  have CC2 := Lib.hid cc2
  clear rc1 rc2 cc1 cc2
  have hB := Below.refl w.heap.size w
  by_cases h1 : C = N'
  · by_cases h2 : 0 < C
    · have FC2 := Lib.hid (fun V q e1 e2 => FC.out V q e1 e2 h1)
      subst h1
      have HOK := Lib.hid (show C = C ∧ 0 < C from ⟨rfl, h2⟩)
      have hnI : ((C : Int) != (C : Int)) = false := by simp
      have hcI : ((C : Int) == 0) = false := by simp; omega
      clear FC h2
      go_enter Tryd.func19, Tryd.ntmps19
      go_wp2
      refine wp_name fun w0 hW0 => ?_
      have m0 : w0.cell? ⟨w.heap.size, 0, none⟩ = some (.slice ag N cg) := by rw [hW0]; simp [go_sem]
      have zm0 := cell_lt m0
      have o0 : w0.cell? ⟨w.heap.size + 1, 0, none⟩ = some (.slice ah C ch) := by rw [hW0]; simp [go_sem]
      have zo0 := cell_lt o0
      have r0f : w0.frozen? ⟨w.heap.size + 1 + 1, 0, none⟩ = false := by rw [hW0]; simp [go_sem]
      have r0 : w0.cell? ⟨w.heap.size + 1 + 1, 0, none⟩ = some (.slice none 0 0) := by rw [hW0]; simp [go_sem]
      have zr0 := cell_lt r0
      have hB : Below w.heap.size w w0 := by rw [hW0]; repeat (first | exact Below.refl _ _ | exact hB | refine Below.drew ?_ | refine below_drewN ?_ _ | refine bset ?_ (by simp <;> omega) _ | refine bal ?_ _)
      have HT0 : Hid (typOf w0 (w.heap.size + 1 + 1) = some 27) := Lib.hid (by rw [hW0]; exact typ_fresh (by simp))
      have hz : w.heap.size ≤ w0.heap.size := hB.size
      clear hW0
      refine wp_region_grow (w := w0) (by kernel_rfl) (by kernel_rfl) ?_
      have m0g : ∀ gs, (grow w0 gs).cell? ⟨w.heap.size, 0, none⟩ = some (.slice ag N cg) := fun gs => bkeep gs.below m0
      have o0g : ∀ gs, (grow w0 gs).cell? ⟨w.heap.size + 1, 0, none⟩ = some (.slice ah C ch) := fun gs => bkeep gs.below o0
      have r0g : ∀ gs, (grow w0 gs).cell? ⟨w.heap.size + 1 + 1, 0, none⟩ = some (.slice none 0 0) := fun gs => bkeep gs.below r0
      repeat (go_big_quiet_step ((first | (go_at_call 10; with_reducible exact grow_of (CC1.out _ (hB.trans ((Grows.below _).mono hz)))) | (go_at_call 9; with_reducible exact grow_of (RC2.out _)) | fail)))
      refine wpQuiet_nil ?_
      intro w1 hb1
      clear m0g
      clear o0g
      clear r0g
      have m0 := bkeep hb1 m0
      have o0 := bkeep hb1 o0
      have r0f := bkeepf hb1 r0 r0f
      have r0 := bkeep hb1 r0
      have hB := bthen hB hb1
      have hz := hB.size
      have HT1 := Lib.hid (typ_keep HT0.out hb1)
      clear HT0
      go_wp2
      refine wp_region_grow_tail (w := w1) 5 (by kernel_rfl) (by kernel_rfl) ?_
      simp only [List.take_succ_cons, List.take_zero, List.drop_succ_cons, List.drop_zero]
      have m0g : ∀ gs, (grow w1 gs).cell? ⟨w.heap.size, 0, none⟩ = some (.slice ag N cg) := fun gs => bkeep gs.below m0
      have o0g : ∀ gs, (grow w1 gs).cell? ⟨w.heap.size + 1, 0, none⟩ = some (.slice ah C ch) := fun gs => bkeep gs.below o0
      have r0g : ∀ gs, (grow w1 gs).cell? ⟨w.heap.size + 1 + 1, 0, none⟩ = some (.slice none 0 0) := fun gs => bkeep gs.below r0
      repeat (go_big_quiet_step ((first | (go_at_call 9; with_reducible exact grow_of (RC1.out _)) | (go_at_call 10; with_reducible exact grow_of (CC2.out _ (hB.trans ((Grows.below _).mono hz)))) | fail)))
      refine wpQuiet_nil ?_
      intro w2 hb2
      clear m0g
      clear o0g
      clear r0g
      have m0 := bkeep hb2 m0
      have o0 := bkeep hb2 o0
      have r0f := bkeepf hb2 r0 r0f
      have r0 := bkeep hb2 r0
      have hB := bthen hB hb2
      have hz := hB.size
      have HT2 := Lib.hid (typ_keep HT1.out hb2)
      clear HT1
      go_wp2_with fail
      refine (FC2.out _ hB m0 o0).mono ?_
      rintro e w3 ⟨⟨v3, rfl, hv3⟩, hb3⟩
      have HT3 := typ_keep HT2.out hb3
      have HV := Lib.hid (hv3.rebase hz)
      obtain ⟨a3, c3, rfl⟩ := hv3.lit
      have m0 := bkeep hb3 m0
      have o0 := bkeep hb3 o0
      have r0f := bkeepf hb3 r0 r0f
      have r0 := bkeep hb3 r0
      have hB := bthen hB hb3
      have hz := hB.size
      rw [tab_len] at HV ⊢
      clear FC2 hv3 m0 o0
      go_wp2
      refine bodyPost_ret (v := .tuple #[.agg #[.slice a3 N c3], .int .i64 0]) (by simp [results, Tryd.results19, go_sem, *]) rfl ⟨.inl ⟨by have := HOK.out; omega, _, rfl, HV.out.setM HT3 _⟩, ?_⟩
      repeat (first | exact Below.refl _ _ | exact hB | refine Below.drew ?_ | refine below_drewN ?_ _ | refine bset ?_ (by simp <;> omega) _ | refine bal ?_ _)
    · have hnI : ((C : Int) != (N' : Int)) = false := by simp [h1]
      have hcI : ((C : Int) == 0) = true := by simp; omega
      have HNO := Lib.hid (show ¬ (C = N' ∧ 0 < C) from fun h => h2 h.2)
      clear FC h1 h2
      go_enter Tryd.func19, Tryd.ntmps19
      go_wp2
      refine wp_name fun w0 hW0 => ?_
      have m0 : w0.cell? ⟨w.heap.size, 0, none⟩ = some (.slice ag N cg) := by rw [hW0]; simp [go_sem]
      have zm0 := cell_lt m0
      have o0 : w0.cell? ⟨w.heap.size + 1, 0, none⟩ = some (.slice ah N' ch) := by rw [hW0]; simp [go_sem]
      have zo0 := cell_lt o0
      have r0f : w0.frozen? ⟨w.heap.size + 1 + 1, 0, none⟩ = false := by rw [hW0]; simp [go_sem]
      have r0 : w0.cell? ⟨w.heap.size + 1 + 1, 0, none⟩ = some (.slice none 0 0) := by rw [hW0]; simp [go_sem]
      have zr0 := cell_lt r0
      have hB : Below w.heap.size w w0 := by rw [hW0]; repeat (first | exact Below.refl _ _ | exact hB | refine Below.drew ?_ | refine below_drewN ?_ _ | refine bset ?_ (by simp <;> omega) _ | refine bal ?_ _)
      have hz : w.heap.size ≤ w0.heap.size := hB.size
      clear hW0
      refine wp_region_grow (w := w0) (by kernel_rfl) (by kernel_rfl) ?_
      have m0g : ∀ gs, (grow w0 gs).cell? ⟨w.heap.size, 0, none⟩ = some (.slice ag N cg) := fun gs => bkeep gs.below m0
      have o0g : ∀ gs, (grow w0 gs).cell? ⟨w.heap.size + 1, 0, none⟩ = some (.slice ah N' ch) := fun gs => bkeep gs.below o0
      have r0g : ∀ gs, (grow w0 gs).cell? ⟨w.heap.size + 1 + 1, 0, none⟩ = some (.slice none 0 0) := fun gs => bkeep gs.below r0
      repeat (go_big_quiet_step ((first | (go_at_call 10; with_reducible exact grow_of (CC1.out _ (hB.trans ((Grows.below _).mono hz)))) | (go_at_call 9; with_reducible exact grow_of (RC2.out _)) | fail)))
      refine wpQuiet_nil ?_
      intro w1 hb1
      clear m0g
      clear o0g
      clear r0g
      have m0 := bkeep hb1 m0
      have o0 := bkeep hb1 o0
      have r0f := bkeepf hb1 r0 r0f
      have r0 := bkeep hb1 r0
      have hB := bthen hB hb1
      have hz := hB.size
      go_wp2
      refine bodyPost_ret (v := .tuple #[.agg #[.slice none 0 0], .int .i64 5]) (by simp [results, Tryd.results19, go_sem, *]) rfl ⟨.inr ⟨HNO.out, rfl⟩, ?_⟩
      repeat (first | exact Below.refl _ _ | exact hB | refine Below.drew ?_ | refine below_drewN ?_ _ | refine bset ?_ (by simp <;> omega) _ | refine bal ?_ _)
  · have hnI : ((C : Int) != (N' : Int)) = true := by simp; omega
    have HNO := Lib.hid (show ¬ (C = N' ∧ 0 < C) from fun h => h1 h.1)
    clear FC h1
    go_enter Tryd.func19, Tryd.ntmps19
    go_wp2
    refine wp_name fun w0 hW0 => ?_
    have m0 : w0.cell? ⟨w.heap.size, 0, none⟩ = some (.slice ag N cg) := by rw [hW0]; simp [go_sem]
    have zm0 := cell_lt m0
    have o0 : w0.cell? ⟨w.heap.size + 1, 0, none⟩ = some (.slice ah N' ch) := by rw [hW0]; simp [go_sem]
    have zo0 := cell_lt o0
    have r0f : w0.frozen? ⟨w.heap.size + 1 + 1, 0, none⟩ = false := by rw [hW0]; simp [go_sem]
    have r0 : w0.cell? ⟨w.heap.size + 1 + 1, 0, none⟩ = some (.slice none 0 0) := by rw [hW0]; simp [go_sem]
    have zr0 := cell_lt r0
    have hB : Below w.heap.size w w0 := by rw [hW0]; repeat (first | exact Below.refl _ _ | exact hB | refine Below.drew ?_ | refine below_drewN ?_ _ | refine bset ?_ (by simp <;> omega) _ | refine bal ?_ _)
    have hz : w.heap.size ≤ w0.heap.size := hB.size
    clear hW0
    refine wp_region_grow (w := w0) (by kernel_rfl) (by kernel_rfl) ?_
    have m0g : ∀ gs, (grow w0 gs).cell? ⟨w.heap.size, 0, none⟩ = some (.slice ag N cg) := fun gs => bkeep gs.below m0
    have o0g : ∀ gs, (grow w0 gs).cell? ⟨w.heap.size + 1, 0, none⟩ = some (.slice ah N' ch) := fun gs => bkeep gs.below o0
    have r0g : ∀ gs, (grow w0 gs).cell? ⟨w.heap.size + 1 + 1, 0, none⟩ = some (.slice none 0 0) := fun gs => bkeep gs.below r0
    repeat (go_big_quiet_step ((first | (go_at_call 10; with_reducible exact grow_of (CC1.out _ (hB.trans ((Grows.below _).mono hz)))) | (go_at_call 9; with_reducible exact grow_of (RC2.out _)) | fail)))
    refine wpQuiet_nil ?_
    intro w1 hb1
    clear m0g
    clear o0g
    clear r0g
    have m0 := bkeep hb1 m0
    have o0 := bkeep hb1 o0
    have r0f := bkeepf hb1 r0 r0f
    have r0 := bkeep hb1 r0
    have hB := bthen hB hb1
    have hz := hB.size
    go_wp2
    refine bodyPost_ret (v := .tuple #[.agg #[.slice none 0 0], .int .i64 5]) (by simp [results, Tryd.results19, go_sem, *]) rfl ⟨.inr ⟨HNO.out, rfl⟩, ?_⟩
    repeat (first | exact Below.refl _ _ | exact hB | refine Below.drew ?_ | refine below_drewN ?_ _ | refine bset ?_ (by simp <;> omega) _ | refine bal ?_ _)
/-- is it square? -/
def sqB (g : Grid) : Bool := decide (0 < g.length) && decide (g.length = cols g)
set_option maxRecDepth 100000 in
set_option maxHeartbeats 4000000 in
theorem square_c (v : Value) (g : Grid) (w : World) (hv : IsM 0 w v g) : Calls Tryd.prog 35 #[v] w fun e w' => e = .returned (.bool (sqB g)) ∧ Below w.heap.size w w' := by
  obtain ⟨ag, cg, rfl, lv⟩ := hv
  have rc1 := fun V => rowsM_c ag g.length cg V
  have cc1 := fun V (q : Below w.heap.size w V) => colsM_c ag cg g V (lv.keep (prs_prow 0) q)
  clear lv
  unfold sqB
  obtain ⟨N, hN⟩ : ∃ N, g.length = N := ⟨_, rfl⟩
  obtain ⟨C, hC⟩ : ∃ N, cols g = N := ⟨_, rfl⟩
  rw [hN] at rc1 cc1
  rw [hC] at cc1
  rw [hN, hC]
  clear hN hC
  have RC1 := Lib.hid rc1
  have CC1 := Lib.hid cc1
  clear rc1 cc1
  have hB := Below.refl w.heap.size w
  by_cases h1 : 0 < N
  · have hnI : (0 : Int) < (N : Int) := by omega
    have hE := Lib.hid (show (decide (0 < N) && decide (N = C)) = ((N : Int) == (C : Int)) from by
      by_cases e : N = C
      · subst e; simp [h1]
      · have : ¬ (N : Int) = (C : Int) := by omega
        simp [e, this])
    have q1 : decide ((0 : Int) < (N : Int)) = true := by simp; omega
    have q2 : decide (0 < N) = true := by simp; omega
    clear h1
    go_enter Tryd.func35, Tryd.ntmps35
    go_wp2
    refine wp_name fun w0 hW0 => ?_
    have m0 : w0.cell? ⟨w.heap.size, 0, none⟩ = some (.slice ag N cg) := by rw [hW0]; simp [go_sem]
    have zm0 := cell_lt m0
    have hB : Below w.heap.size w w0 := by rw [hW0]; repeat (first | exact Below.refl _ _ | exact hB | refine Below.drew ?_ | refine below_drewN ?_ _ | refine bset ?_ (by simp <;> omega) _ | refine bal ?_ _)
    have hz : w.heap.size ≤ w0.heap.size := hB.size
    clear hW0
    refine wp_region_grow (w := w0) (by kernel_rfl) (by kernel_rfl) ?_
    have m0g : ∀ gs, (grow w0 gs).cell? ⟨w.heap.size, 0, none⟩ = some (.slice ag N cg) := fun gs => bkeep gs.below m0
    repeat (go_big_quiet_step ((first | (go_at_call 10; with_reducible exact grow_of (CC1.out _ (hB.trans ((Grows.below _).mono hz)))) | (go_at_call 9; with_reducible exact grow_of (RC1.out _)) | fail)))
    refine wpQuiet_nil ?_
    intro w1 hb1
    clear m0g
    have m0 := bkeep hb1 m0
    have hB := bthen hB hb1
    have hz := hB.size
    go_wp2
    go_ret
    exact ⟨by rw [hE.out]; rfl, hB⟩
  · obtain rfl : N = 0 := by omega
    clear h1
    go_enter Tryd.func35, Tryd.ntmps35
    go_wp2
    refine wp_name fun w0 hW0 => ?_
    have m0 : w0.cell? ⟨w.heap.size, 0, none⟩ = some (.slice ag 0 cg) := by rw [hW0]; simp [go_sem]
    have zm0 := cell_lt m0
    have hB : Below w.heap.size w w0 := by rw [hW0]; repeat (first | exact Below.refl _ _ | exact hB | refine Below.drew ?_ | refine below_drewN ?_ _ | refine bset ?_ (by simp <;> omega) _ | refine bal ?_ _)
    have hz : w.heap.size ≤ w0.heap.size := hB.size
    clear hW0
    refine wp_region_grow (w := w0) (by kernel_rfl) (by kernel_rfl) ?_
    have m0g : ∀ gs, (grow w0 gs).cell? ⟨w.heap.size, 0, none⟩ = some (.slice ag 0 cg) := fun gs => bkeep gs.below m0
    repeat (go_big_quiet_step ((first | (go_at_call 9; with_reducible exact grow_of (RC1.out _)) | fail)))
    refine wpQuiet_nil ?_
    intro w1 hb1
    clear m0g
    have m0 := bkeep hb1 m0
    have hB := bthen hB hb1
    have hz := hB.size
    go_wp2
    go_ret
    exact ⟨rfl, hB⟩
end Go.Proofs.YthaohpfbengabaaDoor

/- matrix: New. -/
namespace Go.Proofs.YthaohpfbengabaaDoor
open Num
open Go.ChangeShapes Go.WideShapes Go.ChangeAt Go.RowKit
set_option linter.unusedVariables false
set_option linter.unusedSimpArgs false
attribute [local go_sem ↓] Go.wp_at_zero Go.wp_at_succ
/-- a variable that holds a matrix -/
structure VarMx (b : Nat) (w : World) (v : Value) : Prop where
  ty : typOf w b = some 27
  c : w.cell? ⟨b, 0, none⟩ = some v
  f : w.frozen? ⟨b, 0, none⟩ = false
theorem VarMx.keep {b : Nat} {w w' : World} {v : Value} (h : VarMx b w v) (k : Below w.heap.size w w') : VarMx b w' v := ⟨typ_keep h.ty k, bkeep k h.c, bkeepf k h.c h.f⟩
theorem VarMx.kp {b : Nat} {S : TypeId → Prop} {w w' : World} {v : Value} (h : VarMx b w v) (k : Kp S w w') (hs : S 27) : VarMx b w' v := ⟨k.typ h.ty hs, k.cell h.ty hs h.c, k.frz h.ty hs h.f⟩
theorem VarMx.set {b : Nat} {w : World} {v : Value} (h : VarMx b w v) (u : Value) : VarMx b (w.setCell ⟨b, 0, none⟩ u) u := ⟨by rw [typ_set]; exact h.ty, cell_here h.c u, by rw [World.frozen?_setCell]; exact h.f⟩
theorem VarMx.far {b : Nat} {w : World} {v : Value} (h : VarMx b w v) {p : Addr} (hp : p.block ≠ b) (u : Value) : VarMx b (w.setCell p u) v := ⟨by rw [typ_set]; exact h.ty, cell_far h.c (fun e => hp (by rw [e])) u, by rw [World.frozen?_setCell]; exact h.f⟩
/-- what New says of rows -/
def fitsE (g : Grid) : Int := if g.length = 0 ∨ cols g = 0 then 2 else if 16 < g.length ∨ 16 < cols g then 3 else if ∀ i, i < g.length → (g.getD i []).length = cols g then 0 else 5
/-- what New answers -/
def NewMPost (g : Grid) (w : World) (e : Ending) (w' : World) : Prop :=
  ((fitsE g = 0 ∧ ∃ v, e = .returned (.tuple #[v, .int .i64 0]) ∧ IsM w.heap.size w' v g) ∨ (fitsE g ≠ 0 ∧ e = .returned (.tuple #[.agg #[.slice none 0 0], .int .i64 (fitsE g)]))) ∧ Below w.heap.size w w'
theorem newM_no {g : Grid} {w w' : World} {k : Int} (h : fitsE g = k) (hk : k ≠ 0) (hb : Below w.heap.size w w') : NewMPost g w (.returned (.tuple #[.agg #[.slice none 0 0], .int .i64 k])) w' := by
  subst h; exact ⟨.inr ⟨hk, rfl⟩, hb⟩
theorem newM_yes {g : Grid} {w w' : World} {v : Value} (h : fitsE g = 0) (hv : IsM w.heap.size w' v g) (hb : Below w.heap.size w w') : NewMPost g w (.returned (.tuple #[v, .int .i64 0])) w' := ⟨.inl ⟨h, _, rfl, hv⟩, hb⟩
set_option maxRecDepth 100000 in
set_option maxHeartbeats 16000000 in
theorem newM_c (v : Value) (g : Grid) (w : World) (hv : IsL 40 (PRow 0) 0 w v g) (hl : ∀ i, i < g.length → (g.getD i []).length ≤ 1099511627775) :
    Calls Tryd.prog 17 #[v] w (NewMPost g w) := by
  have HV := Lib.hid hv
  obtain ⟨ga, gc, rfl, -⟩ := hv
  have hB := Below.refl w.heap.size w
  by_cases h0 : g.length = 0
  · have HEE : Hid (fitsE g = 2) := Lib.hid (by unfold fitsE; rw [if_pos (.inl h0)])
    rw [h0] at *
    have hnI : ((0 : Int) == 0) = true := rfl
    clear HV hl
    go_enter Tryd.func17, Tryd.ntmps17
    go_wp2
    refine bodyPost_ret (v := .tuple #[.agg #[.slice none 0 0], .int .i64 2]) (by simp [results, Tryd.results17, go_sem, *]) rfl (newM_no HEE.out (by decide) ?_)
    repeat (first | exact Below.refl _ _ | exact hB | refine Below.drew ?_ | refine below_drewN ?_ _ | refine bset ?_ (by simp <;> omega) _ | refine bal ?_ _)
  · obtain ⟨c', gb, go, ra, rc, e, hu, hp⟩ := HV.out.row (show 0 < g.length by omega)
    obtain ⟨rfl, -, rfl⟩ := Value.slice.inj e
    rw [Nat.add_zero] at hu
    have zu := cell_lt hu
    have zu1 : gb < w.heap.size + 1 := by omega
    have hnI : ((g.length : Int) == 0) = false := beq_eq_false_iff_ne.2 (by omega)
    have hn0 : (0 : Int) < (g.length : Int) := by omega
    have hcol : (g.getD 0 []).length = cols g := rfl
    rw [hcol] at hu
    clear hcol e hp
    obtain ⟨m, hm⟩ : ∃ m, cols g = m := ⟨_, rfl⟩
    rw [hm] at hu
    have HM := Lib.hid hm
    clear hm
    by_cases h1 : m = 0
    · subst h1
      have HEE : Hid (fitsE g = 2) := Lib.hid (by unfold fitsE; rw [if_pos (.inr HM.out)])
      clear HV hl HM
      go_enter Tryd.func17, Tryd.ntmps17
      go_wp2
      refine bodyPost_ret (v := .tuple #[.agg #[.slice none 0 0], .int .i64 2]) (by simp [results, Tryd.results17, go_sem, *]) rfl (newM_no HEE.out (by decide) ?_)
      repeat (first | exact Below.refl _ _ | exact hB | refine Below.drew ?_ | refine below_drewN ?_ _ | refine bset ?_ (by simp <;> omega) _ | refine bal ?_ _)
    · have hmI : ((m : Int) == 0) = false := by simp; omega
      have hne : ¬ (g.length = 0 ∨ cols g = 0) := by rw [HM.out]; omega
      by_cases h2 : 16 < g.length
      · have HEE : Hid (fitsE g = 3) := Lib.hid (by unfold fitsE; rw [if_neg hne, if_pos (.inl h2)])
        have hb1 : (16 : Int) < (g.length : Int) := by omega
        clear HV hl HM hne
        go_enter Tryd.func17, Tryd.ntmps17
        go_wp2
        refine bodyPost_ret (v := .tuple #[.agg #[.slice none 0 0], .int .i64 3]) (by simp [results, Tryd.results17, go_sem, *]) rfl (newM_no HEE.out (by decide) ?_)
        repeat (first | exact Below.refl _ _ | exact hB | refine Below.drew ?_ | refine below_drewN ?_ _ | refine bset ?_ (by simp <;> omega) _ | refine bal ?_ _)
      · have hb1 : ¬ (16 : Int) < (g.length : Int) := by omega
        by_cases h3 : 16 < m
        · have HEE : Hid (fitsE g = 3) := Lib.hid (by unfold fitsE; rw [if_neg hne, if_pos (.inr (by rw [HM.out]; exact h3))])
          have hb2 : (16 : Int) < (m : Int) := by omega
          clear HV hl HM hne
          go_enter Tryd.func17, Tryd.ntmps17
          go_wp2
          refine bodyPost_ret (v := .tuple #[.agg #[.slice none 0 0], .int .i64 3]) (by simp [results, Tryd.results17, go_sem, *]) rfl (newM_no HEE.out (by decide) ?_)
          repeat (first | exact Below.refl _ _ | exact hB | refine Below.drew ?_ | refine below_drewN ?_ _ | refine bset ?_ (by simp <;> omega) _ | refine bal ?_ _)
        · have hb2 : ¬ (16 : Int) < (m : Int) := by omega
          have HE := Lib.hid (show fitsE g = if ∀ i, i < g.length → (g.getD i []).length = m then 0 else 5 from by
            unfold fitsE; rw [if_neg hne, if_neg (by rw [HM.out]; omega), HM.out])
          clear hne hl
          go_enter Tryd.func17, Tryd.ntmps17
          go_wp2
          refine wp_name fun w0 hW0 => ?_
          have hB0 : Below w.heap.size w w0 := by rw [hW0]; repeat (first | exact Below.refl _ _ | exact hB | refine Below.drew ?_ | refine below_drewN ?_ _ | refine bset ?_ (by simp <;> omega) _ | refine bal ?_ _)
          have HR0 := Lib.hid (show VarMx w.heap.size w0 (.slice none 0 0) ∧ VarMx (w.heap.size + 1) w0 (.slice none 0 0) from by
            rw [hW0]
            exact ⟨⟨typ_alloc (typ_fresh rfl), by simp [go_sem], by simp [go_sem]⟩, ⟨typ_fresh (by simp), by simp [go_sem], by simp [go_sem]⟩⟩)
          clear hW0
          go_loopw [31] (fun x wr => ∃ k : Nat, k ≤ g.length ∧ x = .int .i64 k ∧ Below w.heap.size w wr ∧ Hid (VarMx w.heap.size wr (.slice none 0 0) ∧ (∃ rv, VarMx (w.heap.size + 1) wr rv ∧ OwnL 40 (PRow w.heap.size) w wr rv (g.take k))) ∧ Hid (∀ j, j < k → (g.getD j []).length = m)) (fun x _ => g.length - (intOf x).toNat)
          case atStart => exact ⟨0, Nat.zero_le _, rfl, hB0, Lib.hid ⟨HR0.out.1, _, HR0.out.2, OwnL.nil _ _ hB0⟩, Lib.hid (fun j hj => by omega)⟩
          case round =>
            obtain ⟨k, hk, rfl, hBr, hrel, hall⟩ := hrel
            obtain ⟨hR, rv, hM, hO⟩ := hrel.out
            have r0 := hR.c
            have r0f := hR.f
            have zr := cell_lt r0
            by_cases hlt : k < g.length
            · have hltI : (k : Int) < (g.length : Int) := by omega
              obtain ⟨c2, gb2, go2, ra2, rc2, e2, hu2, hp2⟩ := (HV.out.keep (prs_prow 0) hBr).row hlt
              obtain ⟨⟨rfl, rfl⟩, -, rfl⟩ : (gb = gb2 ∧ go = go2) ∧ True ∧ gc = c2 := by
                have := Value.slice.inj e2
                simp at this
                exact ⟨this.1, trivial, this.2⟩
              have hu0 := bkeep hBr hu
              have zu2 := cell_lt hu0
              have zu3 := cell_lt hu2
              obtain ⟨lk, hlk⟩ : ∃ n, (g.getD k []).length = n := ⟨_, rfl⟩
              have HP2 := Lib.hid hp2
              rw [hlk] at hu2 HP2
              have HLK := Lib.hid hlk
              clear e2 hp2 hlk
              by_cases e1 : lk = m
              · subst e1
                have hq1 : ((lk : Int) != (lk : Int)) = false := by simp
                have HAL := Lib.hid (show ∀ j, j < k + 1 → (g.getD j []).length = lk from fun j hj => by
                  by_cases e : j = k
                  · subst e; exact HLK.out
                  · exact hall.out j (by omega))
                have kcl := fun W (h : Below wr.heap.size wr W) => cloneRow_c 0 (.slice ra2 lk rc2) (g.getD k []) W (HP2.out.keep lims_int h) (by rw [HLK.out]; omega)
                have HTK := Lib.hid (take_getD [] hlt)
                obtain ⟨row, hrow⟩ : ∃ row, g.getD k [] = row := ⟨_, rfl⟩
                rw [hrow] at HTK kcl
                clear hrow
                have hlen : (g.take k).length = k := by rw [List.length_take]; omega
                obtain ⟨oa, oc, hrv⟩ := hO.ex
                rw [hlen] at hrv
                subst hrv
                have HMM := Lib.hid hM
                have HRR := Lib.hid hR
                have HOO := Lib.hid hO
                have m0 := hM.c
                have m0f := hM.f
                have zm := cell_lt m0
                have HLEN := Lib.hid hlen
                clear hM hO hR hlen hrel hall
                go_upto_region 11 with (fail)
                have hBw := Below.refl wr.heap.size wr
                go_region_law (first
                  | (refine stepL elRow (prs_prow _) (by decide) (by rfl) (by rfl) (HO5.out.below (prs_prow _) (bal (Below.refl _ _) _)) ((prs_prow _).kp HR5.out (Kp.of_below _ (bal (Below.refl _ _) _))) (by rfl) (by rfl) (cell_new rfl rfl) (by rw [HLEN.out]; omega) (by rw [HLEN.out]; unfold maxLen; omega) ?_; intro v' w8 hO8 hk8; have HO8 := Lib.hid hO8; have HM8 := Lib.hid ((HM5.out.keep (bal (Below.refl _ _) _)).kp hk8 (by decide)); have HR8 := Lib.hid ((HRR5.out.keep (bal (Below.refl _ _) _)).kp hk8 (by decide)); have d4 := HM8.out.c; have df4 := HM8.out.f; have zd4 := cell_lt d4; obtain ⟨a8, c8, hv8⟩ := hO8.ex; rw [List.length_append, HLEN.out] at hv8; subst hv8; clear hO8 hk8)
                  | (go_simp; go_wp2_with (go_at_call 40; refine (kcl _ ?_).mono ?_; (repeat (first | exact Below.refl _ _ | exact hBw | refine Below.drew ?_ | refine below_drewN ?_ _ | refine bset ?_ (by simp <;> omega) _ | refine bal ?_ _)); rintro e w5 ⟨⟨v5, rfl, hr5⟩, hb5⟩; have hB5 : Below wr.heap.size wr w5 := bthen (by repeat (first | exact Below.refl _ _ | exact hBw | refine Below.drew ?_ | refine below_drewN ?_ _ | refine bset ?_ (by simp <;> omega) _ | refine bal ?_ _)) hb5; have hs5 := hB5.size; have HR5 := Lib.hid (show PRow w.heap.size w5 v5 row from hr5.row.rebase (show w.heap.size ≤ _ from hBr.size)); have HM5 := Lib.hid (HMM.out.keep hB5); have HRR5 := Lib.hid (HRR.out.keep hB5); have HO5 := Lib.hid (HOO.out.below (prs_prow _) hB5); have b4 := HM5.out.c; have b4f := HM5.out.f; have zb4 := cell_lt b4; obtain ⟨a5, c5, rfl⟩ := hr5.ex)))
                all_goals
                  have HEND := Lib.hid (show VarMx w.heap.size (w8.setCell ⟨w.heap.size + 1, 0, none⟩ (.slice a8 (k + 1) c8)) (.slice none 0 0) ∧ ∃ rv, VarMx (w.heap.size + 1) (w8.setCell ⟨w.heap.size + 1, 0, none⟩ (.slice a8 (k + 1) c8)) rv ∧ OwnL 40 (PRow w.heap.size) w (w8.setCell ⟨w.heap.size + 1, 0, none⟩ (.slice a8 (k + 1) c8)) rv (g.take (k + 1)) from
                    ⟨HR8.out.far (by show w.heap.size + 1 ≠ w.heap.size; omega) _, _, HM8.out.set _, by rw [HTK.out]; exact HO8.out.set (prs_prow _) HM8.out.ty (by decide) (by decide) (by show w.heap.size ≤ w.heap.size + 1; omega) _⟩)
                  have hB8 := bset HO8.out.bel (p := ⟨w.heap.size + 1, 0, none⟩) (by show w.heap.size ≤ w.heap.size + 1; omega) (.slice a8 (k + 1) c8)
                  go_wp2
                  exact ⟨⟨k + 1, by omega, by go_num, hB8, HEND, HAL⟩, by simp [intOf]; omega⟩
              · have hq1 : ((lk : Int) != (m : Int)) = true := by simp; omega
                have HEE : Hid (fitsE g = 5) := Lib.hid (by rw [HE.out, if_neg (fun h => e1 (by rw [← h k hlt]; exact HLK.out.symm))])
                clear hM hO hR hrel
                go_wp2
                refine bodyPost_ret (v := .tuple #[.agg #[.slice none 0 0], .int .i64 5]) (by simp [results, Tryd.results17, go_sem, *]) rfl (newM_no HEE.out (by decide) ?_)
                repeat (first | exact Below.refl _ _ | exact hBr | refine Below.drew ?_ | refine below_drewN ?_ _ | refine bset ?_ (by simp <;> omega) _ | refine bal ?_ _)
            · obtain rfl : k = g.length := by omega
              rw [List.take_length] at hO
              have HEE : Hid (fitsE g = 0) := Lib.hid (by rw [HE.out, if_pos hall.out])
              have HL := Lib.hid hO.isL
              have m0 := hM.c
              have zm := cell_lt m0
              have HTR := Lib.hid hR.ty
              obtain ⟨oa, oc, rfl⟩ := hO.ex
              have HIM := Lib.hid (show IsM w.heap.size wr (.agg #[.slice oa g.length oc]) g from ⟨oa, oc, rfl, HL.out⟩)
              clear hM hO hR hrel HE
              go_wp2
              refine bodyPost_ret (v := .tuple #[.agg #[.slice oa g.length oc], .int .i64 0]) (by simp [results, Tryd.results17, go_sem, *]) rfl (newM_yes HEE.out (HIM.out.setM HTR.out _) ?_)
              repeat (first | exact Below.refl _ _ | exact hBr | refine Below.drew ?_ | refine below_drewN ?_ _ | refine bset ?_ (by simp <;> omega) _ | refine bal ?_ _)
end Go.Proofs.YthaohpfbengabaaDoor

/- matrix: rows that are written, each in a block of its own; the bits of elimination. -/
namespace Go.Proofs.YthaohpfbengabaaDoor
open Num
open Go.ChangeShapes Go.WideShapes Go.ChangeAt Go.RowKit
set_option linter.unusedVariables false
set_option linter.unusedSimpArgs false
/-- bits behind so many columns -/
def kb (K t : Nat) : Nat := (K + 1) * 2 ^ t - 1
theorem kb_zero (K : Nat) : kb K 0 = K := by unfold kb; simp
theorem kb_pos (K t : Nat) : 1 ≤ (K + 1) * 2 ^ t := Nat.mul_pos (by omega) (Nat.pow_pos (by omega))
theorem kb_succ (K t : Nat) : kb K (t + 1) = kb K t + kb K t + 1 := by
  have := kb_pos K t
  unfold kb
  rw [Nat.pow_succ, ← Nat.mul_assoc]
  generalize (K + 1) * 2 ^ t = x at *
  omega
theorem kb_mono (K : Nat) {s t : Nat} (h : s ≤ t) : kb K s ≤ kb K t := by
  induction t with
  | zero => have : s = 0 := by omega
            subst this; exact Nat.le_refl _
  | succ t ih =>
    by_cases e : s = t + 1
    · subst e; exact Nat.le_refl _
    · have := ih (by omega); rw [kb_succ]; omega
theorem Bd.ediv {k : Nat} {x : Int} (h : Bd k x) (c : Int) : Bd k (x / c) := Nat.lt_of_le_of_lt (Int.natAbs_ediv_le_natAbs x c) h
theorem elR_len (n : Nat) (a : Nat → Nat → Int) (t : Nat) : (Det.elR n a t).p.length ≤ n := by
  obtain ⟨q, h⟩ := Det.inv_all n t a t (Nat.le_refl _); exact h.k
theorem elR_nz (n : Nat) (a : Nat → Nat → Int) (t : Nat) : (Det.elR n a t).last ≠ 0 := by
  obtain ⟨q, h⟩ := Det.inv_all n t a t (Nat.le_refl _); exact h.nz
theorem elR_sgn (n : Nat) (a : Nat → Nat → Int) (t : Nat) : (Det.elR n a t).sign = 1 ∨ (Det.elR n a t).sign = -1 := by
  obtain ⟨q, h⟩ := Det.inv_all n t a t (Nat.le_refl _); exact h.sgn
theorem swp_bd {n m K : Nat} {g : Nat → Nat → Int} {i k : Nat} (hi : i < n) (hk : k < n) (h : ∀ r c, r < n → c < m → Bd K (g r c)) : ∀ r c, r < n → c < m → Bd K (Det.swp g i k r c) := fun r c hr hc => by
  unfold Det.swp; split
  · exact h k c hk hc
  · split
    · exact h i c hi hc
    · exact h r c hr hc
theorem elNew_bd {n m K t : Nat} {g : Nat → Nat → Int} {k j : Nat} {last : Int} (hk : k < n) (hj : j < m) (h : ∀ r c, r < n → c < m → Bd (kb K t) (g r c)) {r c : Nat} (hr : r < n) (hc : c < m) : Bd (kb K (t + 1)) (Det.elNew g k j last r c) := by
  rw [kb_succ]
  unfold Det.elNew
  exact Bd.ediv (Bd.sub (Bd.mul (h k j hk hj) (h r c hr hc)) (Bd.mul (h r j hr hj) (h k c hk hc))) _
theorem elR_bd {n m K : Nat} {a : Nat → Nat → Int} (h1 : 1 ≤ K) (ha : ∀ r c, r < n → c < m → Bd K (a r c)) : ∀ t, t ≤ m → (∀ r c, r < n → c < m → Bd (kb K t) ((Det.elR n a t).g r c)) ∧ Bd (kb K t) (Det.elR n a t).last
  | 0, _ => by
    rw [kb_zero]
    exact ⟨ha, Nat.lt_of_lt_of_le (by decide : (1 : Int).natAbs < 2 ^ 1) (Nat.pow_le_pow_right (by omega) h1)⟩
  | t + 1, ht => by
    obtain ⟨hg, hl⟩ := elR_bd h1 ha t (by omega)
    have hlen := elR_len n a t
    show (∀ r c, r < n → c < m → Bd (kb K (t + 1)) ((Det.elStep n (Det.elR n a t) t).g r c)) ∧ Bd (kb K (t + 1)) (Det.elStep n (Det.elR n a t) t).last
    obtain ⟨s, hs⟩ : ∃ s, Det.elR n a t = s := ⟨_, rfl⟩
    rw [hs] at hg hl hlen ⊢
    have hge := Det.fr_ge s.g t (n - s.p.length) s.p.length
    have up := kb_mono K (show t ≤ t + 1 by omega)
    by_cases e : Det.fr s.g t (n - s.p.length) s.p.length = n
    · unfold Det.elStep
      rw [if_pos e]
      exact ⟨fun r c hr hc => (hg r c hr hc).mono up, hl.mono up⟩
    · have hsw := swp_bd (K := kb K t) (i := Det.fr s.g t (n - s.p.length) s.p.length) (k := s.p.length) (by omega : _ < n) (by omega) hg
      unfold Det.elStep
      rw [if_neg e]
      refine ⟨fun r c hr hc => ?_, ?_⟩
      · dsimp only
        split
        · exact elNew_bd (by omega) (by omega) hsw hr hc
        · exact (hsw r c hr hc).mono up
      · exact (hsw _ _ (by omega) (by omega)).mono up
/-- rows that may be written, each in a block of its own between base and top; their slices lie in the block B -/
structure RowsW (base top B n m : Nat) (w : World) (bs : Nat → Nat) (g : Nat → Nat → Int) : Prop where
  tB : typOf w B = some 40
  lo : base ≤ B
  hi : B < top
  fB : Free w B
  cell : ∀ i, i < n → ∃ c, w.cell? ⟨B, i, none⟩ = some (.slice (some ⟨bs i, 0, none⟩) m c)
  ty : ∀ i, i < n → typOf w (bs i) = some 33
  lob : ∀ i, i < n → base ≤ bs i
  hib : ∀ i, i < n → bs i < top
  fr : ∀ i, i < n → Free w (bs i)
  inj : ∀ i j, i < n → j < n → bs i = bs j → i = j
  num : ∀ i, i < n → IntsF IsInt w (bs i) 0 m (g i)
section
variable {base top B n m : Nat} {w w' : World} {bs : Nat → Nat} {g g' : Nat → Nat → Int}
theorem RowsW.congr (h : RowsW base top B n m w bs g) (e : ∀ r c, r < n → c < m → g r c = g' r c) : RowsW base top B n m w bs g' :=
  ⟨h.tB, h.lo, h.hi, h.fB, h.cell, h.ty, h.lob, h.hib, h.fr, h.inj, fun i hi => (h.num i hi).congr fun k hk => e i k hi hk⟩
theorem RowsW.out {X : Nat → Prop} (h : RowsW base top B n m w bs g) (ho : Out X w w') (hx : ∀ q, base ≤ q → q < top → ¬ X q) (hl : Lim w w') : RowsW base top B n m w' bs g := by
  have bB := hx B h.lo h.hi
  have bi : ∀ i, i < n → ¬ X (bs i) := fun i hi => hx _ (h.lob i hi) (h.hib i hi)
  refine ⟨by rw [typ_of_block (w := w) (ho.block B (typ_lt h.tB) bB)]; exact h.tB, h.lo, h.hi, h.fB.out ho bB, fun i hi => ?_, fun i hi => by rw [typ_of_block (w := w) (ho.block _ (typ_lt (h.ty i hi)) (bi i hi))]; exact h.ty i hi, h.lob, h.hib, fun i hi => (h.fr i hi).out ho (bi i hi), h.inj, fun i hi => (h.num i hi).out lims_int ho (bi i hi) hl⟩
  obtain ⟨c, hc⟩ := h.cell i hi
  exact ⟨c, okeep ho hc bB⟩
theorem RowsW.keep (h : RowsW base top B n m w bs g) (k : Below w.heap.size w w') : RowsW base top B n m w' bs g :=
  h.out (X := fun _ => False) (Out.of_below _ k) (fun _ _ _ hf => hf) (Lim.of_below k)
/-- one number is set -/
theorem RowsW.put (h : RowsW base top B n m w bs g) {i c : Nat} (hi : i < n) (hc : c < m) {nb : Bool} {a : Option Addr} {len cp : Nat} {z : Int} (hv : IsInt w (.agg #[.bool nb, .slice a len cp]) z) :
    RowsW base top B n m ((w.setCell ⟨bs i, c * 2, none⟩ (.bool nb)).setCell ⟨bs i, c * 2 + 1, none⟩ (.slice a len cp)) bs (fun r c' => if r = i ∧ c' = c then z else g r c') := by
  have hne : ∀ j, j < n → j ≠ i → bs i ≠ bs j := fun j hj hji e => hji (h.inj j i hj hi e.symm)
  have hBi : bs i ≠ B := fun e => by
    have h1 := h.ty i hi
    rw [e, h.tB] at h1
    exact absurd (Option.some.inj h1) (by decide)
  refine ⟨by rw [typ_set, typ_set]; exact h.tB, h.lo, h.hi, (h.fB.set _ _).set _ _, fun j hj => ?_, fun j hj => by rw [typ_set, typ_set]; exact h.ty j hj, h.lob, h.hib, fun j hj => ((h.fr j hj).set _ _).set _ _, h.inj, fun j hj => ?_⟩
  · obtain ⟨c0, hc0⟩ := h.cell j hj
    exact ⟨c0, cell_far (cell_far hc0 (addr_ne hBi) _) (addr_ne hBi) _⟩
  · by_cases e : j = i
    · subst e
      refine (IntsF.store0 lims_int (h.num j hj) hc hv).congr fun k hk => ?_
      by_cases e2 : k = c
      · subst e2; simp
      · simp [e2]
    · obtain ⟨nb0, a0, len0, c0, o0, o1, -⟩ := (h.num i hi).at0 hc
      exact (IntsF.far lims_int (h.num j hj) (hne j hj e) o0 o1 _ _).congr fun k hk => by rw [if_neg (fun hh => e hh.1)]
/-- two rows change places -/
theorem RowsW.swap (h : RowsW base top B n m w bs g) {i k : Nat} (hi : i < n) (hk : k < n) {ci ck : Nat} (hci : w.cell? ⟨B, i, none⟩ = some (.slice (some ⟨bs i, 0, none⟩) m ci)) (hck : w.cell? ⟨B, k, none⟩ = some (.slice (some ⟨bs k, 0, none⟩) m ck)) :
    RowsW base top B n m ((w.setCell ⟨B, i, none⟩ (.slice (some ⟨bs k, 0, none⟩) m ck)).setCell ⟨B, k, none⟩ (.slice (some ⟨bs i, 0, none⟩) m ci)) (fun r => if r = k then bs i else if r = i then bs k else bs r) (Det.swp g i k) := by
  have hk0 : Kp (fun t => t ≠ 40) w ((w.setCell ⟨B, i, none⟩ (.slice (some ⟨bs k, 0, none⟩) m ck)).setCell ⟨B, k, none⟩ (.slice (some ⟨bs i, 0, none⟩) m ci)) :=
    (((Kp.refl _ w).set (p := ⟨B, i, none⟩) (fun t ht => by rw [h.tB] at ht; cases ht; exact fun hh => hh rfl) _).set (p := ⟨B, k, none⟩) (fun t ht => by rw [typ_set, h.tB] at ht; cases ht; exact fun hh => hh rfl) _)
  have pick : ∀ r, r < n → ∃ r', r' < n ∧ (if r = k then bs i else if r = i then bs k else bs r) = bs r' ∧ (r' = if r = k then i else if r = i then k else r) := fun r hr => by
    by_cases e1 : r = k
    · exact ⟨i, hi, by rw [if_pos e1], by rw [if_pos e1]⟩
    · by_cases e2 : r = i
      · exact ⟨k, hk, by rw [if_neg e1, if_pos e2], by rw [if_neg e1, if_pos e2]⟩
      · exact ⟨r, hr, by rw [if_neg e1, if_neg e2], by rw [if_neg e1, if_neg e2]⟩
  refine ⟨by rw [typ_set, typ_set]; exact h.tB, h.lo, h.hi, (h.fB.set _ _).set _ _, fun r hr => ?_, fun r hr => ?_, fun r hr => ?_, fun r hr => ?_, fun r hr => ?_, fun r s hr hs e => ?_, fun r hr => ?_⟩
  · by_cases e1 : r = k
    · subst e1
      refine ⟨ci, ?_⟩
      rw [if_pos rfl]
      by_cases e2 : r = i
      · subst e2; exact cell_here (cell_here hci _) _
      · exact cell_here (cell_far hck (by simp <;> omega) _) _
    · by_cases e2 : r = i
      · subst e2
        refine ⟨ck, ?_⟩
        rw [if_neg e1, if_pos rfl]
        exact cell_far (cell_here hci _) (by simp <;> omega) _
      · obtain ⟨c, hc⟩ := h.cell r hr
        refine ⟨c, ?_⟩
        rw [if_neg e1, if_neg e2]
        exact cell_far (cell_far hc (by simp <;> omega) _) (by simp <;> omega) _
  · obtain ⟨r', h1, h2, -⟩ := pick r hr
    rw [h2, typ_set, typ_set]; exact h.ty r' h1
  · obtain ⟨r', h1, h2, -⟩ := pick r hr
    rw [h2]; exact h.lob r' h1
  · obtain ⟨r', h1, h2, -⟩ := pick r hr
    rw [h2]; exact h.hib r' h1
  · obtain ⟨r', h1, h2, -⟩ := pick r hr
    rw [h2]; exact ((h.fr r' h1).set _ _).set _ _
  · obtain ⟨r', h1, h2, h3⟩ := pick r hr
    obtain ⟨s', k1, k2, k3⟩ := pick s hs
    rw [h2, k2] at e
    have := h.inj r' s' h1 k1 e
    rw [h3, k3] at this
    by_cases a1 : r = k <;> by_cases a2 : r = i <;> by_cases a3 : s = k <;> by_cases a4 : s = i <;> simp only [a1, a2, a3, a4, if_true, if_false] at this ⊢ <;> first | omega | (split at this <;> omega)
  · obtain ⟨r', h1, h2, h3⟩ := pick r hr
    rw [h2]
    refine ((h.num r' h1).stay lims_int ?_ (hk0.lim (by decide))).congr fun c hc => ?_
    · exact hk0 _ _ (h.ty r' h1) (by decide)
    · unfold Det.swp
      rw [h3]
      by_cases a1 : r = k <;> by_cases a2 : r = i
      · rw [if_pos a1, if_pos a2]; rw [← a1, ← a2]
      · rw [if_pos a1, if_neg a2, if_pos a1]
      · rw [if_neg a1, if_pos a2, if_pos a2]
      · rw [if_neg a1, if_neg a2, if_neg a2, if_neg a1]
end
/-- a row in a block of its own, told with that block -/
def PRb (base : Nat) (w : World) (u : Value) (x : Nat × List Int) : Prop :=
  ∃ c, u = .slice (some ⟨x.1, 0, none⟩) x.2.length c ∧ base ≤ x.1 ∧ typOf w x.1 = some 33 ∧ Free w x.1 ∧ IntsF IsInt w x.1 0 x.2.length (fun k => x.2.getD k 0)
theorem prs_prb (base : Nat) : Prs (fun t => t = 89 ∨ t = 33) (PRb base) where
  one := fun ⟨c, e, _⟩ => by rw [e]; rfl
  kp := fun {w w' u x} ⟨c, e, hb, ht, hf, hi⟩ k => by
    refine ⟨c, e, hb, k.typ ht (.inr rfl), ?_, hi.stay lims_int (k _ _ ht (.inr rfl)) (k.lim (.inl rfl))⟩
    have hb := k _ _ ht (.inr rfl)
    refine ⟨?_, fun j => by rw [World.frozen?_of_block (w := w) hb]; exact hf.2 j⟩
    have h1 : typOf w' x.1 = some 33 := k.typ ht (.inr rfl)
    exact typ_lt h1
theorem RowO.prb {base : Nat} {w : World} {v : Value} {l : List Int} (h : RowO IsInt 33 base w v l) (hl : 0 < l.length) : ∃ b, PRb base w v (b, l) := by
  obtain ⟨xs, ⟨hlen, h1⟩, h2⟩ := h
  rcases h1 with ⟨rfl, h0⟩ | ⟨g, cap, cur, rfl, hg, hh, hc, hm, hs, ht⟩
  · omega
  · have hty : typOf w g = some 33 := by unfold typOf; rw [hh]
    refine ⟨g, cap, rfl, hg, hty, ⟨typ_lt hty, fun j => by simp [World.frozen?, hh]⟩, fun k hk => ?_⟩
    obtain ⟨nb, a, len, c, k1, k2, k3⟩ := h2 k hk
    have cel : ∀ j u, xs[j]? = some u → w.cell? ⟨g, j, none⟩ = some u := fun j u hj => by
      have hj2 : j < l.length * 2 := by have := (List.getElem?_eq_some_iff.1 hj).1; omega
      rw [← ht, List.getElem?_take_of_lt (by omega)] at hj
      simpa [World.cell?, hh] using hj
    exact ⟨nb, a, len, c, by rw [Nat.zero_add]; exact cel _ _ k1, by rw [Nat.zero_add]; exact cel _ _ k2, k3⟩
/-- small numbers in a list -/
def PInt (w : World) (u : Value) (x : Nat) : Prop := u = .int .i64 (x : Nat)
theorem prs_pint : Prs (fun _ => False) PInt := ⟨fun h => by cases h; rfl, fun h _ => h⟩
end Go.Proofs.YthaohpfbengabaaDoor

/- slices.Grow, slices.Concat at rows of numbers. -/
namespace Go.Proofs.YthaohpfbengabaaDoor
open Num
open Go.ChangeShapes Go.WideShapes Go.ChangeAt Go.RowKit
set_option linter.unusedVariables false
set_option linter.unusedSimpArgs false
attribute [local go_sem ↓] Go.wp_at_zero Go.wp_at_succ
theorem app_lt2 {L l : List Int} {k : Nat} (h : k < L.length) : (L ++ l).getD k 0 = L.getD k 0 := by simp [List.getD_eq_getElem?_getD, List.getElem?_append, h]
theorem app_ge2 {L l : List Int} {k : Nat} (h : L.length ≤ k) : (L ++ l).getD k 0 = l.getD (k - L.length) 0 := by
  simp [List.getD_eq_getElem?_getD, List.getElem?_append_right h]
/-- a row is appended to a row of the call's own -/
theorem app_cat {ops : Array Oper} {rest : List Oper} {o : Oper} {a : Act} {Q : Exit → Act → World → Prop} {w0 wr : World} {v : Value} {L l : List Int} {b off c : Nat} {s x : Operand} (hgd : o.guard = none)
    (ho : o.op = .call { callee := .builtin .append, args := #[s, x], argTypes := #[40, 40] })
    (hO : OwnF IsInt 33 w0 wr v L.length (fun k => L.getD k 0)) (hl : IntsF IsInt wr b off l.length (fun k => l.getD k 0)) (hs : a.eval s = v) (hx : a.eval x = .slice (some ⟨b, off, none⟩) l.length c) (hn : L.length + l.length ≤ 1099511627776)
    (h : ∀ v' w', Hid (OwnF IsInt 33 w0 w' v' (L ++ l).length (fun k => (L ++ l).getD k 0)) → wpList Tryd.prog ops Q rest (a.put o.dst v') w') : wpList Tryd.prog ops Q (o :: rest) a wr := by
  obtain ⟨i0, z0, hi, hz0, hz1, hz2, hz3⟩ := elInt.info
  obtain ⟨xs, hO1, hO2⟩ := hO
  refine wpList_append_own _ hgd s x 40 ho w0.heap.size 33 i0 z0 2 32 Tryd.underlying40 hi hz0 hz1 hz2 hz3 (by decide) v L.length xs hs hO1.1 ⟨b, off, none⟩ l.length c (cellsAt wr b off (l.length * 2)) hx (cellsAt_len _ _ _ _)
    (cellsAt_at (Below.refl _ _) fun j hj => by obtain ⟨v, hv, _⟩ := intsF_cells hl j hj; exact ⟨v, hv⟩) (cellsAt_all (intsF_cells hl)) (by unfold maxLen; omega) (by omega) hO1.2.size ?_
  intro v' w' hown hg _
  have hbel := below_append (wr := wr) hO1.2 hO1.1 hg
  have hlim : Lim wr w' := (Lim.refl wr).grown hg fun g hg' ht => by
    rw [own_typ hO1 hg'] at ht
    exact absurd (Option.some.inj ht) (by decide)
  refine h v' w' (Lib.hid ⟨_, ⟨by rw [List.length_append]; exact hown, hbel⟩, fun k hk => ?_⟩)
  have hxl : xs.length = L.length * 2 := hO1.1.1
  rw [List.length_append] at hk
  by_cases e : k < L.length
  · obtain ⟨nb, ad, len, cp, k1, k2, k3⟩ := hO2 k e
    exact ⟨nb, ad, len, cp, by rw [List.getElem?_append_left (by omega)]; exact k1, by rw [List.getElem?_append_left (by omega)]; exact k2, by show IsInt _ _ ((L ++ l).getD k 0); rw [app_lt2 e]; exact lims_int _ _ _ _ k3 hlim⟩
  · obtain ⟨nb, ad, len, cp, k1, k2, k3⟩ := hl (k - L.length) (by omega)
    refine ⟨nb, ad, len, cp, ?_, ?_, by show IsInt _ _ ((L ++ l).getD k 0); rw [app_ge2 (by omega)]; exact lims_int _ _ _ _ k3 hlim⟩
    · rw [List.getElem?_append_right (by omega), hxl, show k * 2 - L.length * 2 = (k - L.length) * 2 by omega]; exact cellsAt_get (by omega) k1
    · rw [List.getElem?_append_right (by omega), hxl, show k * 2 + 1 - L.length * 2 = (k - L.length) * 2 + 1 by omega]; exact cellsAt_get (by omega) k2
set_option maxRecDepth 100000 in
set_option maxHeartbeats 2000000 in
theorem grow_c (n : Nat) (w : World) (h0 : 0 < n) (hn : n ≤ 1099511627776) :
    Calls Tryd.prog 100 #[.slice none 0 0, .int .i64 (n : Nat)] w fun e w' => (∃ v, e = .returned v ∧ ∀ base, base ≤ w.heap.size → w'.ownsRow base 33 2 v 0 []) ∧ Below w.heap.size w w' := by
  obtain ⟨i0, z0, hi, hz0, hz1, hz2, hz3⟩ := elInt.info
  have hB := Below.refl w.heap.size w
  have hr := fun ty => Lib.run_append_nil_zeros w 40 3 ty 33 i0 z0 .i64 .i64 Tryd.underlying40 Tryd.underlying3 hi hz0 n h0 (by omega) (by omega) (by rw [hz2]; omega)
  have h1 : ¬ ((n : Int) < 0) := by omega
  have h2 : (0 : Int) < (n : Int) := by omega
  have hcap : n ≤ grownCap w n 0 33 := grownCap_ge _ _ _ _
  have hcm : grownCap w n 0 33 ≤ maxLen := grownCap_le_maxLen _ _ _ _ (by unfold maxLen; omega)
  obtain ⟨G, hG⟩ : ∃ G, grownCap w n 0 33 = G := ⟨_, rfl⟩
  rw [hG] at hcap hcm hr
  have HO := Lib.hid (show ∀ base, base ≤ w.heap.size → (w.drew.alloc (.cells (Builtin.zeroCells z0.cells n ++ Builtin.zeroCells z0.cells (G - n)) 33)).ownsRow base 33 2 (.slice (some ⟨w.heap.size, 0, none⟩) 0 G) 0 [] from fun base hb =>
    ⟨rfl, .inr ⟨w.heap.size, G, _, rfl, hb, (MapKept.heap_alloc w.drew _).1, Nat.zero_le _, hcm, by rw [Array.size_append, size_zeroCells, size_zeroCells, hz3, ← Nat.add_mul]; congr 1; omega, rfl⟩⟩)
  have hBa : Below w.heap.size w (w.drew.alloc (.cells (Builtin.zeroCells z0.cells n ++ Builtin.zeroCells z0.cells (G - n)) 33)) := bal (Below.refl _ _).drew _
  obtain ⟨wz, hwz⟩ : ∃ wz, (w.drew.alloc (.cells (Builtin.zeroCells z0.cells n ++ Builtin.zeroCells z0.cells (G - n)) 33)) = wz := ⟨_, rfl⟩
  rw [hwz] at HO hBa hr
  have hG0 : (0 : Int) ≤ (G : Int) := by omega
  have HR := Lib.hid hr
  clear hr hwz hG hi hz0 hz1 hz2 hz3
  go_enter Tryd.func100, Tryd.ntmps100
  go_wp2_with (at_builtin; refine Lib.wpList_append_run _ (by rfl) _ _ 40 3 rfl _ _ rfl rfl _ _ (HR.out _) ?_)
  try go_wp2
  go_ret
  exact ⟨⟨_, rfl, HO.out⟩, hBa⟩
/-- a row in memory, not nil -/
def PSl (w : World) (u : Value) (l : List Int) : Prop := ∃ b off c, u = .slice (some ⟨b, off, none⟩) l.length c ∧ typOf w b = some 33 ∧ IntsF IsInt w b off l.length (fun k => l.getD k 0)
theorem prs_psl : Prs (fun t => t = 89 ∨ t = 33) PSl where
  one := fun ⟨b, off, c, e, _⟩ => by rw [e]; rfl
  kp := fun {w w' u x} ⟨b, off, c, e, ht, hi⟩ k => ⟨b, off, c, e, k.typ ht (.inr rfl), hi.stay lims_int (k _ _ ht (.inr rfl)) (k.lim (.inl rfl))⟩
theorem IsL.psl {w : World} {v : Value} {g : Grid} (h : IsL 40 PSl 0 w v g) {i : Nat} (hi : i < g.length) :
    ∃ c gb go rb ro rc, v = .slice (some ⟨gb, go, none⟩) g.length c ∧ w.cell? ⟨gb, go + i, none⟩ = some (.slice (some ⟨rb, ro, none⟩) (g.getD i []).length rc) ∧ IntsF IsInt w rb ro (g.getD i []).length (fun k => (g.getD i []).getD k 0) := by
  obtain ⟨a, c, e, _, hv⟩ := h.view
  obtain ⟨gb, go, u, rfl, hu, hr⟩ := hv i hi
  have e2 : g[i] = g.getD i [] := by simp [hi]
  rw [e2] at hr
  obtain ⟨rb, ro, rc, rfl, _, h3⟩ := hr
  exact ⟨c, gb, go, rb, ro, rc, e, hu, h3⟩
theorem flat_take {g : Grid} {i : Nat} (hi : i < g.length) : (g.take (i + 1)).flatten = (g.take i).flatten ++ g.getD i [] := by
  rw [take_getD [] hi, List.flatten_append]; simp
theorem flat_le (g : Grid) (i : Nat) : (g.take i).flatten.length ≤ g.flatten.length := by
  conv => rhs; rw [← List.take_append_drop i g, List.flatten_append, List.length_append]
  omega
set_option maxRecDepth 100000 in
set_option maxHeartbeats 4000000 in
theorem concat_c (v : Value) (g : Grid) (w : World) (hv : IsL 40 PSl 0 w v g) (h0 : 0 < g.flatten.length) (hn : g.flatten.length ≤ 1099511627776) (hg : g.length ≤ 1099511627776) :
    Calls Tryd.prog 88 #[v] w fun e w' => (∃ v', e = .returned v' ∧ RowO IsInt 33 w.heap.size w' v' g.flatten) ∧ Below w.heap.size w w' := by
  have HV := Lib.hid hv
  obtain ⟨va, vc, rfl, -⟩ : ∃ a c, v = .slice a g.length c ∧ True := by obtain ⟨a, c, e, _⟩ := hv.view; exact ⟨a, c, e, trivial⟩
  have HF := Lib.hid (fun i => flat_le g i)
  have hB := Below.refl w.heap.size w
  clear hv
  go_enter Tryd.func88, Tryd.ntmps88
  go_wp2
  go_loopw [3, 11] (fun s x wr => ∃ i : Nat, i ≤ g.length ∧ x = .int .i64 i ∧ s = .int .i64 ((g.take i).flatten.length : Nat) ∧ Below w.heap.size w wr) (fun _ x _ => g.length - (intOf x).toNat)
  case atStart => exact ⟨0, Nat.zero_le _, rfl, by simp, hB⟩
  case round =>
    obtain ⟨i, hi, rfl, rfl, hBr⟩ := hrel
    by_cases hlt : i < g.length
    · have hltI : (i : Int) < (g.length : Int) := by omega
      obtain ⟨c', gb, go, rb, ro, rc, e2, hu, -⟩ := (HV.out.keep prs_psl hBr).psl hlt
      obtain ⟨rfl, -, rfl⟩ := Value.slice.inj e2
      have HS := Lib.hid (flat_take hlt)
      have hS1 := HF.out (i + 1)
      rw [HS.out, List.length_append] at hS1
      obtain ⟨S, hSE⟩ : ∃ S, (g.take i).flatten.length = S := ⟨_, rfl⟩
      obtain ⟨m, hm⟩ : ∃ m, (g.getD i []).length = m := ⟨_, rfl⟩
      have HT := Lib.hid (show (g.take (i + 1)).flatten.length = S + m by rw [HS.out, List.length_append, hSE, hm])
      rw [hSE, hm] at hS1
      rw [hSE]
      rw [hm] at hu
      have hw : wrap64 ((S : Int) + (m : Int)) = (S : Int) + (m : Int) := by unfold wrap64; omega
      have hnn : ¬ ((S : Int) + (m : Int) < 0) := by omega
      have zu := cell_lt hu
      clear hSE hm e2 HS
      go_wp2
      exact ⟨⟨i + 1, by omega, by go_num, by rw [HT.out]; go_num, hBr⟩, by simp [intOf]; omega⟩
    · obtain rfl : i = g.length := by omega
      have hltI : ¬ (g.length : Int) < (g.length : Int) := by omega
      rw [List.take_length]
      obtain ⟨N, hN⟩ : ∃ N, g.flatten.length = N := ⟨_, rfl⟩
      rw [hN] at h0 hn ⊢
      have HN := Lib.hid hN
      have gc := fun W => grow_c N W h0 hn
      clear hN
      have hBw := Below.refl wr.heap.size wr
      go_wp2_with fail
      refine (gc _).mono ?_
      rintro e w2 ⟨⟨v2, rfl, ho2⟩, hb2⟩
      have hb2' := bthen hBr (bthen (by repeat (first | exact Below.refl _ _ | exact hBw | refine Below.drew ?_ | refine below_drewN ?_ _ | refine bset ?_ (by simp <;> omega) _ | refine bal ?_ _)) hb2)
      have HO2 := Lib.hid (show OwnF IsInt 33 w w2 v2 ([] : List Int).length (fun k => ([] : List Int).getD k 0) from ⟨[], ⟨ho2 _ hBr.size, hb2'⟩, fun k hk => absurd hk (by simp)⟩)
      clear ho2 gc hb2 hBw
      go_wp2
      go_loopw [6, 27] (fun v x wr => ∃ i : Nat, i ≤ g.length ∧ x = .int .i64 i ∧ Hid (OwnF IsInt 33 w wr v (g.take i).flatten.length (fun k => (g.take i).flatten.getD k 0))) (fun _ x _ => g.length - (intOf x).toNat)
      case atStart => exact ⟨0, Nat.zero_le _, rfl, HO2⟩
      case round =>
        rename World => wq
        obtain ⟨i, hi, rfl, hO⟩ := hrel
        by_cases hlt : i < g.length
        · have hltI : (i : Int) < (g.length : Int) := by omega
          have hBq := hO.out.bel
          obtain ⟨c', gb, go, rb, ro, rc, e2, hu, hI⟩ := (HV.out.keep prs_psl hBq).psl hlt
          obtain ⟨rfl, -, rfl⟩ := Value.slice.inj e2
          have hS1 := HF.out (i + 1)
          have HS := Lib.hid (flat_take hlt)
          rw [HS.out, List.length_append, HN.out] at hS1
          obtain ⟨L, hL⟩ : ∃ L, (g.take i).flatten = L := ⟨_, rfl⟩
          obtain ⟨l, hl⟩ : ∃ l, g.getD i [] = l := ⟨_, rfl⟩
          rw [hL] at hO HS hS1
          rw [hl] at HS hS1 hu hI
          have HI := Lib.hid hI
          have zu := cell_lt hu
          obtain ⟨oa, oc, hov⟩ : ∃ a c, _ = Value.slice a L.length c := by obtain ⟨a, c, h, _⟩ := hO.out.view; exact ⟨a, c, h⟩
          subst hov
          clear hL hl e2 hI
          go_wp2_with (at_builtin; refine app_cat (by rfl) (by rfl) hO.out HI.out (by rfl) (by rfl) (by omega) ?_)
          intro v' w8 HO7
          have HO8 := Lib.hid (show OwnF IsInt 33 w w8 v' (L ++ l).length (fun k => (L ++ l).getD k 0) from by rw [List.length_append]; exact HO7.out)
          rw [← HS.out] at HO8
          clear HO7
          go_wp2
          exact ⟨⟨i + 1, by omega, by go_num, HO8⟩, by simp [intOf]; omega⟩
        · obtain rfl : i = g.length := by omega
          rw [List.take_length] at hO
          have hBq := hO.out.bel
          have HR := Lib.hid (OwnF.rowO (w0 := w) hO.out)
          obtain ⟨oa, oc, hov⟩ : ∃ a c, _ = Value.slice a g.flatten.length c := by obtain ⟨a, c, h, _⟩ := hO.out.view; exact ⟨a, c, h⟩
          subst hov
          clear hO
          go_wp2
          go_ret
          exact ⟨⟨_, rfl, HR.out⟩, hBq⟩
end Go.Proofs.YthaohpfbengabaaDoor

/- integer: Abs's value; Gcd. -/
namespace Go.Proofs.YthaohpfbengabaaDoor
open Num
open Go.ChangeShapes Go.WideShapes Go.ChangeAt Go.RowKit
set_option linter.unusedVariables false
set_option linter.unusedSimpArgs false
attribute [local go_sem ↓] Go.wp_at_zero Go.wp_at_succ
/-- what divides both -/
def gcdI (x y : Int) : Int := (Nat.gcd x.natAbs y.natAbs : Nat)
theorem gcdI_bd {k : Nat} {x y : Int} (hx : Bd k x) (hy : Bd k y) : Bd k (gcdI x y) := by
  unfold Bd gcdI at *
  rw [Int.natAbs_natCast]
  by_cases h : x.natAbs = 0
  · rw [h, Nat.gcd_zero_left]; exact hy
  · exact Nat.lt_of_le_of_lt (Nat.gcd_le_left _ (by omega)) hx
theorem gcd_step (m n : Nat) : Nat.gcd n (m % n) = Nat.gcd m n := by
  rw [Nat.gcd_comm n (m % n), ← Nat.gcd_rec n m, Nat.gcd_comm]
/-- what divides all -/
def contL (l : List Int) : Int := l.foldl gcdI 0
theorem contL_snoc (l : List Int) (x : Int) : contL (l ++ [x]) = gcdI (contL l) x := by simp [contL]
theorem contL_take {l : List Int} {j : Nat} (hj : j < l.length) : contL (l.take (j + 1)) = gcdI (contL (l.take j)) (l.getD j 0) := by
  rw [List.take_succ_eq_append_getElem hj, contL_snoc]; simp [hj]
theorem gcdI_one (x : Int) : gcdI 1 x = 1 := by
  unfold gcdI; rw [show (1 : Int).natAbs = 1 from rfl, Nat.gcd_one_left]; rfl
theorem foldl_one (l : List Int) : l.foldl gcdI 1 = 1 := by
  induction l with
  | nil => rfl
  | cons x l ih => rw [List.foldl_cons, gcdI_one]; exact ih
theorem contL_one {l : List Int} {j : Nat} (h : contL (l.take j) = 1) : contL l = 1 := by
  unfold contL at *
  rw [← List.take_append_drop j l, List.foldl_append, h, foldl_one]
theorem contL_bd {l : List Int} {k : Nat} (h : ∀ j, Bd k (l.getD j 0)) : ∀ j, j ≤ l.length → Bd k (contL (l.take j)) := by
  intro j
  induction j with
  | zero => intro _; exact Nat.pow_pos (by omega)
  | succ j ih =>
    intro hj
    rw [contL_take (by omega)]
    exact gcdI_bd (ih (by omega)) (h j)
theorem tcell {W w1 : World} (hb : Below W.heap.size W w1) : ∀ b, b < W.heap.size → typOf w1 b = typOf W b := fun b h => typ_of_block (hb.block b h)
theorem typ_alloc_lt {w : World} {o : Obj} {b : Nat} (h : b < w.heap.size) : typOf (w.alloc o) b = typOf w b := typ_of_block ((bal (Below.refl _ _) o).block b h)
theorem typ_alloc_eq {w : World} {c : Array Value} {t : TypeId} {b : Nat} (h : b = w.heap.size) : typOf (w.alloc (.cells c t)) b = some t := typ_fresh h
theorem typ_drew (w : World) (b : Nat) : typOf w.drew b = typOf w b := rfl
theorem VarI.far {ub vb : Nat} {z m : Int} {W : World} (h : VarI ub m W) (k : VarI vb z W) (hne : ub ≠ vb) (x : Bool) (y : Option Addr) (p q : Nat) : VarI ub m ((W.setCell ⟨vb, 0, none⟩ (.bool x)).setCell ⟨vb, 1, none⟩ (.slice y p q)) := by
  obtain ⟨ht, n, a, ln, c, h0, h1, f0, f1, hi⟩ := h
  obtain ⟨-, n', a', ln', c', k0, k1, -, -, -⟩ := k
  exact ⟨by rw [typ_set, typ_set]; exact ht, n, a, ln, c, cell_far (cell_far h0 (addr_ne (Ne.symm hne)) _) (addr_ne (Ne.symm hne)) _, cell_far (cell_far h1 (addr_ne (Ne.symm hne)) _) (addr_ne (Ne.symm hne)) _, by rw [World.frozen?_setCell, World.frozen?_setCell]; exact f0, by rw [World.frozen?_setCell, World.frozen?_setCell]; exact f1, hi.put2 k0 k1 _ _⟩
theorem cell_far2 {W : World} {q o vb : Nat} {v : Value} (h : W.cell? ⟨q, o, none⟩ = some v) (hne : ¬ vb = q) (x : Bool) (y : Option Addr) (p r : Nat) : ((W.setCell ⟨vb, 0, none⟩ (.bool x)).setCell ⟨vb, 1, none⟩ (.slice y p r)).cell? ⟨q, o, none⟩ = some v :=
  cell_far (cell_far h (addr_ne hne) _) (addr_ne hne) _
set_option maxRecDepth 100000 in
set_option maxHeartbeats 1000000 in
theorem made_f (a : Option Addr) (ca k : Nat) (w : World) :
    Calls Tryd.prog 41 #[.bool false, .slice a k ca] w fun e w' => e = .returned (.agg #[.bool false, .slice a k ca]) ∧ Below w.heap.size w w' := by
  go_enter Tryd.func41, Tryd.ntmps41
  go_wp2
  refine bodyPost_ret (v := .agg #[.bool false, .slice a k ca]) (by simp [results, Tryd.results41, go_sem, *]) rfl ⟨rfl, ?_⟩
  repeat (first | exact Below.refl _ _ | exact Below.refl _ _ | refine Below.drew ?_ | refine below_drewN ?_ _ | refine bset ?_ (by simp <;> omega) _ | refine bal ?_ _)
set_option maxRecDepth 100000 in
set_option maxHeartbeats 2000000 in
theorem abs_v (n : Bool) (a : Option Addr) (c k : Nat) (w : World) :
    Calls Tryd.prog 89 #[.agg #[.bool n, .slice a k c]] w fun e w' => e = .returned (.agg #[.bool false, .slice a k c]) ∧ Below w.heap.size w w' := by
  have mc := fun W => made_f a c k W
  have hB0 := Below.refl w.heap.size w
  go_enter Tryd.func89, Tryd.ntmps89
  go_wp2_with fail
  refine (mc _).mono ?_
  rintro e w1 ⟨rfl, hb1⟩
  have r0 : w1.cell? ⟨w.heap.size + 1, 0, none⟩ = some (.bool false) := bkc hb1
  have zr0 := cell_lt r0
  have r0f : w1.frozen? ⟨w.heap.size + 1, 0, none⟩ = false := bkcf (v := .bool false) hb1
  have r1 : w1.cell? ⟨w.heap.size + 1, 1, none⟩ = some (.slice none 0 0) := bkc hb1
  have r1f : w1.frozen? ⟨w.heap.size + 1, 1, none⟩ = false := bkcf (v := .slice none 0 0) hb1
  have hB : Below w.heap.size w w1 := bthen (by repeat (first | exact Below.refl _ _ | exact hB | refine Below.drew ?_ | refine below_drewN ?_ _ | refine bset ?_ (by simp <;> omega) _ | refine bal ?_ _)) hb1
  have hz : w.heap.size ≤ w1.heap.size := hB.size
  go_wp2
  refine bodyPost_ret (v := .agg #[.bool false, .slice a k c]) (by simp [results, Tryd.results89, go_sem, *]) rfl ⟨rfl, ?_⟩
  repeat (first | exact Below.refl _ _ | exact hB | refine Below.drew ?_ | refine below_drewN ?_ _ | refine bset ?_ (by simp <;> omega) _ | refine bal ?_ _)
theorem IsInt.abs {w : World} {n : Bool} {a : Option Addr} {k c : Nat} {x : Int} (h : IsInt w (.agg #[.bool n, .slice a k c]) x) : IsInt w (.agg #[.bool false, .slice a k c]) (x.natAbs : Int) := by
  obtain ⟨n1, a1, c1, l1, e, u1, g1, s1, rfl⟩ := h
  unfold iv at e
  cases e
  exact ⟨false, a, c, l1, rfl, u1, g1, fun h => (by cases h), by rw [sg_abs]; rfl⟩
set_option maxRecDepth 100000 in
set_option maxHeartbeats 16000000 in
theorem gcdI_c (vx vy : Value) (x y : Int) (k : Nat) (w : World) (hx : IsInt w vx x) (hy : IsInt w vy y) (bx : Bd k x) (by' : Bd k y) (hk : k ≤ 17179869184) :
    Calls Tryd.prog 64 #[vx, vy] w fun e w' => (∃ u, e = .returned u ∧ IsInt w' u (gcdI x y)) ∧ Below w.heap.size w w' := by
  have HX := Lib.hid hx
  have HY := Lib.hid hy
  obtain ⟨nx, ax, cx, lx, rfl, -⟩ := hx
  obtain ⟨ny, ay, cy, ly, rfl, -⟩ := hy
  unfold iv at *
  obtain ⟨kx, hkx⟩ : ∃ m, lx.length = m := ⟨_, rfl⟩
  obtain ⟨ky, hky⟩ : ∃ m, ly.length = m := ⟨_, rfl⟩
  rw [hkx] at HX ⊢
  rw [hky] at HY ⊢
  clear hkx hky
  have HA := Lib.hid HX.out.abs
  have HB := Lib.hid HY.out.abs
  have HBD := Lib.hid (show x.natAbs < 2 ^ k ∧ y.natAbs < 2 ^ k from ⟨bx, by'⟩)
  unfold gcdI
  clear HX HY bx by'
  obtain ⟨m, hm⟩ : ∃ m, x.natAbs = m := ⟨_, rfl⟩
  obtain ⟨n, hn⟩ : ∃ n, y.natAbs = n := ⟨_, rfl⟩
  rw [hm] at HA HBD ⊢
  rw [hn] at HB HBD ⊢
  clear hm hn
  have hB := Below.refl w.heap.size w
  go_enter Tryd.func64, Tryd.ntmps64
  go_wp2
  refine wp_name fun w1 hW1 => ?_
  have hB1 : Below w.heap.size w w1 := by rw [hW1]; repeat (first | exact Below.refl _ _ | exact hB | refine Below.drew ?_ | refine below_drewN ?_ _ | refine bset ?_ (by simp <;> omega) _ | refine bal ?_ _)
  have hX1 : w1.cell? ⟨w.heap.size, 0, none⟩ = some (.bool nx) ∧ w1.cell? ⟨w.heap.size, 1, none⟩ = some (.slice ax kx cx) ∧ w1.cell? ⟨w.heap.size + 1, 0, none⟩ = some (.bool ny) ∧ w1.cell? ⟨w.heap.size + 1, 1, none⟩ = some (.slice ay ky cy) := by rw [hW1]; simp [go_sem]
  have HR1 := Lib.hid (show w1.cell? ⟨w.heap.size + 1 + 1, 0, none⟩ = some (.bool false) ∧ w1.cell? ⟨w.heap.size + 1 + 1, 1, none⟩ = some (.slice none 0 0) ∧ w1.frozen? ⟨w.heap.size + 1 + 1, 0, none⟩ = false ∧ w1.frozen? ⟨w.heap.size + 1 + 1, 1, none⟩ = false ∧ typOf w1 (w.heap.size + 1 + 1) = some 33 from by rw [hW1]; simp [go_sem]; exact typ_fresh (by simp))
  clear hW1
  obtain ⟨x0, x1, y0, y1⟩ := hX1
  have zx := cell_lt x0
  have zy := cell_lt y0
  have av := fun W => abs_v nx ax cx kx W
  have bv := fun W => abs_v ny ay cy ky W
  go_step3
  go_upto_region 1 with (fail)
  go_cut [5, 6] (fun s5 s6 wx => ∃ ab bb, s5 = .pointer (some ⟨ab, 0, none⟩) ∧ s6 = .pointer (some ⟨bb, 0, none⟩) ∧ ab ≠ bb ∧ w1.heap.size ≤ ab ∧ w1.heap.size ≤ bb ∧ Hid (VarI ab m wx) ∧ Hid (VarI bb n wx) ∧ Below w1.heap.size w1 wx)
  case first =>
    have hBj := Below.refl w1.heap.size w1
    have HS := Lib.hid (show ∀ W, Below w1.heap.size w1 W → W.cell? ⟨w.heap.size, 0, none⟩ = some (.bool nx) ∧ W.cell? ⟨w.heap.size, 1, none⟩ = some (.slice ax kx cx) ∧ W.cell? ⟨w.heap.size + 1, 0, none⟩ = some (.bool ny) ∧ W.cell? ⟨w.heap.size + 1, 1, none⟩ = some (.slice ay ky cy) from fun W q => ⟨bkeep q x0, bkeep q x1, bkeep q y0, bkeep q y1⟩)
    go_region_held3 (fun W => W.cell? ⟨w.heap.size, 0, none⟩ = some (.bool nx) ∧ W.cell? ⟨w.heap.size, 1, none⟩ = some (.slice ax kx cx) ∧ W.cell? ⟨w.heap.size + 1, 0, none⟩ = some (.bool ny) ∧ W.cell? ⟨w.heap.size + 1, 1, none⟩ = some (.slice ay ky cy))
      (first | (refine HS.out _ ?_; (repeat' (first | exact Below.refl _ _ | exact hBj | refine Below.drew ?_ | refine below_drewN ?_ _ | refine bal ?_ _ | refine bset ?_ ?_ _ | exact hla1 | exact Nat.le_trans hla1 (Nat.le_succ _) | exact hla2 | exact Nat.le_trans hla2 (Nat.le_succ _) | exact Nat.le_refl _ | exact Nat.le_succ _)); done) | fail)
      (first
      | (go_at_call 89; (with_reducible show Calls _ _ #[.agg #[.bool nx, _]] _ _); refine (av _).mono ?_; rintro e w11 ⟨rfl, hb11⟩; (have hBd : Below w1.heap.size w1 w11 := bthen (by repeat (first | exact Below.refl _ _ | exact hBj | refine Below.drew ?_ | refine below_drewN ?_ _ | refine bset ?_ (by simp <;> omega) _ | refine bal ?_ _)) hb11; clear hBj; have hBj := hBd; clear hBd); have hc11 := (bcell hb11).1; have hf11 := (bcell hb11).2; have ht11 := tcell hb11; have hla1 := hBj.size; have hs11 := hb11.size; (try simp [go_sem] at hs11); (try have qa : w1.heap.size < w11.heap.size := by omega); (try have qb : w1.heap.size + 1 < w11.heap.size := by omega); have zy11 := Nat.lt_of_lt_of_le zy hBj.size; have zy12 := Nat.lt_of_lt_of_le zx hBj.size)
      | (go_at_call 89; (with_reducible show Calls _ _ #[.agg #[.bool ny, _]] _ _); refine (bv _).mono ?_; rintro e w12 ⟨rfl, hb12⟩; (have hBd : Below w1.heap.size w1 w12 := bthen (by repeat (first | exact Below.refl _ _ | exact hBj | refine Below.drew ?_ | refine below_drewN ?_ _ | refine bset ?_ (by simp <;> omega) _ | refine bal ?_ _)) hb12; clear hBj; have hBj := hBd; clear hBd); have hc12 := (bcell hb12).1; have hf12 := (bcell hb12).2; have ht12 := tcell hb12; have hla2 := hBj.size; have hs12 := hb12.size; (try simp [go_sem] at hs12); (try have qc : w11.heap.size < w12.heap.size := by omega); (try have qd : w11.heap.size + 1 < w12.heap.size := by omega); (try have qe : w1.heap.size < w12.heap.size := by omega); (try have qf : w1.heap.size + 1 < w12.heap.size := by omega))
      | fail)
    all_goals
      go_wp2_with fail
      go_meet
      refine (fun hbx => ⟨_, _, rfl, rfl, by omega, by omega, by omega, Lib.hid ⟨?_, false, ax, kx, cx, ?_, ?_, ?_, ?_, HA.out.keep (bthen hB1 hbx)⟩, Lib.hid ⟨?_, false, ay, ky, cy, ?_, ?_, ?_, ?_, HB.out.keep (bthen hB1 hbx)⟩, hbx⟩ : Below w1.heap.size w1 _ → _) ?_
      all_goals first
        | (simp (disch := (first | (simp; done) | (simp; omega) | omega)) only [typ_set, typ_alloc_eq, typ_alloc_lt, ht12, ht11, typ_drew]; done)
        | (simp [go_sem, *]; done)
        | ((repeat' (first | exact Below.refl _ _ | exact hBj | refine Below.drew ?_ | refine below_drewN ?_ _ | refine bal ?_ _ | refine bset ?_ ?_ _ | exact hla1 | exact Nat.le_trans hla1 (Nat.le_succ _) | exact hla2 | exact Nat.le_trans hla2 (Nat.le_succ _) | exact Nat.le_refl _ | exact Nat.le_succ _)); done)
        | ((repeat (refine cell_far ?_ ?b _; case b => (first | (simp; done) | (simp; omega)))); (first | (refine cell_here (v := .bool false) ?_ _; (repeat (refine cell_far ?_ ?b _; case b => (first | (simp; done) | (simp; omega)))); (simp [go_sem, *]; done)) | (refine cell_here (v := .slice none 0 0) ?_ _; (repeat (refine cell_far ?_ ?b _; case b => (first | (simp; done) | (simp; omega)))); (simp [go_sem, *]; done))))
  case rest =>
    obtain ⟨ab, bb, rfl, rfl, hne, hla, hlb, hA, hBv, hbx⟩ := hcut
    have hb1c : Below w.heap.size w wc := bthen hB1 hbx
    have hrl : w.heap.size + 1 + 1 < w1.heap.size := cell_lt HR1.out.1
    have HR := Lib.hid (show wc.cell? ⟨w.heap.size + 1 + 1, 0, none⟩ = some (.bool false) ∧ wc.cell? ⟨w.heap.size + 1 + 1, 1, none⟩ = some (.slice none 0 0) ∧ wc.frozen? ⟨w.heap.size + 1 + 1, 0, none⟩ = false ∧ wc.frozen? ⟨w.heap.size + 1 + 1, 1, none⟩ = false from ⟨bkeep hbx HR1.out.1, bkeep hbx HR1.out.2.1, bkeepf hbx HR1.out.1 HR1.out.2.2.1, bkeepf hbx HR1.out.2.1 HR1.out.2.2.2.1⟩)
    have hws : w.heap.size ≤ w1.heap.size := hB1.size
    have H0 := Lib.hid (show VarI ab m wc ∧ VarI bb n wc ∧ Nat.gcd m n = Nat.gcd m n ∧ m < 2 ^ k ∧ n < 2 ^ k from ⟨hA.out, hBv.out, rfl, HBD.out.1, HBD.out.2⟩)
    clear av bv x0 x1 y0 y1 zx zy HR1 hB1 hbx hA hBv HA HB HBD hB
    go_wp2
    go_step3
    go_wp2
    go_loopg [] n (fun gk wr => ∃ m' : Nat, Hid (VarI ab m' wr ∧ VarI bb gk wr ∧ Nat.gcd m' gk = Nat.gcd m n ∧ m' < 2 ^ k ∧ gk < 2 ^ k) ∧ Hid (wr.cell? ⟨w.heap.size + 1 + 1, 0, none⟩ = some (.bool false) ∧ wr.cell? ⟨w.heap.size + 1 + 1, 1, none⟩ = some (.slice none 0 0) ∧ wr.frozen? ⟨w.heap.size + 1 + 1, 0, none⟩ = false ∧ wr.frozen? ⟨w.heap.size + 1 + 1, 1, none⟩ = false) ∧ Below w.heap.size w wr)
    case atStart => exact ⟨m, Lib.hid ⟨H0.out.1, H0.out.2.1, rfl, H0.out.2.2.2.1, H0.out.2.2.2.2⟩, HR, hb1c⟩
    case round =>
      obtain ⟨m', H, HR, hBr⟩ := hrel
      obtain ⟨-, n1, a1, l1, c1, a0, a1', -, -, aI⟩ := H.out.1
      obtain ⟨-, n2, a2, l2, c2, b0, b1, b0f, b1f, bI⟩ := H.out.2.1
      have HAI := Lib.hid aI
      have HBI := Lib.hid bI
      have sc := fun W (q : Below wr.heap.size wr W) => sign_c _ _ W (HBI.out.keep q)
      have za := cell_lt a0
      have zb := cell_lt b0
      have hBw := Below.refl wr.heap.size wr
      clear aI bI
      by_cases h0 : gk = 0
      · subst h0
        have hG : (m' : Int) = (Nat.gcd m n : Nat) := by rw [← H.out.2.2.1, Nat.gcd_zero_right]
        rw [show ((0 : Nat) : Int).sign = 0 from rfl] at sc
        go_wp2_with fail
        refine (sc _ (by repeat (first | exact Below.refl _ _ | exact hBw | refine Below.drew ?_ | refine below_drewN ?_ _ | refine bset ?_ (by simp <;> omega) _ | refine bal ?_ _))).mono ?_
        rintro e w5 ⟨rfl, hb5⟩
        have hb5' : Below wr.heap.size wr w5 := bthen (by repeat (first | exact Below.refl _ _ | exact hBw | refine Below.drew ?_ | refine below_drewN ?_ _ | refine bset ?_ (by simp <;> omega) _ | refine bal ?_ _)) hb5
        have r0f := bkeepf hb5' HR.out.1 HR.out.2.2.1
        have r1f := bkeepf hb5' HR.out.2.1 HR.out.2.2.2
        have r0 := bkeep hb5' HR.out.1
        have r1 := bkeep hb5' HR.out.2.1
        have a05 := bkeep hb5' a0
        have a15 := bkeep hb5' a1'
        have hp := Lib.hid ((HAI.out.keep hb5').put2 r0 r1 (.bool n1) (.slice a1 l1 c1))
        rw [hG] at hp
        have hB5 := bthen hBr hb5'
        clear sc H b0 b1 b0f b1f HBI a0 a1'
        go_wp2
        rw [Exit.noGoto_ret]
        refine bodyPost_ret (v := .agg #[.bool n1, .slice a1 l1 c1]) (by simp [results, Tryd.results64, go_sem, *]) rfl ⟨⟨_, rfl, hp.out⟩, ?_⟩
        repeat (first | exact Below.refl _ _ | exact hB5 | refine Below.drew ?_ | refine below_drewN ?_ _ | refine bset ?_ (by simp <;> omega) _ | refine bal ?_ _)
      · obtain ⟨sg, hsg, hsgE⟩ : ∃ q : Int, q ≠ 0 ∧ (gk : Int).sign = q := ⟨_, (fun e => h0 (by have := Int.sign_eq_zero_iff_zero.1 e; omega)), rfl⟩
        rw [hsgE] at sc
        have hsb : (sg != 0) = true := by simpa using hsg
        have HM := Lib.hid h0
        have HBD := Lib.hid (And.intro H.out.2.2.2.1 (And.intro H.out.2.2.2.2 H.out.2.2.1))
        have HV := Lib.hid (And.intro H.out.1 H.out.2.1)
        clear hsgE hsg h0 H
        go_wp2_with fail
        refine (sc _ (by repeat (first | exact Below.refl _ _ | exact hBw | refine Below.drew ?_ | refine below_drewN ?_ _ | refine bset ?_ (by simp <;> omega) _ | refine bal ?_ _))).mono ?_
        rintro e w5 ⟨rfl, hb5⟩
        have hb5' : Below wr.heap.size wr w5 := bthen (by repeat (first | exact Below.refl _ _ | exact hBw | refine Below.drew ?_ | refine below_drewN ?_ _ | refine bset ?_ (by simp <;> omega) _ | refine bal ?_ _)) hb5
        have a05 := bkeep hb5' a0
        have a15 := bkeep hb5' a1'
        have b05 := bkeep hb5' b0
        have b15 := bkeep hb5' b1
        have HV5 := Lib.hid (And.intro (HV.out.1.keep hb5') (HV.out.2.keep hb5'))
        have HR5 := Lib.hid (show w5.cell? ⟨w.heap.size + 1 + 1, 0, none⟩ = some (.bool false) ∧ w5.cell? ⟨w.heap.size + 1 + 1, 1, none⟩ = some (.slice none 0 0) ∧ w5.frozen? ⟨w.heap.size + 1 + 1, 0, none⟩ = false ∧ w5.frozen? ⟨w.heap.size + 1 + 1, 1, none⟩ = false from ⟨bkeep hb5' HR.out.1, bkeep hb5' HR.out.2.1, bkeepf hb5' HR.out.1 HR.out.2.2.1, bkeepf hb5' HR.out.2.1 HR.out.2.2.2⟩)
        have dc := fun W (q : Below w5.heap.size w5 W) => divmod_c _ _ (m' : Int) (gk : Int) k W ((HAI.out.keep hb5').keep q) ((HBI.out.keep hb5').keep q) (by unfold Bd; rw [Int.natAbs_natCast]; exact HBD.out.1) (by unfold Bd; rw [Int.natAbs_natCast]; exact HBD.out.2.1) hk (by have := HM.out; omega)
        rw [show ((m' : Int) % (gk : Int)) = ((m' % gk : Nat) : Int) from (Int.natCast_emod m' gk).symm] at dc
        have hB5 := bthen hBr hb5'
        have za5 := cell_lt a05
        have zb5 := cell_lt b05
        have hBw5 := Below.refl w5.heap.size w5
        clear sc HV HR a0 a1' b0 b1 b0f b1f za zb hb5 hBr hBw
        go_wp2_with fail
        refine (dc _ (by repeat (first | exact Below.refl _ _ | exact hBw5 | refine Below.drew ?_ | refine below_drewN ?_ _ | refine bset ?_ (by simp <;> omega) _ | refine bal ?_ _))).mono ?_
        rintro e w6 ⟨⟨u6, r6, rfl, hu6, hr6⟩, hb6⟩
        have hb6' : Below w5.heap.size w5 w6 := bthen (by repeat (first | exact Below.refl _ _ | exact hBw5 | refine Below.drew ?_ | refine below_drewN ?_ _ | refine bset ?_ (by simp <;> omega) _ | refine bal ?_ _)) hb6
        have HR6 := Lib.hid hr6
        obtain ⟨n7, a7, c7, l7, rfl, -⟩ := hu6
        obtain ⟨n8, a8, c8, l8, rfl, -⟩ := hr6
        unfold iv at *
        have HV6 := Lib.hid (And.intro (HV5.out.1.keep hb6') (HV5.out.2.keep hb6'))
        have HRR6 := Lib.hid (show w6.cell? ⟨w.heap.size + 1 + 1, 0, none⟩ = some (.bool false) ∧ w6.cell? ⟨w.heap.size + 1 + 1, 1, none⟩ = some (.slice none 0 0) ∧ w6.frozen? ⟨w.heap.size + 1 + 1, 0, none⟩ = false ∧ w6.frozen? ⟨w.heap.size + 1 + 1, 1, none⟩ = false from ⟨bkeep hb6' HR5.out.1, bkeep hb6' HR5.out.2.1, bkeepf hb6' HR5.out.1 HR5.out.2.2.1, bkeepf hb6' HR5.out.2.1 HR5.out.2.2.2⟩)
        have hB6 := bthen hB5 hb6'
        clear dc a05 a15 b05 b15 HV5 HR5 za5 zb5 hb5' hb6 hB5 hBw5
        have hBw6 := Below.refl w6.heap.size w6
        go_wp2
        refine wp_name fun w7 hW7 => ?_
        have hb7 : Below w6.heap.size w6 w7 := by rw [hW7]; repeat (first | exact Below.refl _ _ | exact hBw6 | refine Below.drew ?_ | refine below_drewN ?_ _ | refine bset ?_ (by simp <;> omega) _ | refine bal ?_ _)
        have HC7 := Lib.hid (show VarI (w6.heap.size + 1) ((m' % gk : Nat) : Int) w7 from by rw [hW7]; exact ⟨typ_fresh (by simp), n8, a8, l8.length, c8, by simp [go_sem], by simp [go_sem], by simp [go_sem], by simp [go_sem], HR6.out.keep (bal (bal (Below.refl _ _) _) _)⟩)
        have hs7 : w6.heap.size + 1 < w7.heap.size := typ_lt HC7.out.1
        have HV7 := Lib.hid (And.intro (HV6.out.1.keep hb7) (HV6.out.2.keep hb7))
        have HRR7 := Lib.hid (show w7.cell? ⟨w.heap.size + 1 + 1, 0, none⟩ = some (.bool false) ∧ w7.cell? ⟨w.heap.size + 1 + 1, 1, none⟩ = some (.slice none 0 0) ∧ w7.frozen? ⟨w.heap.size + 1 + 1, 0, none⟩ = false ∧ w7.frozen? ⟨w.heap.size + 1 + 1, 1, none⟩ = false from ⟨bkeep hb7 HRR6.out.1, bkeep hb7 HRR6.out.2.1, bkeepf hb7 HRR6.out.1 HRR6.out.2.2.1, bkeepf hb7 HRR6.out.2.1 HRR6.out.2.2.2⟩)
        have hB7 := bthen hB6 hb7
        have hxa : ab < w6.heap.size := typ_lt HV6.out.1.1
        have hxb : bb < w6.heap.size := typ_lt HV6.out.2.1
        clear hW7 HV6 HRR6 HR6 hBw6 hb6' hB6 hb7
        obtain ⟨cb, hcb⟩ : ∃ c, w6.heap.size + 1 = c := ⟨_, rfl⟩
        rw [hcb] at HC7 hs7 ⊢
        have hac : ab < cb := by omega
        have hbc : bb < cb := by omega
        clear hcb hxa hxb
        obtain ⟨-, m1, m2, m3, m4, q0, q1, q0f, q1f, qI⟩ := HV7.out.1
        obtain ⟨-, o1, o2, o3, o4, p0, p1, p0f, p1f, pI⟩ := HV7.out.2
        obtain ⟨-, s1, s2, s3, s4, t0, t1, t0f, t1f, tI⟩ := HC7.out
        have HPI := Lib.hid pI
        have HTI := Lib.hid tI
        have zq := cell_lt q0
        have zp := cell_lt p0
        clear qI pI tI
        go_region
        all_goals
          have HA1 := HV7.out.1.put HPI.out
          have HB1' := HV7.out.2.far HV7.out.1 (Ne.symm hne) o1 o2 o3 o4
          have HC1 := HC7.out.far HV7.out.1 (Ne.symm (Nat.ne_of_lt hac)) o1 o2 o3 o4
          have HT1 := HTI.out.put2 q0 q1 (.bool o1) (.slice o2 o3 o4)
          have HB2 := HB1'.put HT1
          have HA2 := HA1.far HB1' hne s1 s2 s3 s4
          have hnab : ¬ ab = w.heap.size + 1 + 1 := by omega
          have hnbb : ¬ bb = w.heap.size + 1 + 1 := by omega
          have hr0 := cell_far2 (cell_far2 HRR7.out.1 hnab o1 o2 o3 o4) hnbb s1 s2 s3 s4
          have hr1 := cell_far2 (cell_far2 HRR7.out.2.1 hnab o1 o2 o3 o4) hnbb s1 s2 s3 s4
          have HN := Lib.hid (And.intro HA2 (And.intro HB2 (And.intro hr0 hr1)))
          have hab : w.heap.size ≤ ab := by omega
          have hbb : w.heap.size ≤ bb := by omega
          have hBN : Below w.heap.size w ((((w7.setCell ⟨ab, 0, none⟩ (.bool o1)).setCell ⟨ab, 1, none⟩ (.slice o2 o3 o4)).setCell ⟨bb, 0, none⟩ (.bool s1)).setCell ⟨bb, 1, none⟩ (.slice s2 s3 s4)) := bset (bset (bset (bset hB7 hab _) hab _) hbb _) hbb _
          clear HA1 HB1' HC1 HT1 HB2 HA2 hr0 hr1 q0 q1 q0f q1f p0 p1 p0f p1f t0 t1 t0f t1f
          go_wp2
          go_roundg (m' % gk)
          case measure => exact Nat.mod_lt _ (Nat.pos_of_ne_zero HM.out)
          case rel => exact ⟨gk, Lib.hid ⟨HN.out.1.keep (Below.refl _ _).drew, HN.out.2.1.keep (Below.refl _ _).drew, by rw [gcd_step, HBD.out.2.2], HBD.out.2.1, Nat.lt_of_lt_of_le (Nat.mod_lt _ (Nat.pos_of_ne_zero HM.out)) (Nat.le_of_lt HBD.out.2.1)⟩, Lib.hid ⟨HN.out.2.2.1, HN.out.2.2.2, by show (World.drew _).frozen? _ = false; rw [show ∀ W : World, ∀ p, W.drew.frozen? p = W.frozen? p from fun _ _ => rfl, World.frozen?_setCell, World.frozen?_setCell, World.frozen?_setCell, World.frozen?_setCell]; exact HRR7.out.2.2.1, by show (World.drew _).frozen? _ = false; rw [show ∀ W : World, ∀ p, W.drew.frozen? p = W.frozen? p from fun _ _ => rfl, World.frozen?_setCell, World.frozen?_setCell, World.frozen?_setCell, World.frozen?_setCell]; exact HRR7.out.2.2.2⟩, hBN.drew⟩
end Go.Proofs.YthaohpfbengabaaDoor

/- Plain: decimal digits, low one first; nine at a time; a number's text. -/
namespace Go.Proofs.YthaohpfbengabaaDoor.Num
/-- the decimal digits of a number, low one first; none of 0 -/
def lowD : Nat → List Nat
  | 0 => []
  | n + 1 => (n + 1) % 10 :: lowD ((n + 1) / 10)
decreasing_by omega
theorem lowD_zero : lowD 0 = [] := by rw [lowD]
theorem lowD_pos {n : Nat} (h : 0 < n) : lowD n = n % 10 :: lowD (n / 10) := by
  cases n with
  | zero => omega
  | succ n => rw [lowD]
theorem lowD_lt (n : Nat) : ∀ d ∈ lowD n, d < 10 := by
  induction n using Nat.strongRecOn with
  | _ n ih =>
    intro d hd
    by_cases h : 0 < n
    · rw [lowD_pos h] at hd
      rcases List.mem_cons.1 hd with rfl | hd
      · omega
      · exact ih (n / 10) (by omega) d hd
    · obtain rfl : n = 0 := by omega
      rw [lowD_zero] at hd; cases hd
theorem lowD_ne {n : Nat} (h : 0 < n) : lowD n ≠ [] := by rw [lowD_pos h]; simp
theorem lowD_len (k : Nat) : ∀ n, n < 2 ^ k → (lowD n).length ≤ k := by
  induction k with
  | zero => intro n h; obtain rfl : n = 0 := by simpa using h
            rw [lowD_zero]; simp
  | succ k ih =>
    intro n h
    by_cases h0 : 0 < n
    · rw [lowD_pos h0]
      have := ih (n / 10) (by rw [Nat.pow_succ] at h; omega)
      simp; exact this
    · obtain rfl : n = 0 := by omega
      rw [lowD_zero]; simp
/-- the low k digits of a number, with noughts -/
def padD : Nat → Nat → List Nat
  | 0, _ => []
  | k + 1, n => n % 10 :: padD k (n / 10)
theorem padD_len (k n : Nat) : (padD k n).length = k := by
  induction k generalizing n with
  | zero => rfl
  | succ k ih => simp [padD, ih]
theorem padD_snoc (k n : Nat) : padD (k + 1) n = padD k n ++ [n / 10 ^ k % 10] := by
  induction k generalizing n with
  | zero => simp [padD]
  | succ k ih =>
    rw [padD, ih (n / 10)]
    show _ = (n % 10 :: padD k (n / 10)) ++ _
    rw [List.cons_append, Nat.div_div_eq_div_mul, Nat.pow_succ, Nat.mul_comm 10]
/-- a number's digits: its low k, then those of what is above -/
theorem lowD_split (k : Nat) : ∀ n, 10 ^ k ≤ n → lowD n = padD k n ++ lowD (n / 10 ^ k) := by
  induction k with
  | zero => intro n _; simp [padD]
  | succ k ih =>
    intro n h
    have hp : 0 < 10 ^ k := Nat.pow_pos (by omega)
    rw [Nat.pow_succ] at h
    have hn : 0 < n := by omega
    rw [lowD_pos hn, ih (n / 10) (by rw [Nat.le_div_iff_mul_le (by omega)]; exact h), padD, Nat.div_div_eq_div_mul, Nat.pow_succ, Nat.mul_comm 10]
    rfl
/-- of a short number: with noughts above -/
theorem padD_low (k : Nat) : ∀ n, n < 10 ^ k → padD k n = lowD n ++ List.replicate (k - (lowD n).length) 0 ∧ (lowD n).length ≤ k := by
  induction k with
  | zero =>
    intro n h
    obtain rfl : n = 0 := by simpa using h
    simp [padD, lowD_zero]
  | succ k ih =>
    intro n h
    have h2 : n / 10 < 10 ^ k := by rw [Nat.pow_succ] at h; omega
    obtain ⟨e, hl⟩ := ih (n / 10) h2
    by_cases h0 : 0 < n
    · rw [padD, e, lowD_pos h0]
      refine ⟨?_, by simpa using hl⟩
      simp
    · obtain rfl : n = 0 := by omega
      rw [padD, e]
      simp [lowD_zero, List.replicate_succ]
theorem padD_mod (k : Nat) : ∀ n, padD k (n % 10 ^ k) = padD k n := by
  induction k with
  | zero => intro n; rfl
  | succ k ih =>
    intro n
    rw [padD, padD]
    have e1 : n % 10 ^ (k + 1) % 10 = n % 10 := by
      rw [Nat.pow_succ, Nat.mul_comm]
      exact Nat.mod_mul_right_mod n 10 (10 ^ k)
    have e2 : n % 10 ^ (k + 1) / 10 = n / 10 % 10 ^ k := by
      rw [Nat.pow_succ, Nat.mul_comm]
      exact Nat.mod_mul_right_div_self n 10 (10 ^ k)
    rw [e1, e2, ih]
/-- a number nine digits at a time, low ones first -/
def pcs : Nat → List Nat
  | 0 => []
  | n + 1 => (n + 1) % 1000000000 :: pcs ((n + 1) / 1000000000)
decreasing_by omega
theorem pcs_zero : pcs 0 = [] := by rw [pcs]
theorem pcs_pos {n : Nat} (h : 0 < n) : pcs n = n % 1000000000 :: pcs (n / 1000000000) := by
  cases n with
  | zero => omega
  | succ n => rw [pcs]
theorem pcs_lt (n : Nat) : ∀ d ∈ pcs n, d < 1000000000 := by
  induction n using Nat.strongRecOn with
  | _ n ih =>
    intro d hd
    by_cases h : 0 < n
    · rw [pcs_pos h] at hd
      rcases List.mem_cons.1 hd with rfl | hd
      · omega
      · exact ih (n / 1000000000) (by omega) d hd
    · obtain rfl : n = 0 := by omega
      rw [pcs_zero] at hd; cases hd
theorem pcs_ne {n : Nat} (h : 0 < n) : pcs n ≠ [] := by rw [pcs_pos h]; simp
/-- the pieces' digits: the last without noughts above -/
def lowP : List Nat → List Nat
  | [] => []
  | [p] => lowD p
  | p :: q :: l => padD 9 p ++ lowP (q :: l)
theorem lowP_pcs (n : Nat) : lowP (pcs n) = lowD n := by
  induction n using Nat.strongRecOn with
  | _ n ih =>
    by_cases h : 0 < n
    · rw [pcs_pos h]
      by_cases h2 : 0 < n / 1000000000
      · have e := ih (n / 1000000000) (by omega)
        rw [pcs_pos h2] at e ⊢
        rw [lowP, e, lowD_split 9 n (by omega)]
        have := padD_mod 9 n
        rw [show (10 : Nat) ^ 9 = 1000000000 from rfl] at *
        rw [this]
      · have h3 : n / 1000000000 = 0 := by omega
        rw [h3, pcs_zero, lowP, Nat.mod_eq_of_lt (by omega)]
    · obtain rfl : n = 0 := by omega
      rw [pcs_zero, lowD_zero]; rfl
/-- the last piece of a number is not 0 -/
theorem pcs_last (n : Nat) : ∀ h : pcs n ≠ [], 0 < (pcs n).getLast h := by
  induction n using Nat.strongRecOn with
  | _ n ih =>
    intro h
    have hn : 0 < n := by
      rcases Nat.eq_zero_or_pos n with rfl | h'
      · exact absurd pcs_zero h
      · exact h'
    by_cases h2 : 0 < n / 1000000000
    · have h3 := ih (n / 1000000000) (by omega) (pcs_ne h2)
      have e : (pcs n).getLast h = (pcs (n / 1000000000)).getLast (pcs_ne h2) := by
        have : ∀ l (hl : l ≠ []), l = n % 1000000000 :: pcs (n / 1000000000) → l.getLast hl = (pcs (n / 1000000000)).getLast (pcs_ne h2) := by
          intro l hl el; subst el; exact List.getLast_cons (pcs_ne h2)
        exact this _ h (pcs_pos hn)
      rw [e]; exact h3
    · have e : (pcs n).getLast h = n % 1000000000 := by
        have : ∀ l (hl : l ≠ []), l = [n % 1000000000] → l.getLast hl = n % 1000000000 := by
          intro l hl el; subst el; rfl
        exact this _ h (by rw [pcs_pos hn, show n / 1000000000 = 0 by omega, pcs_zero])
      rw [e]
      have : n < 1000000000 := by omega
      rw [Nat.mod_eq_of_lt this]; exact hn
/-- digits as bytes, high one first -/
def asc (l : List Nat) : List UInt8 := l.reverse.map fun d => UInt8.ofNat (48 + d)
theorem asc_append (l m : List Nat) : asc (l ++ m) = asc m ++ asc l := by simp [asc]
theorem lowD_last (n : Nat) : ∀ h : lowD n ≠ [], 0 < (lowD n).getLast h := by
  induction n using Nat.strongRecOn with
  | _ n ih =>
    intro h
    have hn : 0 < n := by
      rcases Nat.eq_zero_or_pos n with rfl | h'
      · exact absurd lowD_zero h
      · exact h'
    by_cases h2 : 0 < n / 10
    · have h3 := ih (n / 10) (by omega) (lowD_ne h2)
      have e : (lowD n).getLast h = (lowD (n / 10)).getLast (lowD_ne h2) := by
        have : ∀ l (hl : l ≠ []), l = n % 10 :: lowD (n / 10) → l.getLast hl = (lowD (n / 10)).getLast (lowD_ne h2) := by
          intro l hl el; subst el; exact List.getLast_cons (lowD_ne h2)
        exact this _ h (lowD_pos hn)
      rw [e]; exact h3
    · have e : (lowD n).getLast h = n % 10 := by
        have : ∀ l (hl : l ≠ []), l = [n % 10] → l.getLast hl = n % 10 := by
          intro l hl el; subst el; rfl
        exact this _ h (by rw [lowD_pos hn, show n / 10 = 0 by omega, lowD_zero])
      rw [e]; omega
/-- a number's text -/
def natTxt (n : Nat) : List UInt8 := if n = 0 then [48] else asc (lowD n)
def intTxt (z : Int) : List UInt8 := (if z < 0 then [45] else []) ++ natTxt z.natAbs
/-- the highest piece, its noughts ahead struck -/
theorem asc_pad_top {p : Nat} (h0 : 0 < p) (h : p < 1000000000) : (asc (padD 9 p)).dropWhile (· == 48) = asc (lowD p) := by
  obtain ⟨e, _⟩ := padD_low 9 p h
  rw [e, asc_append]
  have hz : asc (List.replicate (9 - (lowD p).length) 0) = List.replicate (9 - (lowD p).length) 48 := by simp [asc]
  rw [hz]
  have hd : ∀ (n : Nat) (l : List UInt8), (List.replicate n 48 ++ l).dropWhile (· == 48) = l.dropWhile (· == 48) := by
    intro n l
    induction n with
    | zero => rfl
    | succ n ih => rw [List.replicate_succ, List.cons_append, List.dropWhile_cons]; simp [ih]
  rw [hd]
  have hne := lowD_ne h0
  have hl := lowD_last p hne
  have hlt := lowD_lt p _ (List.getLast_mem hne)
  have e2 : asc (lowD p) = UInt8.ofNat (48 + (lowD p).getLast hne) :: asc (lowD p).dropLast := by
    conv => lhs; rw [← List.dropLast_concat_getLast hne]
    rw [asc_append]; rfl
  have h3 : (UInt8.ofNat (48 + (lowD p).getLast hne) == 48) = false := by
    rw [beq_eq_false_iff_ne]
    intro h
    have := congrArg UInt8.toNat h
    rw [UInt8.toNat_ofNat'] at this
    have h48 : (48 : UInt8).toNat = 48 := rfl
    rw [h48] at this
    omega
  rw [e2, List.dropWhile_cons, if_neg]
  intro h
  have h4 : (UInt8.ofNat (48 + (lowD p).getLast hne) == 48) = true := h
  rw [h3] at h4; cases h4
/-- the pieces from the i-th on -/
theorem lowP_cons {p : Nat} {l : List Nat} (h : l ≠ []) : lowP (p :: l) = padD 9 p ++ lowP l := by
  cases l with
  | nil => exact absurd rfl h
  | cons q l => rfl
theorem asc_len (l : List Nat) : (asc l).length = l.length := by simp [asc]
end Go.Proofs.YthaohpfbengabaaDoor.Num

/- Rows of bytes of the call's own; the reference's Text. -/
namespace Go.Proofs.YthaohpfbengabaaDoor
open Num
open Go.ChangeShapes Go.WideShapes Go.ChangeAt Go.RowKit
set_option linter.unusedVariables false
set_option linter.unusedSimpArgs false
theorem info8 : (Tryd.prog.info? 5).map (fun i => (i.zero, i.size, i.bytes)) = some (some (.int .u8 0), 1, 1) := by kernel_rfl
theorem el8 : Elt Tryd.prog 109 5 1 1 := Elt.mk' Tryd.underlying109 info8 rfl (by decide) (by decide)
/-- bytes of the call's own -/
def Own8 (w0 wr : World) (v : Value) (L : List UInt8) : Prop := OwnE 5 1 w0 wr v L.length (Lib.byteCells L)
theorem Own8.below {w0 wr w' : World} {v : Value} {L : List UInt8} (h : Own8 w0 wr v L) (hb : Below wr.heap.size wr w') : Own8 w0 w' v L := OwnE.below h hb
theorem Own8.nil {w0 wr : World} (hb : Below w0.heap.size w0 wr) : Own8 w0 wr (.slice none 0 0) [] := OwnE.nil _ _ hb
theorem bcells_app (l m : List UInt8) : Lib.byteCells (l ++ m) = Lib.byteCells l ++ Lib.byteCells m := by simp [Lib.byteCells]
theorem bcells_get (l : List UInt8) (k : Nat) (h : k < l.length) : (Lib.byteCells l)[k]? = some (.int .u8 ((l.getD k 0).toNat : Nat)) := by simp [Lib.byteCells, h]
theorem Own8.ex {w0 wr : World} {v : Value} {L : List UInt8} (h : Own8 w0 wr v L) : (v = .slice none 0 0 ∧ L = []) ∨ ∃ g cap, v = .slice (some ⟨g, 0, none⟩) L.length cap ∧ w0.heap.size ≤ g ∧ L.length ≤ cap := by
  obtain ⟨⟨h0, h⟩, _⟩ := h
  rcases h with ⟨rfl, h1⟩ | ⟨g, cap, cur, rfl, hg, _, hc, _⟩
  · exact .inl ⟨rfl, List.length_eq_zero_iff.1 h1⟩
  · exact .inr ⟨g, cap, rfl, hg, hc⟩
theorem Own8.cell {w0 wr : World} {g cap : Nat} {L : List UInt8} (h : Own8 w0 wr (.slice (some ⟨g, 0, none⟩) L.length cap) L) (k : Nat) (hk : k < L.length) : wr.cell? ⟨g, k, none⟩ = some (.int .u8 ((L.getD k 0).toNat : Nat)) := by
  rw [World.ownsRow.cellAt h.1 k (by omega), bcells_get L k hk]
theorem Own8.frozen {w0 wr : World} {g cap : Nat} {L : List UInt8} (h : Own8 w0 wr (.slice (some ⟨g, 0, none⟩) L.length cap) L) (k : Nat) : wr.frozen? ⟨g, k, none⟩ = false := World.ownsRow.frozenAt h.1 k
theorem Own8.set {w0 wr : World} {g cap : Nat} {L : List UInt8} (h : Own8 w0 wr (.slice (some ⟨g, 0, none⟩) L.length cap) L) (k : Nat) (x : UInt8) (hg : w0.heap.size ≤ g) : Own8 w0 (wr.setCell ⟨g, k, none⟩ (.int .u8 (x.toNat : Nat))) (.slice (some ⟨g, 0, none⟩) L.length cap) (L.set k x) := by
  obtain ⟨⟨hl, h1⟩, hB⟩ := h
  rcases h1 with ⟨h2, _⟩ | ⟨g', cap', cur, h2, hg', hh, hc, hm, hs, ht⟩
  · cases h2
  · cases h2
    refine ⟨⟨by simp [Lib.byteCells], .inr ⟨g, cap, cur.setIfInBounds k (.int .u8 (x.toNat : Nat)), by simp, hg', ?_, by simpa using hc, hm, by simpa using hs, ?_⟩⟩, bset hB (by exact hg) _⟩
    · unfold World.setCell
      simp only [Array.getElem?_modify, if_true]
      rw [hh]; rfl
    · rw [Array.toList_setIfInBounds, List.length_set, List.take_set, ht]
      simp [Lib.byteCells, List.map_set]
theorem Own8.str {w0 wr : World} {a : Option Addr} {c : Nat} {L : List UInt8} (h : Own8 w0 wr (.slice a L.length c) L) : (convert 109 9 (.slice a L.length c)).run Tryd.prog wr = .ok (.string ⟨L.toArray⟩) wr := by
  rcases h.ex with ⟨h1, h2⟩ | ⟨g, cap, h1, _⟩
  · subst h2
    cases h1
    exact run_convert_bytes_nil wr 109 5 Tryd.underlying109 Tryd.underlying5 0 0 9 Tryd.underlying9
  · cases h1
    refine run_convert_bytes_back wr 109 9 5 ⟨g, 0, none⟩ c L Tryd.underlying109 Tryd.underlying5 Tryd.underlying9 fun j hj => ?_
    have := h.cell j hj
    unfold Addr.add
    split
    · subst_vars; simpa [hj] using this
    · simpa [hj] using this
namespace Num
def dig (d : Nat) : UInt8 := UInt8.ofNat (48 + d)
theorem dig_nat {d : Nat} (h : d < 10) : (dig d).toNat = 48 + d := by
  unfold dig; rw [UInt8.toNat_ofNat']; omega
theorem asc_eq (l : List Nat) : asc l = (l.map dig).reverse := by unfold asc; rw [← List.map_reverse]; rfl
/-- turned about so far -/
def turned (T : List UInt8) (i : Nat) : List UInt8 := (List.range T.length).map fun j => if j < i ∨ T.length - 1 - j < i then T.getD (T.length - 1 - j) 0 else T.getD j 0
end Num


end Go.Proofs.YthaohpfbengabaaDoor

/- strings.Join, laid from the shelf; lists of texts. -/
namespace Go.Proofs.YthaohpfbengabaaDoor
open Num
open Go.ChangeShapes Go.WideShapes Go.ChangeAt Go.RowKit
set_option linter.unusedVariables false
set_option linter.unusedSimpArgs false
def jn_lays156_ren : Go.Shelf.Ren := ⟨fun | 156 => 60 | 165 => 82 | 166 => 83 | 169 => 84 | 240 => 98 | 241 => 99 | 276 => 110 | 277 => 111 | n => n, fun | 0 => 0 | 3 => 3 | 4 => 4 | 5 => 5 | 9 => 9 | 20 => 20 | 31 => 99 | 37 => 109 | 70 => 125 | 72 => 127 | 75 => 130 | 76 => 131 | 80 => 65 | 127 => 142 | 164 => 154 | n => n, fun n => n⟩
theorem jn_lays156 : Go.Proofs.Lays.n156 Tryd.prog jn_lays156_ren := {
  mixed := by kernel_rfl
  f156 := Tryd.func60.trans (congrArg some (by kernel_rfl))
  f165 := Tryd.func82.trans (congrArg some (by kernel_rfl))
  f166 := Tryd.func83.trans (congrArg some (by kernel_rfl))
  f169 := Tryd.func84.trans (congrArg some (by kernel_rfl))
  f240 := Tryd.func98.trans (congrArg some (by kernel_rfl))
  f241 := Tryd.func99.trans (congrArg some (by kernel_rfl))
  f276 := Tryd.func110.trans (congrArg some (by kernel_rfl))
  f277 := Tryd.func111.trans (congrArg some (by kernel_rfl))
  t0 := Tryd.underlying0
  a0 := Tryd.isAgg0
  z0 := Tryd.sizeOf0
  v0 := Tryd.zeroValue0
  t3 := Tryd.underlying3
  a3 := Tryd.isAgg3
  z3 := Tryd.sizeOf3
  v3 := Tryd.zeroValue3
  t4 := Tryd.underlying4
  a4 := Tryd.isAgg4
  z4 := Tryd.sizeOf4
  v4 := Tryd.zeroValue4
  t9 := Tryd.underlying9
  a9 := Tryd.isAgg9
  z9 := Tryd.sizeOf9
  v9 := Tryd.zeroValue9
  t20 := Tryd.underlying20
  a20 := Tryd.isAgg20
  z20 := Tryd.sizeOf20
  v20 := Tryd.zeroValue20
  t31 := Tryd.underlying99
  a31 := Tryd.isAgg99
  z31 := Tryd.sizeOf99
  v31 := Tryd.zeroValue99
  t37 := Tryd.underlying109
  a37 := Tryd.isAgg109
  z37 := Tryd.sizeOf109
  v37 := Tryd.zeroValue109
  t70 := Tryd.underlying125
  a70 := Tryd.isAgg125
  z70 := Tryd.sizeOf125
  v70 := Tryd.zeroValue125
  t72 := Tryd.underlying127
  a72 := Tryd.isAgg127
  z72 := Tryd.sizeOf127
  v72 := Tryd.zeroValue127
  t75 := Tryd.underlying130
  a75 := Tryd.isAgg130
  z75 := Tryd.sizeOf130
  v75 := Tryd.zeroValue130
  t76 := Tryd.underlying131
  a76 := Tryd.isAgg131
  z76 := Tryd.sizeOf131
  v76 := Tryd.zeroValue131
  t127 := Tryd.underlying142
  a127 := Tryd.isAgg142
  z127 := Tryd.sizeOf142
  v127 := Tryd.zeroValue142
  t164 := Tryd.underlying154
  a164 := Tryd.isAgg154
  z164 := Tryd.sizeOf154
  v164 := Tryd.zeroValue154 }
theorem jn_Builder_Extra : Go.Proofs.Builder.Extra Tryd.prog jn_lays156_ren := {
  sizeBuilder := by kernel_rfl
  liesBuilder := by kernel_rfl
  t5 := Tryd.underlying5
  a5 := Tryd.isAgg5
  z5 := Tryd.sizeOf5
  v5 := Tryd.zeroValue5
  infoByte := by kernel_rfl
  cellsByte := by kernel_rfl
  sizeByte := by kernel_rfl
  neB5 := by decide }
/-- a text in a list of texts -/
def PTx (w : World) (u : Value) (x : List UInt8) : Prop := u = .string ⟨x.toArray⟩
theorem prs_ptx : Prs (fun _ => False) PTx := ⟨fun h => by cases h; rfl, fun h _ => h⟩
theorem infoStr : (Tryd.prog.info? 9).map (fun i => (i.zero, i.size, i.bytes)) = some (some (.string ⟨#[]⟩), 1, 16) := by kernel_rfl
theorem elStr : Elt Tryd.prog 99 9 1 16 := Elt.mk' Tryd.underlying99 infoStr rfl (by decide) (by decide)
theorem txt_back (L : List (List UInt8)) : (L.map fun x => (⟨x.toArray⟩ : ByteArray)).map (·.data.toList) = L := by
  rw [List.map_map]; conv => rhs; rw [← List.map_id L]
  rfl
theorem join_c (v : Value) (L : List (List UInt8)) (base : Nat) (w : World) (hv : IsL 9 PTx base w v L) (hN : L.length ≤ 140737488355328) (hlen : (Lib.join L [32]).length ≤ 140737488355328) :
    Calls Tryd.prog 60 #[v, .string ⟨#[32]⟩] w fun e w' => e = .returned (.string ⟨(Lib.join L [32]).toArray⟩) ∧ Below w.heap.size w w' := by
  obtain ⟨a, c, rfl, hcap, hvw⟩ := hv.view
  cases L with
  | nil =>
    have h := (Any.strings_Join_none jn_lays156 jn_Builder_Extra a c ⟨#[32]⟩ w).mono fun e w' ⟨he, hw⟩ => (⟨he, hw ▸ Below.refl _ _⟩ : _ ∧ Below w.heap.size w w')
    exact h
  | cons x L =>
    obtain ⟨b, off, u, rfl, hu, -⟩ := hvw 0 (by simp)
    have h := Any.strings_Join jn_lays156 jn_Builder_Extra b off c ((x :: L).map fun x => (⟨x.toArray⟩ : ByteArray)) ⟨#[32]⟩ w (fun j y hj => by
      rw [List.getElem?_map] at hj
      obtain ⟨z, hz, rfl⟩ := Option.map_eq_some_iff.1 hj
      obtain ⟨hj', rfl⟩ := List.getElem?_eq_some_iff.1 hz
      obtain ⟨b2, off2, u2, e2, hu2, hp⟩ := hvw j hj'
      cases e2
      rw [← show u2 = _ from hp]; exact hu2) (cell_lt hu) (by simpa using hN) (by simpa using hcap) (by rw [txt_back]; exact hlen)
    rw [txt_back, List.length_map] at h
    exact h
end Go.Proofs.YthaohpfbengabaaDoor

/- Arguments as they come in, opened: a program; rows of int64; what their bulk gives. -/
namespace Go.Proofs.YthaohpfbengabaaDoor
open Go.ChangeShapes Go.WideShapes Go.ChangeAt Go.RowKit Go.Joins Go.Deep
set_option linter.unusedVariables false
set_option linter.unusedSimpArgs false
namespace bulks
theorem one_le {H : Type} (d : DataW H) : 1 ≤ Rows.uptoBulk d := by
  cases d with
  | lit l => cases l <;> simp [Rows.uptoBulk]
  | nil => simp [Rows.uptoBulk]
  | ptr d => simp [Rows.uptoBulk]
  | slice elems spare => simp [Rows.uptoBulk]
  | agg parts => simp [Rows.uptoBulk]
  | iface t d => simp [Rows.uptoBulk]
  | map entries => simp [Rows.uptoBulk]
  | held h => simp [Rows.uptoBulk]
theorem length_le {H : Type} (l : List (DataW H)) : l.length ≤ Rows.uptoBulkAll l := by
  induction l with
  | nil => simp [Rows.uptoBulkAll]
  | cons x r ih => have := one_le x; simp only [Rows.uptoBulkAll, List.length_cons]; omega
/-- a list made by a function: its parts' sizes, and how many they are -/
theorem sum_le {H : Type} {α : Type} (f : α → DataW H) (n : α → Nat) : ∀ (l : List α), (∀ x ∈ l, n x + 1 ≤ Rows.uptoBulk (f x)) → (l.map n).sum + l.length ≤ Rows.uptoBulkAll (l.map f)
  | [], _ => by simp [Rows.uptoBulkAll]
  | x :: r, h => by
    have h1 := sum_le f n r (fun y hy => h y (List.mem_cons_of_mem _ hy))
    have h2 := h x (List.mem_cons_self ..)
    simp only [List.map_cons, List.sum_cons, List.length_cons, Rows.uptoBulkAll]; omega
end bulks
section
variable {H : Type} {enc : TypeId × Value → H} {P : Program} {w : World} {base : Nat} {spare : Nat → Bool} {held : Bool}
end
/-- what an address is, of which a cell is known -/
theorem addr_plain {w : World} {a : Addr} {v : Value} (h : w.cell? a = some v) : a = ⟨a.block, a.off, none⟩ := by
  obtain ⟨b, o, s⟩ := a
  cases s with
  | none => rfl
  | some s =>
    simp only [World.cell?] at h
    split at h <;> simp at h
theorem add_plain (b o k : Nat) : (⟨b, o, none⟩ : Addr).add k = ⟨b, o + k, none⟩ := by
  unfold Addr.add; split
  · subst_vars; rfl
  · rfl
/-- an address, the first cell behind which is known -/
theorem plain_at {w : World} {a : Addr} {v : Value} (h : w.cell? (a.add 0) = some v) : ∃ b o, a = ⟨b, o, none⟩ := by
  have h2 : w.cell? a = some v := by simpa [Addr.add] using h
  exact ⟨_, _, addr_plain h2⟩
section
variable {H : Type} {enc : TypeId × Value → H} {W : World} {b0 : Nat} {r : Reach} {v : Value} {d : DataW H} {p : List MemPlace}
theorem i64_of {n : Int} (h : (Lit.int .i64 n).wf = true) : I64 n := by
  have h1 := (Lit.wf_int_iff .i64 n).1 h
  have e1 : IntKind.i64.min = -9223372036854775808 := by decide
  have e2 : IntKind.i64.max = 9223372036854775807 := by decide
  rw [e1, e2] at h1
  exact h1
end
end Go.Proofs.YthaohpfbengabaaDoor

/- Arguments as they come in, whatever their bulk: rows of int64, each of which lies in memory. -/
namespace Go.Proofs.YthaohpfbengabaaDoor
open Go.ChangeShapes Go.WideShapes Go.ChangeAt Go.RowKit Go.Joins Go.Deep
set_option linter.unusedVariables false
set_option linter.unusedSimpArgs false
section
variable {H : Type} {enc : TypeId × Value → H} {W : World} {b0 : Nat} {r : Reach} {v : Value} {d : DataW H} {p : List MemPlace}
end
end Go.Proofs.YthaohpfbengabaaDoor

/- An int that came in. -/
namespace Go.Proofs.YthaohpfbengabaaDoor
open Go.ChangeShapes Go.WideShapes Go.ChangeAt Go.RowKit Go.Joins Go.Deep
set_option maxRecDepth 100000
end Go.Proofs.YthaohpfbengabaaDoor

