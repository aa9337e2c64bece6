/- Texts of this seat, laid together: MxF, MxG, MxH, Vp. Each opens with its own remark, which says what it proves, and under which conditions. -/
import Derived.Test.YtbmaffijncapiaaGreatDoorD17
import Derived.Test.YtbmaffijncapiaaGreatDoorD16
set_option linter.unusedVariables false
set_option linter.unusedSimpArgs false
/- matrix: Times, square, New. -/
namespace Go.Proofs.YtbmaffijncapiaaGreatDoor
open Num
open Go.ChangeShapes Go.WideShapes Go.ChangeAt Go.RowKit
set_option linter.unusedVariables false
set_option linter.unusedSimpArgs false
attribute [local go_sem ↓] Go.wp_at_zero Go.wp_at_succ
def timesG (g h : Grid) : Grid := tab g.length (cols h) fun i j => Det.isum (cols g) fun t => gat g i t * gat h t j
set_option maxRecDepth 100000 in
set_option maxHeartbeats 4000000 in
theorem timesM_c (v u : Value) (g h : Grid) (k kh : Nat) (w : World) (hv : IsM 0 w v g) (hu : IsM 0 w u h) (rg : Rct g (cols g)) (rh : Rct h (cols h)) (kg : BdM k g) (kh' : BdM kh h) (hk : k + kh + cols g ≤ 17179869184) (lg : g.length ≤ 1099511627775) (lc : cols h ≤ 1099511627775) (lcg : cols g ≤ 1099511627775) :
    Calls Tryz.prog 50 #[v, u] w (MOr (cols g = h.length ∧ 0 < cols g) 5 (timesG g h) w) := by
  obtain ⟨ag, cg, rfl, lv⟩ := hv
  obtain ⟨ah, ch, rfl, lu⟩ := hu
  have rc1 := fun V => rowsM_c ag g.length cg V
  have rc2 := fun V => rowsM_c ah h.length ch V
  have cc1 := fun V (q : Below w.heap.size w V) => colsM_c ag cg g V (lv.keep (prs_prow 0) q)
  have cc2 := fun V (q : Below w.heap.size w V) => colsM_c ah ch h V (lu.keep (prs_prow 0) q)
  have fc := fun V (q : Below w.heap.size w V) (e1 : V.cell? ⟨w.heap.size, 0, none⟩ = some (.slice ag g.length cg)) (e2 : V.cell? ⟨w.heap.size + 1, 0, none⟩ = some (.slice ah h.length ch)) (hn : cols g = h.length) =>
    filled_c g.length (cols h) (fun i j => Det.isum (cols g) fun t => gat g i t * gat h t j) 139 #[.pointer (some ⟨w.heap.size, 0, none⟩), .pointer (some ⟨w.heap.size + 1, 0, none⟩)] V (times1_c _ _ g h g.length (cols g) (cols h) k kh V (lv.box q e1) (lu.box q e2) rfl hn.symm rg rh kg kh' lcg hk) (ens Tryz.func139 (by kernel_rfl) rfl) (by omega) lc
  have FC := Lib.hid fc
  clear fc lv lu rg rh kg kh' lg lc hk lcg
  unfold timesG
  obtain ⟨FF, hFF⟩ : ∃ FF, (fun i j => Det.isum (cols g) fun t => gat g i t * gat h t j) = FF := ⟨_, rfl⟩
  rw [hFF] at FC ⊢
  clear hFF
  obtain ⟨N, hN⟩ : ∃ N, g.length = N := ⟨_, rfl⟩
  obtain ⟨N', hN'⟩ : ∃ N, h.length = N := ⟨_, rfl⟩
  obtain ⟨C, hC⟩ : ∃ N, cols g = N := ⟨_, rfl⟩
  obtain ⟨C', hC'⟩ : ∃ N, cols h = N := ⟨_, rfl⟩
  rw [hN, hN', hC, hC'] at FC
  rw [hN] at rc1 cc1
  rw [hN'] at rc2 cc2
  rw [hC] at cc1
  rw [hC'] at cc2
  rw [hN, hN', hC, hC']
  clear hN hN' hC hC'
  have RC1 := Lib.hid rc1
  have RC2 := Lib.hid rc2
  have CC1 := Lib.hid cc1
  have CC2 := Lib.hid cc2
  clear rc1 rc2 cc1 cc2
  have hB := Below.refl w.heap.size w
  by_cases h1 : C = N'
  · by_cases h2 : 0 < C
    · have FC2 := Lib.hid (fun V q e1 e2 => FC.out V q e1 e2 h1)
      subst h1
      have HOK := Lib.hid (show C = C ∧ 0 < C from ⟨rfl, h2⟩)
      have hnI : ((C : Int) != (C : Int)) = false := by simp
      have hcI : ((C : Int) == 0) = false := by simp; omega
      clear FC h2
      go_enter Tryz.func50, Tryz.ntmps50
      go_wp2
      refine wp_name fun w0 hW0 => ?_
      have m0 : w0.cell? ⟨w.heap.size, 0, none⟩ = some (.slice ag N cg) := by rw [hW0]; simp [go_sem]
      have zm0 := cell_lt m0
      have o0 : w0.cell? ⟨w.heap.size + 1, 0, none⟩ = some (.slice ah C ch) := by rw [hW0]; simp [go_sem]
      have zo0 := cell_lt o0
      have r0f : w0.frozen? ⟨w.heap.size + 1 + 1, 0, none⟩ = false := by rw [hW0]; simp [go_sem]
      have r0 : w0.cell? ⟨w.heap.size + 1 + 1, 0, none⟩ = some (.slice none 0 0) := by rw [hW0]; simp [go_sem]
      have zr0 := cell_lt r0
      have hB : Below w.heap.size w w0 := by rw [hW0]; repeat (first|exact bzR _ _|exact hB|refine bzD ?_|refine bzN ?_|refine bzS ?_|refine bzA ?_)
      have HT0 : Hid (typOf w0 (w.heap.size + 1 + 1) = some 47) := Lib.hid (by rw [hW0]; exact typ_fresh (by simp))
      have hz : w.heap.size ≤ w0.heap.size := hB.size
      clear hW0
      refine wp_region_grow (w := w0) (by kernel_rfl) (by kernel_rfl) ?_
      have m0g : ∀ gs, (grow w0 gs).cell? ⟨w.heap.size, 0, none⟩ = some (.slice ag N cg) := fun gs => bkeep gs.below m0
      have o0g : ∀ gs, (grow w0 gs).cell? ⟨w.heap.size + 1, 0, none⟩ = some (.slice ah C ch) := fun gs => bkeep gs.below o0
      have r0g : ∀ gs, (grow w0 gs).cell? ⟨w.heap.size + 1 + 1, 0, none⟩ = some (.slice none 0 0) := fun gs => bkeep gs.below r0
      repeat (go_big_quiet_step ((first | (go_at_call 27; with_reducible exact grow_of (CC1.out _ (hB.trans ((Grows.below _).mono hz)))) | (go_at_call 24; with_reducible exact grow_of (RC2.out _)) | fail)))
      refine wpQuiet_nil ?_
      intro w1 hb1
      clear m0g
      clear o0g
      clear r0g
      have m0 := bkeep hb1 m0
      have o0 := bkeep hb1 o0
      have r0f := bkeepf hb1 r0 r0f
      have r0 := bkeep hb1 r0
      have hB := bthen hB hb1
      have hz := hB.size
      have HT1 := Lib.hid (typ_keep HT0.out hb1)
      clear HT0
      go_wp2
      refine wp_region_grow_tail (w := w1) 5 (by kernel_rfl) (by kernel_rfl) ?_
      simp only [List.take_succ_cons, List.take_zero, List.drop_succ_cons, List.drop_zero]
      have m0g : ∀ gs, (grow w1 gs).cell? ⟨w.heap.size, 0, none⟩ = some (.slice ag N cg) := fun gs => bkeep gs.below m0
      have o0g : ∀ gs, (grow w1 gs).cell? ⟨w.heap.size + 1, 0, none⟩ = some (.slice ah C ch) := fun gs => bkeep gs.below o0
      have r0g : ∀ gs, (grow w1 gs).cell? ⟨w.heap.size + 1 + 1, 0, none⟩ = some (.slice none 0 0) := fun gs => bkeep gs.below r0
      repeat (go_big_quiet_step ((first | (go_at_call 24; with_reducible exact grow_of (RC1.out _)) | (go_at_call 27; with_reducible exact grow_of (CC2.out _ (hB.trans ((Grows.below _).mono hz)))) | fail)))
      refine wpQuiet_nil ?_
      intro w2 hb2
      clear m0g
      clear o0g
      clear r0g
      have m0 := bkeep hb2 m0
      have o0 := bkeep hb2 o0
      have r0f := bkeepf hb2 r0 r0f
      have r0 := bkeep hb2 r0
      have hB := bthen hB hb2
      have hz := hB.size
      have HT2 := Lib.hid (typ_keep HT1.out hb2)
      clear HT1
      go_wp2_with fail
      refine (FC2.out _ hB m0 o0).mono ?_
      rintro e w3 ⟨⟨v3, rfl, hv3⟩, hb3⟩
      have HT3 := typ_keep HT2.out hb3
      have HV := Lib.hid (hv3.rebase hz)
      obtain ⟨a3, c3, rfl⟩ := hv3.lit
      have m0 := bkeep hb3 m0
      have o0 := bkeep hb3 o0
      have r0f := bkeepf hb3 r0 r0f
      have r0 := bkeep hb3 r0
      have hB := bthen hB hb3
      have hz := hB.size
      rw [tab_len] at HV ⊢
      clear FC2 hv3 m0 o0
      go_wp2
      refine bodyPost_ret (v := .tuple #[.agg #[.slice a3 N c3], .int .i64 0]) (by simp [results, Tryz.results50, go_sem, *]) rfl ⟨.inl ⟨by have := HOK.out; omega, _, rfl, HV.out.setM HT3 _⟩, ?_⟩
      repeat (first|exact bzR _ _|exact hB|refine bzD ?_|refine bzN ?_|refine bzS ?_|refine bzA ?_)
    · have hnI : ((C : Int) != (N' : Int)) = false := by simp [h1]
      have hcI : ((C : Int) == 0) = true := by simp; omega
      have HNO := Lib.hid (show ¬ (C = N' ∧ 0 < C) from fun h => h2 h.2)
      clear FC h1 h2
      go_enter Tryz.func50, Tryz.ntmps50
      go_wp2
      refine wp_name fun w0 hW0 => ?_
      have m0 : w0.cell? ⟨w.heap.size, 0, none⟩ = some (.slice ag N cg) := by rw [hW0]; simp [go_sem]
      have zm0 := cell_lt m0
      have o0 : w0.cell? ⟨w.heap.size + 1, 0, none⟩ = some (.slice ah N' ch) := by rw [hW0]; simp [go_sem]
      have zo0 := cell_lt o0
      have r0f : w0.frozen? ⟨w.heap.size + 1 + 1, 0, none⟩ = false := by rw [hW0]; simp [go_sem]
      have r0 : w0.cell? ⟨w.heap.size + 1 + 1, 0, none⟩ = some (.slice none 0 0) := by rw [hW0]; simp [go_sem]
      have zr0 := cell_lt r0
      have hB : Below w.heap.size w w0 := by rw [hW0]; repeat (first|exact bzR _ _|exact hB|refine bzD ?_|refine bzN ?_|refine bzS ?_|refine bzA ?_)
      have hz : w.heap.size ≤ w0.heap.size := hB.size
      clear hW0
      refine wp_region_grow (w := w0) (by kernel_rfl) (by kernel_rfl) ?_
      have m0g : ∀ gs, (grow w0 gs).cell? ⟨w.heap.size, 0, none⟩ = some (.slice ag N cg) := fun gs => bkeep gs.below m0
      have o0g : ∀ gs, (grow w0 gs).cell? ⟨w.heap.size + 1, 0, none⟩ = some (.slice ah N' ch) := fun gs => bkeep gs.below o0
      have r0g : ∀ gs, (grow w0 gs).cell? ⟨w.heap.size + 1 + 1, 0, none⟩ = some (.slice none 0 0) := fun gs => bkeep gs.below r0
      repeat (go_big_quiet_step ((first | (go_at_call 27; with_reducible exact grow_of (CC1.out _ (hB.trans ((Grows.below _).mono hz)))) | (go_at_call 24; with_reducible exact grow_of (RC2.out _)) | fail)))
      refine wpQuiet_nil ?_
      intro w1 hb1
      clear m0g
      clear o0g
      clear r0g
      have m0 := bkeep hb1 m0
      have o0 := bkeep hb1 o0
      have r0f := bkeepf hb1 r0 r0f
      have r0 := bkeep hb1 r0
      have hB := bthen hB hb1
      have hz := hB.size
      go_wp2
      refine bodyPost_ret (v := .tuple #[.agg #[.slice none 0 0], .int .i64 5]) (by simp [results, Tryz.results50, go_sem, *]) rfl ⟨.inr ⟨HNO.out, rfl⟩, ?_⟩
      repeat (first|exact bzR _ _|exact hB|refine bzD ?_|refine bzN ?_|refine bzS ?_|refine bzA ?_)
  · have hnI : ((C : Int) != (N' : Int)) = true := by simp; omega
    have HNO := Lib.hid (show ¬ (C = N' ∧ 0 < C) from fun h => h1 h.1)
    clear FC h1
    go_enter Tryz.func50, Tryz.ntmps50
    go_wp2
    refine wp_name fun w0 hW0 => ?_
    have m0 : w0.cell? ⟨w.heap.size, 0, none⟩ = some (.slice ag N cg) := by rw [hW0]; simp [go_sem]
    have zm0 := cell_lt m0
    have o0 : w0.cell? ⟨w.heap.size + 1, 0, none⟩ = some (.slice ah N' ch) := by rw [hW0]; simp [go_sem]
    have zo0 := cell_lt o0
    have r0f : w0.frozen? ⟨w.heap.size + 1 + 1, 0, none⟩ = false := by rw [hW0]; simp [go_sem]
    have r0 : w0.cell? ⟨w.heap.size + 1 + 1, 0, none⟩ = some (.slice none 0 0) := by rw [hW0]; simp [go_sem]
    have zr0 := cell_lt r0
    have hB : Below w.heap.size w w0 := by rw [hW0]; repeat (first|exact bzR _ _|exact hB|refine bzD ?_|refine bzN ?_|refine bzS ?_|refine bzA ?_)
    have hz : w.heap.size ≤ w0.heap.size := hB.size
    clear hW0
    refine wp_region_grow (w := w0) (by kernel_rfl) (by kernel_rfl) ?_
    have m0g : ∀ gs, (grow w0 gs).cell? ⟨w.heap.size, 0, none⟩ = some (.slice ag N cg) := fun gs => bkeep gs.below m0
    have o0g : ∀ gs, (grow w0 gs).cell? ⟨w.heap.size + 1, 0, none⟩ = some (.slice ah N' ch) := fun gs => bkeep gs.below o0
    have r0g : ∀ gs, (grow w0 gs).cell? ⟨w.heap.size + 1 + 1, 0, none⟩ = some (.slice none 0 0) := fun gs => bkeep gs.below r0
    repeat (go_big_quiet_step ((first | (go_at_call 27; with_reducible exact grow_of (CC1.out _ (hB.trans ((Grows.below _).mono hz)))) | (go_at_call 24; with_reducible exact grow_of (RC2.out _)) | fail)))
    refine wpQuiet_nil ?_
    intro w1 hb1
    clear m0g
    clear o0g
    clear r0g
    have m0 := bkeep hb1 m0
    have o0 := bkeep hb1 o0
    have r0f := bkeepf hb1 r0 r0f
    have r0 := bkeep hb1 r0
    have hB := bthen hB hb1
    have hz := hB.size
    go_wp2
    refine bodyPost_ret (v := .tuple #[.agg #[.slice none 0 0], .int .i64 5]) (by simp [results, Tryz.results50, go_sem, *]) rfl ⟨.inr ⟨HNO.out, rfl⟩, ?_⟩
    repeat (first|exact bzR _ _|exact hB|refine bzD ?_|refine bzN ?_|refine bzS ?_|refine bzA ?_)
def sqB (g : Grid) : Bool := decide (0 < g.length) && decide (g.length = cols g)
set_option maxRecDepth 100000 in
set_option maxHeartbeats 4000000 in
theorem square_c (v : Value) (g : Grid) (w : World) (hv : IsM 0 w v g) : Calls Tryz.prog 147 #[v] w fun e w' => e = .returned (.bool (sqB g)) ∧ Below w.heap.size w w' := by
  obtain ⟨ag, cg, rfl, lv⟩ := hv
  have rc1 := fun V => rowsM_c ag g.length cg V
  have cc1 := fun V (q : Below w.heap.size w V) => colsM_c ag cg g V (lv.keep (prs_prow 0) q)
  clear lv
  unfold sqB
  obtain ⟨N, hN⟩ : ∃ N, g.length = N := ⟨_, rfl⟩
  obtain ⟨C, hC⟩ : ∃ N, cols g = N := ⟨_, rfl⟩
  rw [hN] at rc1 cc1
  rw [hC] at cc1
  rw [hN, hC]
  clear hN hC
  have RC1 := Lib.hid rc1
  have CC1 := Lib.hid cc1
  clear rc1 cc1
  have hB := Below.refl w.heap.size w
  by_cases h1 : 0 < N
  · have hnI : (0 : Int) < (N : Int) := by omega
    have hE := Lib.hid (show (decide (0 < N) && decide (N = C)) = ((N : Int) == (C : Int)) from by
      by_cases e : N = C
      · subst e; simp [h1]
      · have : ¬ (N : Int) = (C : Int) := by omega
        simp [e, this])
    have q1 : decide ((0 : Int) < (N : Int)) = true := by simp; omega
    have q2 : decide (0 < N) = true := by simp; omega
    clear h1
    go_enter Tryz.func147, Tryz.ntmps147
    go_wp2
    refine wp_name fun w0 hW0 => ?_
    have m0 : w0.cell? ⟨w.heap.size, 0, none⟩ = some (.slice ag N cg) := by rw [hW0]; simp [go_sem]
    have zm0 := cell_lt m0
    have hB : Below w.heap.size w w0 := by rw [hW0]; repeat (first|exact bzR _ _|exact hB|refine bzD ?_|refine bzN ?_|refine bzS ?_|refine bzA ?_)
    have hz : w.heap.size ≤ w0.heap.size := hB.size
    clear hW0
    refine wp_region_grow (w := w0) (by kernel_rfl) (by kernel_rfl) ?_
    have m0g : ∀ gs, (grow w0 gs).cell? ⟨w.heap.size, 0, none⟩ = some (.slice ag N cg) := fun gs => bkeep gs.below m0
    repeat (go_big_quiet_step ((first | (go_at_call 27; with_reducible exact grow_of (CC1.out _ (hB.trans ((Grows.below _).mono hz)))) | (go_at_call 24; with_reducible exact grow_of (RC1.out _)) | fail)))
    refine wpQuiet_nil ?_
    intro w1 hb1
    clear m0g
    have m0 := bkeep hb1 m0
    have hB := bthen hB hb1
    have hz := hB.size
    go_wp2
    go_ret
    exact ⟨by rw [hE.out]; rfl, hB⟩
  · obtain rfl : N = 0 := by omega
    clear h1
    go_enter Tryz.func147, Tryz.ntmps147
    go_wp2
    refine wp_name fun w0 hW0 => ?_
    have m0 : w0.cell? ⟨w.heap.size, 0, none⟩ = some (.slice ag 0 cg) := by rw [hW0]; simp [go_sem]
    have zm0 := cell_lt m0
    have hB : Below w.heap.size w w0 := by rw [hW0]; repeat (first|exact bzR _ _|exact hB|refine bzD ?_|refine bzN ?_|refine bzS ?_|refine bzA ?_)
    have hz : w.heap.size ≤ w0.heap.size := hB.size
    clear hW0
    refine wp_region_grow (w := w0) (by kernel_rfl) (by kernel_rfl) ?_
    have m0g : ∀ gs, (grow w0 gs).cell? ⟨w.heap.size, 0, none⟩ = some (.slice ag 0 cg) := fun gs => bkeep gs.below m0
    repeat (go_big_quiet_step ((first | (go_at_call 24; with_reducible exact grow_of (RC1.out _)) | fail)))
    refine wpQuiet_nil ?_
    intro w1 hb1
    clear m0g
    have m0 := bkeep hb1 m0
    have hB := bthen hB hb1
    have hz := hB.size
    go_wp2
    go_ret
    exact ⟨rfl, hB⟩
end Go.Proofs.YtbmaffijncapiaaGreatDoor

/- matrix: New. -/
namespace Go.Proofs.YtbmaffijncapiaaGreatDoor
open Num
open Go.ChangeShapes Go.WideShapes Go.ChangeAt Go.RowKit
set_option linter.unusedVariables false
set_option linter.unusedSimpArgs false
attribute [local go_sem ↓] Go.wp_at_zero Go.wp_at_succ
structure VarMx (b : Nat) (w : World) (v : Value) : Prop where
  ty : typOf w b = some 47
  c : w.cell? ⟨b, 0, none⟩ = some v
  f : w.frozen? ⟨b, 0, none⟩ = false
theorem VarMx.keep {b : Nat} {w w' : World} {v : Value} (h : VarMx b w v) (k : Below w.heap.size w w') : VarMx b w' v := ⟨typ_keep h.ty k, bkeep k h.c, bkeepf k h.c h.f⟩
theorem VarMx.kp {b : Nat} {S : TypeId → Prop} {w w' : World} {v : Value} (h : VarMx b w v) (k : Kp S w w') (hs : S 47) : VarMx b w' v := ⟨k.typ h.ty hs, k.cell h.ty hs h.c, k.frz h.ty hs h.f⟩
theorem VarMx.set {b : Nat} {w : World} {v : Value} (h : VarMx b w v) (u : Value) : VarMx b (w.setCell ⟨b, 0, none⟩ u) u := ⟨by rw [typ_set]; exact h.ty, cell_here h.c u, by rw [World.frozen?_setCell]; exact h.f⟩
theorem VarMx.far {b : Nat} {w : World} {v : Value} (h : VarMx b w v) {p : Addr} (hp : p.block ≠ b) (u : Value) : VarMx b (w.setCell p u) v := ⟨by rw [typ_set]; exact h.ty, cell_far h.c (fun e => hp (by rw [e])) u, by rw [World.frozen?_setCell]; exact h.f⟩
def fitsE (g : Grid) : Int := if g.length = 0 ∨ cols g = 0 then 2 else if 16 < g.length ∨ 16 < cols g then 3 else if ∀ i, i < g.length → (g.getD i []).length = cols g then 0 else 5
def NewMPost (g : Grid) (w : World) (e : Ending) (w' : World) : Prop :=
  ((fitsE g = 0 ∧ ∃ v, e = .returned (.tuple #[v, .int .i64 0]) ∧ IsM w.heap.size w' v g) ∨ (fitsE g ≠ 0 ∧ e = .returned (.tuple #[.agg #[.slice none 0 0], .int .i64 (fitsE g)]))) ∧ Below w.heap.size w w'
theorem newM_no {g : Grid} {w w' : World} {k : Int} (h : fitsE g = k) (hk : k ≠ 0) (hb : Below w.heap.size w w') : NewMPost g w (.returned (.tuple #[.agg #[.slice none 0 0], .int .i64 k])) w' := by
  subst h; exact ⟨.inr ⟨hk, rfl⟩, hb⟩
theorem newM_yes {g : Grid} {w w' : World} {v : Value} (h : fitsE g = 0) (hv : IsM w.heap.size w' v g) (hb : Below w.heap.size w w') : NewMPost g w (.returned (.tuple #[v, .int .i64 0])) w' := ⟨.inl ⟨h, _, rfl, hv⟩, hb⟩
set_option maxRecDepth 100000 in
set_option maxHeartbeats 16000000 in
theorem newM_c (v : Value) (g : Grid) (w : World) (hv : IsL 68 (PRow 0) 0 w v g) (hl : ∀ i, i < g.length → (g.getD i []).length ≤ 1099511627775) :
    Calls Tryz.prog 43 #[v] w (NewMPost g w) := by
  have HV := Lib.hid hv
  obtain ⟨ga, gc, rfl, -⟩ := hv
  have hB := Below.refl w.heap.size w
  by_cases h0 : g.length = 0
  · have HEE : Hid (fitsE g = 2) := Lib.hid (by unfold fitsE; rw [if_pos (.inl h0)])
    rw [h0] at *
    have hnI : ((0 : Int) == 0) = true := rfl
    clear HV hl
    go_enter Tryz.func43, Tryz.ntmps43
    go_wp2
    refine bodyPost_ret (v := .tuple #[.agg #[.slice none 0 0], .int .i64 2]) (by simp [results, Tryz.results43, go_sem, *]) rfl (newM_no HEE.out (by decide) ?_)
    repeat (first|exact bzR _ _|exact hB|refine bzD ?_|refine bzN ?_|refine bzS ?_|refine bzA ?_)
  · obtain ⟨c', gb, go, ra, rc, e, hu, hp⟩ := HV.out.row (show 0 < g.length by omega)
    obtain ⟨rfl, -, rfl⟩ := Value.slice.inj e
    rw [Nat.add_zero] at hu
    have zu := cell_lt hu
    have zu1 : gb < w.heap.size + 1 := by omega
    have hnI : ((g.length : Int) == 0) = false := beq_eq_false_iff_ne.2 (by omega)
    have hn0 : (0 : Int) < (g.length : Int) := by omega
    have hcol : (g.getD 0 []).length = cols g := rfl
    rw [hcol] at hu
    clear hcol e hp
    obtain ⟨m, hm⟩ : ∃ m, cols g = m := ⟨_, rfl⟩
    rw [hm] at hu
    have HM := Lib.hid hm
    clear hm
    by_cases h1 : m = 0
    · subst h1
      have HEE : Hid (fitsE g = 2) := Lib.hid (by unfold fitsE; rw [if_pos (.inr HM.out)])
      clear HV hl HM
      go_enter Tryz.func43, Tryz.ntmps43
      go_wp2
      refine bodyPost_ret (v := .tuple #[.agg #[.slice none 0 0], .int .i64 2]) (by simp [results, Tryz.results43, go_sem, *]) rfl (newM_no HEE.out (by decide) ?_)
      repeat (first|exact bzR _ _|exact hB|refine bzD ?_|refine bzN ?_|refine bzS ?_|refine bzA ?_)
    · have hmI : ((m : Int) == 0) = false := by simp; omega
      have hne : ¬ (g.length = 0 ∨ cols g = 0) := by rw [HM.out]; omega
      by_cases h2 : 16 < g.length
      · have HEE : Hid (fitsE g = 3) := Lib.hid (by unfold fitsE; rw [if_neg hne, if_pos (.inl h2)])
        have hb1 : (16 : Int) < (g.length : Int) := by omega
        clear HV hl HM hne
        go_enter Tryz.func43, Tryz.ntmps43
        go_wp2
        refine bodyPost_ret (v := .tuple #[.agg #[.slice none 0 0], .int .i64 3]) (by simp [results, Tryz.results43, go_sem, *]) rfl (newM_no HEE.out (by decide) ?_)
        repeat (first|exact bzR _ _|exact hB|refine bzD ?_|refine bzN ?_|refine bzS ?_|refine bzA ?_)
      · have hb1 : ¬ (16 : Int) < (g.length : Int) := by omega
        by_cases h3 : 16 < m
        · have HEE : Hid (fitsE g = 3) := Lib.hid (by unfold fitsE; rw [if_neg hne, if_pos (.inr (by rw [HM.out]; exact h3))])
          have hb2 : (16 : Int) < (m : Int) := by omega
          clear HV hl HM hne
          go_enter Tryz.func43, Tryz.ntmps43
          go_wp2
          refine bodyPost_ret (v := .tuple #[.agg #[.slice none 0 0], .int .i64 3]) (by simp [results, Tryz.results43, go_sem, *]) rfl (newM_no HEE.out (by decide) ?_)
          repeat (first|exact bzR _ _|exact hB|refine bzD ?_|refine bzN ?_|refine bzS ?_|refine bzA ?_)
        · have hb2 : ¬ (16 : Int) < (m : Int) := by omega
          have HE := Lib.hid (show fitsE g = if ∀ i, i < g.length → (g.getD i []).length = m then 0 else 5 from by
            unfold fitsE; rw [if_neg hne, if_neg (by rw [HM.out]; omega), HM.out])
          clear hne hl
          go_enter Tryz.func43, Tryz.ntmps43
          go_wp2
          refine wp_name fun w0 hW0 => ?_
          have hB0 : Below w.heap.size w w0 := by rw [hW0]; repeat (first|exact bzR _ _|exact hB|refine bzD ?_|refine bzN ?_|refine bzS ?_|refine bzA ?_)
          have HR0 := Lib.hid (show VarMx w.heap.size w0 (.slice none 0 0) ∧ VarMx (w.heap.size + 1) w0 (.slice none 0 0) from by
            rw [hW0]
            exact ⟨⟨typ_alloc (typ_fresh rfl), by simp [go_sem], by simp [go_sem]⟩, ⟨typ_fresh (by simp), by simp [go_sem], by simp [go_sem]⟩⟩)
          clear hW0
          go_loopw [31] (fun x wr => ∃ k : Nat, k ≤ g.length ∧ x = .int .i64 k ∧ Below w.heap.size w wr ∧ Hid (VarMx w.heap.size wr (.slice none 0 0) ∧ (∃ rv, VarMx (w.heap.size + 1) wr rv ∧ OwnL 68 (PRow w.heap.size) w wr rv (g.take k))) ∧ Hid (∀ j, j < k → (g.getD j []).length = m)) (fun x _ => g.length - (intOf x).toNat)
          case atStart => exact ⟨0, Nat.zero_le _, rfl, hB0, Lib.hid ⟨HR0.out.1, _, HR0.out.2, OwnL.nil _ _ hB0⟩, Lib.hid (fun j hj => by omega)⟩
          case round =>
            obtain ⟨k, hk, rfl, hBr, hrel, hall⟩ := hrel
            obtain ⟨hR, rv, hM, hO⟩ := hrel.out
            have r0 := hR.c
            have r0f := hR.f
            have zr := cell_lt r0
            by_cases hlt : k < g.length
            · have hltI : (k : Int) < (g.length : Int) := by omega
              obtain ⟨c2, gb2, go2, ra2, rc2, e2, hu2, hp2⟩ := (HV.out.keep (prs_prow 0) hBr).row hlt
              obtain ⟨⟨rfl, rfl⟩, -, rfl⟩ : (gb = gb2 ∧ go = go2) ∧ True ∧ gc = c2 := by
                have := Value.slice.inj e2
                simp at this
                exact ⟨this.1, trivial, this.2⟩
              have hu0 := bkeep hBr hu
              have zu2 := cell_lt hu0
              have zu3 := cell_lt hu2
              obtain ⟨lk, hlk⟩ : ∃ n, (g.getD k []).length = n := ⟨_, rfl⟩
              have HP2 := Lib.hid hp2
              rw [hlk] at hu2 HP2
              have HLK := Lib.hid hlk
              clear e2 hp2 hlk
              by_cases e1 : lk = m
              · subst e1
                have hq1 : ((lk : Int) != (lk : Int)) = false := by simp
                have HAL := Lib.hid (show ∀ j, j < k + 1 → (g.getD j []).length = lk from fun j hj => by
                  by_cases e : j = k
                  · subst e; exact HLK.out
                  · exact hall.out j (by omega))
                have kcl := fun W (h : Below wr.heap.size wr W) => cloneRow_c 0 (.slice ra2 lk rc2) (g.getD k []) W (HP2.out.keep lims_int h) (by rw [HLK.out]; omega)
                have HTK := Lib.hid (take_getD [] hlt)
                obtain ⟨row, hrow⟩ : ∃ row, g.getD k [] = row := ⟨_, rfl⟩
                rw [hrow] at HTK kcl
                clear hrow
                have hlen : (g.take k).length = k := by rw [List.length_take]; omega
                obtain ⟨oa, oc, hrv⟩ := hO.ex
                rw [hlen] at hrv
                subst hrv
                have HMM := Lib.hid hM
                have HRR := Lib.hid hR
                have HOO := Lib.hid hO
                have m0 := hM.c
                have m0f := hM.f
                have zm := cell_lt m0
                have HLEN := Lib.hid hlen
                clear hM hO hR hlen hrel hall
                go_upto_region 11 with (fail)
                have hBw := Below.refl wr.heap.size wr
                go_region_law (first
                  | (refine stepL elRow (prs_prow _) (by decide) (by rfl) (by rfl) (HO5.out.below (prs_prow _) (bal (Below.refl _ _) _)) ((prs_prow _).kp HR5.out (Kp.of_below _ (bal (Below.refl _ _) _))) (by rfl) (by rfl) (cell_new rfl rfl) (by rw [HLEN.out]; omega) (by rw [HLEN.out]; unfold maxLen; omega) ?_; intro v' w8 hO8 hk8; have HO8 := Lib.hid hO8; have HM8 := Lib.hid ((HM5.out.keep (bal (Below.refl _ _) _)).kp hk8 (by decide)); have HR8 := Lib.hid ((HRR5.out.keep (bal (Below.refl _ _) _)).kp hk8 (by decide)); have d4 := HM8.out.c; have df4 := HM8.out.f; have zd4 := cell_lt d4; obtain ⟨a8, c8, hv8⟩ := hO8.ex; rw [List.length_append, HLEN.out] at hv8; subst hv8; clear hO8 hk8)
                  | (go_simp; go_wp2_with (go_at_call 129; refine (kcl _ ?_).mono ?_; (repeat (first|exact bzR _ _|exact hBw|refine bzD ?_|refine bzN ?_|refine bzS ?_|refine bzA ?_)); rintro e w5 ⟨⟨v5, rfl, hr5⟩, hb5⟩; have hB5 : Below wr.heap.size wr w5 := bthen (by repeat (first|exact bzR _ _|exact hBw|refine bzD ?_|refine bzN ?_|refine bzS ?_|refine bzA ?_)) hb5; have hs5 := hB5.size; have HR5 := Lib.hid (show PRow w.heap.size w5 v5 row from hr5.row.rebase (show w.heap.size ≤ _ from hBr.size)); have HM5 := Lib.hid (HMM.out.keep hB5); have HRR5 := Lib.hid (HRR.out.keep hB5); have HO5 := Lib.hid (HOO.out.below (prs_prow _) hB5); have b4 := HM5.out.c; have b4f := HM5.out.f; have zb4 := cell_lt b4; obtain ⟨a5, c5, rfl⟩ := hr5.ex)))
                all_goals
                  have HEND := Lib.hid (show VarMx w.heap.size (w8.setCell ⟨w.heap.size + 1, 0, none⟩ (.slice a8 (k + 1) c8)) (.slice none 0 0) ∧ ∃ rv, VarMx (w.heap.size + 1) (w8.setCell ⟨w.heap.size + 1, 0, none⟩ (.slice a8 (k + 1) c8)) rv ∧ OwnL 68 (PRow w.heap.size) w (w8.setCell ⟨w.heap.size + 1, 0, none⟩ (.slice a8 (k + 1) c8)) rv (g.take (k + 1)) from
                    ⟨HR8.out.far (by show w.heap.size + 1 ≠ w.heap.size; omega) _, _, HM8.out.set _, by rw [HTK.out]; exact HO8.out.set (prs_prow _) HM8.out.ty (by decide) (by decide) (by show w.heap.size ≤ w.heap.size + 1; omega) _⟩)
                  have hB8 := bset HO8.out.bel (p := ⟨w.heap.size + 1, 0, none⟩) (by show w.heap.size ≤ w.heap.size + 1; omega) (.slice a8 (k + 1) c8)
                  go_wp2
                  exact ⟨⟨k + 1, by omega, by go_num, hB8, HEND, HAL⟩, by simp [intOf]; omega⟩
              · have hq1 : ((lk : Int) != (m : Int)) = true := by simp; omega
                have HEE : Hid (fitsE g = 5) := Lib.hid (by rw [HE.out, if_neg (fun h => e1 (by rw [← h k hlt]; exact HLK.out.symm))])
                clear hM hO hR hrel
                go_wp2
                refine bodyPost_ret (v := .tuple #[.agg #[.slice none 0 0], .int .i64 5]) (by simp [results, Tryz.results43, go_sem, *]) rfl (newM_no HEE.out (by decide) ?_)
                repeat (first|exact bzR _ _|exact hBr|refine bzD ?_|refine bzN ?_|refine bzS ?_|refine bzA ?_)
            · obtain rfl : k = g.length := by omega
              rw [List.take_length] at hO
              have HEE : Hid (fitsE g = 0) := Lib.hid (by rw [HE.out, if_pos hall.out])
              have HL := Lib.hid hO.isL
              have m0 := hM.c
              have zm := cell_lt m0
              have HTR := Lib.hid hR.ty
              obtain ⟨oa, oc, rfl⟩ := hO.ex
              have HIM := Lib.hid (show IsM w.heap.size wr (.agg #[.slice oa g.length oc]) g from ⟨oa, oc, rfl, HL.out⟩)
              clear hM hO hR hrel HE
              go_wp2
              refine bodyPost_ret (v := .tuple #[.agg #[.slice oa g.length oc], .int .i64 0]) (by simp [results, Tryz.results43, go_sem, *]) rfl (newM_yes HEE.out (HIM.out.setM HTR.out _) ?_)
              repeat (first|exact bzR _ _|exact hBr|refine bzD ?_|refine bzN ?_|refine bzS ?_|refine bzA ?_)
end Go.Proofs.YtbmaffijncapiaaGreatDoor

/- matrix: rows that are written, each in a block of its own; the bits of elimination. -/
namespace Go.Proofs.YtbmaffijncapiaaGreatDoor
open Num
open Go.ChangeShapes Go.WideShapes Go.ChangeAt Go.RowKit
set_option linter.unusedVariables false
set_option linter.unusedSimpArgs false
def kb (K t : Nat) : Nat := (K + 1) * 2 ^ t - 1
theorem kb_zero (K : Nat) : kb K 0 = K := by unfold kb; simp
theorem kb_pos (K t : Nat) : 1 ≤ (K + 1) * 2 ^ t := Nat.mul_pos (by omega) (Nat.pow_pos (by omega))
theorem kb_succ (K t : Nat) : kb K (t + 1) = kb K t + kb K t + 1 := by
  have := kb_pos K t
  unfold kb
  rw [Nat.pow_succ, ← Nat.mul_assoc]
  generalize (K + 1) * 2 ^ t = x at *
  omega
theorem kb_mono (K : Nat) {s t : Nat} (h : s ≤ t) : kb K s ≤ kb K t := by
  induction t with
  | zero => have : s = 0 := by omega
            subst this; exact Nat.le_refl _
  | succ t ih =>
    by_cases e : s = t + 1
    · subst e; exact Nat.le_refl _
    · have := ih (by omega); rw [kb_succ]; omega
theorem Bd.ediv {k : Nat} {x : Int} (h : Bd k x) (c : Int) : Bd k (x / c) := Nat.lt_of_le_of_lt (Int.natAbs_ediv_le_natAbs x c) h
theorem elR_len (n : Nat) (a : Nat → Nat → Int) (t : Nat) : (Det.elR n a t).p.length ≤ n := by
  obtain ⟨q, h⟩ := Det.inv_all n t a t (Nat.le_refl _); exact h.k
theorem elR_nz (n : Nat) (a : Nat → Nat → Int) (t : Nat) : (Det.elR n a t).last ≠ 0 := by
  obtain ⟨q, h⟩ := Det.inv_all n t a t (Nat.le_refl _); exact h.nz
theorem elR_sgn (n : Nat) (a : Nat → Nat → Int) (t : Nat) : (Det.elR n a t).sign = 1 ∨ (Det.elR n a t).sign = -1 := by
  obtain ⟨q, h⟩ := Det.inv_all n t a t (Nat.le_refl _); exact h.sgn
theorem swp_bd {n m K : Nat} {g : Nat → Nat → Int} {i k : Nat} (hi : i < n) (hk : k < n) (h : ∀ r c, r < n → c < m → Bd K (g r c)) : ∀ r c, r < n → c < m → Bd K (Det.swp g i k r c) := fun r c hr hc => by
  unfold Det.swp; split
  · exact h k c hk hc
  · split
    · exact h i c hi hc
    · exact h r c hr hc
theorem elNew_bd {n m K t : Nat} {g : Nat → Nat → Int} {k j : Nat} {last : Int} (hk : k < n) (hj : j < m) (h : ∀ r c, r < n → c < m → Bd (kb K t) (g r c)) {r c : Nat} (hr : r < n) (hc : c < m) : Bd (kb K (t + 1)) (Det.elNew g k j last r c) := by
  rw [kb_succ]
  unfold Det.elNew
  exact Bd.ediv (Bd.sub (Bd.mul (h k j hk hj) (h r c hr hc)) (Bd.mul (h r j hr hj) (h k c hk hc))) _
theorem elR_bd {n m K : Nat} {a : Nat → Nat → Int} (h1 : 1 ≤ K) (ha : ∀ r c, r < n → c < m → Bd K (a r c)) : ∀ t, t ≤ m → (∀ r c, r < n → c < m → Bd (kb K t) ((Det.elR n a t).g r c)) ∧ Bd (kb K t) (Det.elR n a t).last
  | 0, _ => by
    rw [kb_zero]
    exact ⟨ha, Nat.lt_of_lt_of_le (by decide : (1 : Int).natAbs < 2 ^ 1) (Nat.pow_le_pow_right (by omega) h1)⟩
  | t + 1, ht => by
    obtain ⟨hg, hl⟩ := elR_bd h1 ha t (by omega)
    have hlen := elR_len n a t
    show (∀ r c, r < n → c < m → Bd (kb K (t + 1)) ((Det.elStep n (Det.elR n a t) t).g r c)) ∧ Bd (kb K (t + 1)) (Det.elStep n (Det.elR n a t) t).last
    obtain ⟨s, hs⟩ : ∃ s, Det.elR n a t = s := ⟨_, rfl⟩
    rw [hs] at hg hl hlen ⊢
    have hge := Det.fr_ge s.g t (n - s.p.length) s.p.length
    have up := kb_mono K (show t ≤ t + 1 by omega)
    by_cases e : Det.fr s.g t (n - s.p.length) s.p.length = n
    · unfold Det.elStep
      rw [if_pos e]
      exact ⟨fun r c hr hc => (hg r c hr hc).mono up, hl.mono up⟩
    · have hsw := swp_bd (K := kb K t) (i := Det.fr s.g t (n - s.p.length) s.p.length) (k := s.p.length) (by omega : _ < n) (by omega) hg
      unfold Det.elStep
      rw [if_neg e]
      refine ⟨fun r c hr hc => ?_, ?_⟩
      · dsimp only
        split
        · exact elNew_bd (by omega) (by omega) hsw hr hc
        · exact (hsw r c hr hc).mono up
      · exact (hsw _ _ (by omega) (by omega)).mono up
structure RowsW (base top B n m : Nat) (w : World) (bs : Nat → Nat) (g : Nat → Nat → Int) : Prop where
  tB : typOf w B = some 68
  lo : base ≤ B
  hi : B < top
  fB : Free w B
  cell : ∀ i, i < n → ∃ c, w.cell? ⟨B, i, none⟩ = some (.slice (some ⟨bs i, 0, none⟩) m c)
  ty : ∀ i, i < n → typOf w (bs i) = some 50
  lob : ∀ i, i < n → base ≤ bs i
  hib : ∀ i, i < n → bs i < top
  fr : ∀ i, i < n → Free w (bs i)
  inj : ∀ i j, i < n → j < n → bs i = bs j → i = j
  num : ∀ i, i < n → IntsF IsInt w (bs i) 0 m (g i)
section
variable {base top B n m : Nat} {w w' : World} {bs : Nat → Nat} {g g' : Nat → Nat → Int}
theorem RowsW.congr (h : RowsW base top B n m w bs g) (e : ∀ r c, r < n → c < m → g r c = g' r c) : RowsW base top B n m w bs g' :=
  ⟨h.tB, h.lo, h.hi, h.fB, h.cell, h.ty, h.lob, h.hib, h.fr, h.inj, fun i hi => (h.num i hi).congr fun k hk => e i k hi hk⟩
theorem RowsW.out {X : Nat → Prop} (h : RowsW base top B n m w bs g) (ho : Out X w w') (hx : ∀ q, base ≤ q → q < top → ¬ X q) (hl : Lim w w') : RowsW base top B n m w' bs g := by
  have bB := hx B h.lo h.hi
  have bi : ∀ i, i < n → ¬ X (bs i) := fun i hi => hx _ (h.lob i hi) (h.hib i hi)
  refine ⟨by rw [typ_of_block (w := w) (ho.block B (typ_lt h.tB) bB)]; exact h.tB, h.lo, h.hi, h.fB.out ho bB, fun i hi => ?_, fun i hi => by rw [typ_of_block (w := w) (ho.block _ (typ_lt (h.ty i hi)) (bi i hi))]; exact h.ty i hi, h.lob, h.hib, fun i hi => (h.fr i hi).out ho (bi i hi), h.inj, fun i hi => (h.num i hi).out lims_int ho (bi i hi) hl⟩
  obtain ⟨c, hc⟩ := h.cell i hi
  exact ⟨c, okeep ho hc bB⟩
theorem RowsW.keep (h : RowsW base top B n m w bs g) (k : Below w.heap.size w w') : RowsW base top B n m w' bs g :=
  h.out (X := fun _ => False) (Out.of_below _ k) (fun _ _ _ hf => hf) (Lim.of_below k)
theorem RowsW.put (h : RowsW base top B n m w bs g) {i c : Nat} (hi : i < n) (hc : c < m) {nb : Bool} {a : Option Addr} {len cp : Nat} {z : Int} (hv : IsInt w (.agg #[.bool nb, .slice a len cp]) z) :
    RowsW base top B n m ((w.setCell ⟨bs i, c * 2, none⟩ (.bool nb)).setCell ⟨bs i, c * 2 + 1, none⟩ (.slice a len cp)) bs (fun r c' => if r = i ∧ c' = c then z else g r c') := by
  have hne : ∀ j, j < n → j ≠ i → bs i ≠ bs j := fun j hj hji e => hji (h.inj j i hj hi e.symm)
  have hBi : bs i ≠ B := fun e => by
    have h1 := h.ty i hi
    rw [e, h.tB] at h1
    exact absurd (Option.some.inj h1) (by decide)
  refine ⟨by rw [typ_set, typ_set]; exact h.tB, h.lo, h.hi, (h.fB.set _ _).set _ _, fun j hj => ?_, fun j hj => by rw [typ_set, typ_set]; exact h.ty j hj, h.lob, h.hib, fun j hj => ((h.fr j hj).set _ _).set _ _, h.inj, fun j hj => ?_⟩
  · obtain ⟨c0, hc0⟩ := h.cell j hj
    exact ⟨c0, cell_far (cell_far hc0 (addr_ne hBi) _) (addr_ne hBi) _⟩
  · by_cases e : j = i
    · subst e
      refine (IntsF.store0 lims_int (h.num j hj) hc hv).congr fun k hk => ?_
      by_cases e2 : k = c
      · subst e2; simp
      · simp [e2]
    · obtain ⟨nb0, a0, len0, c0, o0, o1, -⟩ := (h.num i hi).at0 hc
      exact (IntsF.far lims_int (h.num j hj) (hne j hj e) o0 o1 _ _).congr fun k hk => by rw [if_neg (fun hh => e hh.1)]
theorem RowsW.swap (h : RowsW base top B n m w bs g) {i k : Nat} (hi : i < n) (hk : k < n) {ci ck : Nat} (hci : w.cell? ⟨B, i, none⟩ = some (.slice (some ⟨bs i, 0, none⟩) m ci)) (hck : w.cell? ⟨B, k, none⟩ = some (.slice (some ⟨bs k, 0, none⟩) m ck)) :
    RowsW base top B n m ((w.setCell ⟨B, i, none⟩ (.slice (some ⟨bs k, 0, none⟩) m ck)).setCell ⟨B, k, none⟩ (.slice (some ⟨bs i, 0, none⟩) m ci)) (fun r => if r = k then bs i else if r = i then bs k else bs r) (Det.swp g i k) := by
  have hk0 : Kp (fun t => t ≠ 68) w ((w.setCell ⟨B, i, none⟩ (.slice (some ⟨bs k, 0, none⟩) m ck)).setCell ⟨B, k, none⟩ (.slice (some ⟨bs i, 0, none⟩) m ci)) :=
    (((Kp.refl _ w).set (p := ⟨B, i, none⟩) (fun t ht => by rw [h.tB] at ht; cases ht; exact fun hh => hh rfl) _).set (p := ⟨B, k, none⟩) (fun t ht => by rw [typ_set, h.tB] at ht; cases ht; exact fun hh => hh rfl) _)
  have pick : ∀ r, r < n → ∃ r', r' < n ∧ (if r = k then bs i else if r = i then bs k else bs r) = bs r' ∧ (r' = if r = k then i else if r = i then k else r) := fun r hr => by
    by_cases e1 : r = k
    · exact ⟨i, hi, by rw [if_pos e1], by rw [if_pos e1]⟩
    · by_cases e2 : r = i
      · exact ⟨k, hk, by rw [if_neg e1, if_pos e2], by rw [if_neg e1, if_pos e2]⟩
      · exact ⟨r, hr, by rw [if_neg e1, if_neg e2], by rw [if_neg e1, if_neg e2]⟩
  refine ⟨by rw [typ_set, typ_set]; exact h.tB, h.lo, h.hi, (h.fB.set _ _).set _ _, fun r hr => ?_, fun r hr => ?_, fun r hr => ?_, fun r hr => ?_, fun r hr => ?_, fun r s hr hs e => ?_, fun r hr => ?_⟩
  · by_cases e1 : r = k
    · subst e1
      refine ⟨ci, ?_⟩
      rw [if_pos rfl]
      by_cases e2 : r = i
      · subst e2; exact cell_here (cell_here hci _) _
      · exact cell_here (cell_far hck (by simp <;> omega) _) _
    · by_cases e2 : r = i
      · subst e2
        refine ⟨ck, ?_⟩
        rw [if_neg e1, if_pos rfl]
        exact cell_far (cell_here hci _) (by simp <;> omega) _
      · obtain ⟨c, hc⟩ := h.cell r hr
        refine ⟨c, ?_⟩
        rw [if_neg e1, if_neg e2]
        exact cell_far (cell_far hc (by simp <;> omega) _) (by simp <;> omega) _
  · obtain ⟨r', h1, h2, -⟩ := pick r hr
    rw [h2, typ_set, typ_set]; exact h.ty r' h1
  · obtain ⟨r', h1, h2, -⟩ := pick r hr
    rw [h2]; exact h.lob r' h1
  · obtain ⟨r', h1, h2, -⟩ := pick r hr
    rw [h2]; exact h.hib r' h1
  · obtain ⟨r', h1, h2, -⟩ := pick r hr
    rw [h2]; exact ((h.fr r' h1).set _ _).set _ _
  · obtain ⟨r', h1, h2, h3⟩ := pick r hr
    obtain ⟨s', k1, k2, k3⟩ := pick s hs
    rw [h2, k2] at e
    have := h.inj r' s' h1 k1 e
    rw [h3, k3] at this
    by_cases a1 : r = k <;> by_cases a2 : r = i <;> by_cases a3 : s = k <;> by_cases a4 : s = i <;> simp only [a1, a2, a3, a4, if_true, if_false] at this ⊢ <;> first | omega | (split at this <;> omega)
  · obtain ⟨r', h1, h2, h3⟩ := pick r hr
    rw [h2]
    refine ((h.num r' h1).stay lims_int ?_ (hk0.lim (by decide))).congr fun c hc => ?_
    · exact hk0 _ _ (h.ty r' h1) (by decide)
    · unfold Det.swp
      rw [h3]
      by_cases a1 : r = k <;> by_cases a2 : r = i
      · rw [if_pos a1, if_pos a2]; rw [← a1, ← a2]
      · rw [if_pos a1, if_neg a2, if_pos a1]
      · rw [if_neg a1, if_pos a2, if_pos a2]
      · rw [if_neg a1, if_neg a2, if_neg a2, if_neg a1]
end
def PRb (base : Nat) (w : World) (u : Value) (x : Nat × List Int) : Prop :=
  ∃ c, u = .slice (some ⟨x.1, 0, none⟩) x.2.length c ∧ base ≤ x.1 ∧ typOf w x.1 = some 50 ∧ Free w x.1 ∧ IntsF IsInt w x.1 0 x.2.length (fun k => x.2.getD k 0)
theorem prs_prb (base : Nat) : Prs (fun t => t = 177 ∨ t = 50) (PRb base) where
  one := fun ⟨c, e, _⟩ => by rw [e]; rfl
  kp := fun {w w' u x} ⟨c, e, hb, ht, hf, hi⟩ k => by
    refine ⟨c, e, hb, k.typ ht (.inr rfl), ?_, hi.stay lims_int (k _ _ ht (.inr rfl)) (k.lim (.inl rfl))⟩
    have hb := k _ _ ht (.inr rfl)
    refine ⟨?_, fun j => by rw [World.frozen?_of_block (w := w) hb]; exact hf.2 j⟩
    have h1 : typOf w' x.1 = some 50 := k.typ ht (.inr rfl)
    exact typ_lt h1
theorem RowO.prb {base : Nat} {w : World} {v : Value} {l : List Int} (h : RowO IsInt 50 base w v l) (hl : 0 < l.length) : ∃ b, PRb base w v (b, l) := by
  obtain ⟨xs, ⟨hlen, h1⟩, h2⟩ := h
  rcases h1 with ⟨rfl, h0⟩ | ⟨g, cap, cur, rfl, hg, hh, hc, hm, hs, ht⟩
  · omega
  · have hty : typOf w g = some 50 := by unfold typOf; rw [hh]
    refine ⟨g, cap, rfl, hg, hty, ⟨typ_lt hty, fun j => by simp [World.frozen?, hh]⟩, fun k hk => ?_⟩
    obtain ⟨nb, a, len, c, k1, k2, k3⟩ := h2 k hk
    have cel : ∀ j u, xs[j]? = some u → w.cell? ⟨g, j, none⟩ = some u := fun j u hj => by
      have hj2 : j < l.length * 2 := by have := (List.getElem?_eq_some_iff.1 hj).1; omega
      rw [← ht, List.getElem?_take_of_lt (by omega)] at hj
      simpa [World.cell?, hh] using hj
    exact ⟨nb, a, len, c, by rw [Nat.zero_add]; exact cel _ _ k1, by rw [Nat.zero_add]; exact cel _ _ k2, k3⟩
def PInt (w : World) (u : Value) (x : Nat) : Prop := u = .int .i64 (x : Nat)
theorem prs_pint : Prs (fun _ => False) PInt := ⟨fun h => by cases h; rfl, fun h _ => h⟩
end Go.Proofs.YtbmaffijncapiaaGreatDoor

/- A row of int64s, an int64, an int that came in, with their bulk. -/
namespace Go.Proofs.YtbmaffijncapiaaGreatDoor
open Go.ChangeShapes Go.WideShapes Go.ChangeAt Go.RowKit Go.Joins Go.Deep
set_option linter.unusedVariables false
set_option linter.unusedSimpArgs false
section
variable {H : Type} {enc : TypeId × Value → H} {W : World} {b0 : Nat} {r : Reach} {v : Value} {d : DataW H} {p : List MemPlace}
set_option maxRecDepth 100000 in
theorem open_grid5 (hv : Value.okWide Tryz.prog W r b0 105 v) (h : DataW.Trod enc Tryz.prog W 0 (fun _ => true) true 105 v d p) :
    ∃ g, GridI W v g ∧ sumG g + g.length ≤ Rows.uptoBulk d := by
  obtain ⟨a, n, cap, rfl⟩ := okWide_slice Tryz.underlying105 hv
  obtain ⟨fuel, hf⟩ := h
  rcases open_int_rows Tryz.underlying105 Tryz.underlying64 Tryz.underlying2 (by kernel_rfl) (by kernel_rfl) hf with ⟨hcs, hx⟩ | ⟨x, len, c, A, L, C, Z, hcs, _, hl, hm, hx, hr⟩
  · simp [Value.cells] at hcs
    obtain ⟨rfl, rfl, rfl⟩ := hcs
    exact ⟨[], ⟨_, _, rfl, fun k hk => absurd hk (by simp)⟩, by simp [sumG]⟩
  · simp [Value.cells] at hcs
    obtain ⟨rfl, rfl, rfl⟩ := hcs
    simp only [Prod.mk.injEq] at hx
    have hlen : ∀ r, r < n → ((Z r).take (L r)).length = L r := fun r hr' => by
      obtain ⟨_, h1, _, h2, _⟩ := hr r (by omega)
      rw [List.length_take]; omega
    refine ⟨(List.range n).map fun r => (Z r).take (L r), ⟨_, _, by rw [List.length_map, List.length_range], fun k hk => ?_⟩, ?_⟩
    · rw [List.length_map, List.length_range] at hk
      obtain ⟨h1, h2, h3, h4, h5, h6, h7⟩ := hr k (by omega)
      obtain ⟨b, o, rfl⟩ := plain_at (hr 0 (by omega)).1
      rw [add_plain] at h1
      refine ⟨b, o, _, rfl, h1, ?_⟩
      have e : ((List.range n).map fun r => (Z r).take (L r)).getD k [] = (Z k).take (L k) := by simp [hk]
      rw [e]
      refine ⟨A k, C k, by rw [hlen k hk], fun j hj => ?_⟩
      rw [hlen k hk] at hj
      cases hA : A k with
      | none => have := h6 hA; omega
      | some a' =>
        obtain ⟨_, h8⟩ := h7 a' hA
        have h9 := h8 j (by omega)
        obtain ⟨b', o', rfl⟩ := plain_at (h8 0 (by omega))
        rw [add_plain] at h9
        have e2 : ((Z k).take (L k)).getD j 0 = (Z k).getD j 0 := by
          rw [List.getD_eq_getElem?_getD, List.getD_eq_getElem?_getD, List.getElem?_take_of_lt hj]
        rw [e2]
        refine ⟨b', o', rfl, h9, ?_⟩
        refine i64_of (h5 _ ?_)
        rw [List.getD_eq_getElem?_getD, List.getElem?_eq_getElem (by omega)]
        exact List.getElem_mem _
    · rw [hx.1]
      have h0 : ∀ r ∈ List.range n, L r + 1 ≤ Rows.uptoBulk (intRow (H := H) .i64 (A r) (L r) (Z r)) := fun r hr' => by
        have hr2 : r < n := by simpa using hr'
        obtain ⟨h1, h2, h3, h4, h5, h6, h7⟩ := hr r (by omega)
        cases hA : A r with
        | none => have := h6 hA; simp [intRow, Rows.uptoBulk]; omega
        | some a' =>
          have := bulks.length_le (H := H) (lits .i64 ((Z r).take (L r)))
          simp only [lits, List.length_map, List.length_take] at this
          simp only [intRow, Rows.uptoBulk, lits]
          omega
      have h1 := bulks.sum_le (fun r => intRow (H := H) .i64 (A r) (L r) (Z r)) L (List.range n) h0
      have h2 : sumG ((List.range n).map fun r => (Z r).take (L r)) = ((List.range n).map L).sum := by
        unfold sumG
        rw [List.map_map]
        congr 1
        apply List.map_congr_left
        intro r hr'
        exact hlen r (by simpa using hr')
      simp only [Rows.uptoBulk]
      rw [h2, List.length_map, List.length_range]
      rw [List.length_range] at h1
      omega
end
end Go.Proofs.YtbmaffijncapiaaGreatDoor

