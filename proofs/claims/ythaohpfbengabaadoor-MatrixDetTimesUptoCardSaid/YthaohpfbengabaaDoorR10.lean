/- Texts of this seat, laid together: MxC, MxD, Det, Bar, Bel, Bed, MxE. Each opens with its own remark, which says what it proves, and under which conditions. -/
import Derived.Test.YthaohpfbengabaaDoorR09
import Derived.StillTailTactics
set_option linter.unusedVariables false
set_option linter.unusedSimpArgs false
/- matrix: Plus, Scale, Turn, Times. -/
namespace Go.Proofs.YthaohpfbengabaaDoor
open Num
open Go.ChangeShapes Go.WideShapes Go.ChangeAt Go.RowKit
set_option linter.unusedVariables false
set_option linter.unusedSimpArgs false
attribute [local go_sem ↓] Go.wp_at_zero Go.wp_at_succ
/-- numbers of so many bits -/
def BdM (k : Nat) (g : Grid) : Prop := ∀ i j, Bd k (gat g i j)
theorem BdM.mono {k m : Nat} {g : Grid} (h : BdM k g) (hk : k ≤ m) : BdM m g := fun i j => (h i j).mono hk
theorem tab_out {n m : Nat} {f : Nat → Nat → Int} {i j : Nat} (h : ¬ (i < n ∧ j < m)) : gat (tab n m f) i j = 0 := by
  unfold gat tab
  by_cases hi : i < n
  · have hj : m ≤ j := Nat.le_of_not_lt fun hj => h ⟨hi, hj⟩
    simp [hi, hj]
  · have : n ≤ i := Nat.le_of_not_lt hi
    have e : ((List.range n).map fun i => (List.range m).map (f i))[i]? = none := List.getElem?_eq_none (by simpa using this)
    simp only [List.getD_eq_getElem?_getD, e]; rfl
theorem tab_bd {n m k : Nat} {f : Nat → Nat → Int} (h : ∀ i j, i < n → j < m → Bd k (f i j)) : BdM k (tab n m f) := fun i j => by
  by_cases hh : i < n ∧ j < m
  · rw [tab_gat hh.1 hh.2]; exact h i j hh.1 hh.2
  · rw [tab_out hh]; exact bd_zero
set_option maxRecDepth 100000 in
set_option maxHeartbeats 4000000 in
theorem plus1_c (bm bo : Nat) (g h : Grid) (n m k : Nat) (w : World) (hg : BoxM bm w g) (hh : BoxM bo w h) (lg : g.length = n) (lh : h.length = n) (rg : Rct g m) (rh : Rct h m) (kg : BdM k g) (kh : BdM k h) (hk : k ≤ 17179869184) :
    FnF (fun i j => gat g i j + gat h i j) n m 51 #[.pointer (some ⟨bm, 0, none⟩), .pointer (some ⟨bo, 0, none⟩)] w := by
  intro W i j hi hj hW
  obtain ⟨c1, gb, go, rb, ro, rc, n1, a1, l1, k1, g0, g1, g2, g3, gi⟩ := (hg.keep hW).elem rg (by omega : i < g.length) hj
  obtain ⟨c2, hb, ho, sb, so, sc, n2, a2, l2, k2, h0, h1, h2, h3, hi2⟩ := (hh.keep hW).elem rh (by omega : i < h.length) hj
  rw [lg] at g0
  rw [lh] at h0
  have ac := fun V (q : Below W.heap.size W V) => addI_c (.agg #[.bool n1, .slice a1 l1 k1]) (.agg #[.bool n2, .slice a2 l2 k2]) (gat g i j) (gat h i j) k V (gi.keep q) (hi2.keep q) (kg i j) (kh i j) hk
  clear hg hh gi hi2 lg lh rg rh kg kh hW
  have hiI : (i : Int) < (n : Int) := by omega
  have hjI : (j : Int) < (m : Int) := by omega
  have z0 := cell_lt g0; have z1 := cell_lt g1; have z2 := cell_lt g2; have z3 := cell_lt h0; have z4 := cell_lt h1; have z5 := cell_lt h2
  have hB := Below.refl W.heap.size W
  show Calls Tryd.prog 51 #[.int .i64 (i : Nat), .int .i64 (j : Nat), .pointer (some ⟨bm, 0, none⟩), .pointer (some ⟨bo, 0, none⟩)] W _
  have HS := Lib.hid (show ∀ V, Below W.heap.size W V → V.cell? ⟨bm, 0, none⟩ = some (.slice (some ⟨gb, go, none⟩) n c1) ∧ V.cell? ⟨gb, go + i, none⟩ = some (.slice (some ⟨rb, ro, none⟩) m rc) ∧ V.cell? ⟨rb, ro + j * 2, none⟩ = some (.bool n1) ∧ V.cell? ⟨rb, ro + j * 2 + 1, none⟩ = some (.slice a1 l1 k1) ∧ V.cell? ⟨bo, 0, none⟩ = some (.slice (some ⟨hb, ho, none⟩) n c2) ∧ V.cell? ⟨hb, ho + i, none⟩ = some (.slice (some ⟨sb, so, none⟩) m sc) ∧ V.cell? ⟨sb, so + j * 2, none⟩ = some (.bool n2) ∧ V.cell? ⟨sb, so + j * 2 + 1, none⟩ = some (.slice a2 l2 k2) from fun V q => ⟨bkeep q g0, bkeep q g1, bkeep q g2, bkeep q g3, bkeep q h0, bkeep q h1, bkeep q h2, bkeep q h3⟩)
  go_enter Tryd.func51, Tryd.ntmps51
  go_upto_region 1 with (fail)
  refine wp_name fun w0 hW0 => ?_
  have hBc : Below W.heap.size W w0 := by rw [hW0]; repeat (first | exact Below.refl _ _ | exact hB | refine Below.drew ?_ | refine below_drewN ?_ _ | refine bset ?_ (by simp <;> omega) _ | refine bal ?_ _)
  have r0 : w0.cell? ⟨W.heap.size, 0, none⟩ = some (.bool false) := by rw [hW0]; simp [go_sem]
  have r1 : w0.cell? ⟨W.heap.size, 1, none⟩ = some (.slice none 0 0) := by rw [hW0]; simp [go_sem]
  have r0f : w0.frozen? ⟨W.heap.size, 0, none⟩ = false := by rw [hW0]; simp [go_sem]
  have r1f : w0.frozen? ⟨W.heap.size, 1, none⟩ = false := by rw [hW0]; simp [go_sem]
  clear hW0
  have zr := cell_lt r0
  have hBw := Below.refl w0.heap.size w0
  obtain ⟨h0c, h1c, h2c, h3c, h4c, h5c, h6c, h7c⟩ := HS.out w0 hBc
  go_still_tail 16, (by kernel_rfl)
  change wpList _ _ _ _ _ w0.drew
  obtain ⟨w2, hw2⟩ : ∃ w2, w0.drew = w2 := ⟨_, rfl⟩
  have hq2 : Below w0.heap.size w0 w2 := hw2 ▸ (Below.refl _ _).drew
  rw [hw2]
  clear hw2
  go_wp2_with fail
  refine (ac _ (bthen hBc hq2)).mono ?_
  rintro e w5 ⟨⟨v5, rfl, hv5⟩, hb5⟩
  have hB5 : Below w0.heap.size w0 w5 := bthen hq2 hb5
  have hBW := bthen hBc hB5
  have r05f := bkeepf hB5 r0 r0f
  have r15f := bkeepf hB5 r1 r1f
  have r05 := bkeep hB5 r0
  have r15 := bkeep hB5 r1
  have HV := Lib.hid hv5
  obtain ⟨n5, a5, c5, l5, rfl, -⟩ := hv5
  unfold iv at *
  clear ac h0c h1c h2c h3c h4c h5c h6c h7c r0 r1 r0f r1f
  go_wp2
  refine bodyPost_ret (v := .agg #[.bool n5, .slice a5 l5.length c5]) (by simp [results, Tryd.results51, go_sem, *]) rfl ⟨⟨_, rfl, (HV.out).put2 r05 r15 _ _⟩, ?_⟩
  repeat (first | exact Below.refl _ _ | exact hBW | refine Below.drew ?_ | refine below_drewN ?_ _ | refine bset ?_ (by simp <;> omega) _ | refine bal ?_ _)
theorem FnF.mono {f : Nat → Nat → Int} {n m F : Nat} {caps : Array Value} {w w' : World} (h : FnF f n m F caps w) (k : Below w.heap.size w w') : FnF f n m F caps w' := fun W i j hi hj q => h W i j hi hj (bthen k q)
theorem IsL.box {w W : World} {b : Nat} {a : Option Addr} {c : Nat} {g : Grid} (h : IsL 40 (PRow 0) 0 w (.slice a g.length c) g) (k : Below w.heap.size w W) (hc : W.cell? ⟨b, 0, none⟩ = some (.slice a g.length c)) : BoxM b W g := ⟨a, c, hc, h.keep (prs_prow 0) k⟩
/-- what an operation answers that may be asked wrongly -/
def MOr (ok : Prop) (err : Int) (r : Grid) (w : World) (e : Ending) (w' : World) : Prop :=
  ((ok ∧ ∃ v, e = .returned (.tuple #[v, .int .i64 0]) ∧ IsM w.heap.size w' v r) ∨ (¬ ok ∧ e = .returned (.tuple #[.agg #[.slice none 0 0], .int .i64 err]))) ∧ Below w.heap.size w w'
def plusG (g h : Grid) : Grid := tab g.length (cols g) fun i j => gat g i j + gat h i j
set_option maxRecDepth 100000 in
set_option maxHeartbeats 4000000 in
theorem plusM_c (v u : Value) (g h : Grid) (k : Nat) (w : World) (hv : IsM 0 w v g) (hu : IsM 0 w u h) (rg : Rct g (cols g)) (rh : Rct h (cols h)) (kg : BdM k g) (kh : BdM k h) (hk : k ≤ 17179869184) (lg : g.length ≤ 1099511627775) (lc : cols g ≤ 1099511627775) :
    Calls Tryd.prog 25 #[v, u] w (MOr (g.length = h.length ∧ cols g = cols h) 5 (plusG g h) w) := by
  obtain ⟨ag, cg, rfl, lv⟩ := hv
  obtain ⟨ah, ch, rfl, lu⟩ := hu
  have rc1 := fun V => rowsM_c ag g.length cg V
  have rc2 := fun V => rowsM_c ah h.length ch V
  have cc1 := fun V (q : Below w.heap.size w V) => colsM_c ag cg g V (lv.keep (prs_prow 0) q)
  have cc2 := fun V (q : Below w.heap.size w V) => colsM_c ah ch h V (lu.keep (prs_prow 0) q)
  have fc := fun V (q : Below w.heap.size w V) (e1 : V.cell? ⟨w.heap.size, 0, none⟩ = some (.slice ag g.length cg)) (e2 : V.cell? ⟨w.heap.size + 1, 0, none⟩ = some (.slice ah h.length ch)) (hn : g.length = h.length) (hc : cols g = cols h) =>
    filled_c g.length (cols g) (fun i j => gat g i j + gat h i j) 51 #[.pointer (some ⟨w.heap.size, 0, none⟩), .pointer (some ⟨w.heap.size + 1, 0, none⟩)] V (plus1_c _ _ g h g.length (cols g) k V (lv.box q e1) (lu.box q e2) rfl hn.symm rg (by rw [hc]; exact rh) kg kh hk) (ens Tryd.func51 (by kernel_rfl) rfl) (by omega) lc
  have FC := Lib.hid fc
  clear fc lv lu rg rh kg kh lg lc
  unfold plusG
  obtain ⟨N, hN⟩ : ∃ N, g.length = N := ⟨_, rfl⟩
  obtain ⟨N', hN'⟩ : ∃ N, h.length = N := ⟨_, rfl⟩
  obtain ⟨C, hC⟩ : ∃ N, cols g = N := ⟨_, rfl⟩
  obtain ⟨C', hC'⟩ : ∃ N, cols h = N := ⟨_, rfl⟩
  rw [hN, hN', hC, hC'] at FC
  rw [hN] at rc1 cc1
  rw [hN'] at rc2 cc2
  rw [hC] at cc1
  rw [hC'] at cc2
  rw [hN, hN', hC, hC']
  clear hN hN' hC hC'
  have RC1 := Lib.hid rc1
  have RC2 := Lib.hid rc2
  have CC1 := Lib.hid cc1
  have CC2 := Lib.hid cc2
  clear rc1 rc2 cc1 cc2
  have hB := Below.refl w.heap.size w
  by_cases h1 : N = N'
  · by_cases h2 : C = C'
    · have FC2 := Lib.hid (fun V q e1 e2 => FC.out V q e1 e2 h1 h2)
      subst h1; subst h2
      have hnI : ((N : Int) != (N : Int)) = false := by simp
      have hcI : ((C : Int) != (C : Int)) = false := by simp
      clear FC
      go_enter Tryd.func25, Tryd.ntmps25
      go_wp2
      refine wp_name fun w0 hW0 => ?_
      have m0 : w0.cell? ⟨w.heap.size, 0, none⟩ = some (.slice ag N cg) := by rw [hW0]; simp [go_sem]
      have zm0 := cell_lt m0
      have o0 : w0.cell? ⟨w.heap.size + 1, 0, none⟩ = some (.slice ah N ch) := by rw [hW0]; simp [go_sem]
      have zo0 := cell_lt o0
      have r0f : w0.frozen? ⟨w.heap.size + 1 + 1, 0, none⟩ = false := by rw [hW0]; simp [go_sem]
      have r0 : w0.cell? ⟨w.heap.size + 1 + 1, 0, none⟩ = some (.slice none 0 0) := by rw [hW0]; simp [go_sem]
      have zr0 := cell_lt r0
      have hB : Below w.heap.size w w0 := by rw [hW0]; repeat (first | exact Below.refl _ _ | exact hB | refine Below.drew ?_ | refine below_drewN ?_ _ | refine bset ?_ (by simp <;> omega) _ | refine bal ?_ _)
      have HT0 : Hid (typOf w0 (w.heap.size + 1 + 1) = some 27) := Lib.hid (by rw [hW0]; exact typ_fresh (by simp))
      have hz : w.heap.size ≤ w0.heap.size := hB.size
      clear hW0
      refine wp_region_grow (w := w0) (by kernel_rfl) (by kernel_rfl) ?_
      have m0g : ∀ gs, (grow w0 gs).cell? ⟨w.heap.size, 0, none⟩ = some (.slice ag N cg) := fun gs => bkeep gs.below m0
      have o0g : ∀ gs, (grow w0 gs).cell? ⟨w.heap.size + 1, 0, none⟩ = some (.slice ah N ch) := fun gs => bkeep gs.below o0
      have r0g : ∀ gs, (grow w0 gs).cell? ⟨w.heap.size + 1 + 1, 0, none⟩ = some (.slice none 0 0) := fun gs => bkeep gs.below r0
      repeat (go_big_quiet_step ((first | (go_at_call 9; with_reducible exact grow_of (RC1.out _)) | (go_at_call 9; with_reducible exact grow_of (RC2.out _)) | (go_at_call 10; with_reducible exact grow_of (CC1.out _ (hB.trans ((Grows.below _).mono hz)))) | (go_at_call 10; with_reducible exact grow_of (CC2.out _ (hB.trans ((Grows.below _).mono hz)))) | fail)))
      refine wpQuiet_nil ?_
      intro w1 hb1
      clear m0g
      clear o0g
      clear r0g
      have m0 := bkeep hb1 m0
      have o0 := bkeep hb1 o0
      have r0f := bkeepf hb1 r0 r0f
      have r0 := bkeep hb1 r0
      have hB := bthen hB hb1
      have hz := hB.size
      have HT1 := Lib.hid (typ_keep HT0.out hb1)
      clear HT0
      go_wp2
      refine wp_region_grow_tail (w := w1) 5 (by kernel_rfl) (by kernel_rfl) ?_
      simp only [List.take_succ_cons, List.take_zero, List.drop_succ_cons, List.drop_zero]
      have m0g : ∀ gs, (grow w1 gs).cell? ⟨w.heap.size, 0, none⟩ = some (.slice ag N cg) := fun gs => bkeep gs.below m0
      have o0g : ∀ gs, (grow w1 gs).cell? ⟨w.heap.size + 1, 0, none⟩ = some (.slice ah N ch) := fun gs => bkeep gs.below o0
      have r0g : ∀ gs, (grow w1 gs).cell? ⟨w.heap.size + 1 + 1, 0, none⟩ = some (.slice none 0 0) := fun gs => bkeep gs.below r0
      repeat (go_big_quiet_step ((first | (go_at_call 9; with_reducible exact grow_of (RC1.out _)) | (go_at_call 10; with_reducible exact grow_of (CC1.out _ (hB.trans ((Grows.below _).mono hz)))) | fail)))
      refine wpQuiet_nil ?_
      intro w2 hb2
      clear m0g
      clear o0g
      clear r0g
      have m0 := bkeep hb2 m0
      have o0 := bkeep hb2 o0
      have r0f := bkeepf hb2 r0 r0f
      have r0 := bkeep hb2 r0
      have hB := bthen hB hb2
      have hz := hB.size
      have HT2 := Lib.hid (typ_keep HT1.out hb2)
      clear HT1
      go_wp2_with fail
      refine (FC2.out _ hB m0 o0).mono ?_
      rintro e w3 ⟨⟨v3, rfl, hv3⟩, hb3⟩
      have HT3 := typ_keep HT2.out hb3
      have HV := Lib.hid (hv3.rebase hz)
      obtain ⟨a3, c3, rfl⟩ := hv3.lit
      have m0 := bkeep hb3 m0
      have o0 := bkeep hb3 o0
      have r0f := bkeepf hb3 r0 r0f
      have r0 := bkeep hb3 r0
      have hB := bthen hB hb3
      have hz := hB.size
      rw [tab_len] at HV ⊢
      clear FC2 hv3 m0 o0
      go_wp2
      refine bodyPost_ret (v := .tuple #[.agg #[.slice a3 N c3], .int .i64 0]) (by simp [results, Tryd.results25, go_sem, *]) rfl ⟨.inl ⟨by simp, _, rfl, HV.out.setM HT3 _⟩, ?_⟩
      repeat (first | exact Below.refl _ _ | exact hB | refine Below.drew ?_ | refine below_drewN ?_ _ | refine bset ?_ (by simp <;> omega) _ | refine bal ?_ _)
    · have hnI : ((N : Int) != (N' : Int)) = false := by simp [h1]
      have hcI : ((C : Int) != (C' : Int)) = true := by simp; omega
      have HNO := Lib.hid (show ¬ (N = N' ∧ C = C') from fun h => h2 h.2)
      clear FC h1 h2
      go_enter Tryd.func25, Tryd.ntmps25
      go_wp2
      refine wp_name fun w0 hW0 => ?_
      have m0 : w0.cell? ⟨w.heap.size, 0, none⟩ = some (.slice ag N cg) := by rw [hW0]; simp [go_sem]
      have zm0 := cell_lt m0
      have o0 : w0.cell? ⟨w.heap.size + 1, 0, none⟩ = some (.slice ah N' ch) := by rw [hW0]; simp [go_sem]
      have zo0 := cell_lt o0
      have r0f : w0.frozen? ⟨w.heap.size + 1 + 1, 0, none⟩ = false := by rw [hW0]; simp [go_sem]
      have r0 : w0.cell? ⟨w.heap.size + 1 + 1, 0, none⟩ = some (.slice none 0 0) := by rw [hW0]; simp [go_sem]
      have zr0 := cell_lt r0
      have hB : Below w.heap.size w w0 := by rw [hW0]; repeat (first | exact Below.refl _ _ | exact hB | refine Below.drew ?_ | refine below_drewN ?_ _ | refine bset ?_ (by simp <;> omega) _ | refine bal ?_ _)
      have hz : w.heap.size ≤ w0.heap.size := hB.size
      clear hW0
      refine wp_region_grow (w := w0) (by kernel_rfl) (by kernel_rfl) ?_
      have m0g : ∀ gs, (grow w0 gs).cell? ⟨w.heap.size, 0, none⟩ = some (.slice ag N cg) := fun gs => bkeep gs.below m0
      have o0g : ∀ gs, (grow w0 gs).cell? ⟨w.heap.size + 1, 0, none⟩ = some (.slice ah N' ch) := fun gs => bkeep gs.below o0
      have r0g : ∀ gs, (grow w0 gs).cell? ⟨w.heap.size + 1 + 1, 0, none⟩ = some (.slice none 0 0) := fun gs => bkeep gs.below r0
      repeat (go_big_quiet_step ((first | (go_at_call 9; with_reducible exact grow_of (RC1.out _)) | (go_at_call 9; with_reducible exact grow_of (RC2.out _)) | (go_at_call 10; with_reducible exact grow_of (CC1.out _ (hB.trans ((Grows.below _).mono hz)))) | (go_at_call 10; with_reducible exact grow_of (CC2.out _ (hB.trans ((Grows.below _).mono hz)))) | fail)))
      refine wpQuiet_nil ?_
      intro w1 hb1
      clear m0g
      clear o0g
      clear r0g
      have m0 := bkeep hb1 m0
      have o0 := bkeep hb1 o0
      have r0f := bkeepf hb1 r0 r0f
      have r0 := bkeep hb1 r0
      have hB := bthen hB hb1
      have hz := hB.size
      go_wp2
      refine bodyPost_ret (v := .tuple #[.agg #[.slice none 0 0], .int .i64 5]) (by simp [results, Tryd.results25, go_sem, *]) rfl ⟨.inr ⟨HNO.out, rfl⟩, ?_⟩
      repeat (first | exact Below.refl _ _ | exact hB | refine Below.drew ?_ | refine below_drewN ?_ _ | refine bset ?_ (by simp <;> omega) _ | refine bal ?_ _)
  · have hnI : ((N : Int) != (N' : Int)) = true := by simp; omega
    have HNO := Lib.hid (show ¬ (N = N' ∧ C = C') from fun h => h1 h.1)
    clear FC h1
    go_enter Tryd.func25, Tryd.ntmps25
    go_wp2
    refine wp_name fun w0 hW0 => ?_
    have m0 : w0.cell? ⟨w.heap.size, 0, none⟩ = some (.slice ag N cg) := by rw [hW0]; simp [go_sem]
    have zm0 := cell_lt m0
    have o0 : w0.cell? ⟨w.heap.size + 1, 0, none⟩ = some (.slice ah N' ch) := by rw [hW0]; simp [go_sem]
    have zo0 := cell_lt o0
    have r0f : w0.frozen? ⟨w.heap.size + 1 + 1, 0, none⟩ = false := by rw [hW0]; simp [go_sem]
    have r0 : w0.cell? ⟨w.heap.size + 1 + 1, 0, none⟩ = some (.slice none 0 0) := by rw [hW0]; simp [go_sem]
    have zr0 := cell_lt r0
    have hB : Below w.heap.size w w0 := by rw [hW0]; repeat (first | exact Below.refl _ _ | exact hB | refine Below.drew ?_ | refine below_drewN ?_ _ | refine bset ?_ (by simp <;> omega) _ | refine bal ?_ _)
    have hz : w.heap.size ≤ w0.heap.size := hB.size
    clear hW0
    refine wp_region_grow (w := w0) (by kernel_rfl) (by kernel_rfl) ?_
    have m0g : ∀ gs, (grow w0 gs).cell? ⟨w.heap.size, 0, none⟩ = some (.slice ag N cg) := fun gs => bkeep gs.below m0
    have o0g : ∀ gs, (grow w0 gs).cell? ⟨w.heap.size + 1, 0, none⟩ = some (.slice ah N' ch) := fun gs => bkeep gs.below o0
    have r0g : ∀ gs, (grow w0 gs).cell? ⟨w.heap.size + 1 + 1, 0, none⟩ = some (.slice none 0 0) := fun gs => bkeep gs.below r0
    repeat (go_big_quiet_step ((first | (go_at_call 9; with_reducible exact grow_of (RC1.out _)) | (go_at_call 9; with_reducible exact grow_of (RC2.out _)) | fail)))
    refine wpQuiet_nil ?_
    intro w1 hb1
    clear m0g
    clear o0g
    clear r0g
    have m0 := bkeep hb1 m0
    have o0 := bkeep hb1 o0
    have r0f := bkeepf hb1 r0 r0f
    have r0 := bkeep hb1 r0
    have hB := bthen hB hb1
    have hz := hB.size
    go_wp2
    refine bodyPost_ret (v := .tuple #[.agg #[.slice none 0 0], .int .i64 5]) (by simp [results, Tryd.results25, go_sem, *]) rfl ⟨.inr ⟨HNO.out, rfl⟩, ?_⟩
    repeat (first | exact Below.refl _ _ | exact hB | refine Below.drew ?_ | refine below_drewN ?_ _ | refine bset ?_ (by simp <;> omega) _ | refine bal ?_ _)
end Go.Proofs.YthaohpfbengabaaDoor

/- matrix: Scale, Turn. -/
namespace Go.Proofs.YthaohpfbengabaaDoor
open Num
open Go.ChangeShapes Go.WideShapes Go.ChangeAt Go.RowKit
set_option linter.unusedVariables false
set_option linter.unusedSimpArgs false
attribute [local go_sem ↓] Go.wp_at_zero Go.wp_at_succ
set_option maxRecDepth 100000 in
set_option maxHeartbeats 4000000 in
theorem scale1_c (bm bo : Nat) (g : Grid) (n m k kc : Nat) (c : Int) (nc : Bool) (ac : Option Addr) (lc cc : Nat) (w : World) (hg : BoxM bm w g) (hc0 : w.cell? ⟨bo, 0, none⟩ = some (.bool nc)) (hc1 : w.cell? ⟨bo, 1, none⟩ = some (.slice ac lc cc)) (hc : IsInt w (.agg #[.bool nc, .slice ac lc cc]) c) (lg : g.length = n) (rg : Rct g m) (kg : BdM k g) (bc : Bd kc c) (hk : k ≤ 17179869184) (hkc : kc ≤ 17179869184) :
    FnF (fun i j => gat g i j * c) n m 52 #[.pointer (some ⟨bm, 0, none⟩), .pointer (some ⟨bo, 0, none⟩)] w := by
  intro W i j hi hj hW
  obtain ⟨c1, gb, go, rb, ro, rc, n1, a1, l1, k1, g0, g1, g2, g3, gi⟩ := (hg.keep hW).elem rg (by omega : i < g.length) hj
  rw [lg] at g0
  have x0 := bkeep hW hc0
  have x1 := bkeep hW hc1
  have mc := fun V (q : Below W.heap.size W V) => mul_c (.agg #[.bool n1, .slice a1 l1 k1]) (.agg #[.bool nc, .slice ac lc cc]) (gat g i j) c k kc V (gi.keep q) ((hc.keep hW).keep q) (kg i j) bc hk hkc
  clear hg gi lg rg kg hW hc hc0 hc1 bc
  have hiI : (i : Int) < (n : Int) := by omega
  have hjI : (j : Int) < (m : Int) := by omega
  have z0 := cell_lt g0; have z1 := cell_lt g1; have z2 := cell_lt g2; have z3 := cell_lt x0
  have hB := Below.refl W.heap.size W
  show Calls Tryd.prog 52 #[.int .i64 (i : Nat), .int .i64 (j : Nat), .pointer (some ⟨bm, 0, none⟩), .pointer (some ⟨bo, 0, none⟩)] W _
  dsimp only
  go_enter Tryd.func52, Tryd.ntmps52
  go_wp2
  refine wp_name fun w0 hW0 => ?_
  have hBc : Below W.heap.size W w0 := by rw [hW0]; repeat (first | exact Below.refl _ _ | exact hB | refine Below.drew ?_ | refine below_drewN ?_ _ | refine bset ?_ (by simp <;> omega) _ | refine bal ?_ _)
  have r0 : w0.cell? ⟨W.heap.size, 0, none⟩ = some (.bool false) := by rw [hW0]; simp [go_sem]
  have r1 : w0.cell? ⟨W.heap.size, 1, none⟩ = some (.slice none 0 0) := by rw [hW0]; simp [go_sem]
  have r0f : w0.frozen? ⟨W.heap.size, 0, none⟩ = false := by rw [hW0]; simp [go_sem]
  have r1f : w0.frozen? ⟨W.heap.size, 1, none⟩ = false := by rw [hW0]; simp [go_sem]
  clear hW0
  replace g0 := bkeep hBc g0
  replace g1 := bkeep hBc g1
  replace g2 := bkeep hBc g2
  replace g3 := bkeep hBc g3
  replace x0 := bkeep hBc x0
  replace x1 := bkeep hBc x1
  have zr := cell_lt r0
  go_still_tail 9, (by kernel_rfl)
  change wpList _ _ _ _ _ w0.drew
  obtain ⟨w2, hw2⟩ : ∃ w2, w0.drew = w2 := ⟨_, rfl⟩
  have hq2 : Below w0.heap.size w0 w2 := hw2 ▸ (Below.refl _ _).drew
  rw [hw2]
  clear hw2
  go_wp2_with fail
  refine (mc _ (bthen hBc hq2)).mono ?_
  rintro e w5 ⟨⟨v5, rfl, hv5⟩, hb5⟩
  have hB5 : Below w0.heap.size w0 w5 := bthen hq2 hb5
  have hBW := bthen hBc hB5
  have r05f := bkeepf hB5 r0 r0f
  have r15f := bkeepf hB5 r1 r1f
  have r05 := bkeep hB5 r0
  have r15 := bkeep hB5 r1
  have HV := Lib.hid hv5
  obtain ⟨n5, a5, c5, l5, rfl, -⟩ := hv5
  unfold iv at *
  clear mc g0 g1 g2 g3 x0 x1 r0 r1 r0f r1f
  go_wp2
  refine bodyPost_ret (v := .agg #[.bool n5, .slice a5 l5.length c5]) (by simp [results, Tryd.results52, go_sem, *]) rfl ⟨⟨_, rfl, (HV.out).put2 r05 r15 _ _⟩, ?_⟩
  repeat (first | exact Below.refl _ _ | exact hBW | refine Below.drew ?_ | refine below_drewN ?_ _ | refine bset ?_ (by simp <;> omega) _ | refine bal ?_ _)
def scaleG (g : Grid) (c : Int) : Grid := tab g.length (cols g) fun i j => gat g i j * c
set_option maxRecDepth 100000 in
set_option maxHeartbeats 4000000 in
theorem scaleM_c (v u : Value) (g : Grid) (c : Int) (k kc : Nat) (w : World) (hv : IsM 0 w v g) (hu : IsInt w u c) (rg : Rct g (cols g)) (kg : BdM k g) (bc : Bd kc c) (hk : k ≤ 17179869184) (hkc : kc ≤ 17179869184) (lg : g.length ≤ 1099511627775) (lc : cols g ≤ 1099511627775) :
    Calls Tryd.prog 26 #[v, u] w fun e w' => (∃ v, e = .returned v ∧ IsM w.heap.size w' v (scaleG g c)) ∧ Below w.heap.size w w' := by
  obtain ⟨ag, cg, rfl, lv⟩ := hv
  have HI := Lib.hid hu
  obtain ⟨nc, ac, cc, ll, rfl, -⟩ := hu
  unfold iv at *
  have rc1 := fun V => rowsM_c ag g.length cg V
  have cc1 := fun V (q : Below w.heap.size w V) => colsM_c ag cg g V (lv.keep (prs_prow 0) q)
  have fc := fun V (q : Below w.heap.size w V) (e1 : V.cell? ⟨w.heap.size, 0, none⟩ = some (.slice ag g.length cg)) (e2 : V.cell? ⟨w.heap.size + 1, 0, none⟩ = some (.bool nc)) (e3 : V.cell? ⟨w.heap.size + 1, 1, none⟩ = some (.slice ac ll.length cc)) =>
    filled_c g.length (cols g) (fun i j => gat g i j * c) 52 #[.pointer (some ⟨w.heap.size, 0, none⟩), .pointer (some ⟨w.heap.size + 1, 0, none⟩)] V (scale1_c _ _ g g.length (cols g) k kc c nc ac ll.length cc V (lv.box q e1) e2 e3 (HI.out.keep q) rfl rg kg bc hk hkc) (ens Tryd.func52 (by kernel_rfl) rfl) (by omega) lc
  have FC := Lib.hid fc
  clear fc lv rg kg lg lc bc
  unfold scaleG
  obtain ⟨N, hN⟩ : ∃ N, g.length = N := ⟨_, rfl⟩
  obtain ⟨C, hC⟩ : ∃ N, cols g = N := ⟨_, rfl⟩
  rw [hN, hC] at FC
  rw [hN] at rc1 cc1
  rw [hC] at cc1
  rw [hN, hC]
  clear hN hC
  have RC1 := Lib.hid rc1
  have CC1 := Lib.hid cc1
  clear rc1 cc1
  have hB := Below.refl w.heap.size w
  go_enter Tryd.func26, Tryd.ntmps26
  go_wp2
  refine wp_name fun w0 hW0 => ?_
  have m0 : w0.cell? ⟨w.heap.size, 0, none⟩ = some (.slice ag N cg) := by rw [hW0]; simp [go_sem]
  have zm0 := cell_lt m0
  have o0 : w0.cell? ⟨w.heap.size + 1, 0, none⟩ = some (.bool nc) := by rw [hW0]; simp [go_sem]
  have zo0 := cell_lt o0
  have o1 : w0.cell? ⟨w.heap.size + 1, 1, none⟩ = some (.slice ac ll.length cc) := by rw [hW0]; simp [go_sem]
  have r0f : w0.frozen? ⟨w.heap.size + 1 + 1, 0, none⟩ = false := by rw [hW0]; simp [go_sem]
  have r0 : w0.cell? ⟨w.heap.size + 1 + 1, 0, none⟩ = some (.slice none 0 0) := by rw [hW0]; simp [go_sem]
  have zr0 := cell_lt r0
  have hB : Below w.heap.size w w0 := by rw [hW0]; repeat (first | exact Below.refl _ _ | exact hB | refine Below.drew ?_ | refine below_drewN ?_ _ | refine bset ?_ (by simp <;> omega) _ | refine bal ?_ _)
  have HT0 : Hid (typOf w0 (w.heap.size + 1 + 1) = some 27) := Lib.hid (by rw [hW0]; exact typ_fresh (by simp))
  have hz : w.heap.size ≤ w0.heap.size := hB.size
  clear hW0
  refine wp_region_grow_tail (w := w0) 5 (by kernel_rfl) (by kernel_rfl) ?_
  simp only [List.take_succ_cons, List.take_zero, List.drop_succ_cons, List.drop_zero]
  have m0g : ∀ gs, (grow w0 gs).cell? ⟨w.heap.size, 0, none⟩ = some (.slice ag N cg) := fun gs => bkeep gs.below m0
  have o0g : ∀ gs, (grow w0 gs).cell? ⟨w.heap.size + 1, 0, none⟩ = some (.bool nc) := fun gs => bkeep gs.below o0
  have o1g : ∀ gs, (grow w0 gs).cell? ⟨w.heap.size + 1, 1, none⟩ = some (.slice ac ll.length cc) := fun gs => bkeep gs.below o1
  have r0g : ∀ gs, (grow w0 gs).cell? ⟨w.heap.size + 1 + 1, 0, none⟩ = some (.slice none 0 0) := fun gs => bkeep gs.below r0
  repeat (go_big_quiet_step ((first | (go_at_call 9; with_reducible exact grow_of (RC1.out _)) | (go_at_call 10; with_reducible exact grow_of (CC1.out _ (hB.trans ((Grows.below _).mono hz)))) | fail)))
  refine wpQuiet_nil ?_
  intro w2 hb2
  clear m0g
  clear o0g
  clear o1g
  clear r0g
  have m0 := bkeep hb2 m0
  have o0 := bkeep hb2 o0
  have o1 := bkeep hb2 o1
  have r0f := bkeepf hb2 r0 r0f
  have r0 := bkeep hb2 r0
  have hB := bthen hB hb2
  have hz := hB.size
  have HT2 := Lib.hid (typ_keep HT0.out hb2)
  clear HT0
  go_wp2_with fail
  refine (FC.out _ hB m0 o0 o1).mono ?_
  rintro e w3 ⟨⟨v3, rfl, hv3⟩, hb3⟩
  have HT3 := typ_keep HT2.out hb3
  have HV := Lib.hid (hv3.rebase hz)
  obtain ⟨a3, c3, rfl⟩ := hv3.lit
  have m0 := bkeep hb3 m0
  have o0 := bkeep hb3 o0
  have o1 := bkeep hb3 o1
  have r0f := bkeepf hb3 r0 r0f
  have r0 := bkeep hb3 r0
  have hB := bthen hB hb3
  have hz := hB.size
  rw [tab_len] at HV ⊢
  clear FC hv3 m0 o0 o1
  go_wp2
  refine bodyPost_ret (v := .agg #[.slice a3 N c3]) (by simp [results, Tryd.results26, go_sem, *]) rfl ⟨⟨_, rfl, HV.out.setM HT3 _⟩, ?_⟩
  repeat (first | exact Below.refl _ _ | exact hB | refine Below.drew ?_ | refine below_drewN ?_ _ | refine bset ?_ (by simp <;> omega) _ | refine bal ?_ _)
set_option maxRecDepth 100000 in
set_option maxHeartbeats 4000000 in
theorem turn1_c (bm : Nat) (g : Grid) (n m : Nat) (w : World) (hg : BoxM bm w g) (lg : g.length = n) (rg : Rct g m) :
    FnF (fun i j => gat g j i) m n 38 #[.pointer (some ⟨bm, 0, none⟩)] w := by
  intro W i j hi hj hW
  obtain ⟨c1, gb, go, rb, ro, rc, n1, a1, l1, k1, g0, g1, g2, g3, gi⟩ := (hg.keep hW).elem rg (by omega : j < g.length) hi
  rw [lg] at g0
  have HV := Lib.hid gi
  clear hg gi lg rg hW
  have hiI : (i : Int) < (m : Int) := by omega
  have hjI : (j : Int) < (n : Int) := by omega
  have z0 := cell_lt g0; have z1 := cell_lt g1; have z2 := cell_lt g2
  have hB := Below.refl W.heap.size W
  show Calls Tryd.prog 38 #[.int .i64 (i : Nat), .int .i64 (j : Nat), .pointer (some ⟨bm, 0, none⟩)] W _
  dsimp only
  go_enter Tryd.func38, Tryd.ntmps38
  go_wp2_with fail
  refine bodyPost_ret (v := .agg #[.bool n1, .slice a1 l1 k1]) (by simp [results, Tryd.results38, go_sem, *]) rfl ⟨⟨_, rfl, ?_⟩, ?_⟩
  · exact HV.out.keep (bal (Below.refl _ _) _)
  ·
    repeat (first | exact Below.refl _ _ | exact hB | refine Below.drew ?_ | refine below_drewN ?_ _ | refine bset ?_ (by simp <;> omega) _ | refine bal ?_ _)
def turnG (g : Grid) : Grid := tab (cols g) g.length fun i j => gat g j i
set_option maxRecDepth 100000 in
set_option maxHeartbeats 4000000 in
theorem turnM_c (v : Value) (g : Grid) (w : World) (hv : IsM 0 w v g) (rg : Rct g (cols g)) (lg : g.length ≤ 1099511627775) (lc : cols g ≤ 1099511627775) :
    Calls Tryd.prog 12 #[v] w fun e w' => (∃ v, e = .returned v ∧ IsM w.heap.size w' v (turnG g)) ∧ Below w.heap.size w w' := by
  obtain ⟨ag, cg, rfl, lv⟩ := hv
  have rc1 := fun V => rowsM_c ag g.length cg V
  have cc1 := fun V (q : Below w.heap.size w V) => colsM_c ag cg g V (lv.keep (prs_prow 0) q)
  have fc := fun V (q : Below w.heap.size w V) (e1 : V.cell? ⟨w.heap.size, 0, none⟩ = some (.slice ag g.length cg)) =>
    filled_c (cols g) g.length (fun i j => gat g j i) 38 #[.pointer (some ⟨w.heap.size, 0, none⟩)] V (turn1_c _ g g.length (cols g) V (lv.box q e1) rfl rg) (ens Tryd.func38 (by kernel_rfl) rfl) (by omega) lg
  have FC := Lib.hid fc
  clear fc lv rg lg lc
  unfold turnG
  obtain ⟨N, hN⟩ : ∃ N, g.length = N := ⟨_, rfl⟩
  obtain ⟨C, hC⟩ : ∃ N, cols g = N := ⟨_, rfl⟩
  rw [hN, hC] at FC
  rw [hN] at rc1 cc1
  rw [hC] at cc1
  rw [hN, hC]
  clear hN hC
  have RC1 := Lib.hid rc1
  have CC1 := Lib.hid cc1
  clear rc1 cc1
  have hB := Below.refl w.heap.size w
  go_enter Tryd.func12, Tryd.ntmps12
  go_wp2
  refine wp_name fun w0 hW0 => ?_
  have m0 : w0.cell? ⟨w.heap.size, 0, none⟩ = some (.slice ag N cg) := by rw [hW0]; simp [go_sem]
  have zm0 := cell_lt m0
  have r0f : w0.frozen? ⟨w.heap.size + 1, 0, none⟩ = false := by rw [hW0]; simp [go_sem]
  have r0 : w0.cell? ⟨w.heap.size + 1, 0, none⟩ = some (.slice none 0 0) := by rw [hW0]; simp [go_sem]
  have zr0 := cell_lt r0
  have hB : Below w.heap.size w w0 := by rw [hW0]; repeat (first | exact Below.refl _ _ | exact hB | refine Below.drew ?_ | refine below_drewN ?_ _ | refine bset ?_ (by simp <;> omega) _ | refine bal ?_ _)
  have HT0 : Hid (typOf w0 (w.heap.size + 1) = some 27) := Lib.hid (by rw [hW0]; exact typ_fresh (by simp))
  have hz : w.heap.size ≤ w0.heap.size := hB.size
  clear hW0
  refine wp_region_grow_tail (w := w0) 5 (by kernel_rfl) (by kernel_rfl) ?_
  simp only [List.take_succ_cons, List.take_zero, List.drop_succ_cons, List.drop_zero]
  have m0g : ∀ gs, (grow w0 gs).cell? ⟨w.heap.size, 0, none⟩ = some (.slice ag N cg) := fun gs => bkeep gs.below m0
  have r0g : ∀ gs, (grow w0 gs).cell? ⟨w.heap.size + 1, 0, none⟩ = some (.slice none 0 0) := fun gs => bkeep gs.below r0
  repeat (go_big_quiet_step ((first | (go_at_call 9; with_reducible exact grow_of (RC1.out _)) | (go_at_call 10; with_reducible exact grow_of (CC1.out _ (hB.trans ((Grows.below _).mono hz)))) | fail)))
  refine wpQuiet_nil ?_
  intro w2 hb2
  clear m0g
  clear r0g
  have m0 := bkeep hb2 m0
  have r0f := bkeepf hb2 r0 r0f
  have r0 := bkeep hb2 r0
  have hB := bthen hB hb2
  have hz := hB.size
  have HT2 := Lib.hid (typ_keep HT0.out hb2)
  clear HT0
  go_wp2_with fail
  refine (FC.out _ hB m0).mono ?_
  rintro e w3 ⟨⟨v3, rfl, hv3⟩, hb3⟩
  have HT3 := typ_keep HT2.out hb3
  have HV := Lib.hid (hv3.rebase hz)
  obtain ⟨a3, c3, rfl⟩ := hv3.lit
  have m0 := bkeep hb3 m0
  have r0f := bkeepf hb3 r0 r0f
  have r0 := bkeep hb3 r0
  have hB := bthen hB hb3
  have hz := hB.size
  rw [tab_len] at HV ⊢
  clear FC hv3 m0
  go_wp2
  refine bodyPost_ret (v := .agg #[.slice a3 C c3]) (by simp [results, Tryd.results12, go_sem, *]) rfl ⟨⟨_, rfl, HV.out.setM HT3 _⟩, ?_⟩
  repeat (first | exact Below.refl _ _ | exact hB | refine Below.drew ?_ | refine below_drewN ?_ _ | refine bset ?_ (by simp <;> omega) _ | refine bal ?_ _)
end Go.Proofs.YthaohpfbengabaaDoor

/- Determinants, in plain Lean (over Rat): what is linear in each row and nought where two are alike is the determinant times a number; products, what is turned; by any column; the adjugate. -/
set_option linter.unusedVariables false
set_option linter.unusedSimpArgs false
namespace Det
abbrev M := Nat → Nat → Rat
/-- the sum of the first n -/
def sum (n : Nat) (f : Nat → Rat) : Rat := match n with
  | 0 => 0
  | n + 1 => sum n f + f n
/-- the sign of a place -/
def sg (i : Nat) : Rat := if i % 2 = 0 then 1 else -1
/-- without a row, and without the first column -/
def skip (i k : Nat) : Nat := if k < i then k else k + 1
def minor (m : M) (i : Nat) : M := fun r c => m (skip i r) (c + 1)
/-- the determinant of the first n rows and columns -/
def det : Nat → M → Rat
  | 0, _ => 1
  | n + 1, m => sum (n + 1) fun i => sg i * m i 0 * det n (minor m i)
theorem sum_congr {n : Nat} {f g : Nat → Rat} (h : ∀ i, i < n → f i = g i) : sum n f = sum n g := by
  induction n with
  | zero => rfl
  | succ n ih => simp only [sum]; rw [ih fun i hi => h i (by omega), h n (by omega)]
theorem sum_zero {n : Nat} {f : Nat → Rat} (h : ∀ i, i < n → f i = 0) : sum n f = 0 := by
  induction n with
  | zero => rfl
  | succ n ih => simp only [sum]; rw [ih fun i hi => h i (by omega), h n (by omega)]; grind
theorem sum_add (n : Nat) (f g : Nat → Rat) : sum n (fun i => f i + g i) = sum n f + sum n g := by
  induction n with
  | zero => simp only [sum]; grind
  | succ n ih => simp only [sum]; rw [ih]; grind
theorem sum_mul (n : Nat) (f : Nat → Rat) (c : Rat) : sum n (fun i => c * f i) = c * sum n f := by
  induction n with
  | zero => simp [sum]
  | succ n ih => simp only [sum]; rw [ih]; grind
/-- two terms alone -/
theorem sum_two {n i j : Nat} {f : Nat → Rat} (hi : i < n) (hj : j < n) (hij : i ≠ j) (h : ∀ k, k < n → k ≠ i → k ≠ j → f k = 0) : sum n f = f i + f j := by
  induction n with
  | zero => omega
  | succ n ih =>
    simp only [sum]
    by_cases e1 : i = n
    · subst e1
      have : sum i f = f j := by
        clear ih
        have key : ∀ m, j < m → m ≤ i → sum m f = f j := by
          intro m
          induction m with
          | zero => intro h1; omega
          | succ m ih2 =>
            intro h1 h2
            simp only [sum]
            by_cases e : j = m
            · subst e
              rw [sum_zero fun k hk => h k (by omega) (by omega) (by omega)]; grind
            · rw [ih2 (by omega) (by omega), h m (by omega) (by omega) (by omega)]; grind
        exact key i (by omega) (Nat.le_refl _)
      rw [this]; grind
    · by_cases e2 : j = n
      · subst e2
        have key : ∀ m, i < m → m ≤ j → sum m f = f i := by
          intro m
          induction m with
          | zero => intro h1; omega
          | succ m ih2 =>
            intro h1 h2
            simp only [sum]
            by_cases e : i = m
            · subst e
              rw [sum_zero fun k hk => h k (by omega) (by omega) (by omega)]; grind
            · rw [ih2 (by omega) (by omega), h m (by omega) (by omega) (by omega)]; grind
        rw [key j (by omega) (Nat.le_refl _)]
      · rw [ih (by omega) (by omega) fun k hk => h k (by omega), h n (by omega) (by omega) (by omega)]; grind
theorem det_congr {n : Nat} : ∀ {a b : M}, (∀ i j, i < n → j < n → a i j = b i j) → det n a = det n b := by
  induction n with
  | zero => intro a b _; rfl
  | succ n ih =>
    intro a b h
    refine sum_congr fun i hi => ?_
    rw [h i 0 hi (by omega), ih (a := minor a i) (b := minor b i) fun r c hr hc => ?_]
    unfold minor
    refine h _ _ ?_ (by omega)
    unfold skip; split <;> omega
/-- row r is replaced -/
def upd (m : M) (r : Nat) (f : Nat → Rat) : M := fun i j => if i = r then f j else m i j
/-- the row of a minor that was row r -/
def down (i r : Nat) : Nat := if r < i then r else r - 1
theorem minor_upd {m : M} {r i : Nat} {f : Nat → Rat} (h : i ≠ r) : minor (upd m r f) i = upd (minor m i) (down i r) (fun j => f (j + 1)) := by
  funext x y
  simp only [minor, upd, skip, down]
  grind
theorem minor_upd_same {m : M} {r : Nat} {f : Nat → Rat} : minor (upd m r f) r = minor m r := by
  funext x y
  unfold minor upd skip
  split <;> rw [if_neg (by omega)]
/-- linear in each row -/
theorem det_lin {n : Nat} : ∀ {m : M} {r : Nat} {f g : Nat → Rat} {a b : Rat}, r < n → det n (upd m r fun j => a * f j + b * g j) = a * det n (upd m r f) + b * det n (upd m r g) := by
  induction n with
  | zero => intro m r f g a b h; omega
  | succ n ih =>
    intro m r f g a b h
    simp only [det]
    rw [← sum_mul, ← sum_mul, ← sum_add]
    refine sum_congr fun i hi => ?_
    by_cases e : i = r
    · subst e
      rw [minor_upd_same, minor_upd_same, minor_upd_same]
      simp only [upd, if_true]; grind
    · rw [minor_upd e, minor_upd e, minor_upd e, ih (by unfold down; split <;> omega)]
      simp only [upd, if_neg e]; grind
/-- nought, where two rows, one behind the other, are alike -/
theorem det_adj {n : Nat} : ∀ {m : M} {r : Nat}, r + 1 < n → (∀ j, m r j = m (r + 1) j) → det n m = 0 := by
  induction n with
  | zero => intro m r h; omega
  | succ n ih =>
    intro m r h he
    simp only [det]
    rw [sum_two (i := r) (j := r + 1) (by omega) h (by omega) fun k hk h1 h2 => ?_]
    · have : minor m r = minor m (r + 1) := by
        funext x y
        unfold minor skip
        by_cases e1 : x < r
        · rw [if_pos e1, if_pos (by omega)]
        · rw [if_neg e1]
          by_cases e2 : x < r + 1
          · rw [if_pos e2]
            obtain rfl : x = r := by omega
            exact (he (y + 1)).symm
          · rw [if_neg e2]
      rw [this, he 0]
      have : sg (r + 1) = - sg r := by unfold sg; split <;> split <;> first | omega | grind
      rw [this]; grind
    · have : det n (minor m k) = 0 := by
        refine ih (r := down k r) (by unfold down; split <;> omega) fun j => ?_
        unfold minor skip down
        by_cases e : r < k
        · rw [if_pos e, if_pos e, if_pos (by omega)]; exact he (j + 1)
        · rw [if_neg e, if_neg (by omega), if_neg (by omega), show r - 1 + 1 = r by omega]; exact he (j + 1)
      rw [this]; grind
/-- what is linear in each of n rows, and nought where two of them are alike -/
structure Alt (n : Nat) (f : M → Rat) : Prop where
  congr : ∀ a b : M, (∀ i j, i < n → j < n → a i j = b i j) → f a = f b
  lin : ∀ (m : M) (r : Nat) (g h : Nat → Rat) (a b : Rat), r < n → f (upd m r fun j => a * g j + b * h j) = a * f (upd m r g) + b * f (upd m r h)
  adj : ∀ (m : M) (r : Nat), r + 1 < n → (∀ j, m r j = m (r + 1) j) → f m = 0
theorem det_alt (n : Nat) : Alt n (det n) := ⟨fun _ _ h => det_congr h, fun _ _ _ _ _ _ h => det_lin h, fun _ _ h he => det_adj h he⟩
theorem upd_self (m : M) (r : Nat) : upd m r (m r) = m := by funext i j; unfold upd; split <;> simp_all
theorem upd_upd (m : M) (r : Nat) (f g : Nat → Rat) : upd (upd m r f) r g = upd m r g := by funext i j; unfold upd; split <;> rfl
theorem upd_comm (m : M) (r s : Nat) (f g : Nat → Rat) (h : r ≠ s) : upd (upd m r f) s g = upd (upd m s g) r f := by funext i j; unfold upd; grind
/-- two rows change places -/
def swap (m : M) (r s : Nat) : M := upd (upd m r (m s)) s (m r)
section
variable {n : Nat} {f : M → Rat}
theorem Alt.add (h : Alt n f) (m : M) (r : Nat) (u v : Nat → Rat) (hr : r < n) : f (upd m r fun j => u j + v j) = f (upd m r u) + f (upd m r v) := by
  have := h.lin m r u v 1 1 hr
  simp only [Rat.one_mul] at this
  exact this
theorem Alt.mul (h : Alt n f) (m : M) (r : Nat) (u : Nat → Rat) (c : Rat) (hr : r < n) : f (upd m r fun j => c * u j) = c * f (upd m r u) := by
  have := h.lin m r u u c 0 hr
  have e : (fun j => c * u j + 0 * u j) = fun j => c * u j := by funext j; grind
  rw [e] at this
  grind
theorem Alt.zero (h : Alt n f) (m : M) (r : Nat) (hr : r < n) (hz : ∀ j, j < n → m r j = 0) : f m = 0 := by
  have h1 : f m = f (upd m r fun j => 0 * m r j) := h.congr _ _ fun i j hi hj => by
    unfold upd
    split
    · rename_i e; subst e; rw [hz j hj]; grind
    · rfl
  rw [h1, h.mul m r (m r) 0 hr]; grind
theorem Alt.pair (h : Alt n f) (m : M) (r : Nat) (u v : Nat → Rat) (hr : r + 1 < n) : f (upd (upd m r v) (r + 1) u) = - f (upd (upd m r u) (r + 1) v) := by
  have X : ∀ a b c : Nat → Rat, f (upd (upd m r fun j => a j + b j) (r + 1) c) = f (upd (upd m r a) (r + 1) c) + f (upd (upd m r b) (r + 1) c) := fun a b c => by
    rw [upd_comm _ _ _ _ _ (by omega), upd_comm _ _ _ a _ (by omega), upd_comm _ _ _ b _ (by omega)]
    exact h.add _ _ _ _ (by omega)
  have Z : ∀ a : Nat → Rat, f (upd (upd m r a) (r + 1) a) = 0 := fun a => h.adj _ r hr fun j => by unfold upd; grind
  have h1 := Z fun j => u j + v j
  rw [X, h.add _ _ _ _ hr, h.add _ _ _ _ hr, Z, Z] at h1
  grind
theorem Alt.swap_adj (h : Alt n f) (m : M) (r : Nat) (hr : r + 1 < n) : f (swap m r (r + 1)) = - f m := by
  have := h.pair m r (m r) (m (r + 1)) hr
  unfold swap
  rw [this, upd_self]
  congr 2
  funext i j
  unfold upd
  grind
/-- nought, where any two rows are alike -/
theorem Alt.eq (h : Alt n f) : ∀ (d : Nat) (m : M) (r : Nat), r + d + 1 < n → (∀ j, m r j = m (r + d + 1) j) → f m = 0 := by
  intro d
  induction d with
  | zero => intro m r hr he; exact h.adj m r hr he
  | succ d ih =>
    intro m r hr he
    have h1 := h.swap_adj m (r + d + 1) (by omega)
    have h2 : f (swap m (r + d + 1) (r + d + 1 + 1)) = 0 := ih _ r (by omega) fun j => by
      unfold swap upd
      have := he j
      grind
    grind
theorem Alt.same (h : Alt n f) (m : M) (r s : Nat) (hr : r < n) (hs : s < n) (hne : r ≠ s) (he : ∀ j, m r j = m s j) : f m = 0 := by
  rcases Nat.lt_or_gt_of_ne hne with h1 | h1
  · obtain ⟨d, rfl⟩ : ∃ d, s = r + d + 1 := ⟨s - r - 1, by omega⟩
    exact h.eq d m r hs he
  · obtain ⟨d, rfl⟩ : ∃ d, r = s + d + 1 := ⟨r - s - 1, by omega⟩
    exact h.eq d m s hr fun j => (he j).symm
/-- a multiple of one row, added to another -/
theorem Alt.addmul (h : Alt n f) (m : M) (r s : Nat) (c : Rat) (hr : r < n) (hs : s < n) (hne : r ≠ s) : f (upd m r fun j => m r j + c * m s j) = f m := by
  rw [h.add m r (m r) (fun j => c * m s j) hr, h.mul m r (m s) c hr, upd_self, h.same (upd m r (m s)) r s hr hs hne (fun j => by unfold upd; grind)]
  grind
/-- two rows change places -/
theorem Alt.swapped (h : Alt n f) (m : M) (r s : Nat) (hr : r < n) (hs : s < n) (hne : r ≠ s) : f (swap m r s) = - f m := by
  have X : ∀ a b c : Nat → Rat, f (upd (upd m r fun j => a j + b j) s c) = f (upd (upd m r a) s c) + f (upd (upd m r b) s c) := fun a b c => by
    rw [upd_comm _ _ _ _ _ hne, upd_comm _ _ _ a _ hne, upd_comm _ _ _ b _ hne]
    exact h.add _ _ _ _ hr
  have Z : ∀ a : Nat → Rat, f (upd (upd m r a) s a) = 0 := fun a => h.same _ r s hr hs hne fun j => by unfold upd; grind
  have h1 := Z fun j => m r j + m s j
  rw [X, h.add _ _ _ _ hs, h.add _ _ _ _ hs, Z, Z] at h1
  have h2 : upd (upd m r (m r)) s (m s) = m := by rw [upd_self, upd_self]
  unfold swap
  rw [h2] at h1
  grind
/-- multiples of row k, added to the other rows (below t) -/
def cl (m : M) (k : Nat) (g : Nat → Rat) (t : Nat) : M := fun i j => if i < t ∧ i ≠ k then m i j + g i * m k j else m i j
theorem Alt.clear (h : Alt n f) (m : M) (k : Nat) (g : Nat → Rat) (hk : k < n) : ∀ t, t ≤ n → f (cl m k g t) = f m := by
  intro t
  induction t with
  | zero =>
    intro _
    have : cl m k g 0 = m := by funext i j; unfold cl; rw [if_neg (by omega)]
    rw [this]
  | succ t ih =>
    intro ht
    by_cases e : t = k
    · rw [← ih (by omega)]
      congr 1
      funext i j
      unfold cl
      grind
    · rw [← ih (by omega), ← h.addmul (cl m k g t) t k (g t) (by omega) hk e]
      congr 1
      funext i j
      unfold upd cl
      grind
/-- nought, where the rows from k on have noughts alone in more than k columns -/
theorem Alt.flat (h : Alt n f) : ∀ (d : Nat) (m : M) (k c : Nat), c + d = n → k + 1 ≤ c → k < n → (∀ i j, k ≤ i → i < n → j < c → m i j = 0) → f m = 0 := by
  intro d
  induction d with
  | zero =>
    intro m k c hc hk hkn hz
    exact h.zero m k hkn fun j hj => hz k j (Nat.le_refl _) hkn (by omega)
  | succ d ih =>
    intro m k c hc hk hkn hz
    by_cases hex : ∃ i, k ≤ i ∧ i < n ∧ m i c ≠ 0
    · obtain ⟨i, h1, h2, h3⟩ := hex
      have key : ∀ m1 : M, m1 k c ≠ 0 → (∀ i j, k ≤ i → i < n → j < c → m1 i j = 0) → f m1 = 0 := fun m1 hp hz1 => by
        rw [← h.clear m1 k (fun r => if k < r then - (m1 r c / m1 k c) else 0) hkn n (Nat.le_refl _)]
        refine ih _ (k + 1) (c + 1) (by omega) (by omega) (by omega) fun i j hi hin hj => ?_
        unfold cl
        rw [if_pos ⟨hin, by omega⟩]
        dsimp only
        rw [if_pos (by omega)]
        by_cases e : j = c
        · subst e; grind
        · rw [hz1 i j (by omega) hin (by omega), hz1 k j (Nat.le_refl _) hkn (by omega)]; grind
      by_cases e : i = k
      · subst e; exact key m h3 hz
      · have := h.swapped m k i hkn h2 (fun h => e h.symm)
        have h0 := key (swap m k i) (by unfold swap upd; grind) fun a b ha han hb => by
          have q1 := hz k b (Nat.le_refl _) hkn hb
          have q2 := hz i b h1 h2 hb
          have q3 := hz a b ha han hb
          unfold swap upd; grind
        grind
    · refine ih m k (c + 1) (by omega) (by omega) hkn fun i j hi hin hj => ?_
      by_cases e : j = c
      · subst e
        exact Classical.byContradiction fun hne => hex ⟨i, hi, hin, hne⟩
      · exact hz i j hi hin (by omega)
end
/-- ones where row and column are the same -/
def I : M := fun i j => if i = j then 1 else 0
theorem det_I (n : Nat) : det n I = 1 := by
  induction n with
  | zero => rfl
  | succ n ih =>
    have h1 : ∀ i, i < n + 1 → sg i * I i 0 * det n (minor I i) = if i = 0 then 1 else 0 := fun i hi => by
      by_cases e : i = 0
      · subst e
        have : minor I 0 = I := by funext a b; simp only [minor, skip, I]; grind
        rw [this, ih]
        simp [sg, I]
      · rw [if_neg e]
        have : I i 0 = 0 := by unfold I; rw [if_neg e]
        rw [this]; grind
    have h2 : ∀ m, sum (m + 1) (fun i => if i = 0 then (1 : Rat) else 0) = 1 := by
      intro m
      induction m with
      | zero => simp [sum]; grind
      | succ m ih2 => rw [sum, ih2]; simp; grind
    rw [det, sum_congr h1, h2]
/-- what is linear in each row, and nought where two are alike, is the determinant times a number -/
theorem Alt.uniq {n : Nat} {f : M → Rat} (h : Alt n f) : ∀ (d : Nat) (m : M) (k : Nat), k + d = n → (∀ i j, i < n → j < k → m i j = I i j) → f m = f I * det n m := by
  intro d
  induction d with
  | zero =>
    intro m k hk he
    obtain rfl : k = n := by omega
    rw [h.congr m I he, det_congr he, det_I]; grind
  | succ d ih =>
    intro m k hk he
    have hkn : k < n := by omega
    by_cases hex : ∃ i, k ≤ i ∧ i < n ∧ m i k ≠ 0
    · obtain ⟨i, h1, h2, h3⟩ := hex
      have key : ∀ m1 : M, m1 k k ≠ 0 → (∀ i j, i < n → j < k → m1 i j = I i j) → f m1 = f I * det n m1 := fun m1 hp he1 => by
        have sc : ∀ F : M → Rat, Alt n F → F m1 = m1 k k * F (cl (upd m1 k fun j => (m1 k k)⁻¹ * m1 k j) k (fun r => - m1 r k) n) := fun F hF => by
          rw [hF.clear _ k _ hkn n (Nat.le_refl _), hF.mul m1 k (m1 k) _ hkn, upd_self]
          grind
        rw [sc f h, sc (det n) (det_alt n), ih _ (k + 1) (by omega) fun i j hi hj => ?_]
        · grind
        · have q1 := he1 i j hi
          have q2 := he1 k j hkn
          unfold cl upd I at *
          by_cases e : j = k
          · subst e; grind
          · have q1 := q1 (by omega)
            have q2 := q2 (by omega)
            grind
      by_cases e : i = k
      · subst e; exact key m h3 he
      · have s1 := h.swapped m k i hkn h2 (fun h => e h.symm)
        have s2 := (det_alt n).swapped m k i hkn h2 (fun h => e h.symm)
        have h0 := key (swap m k i) (by unfold swap upd; grind) fun a b ha hb => by
          have q1 := he k b hkn hb
          have q2 := he i b h2 hb
          have q3 := he a b ha hb
          unfold swap upd I at *; grind
        grind
    · have hz : ∀ i j, k ≤ i → i < n → j < k + 1 → m i j = 0 := fun i j hi hin hj => by
        by_cases e : j = k
        · subst e; exact Classical.byContradiction fun hne => hex ⟨i, hi, hin, hne⟩
        · rw [he i j hin (by omega)]; unfold I; rw [if_neg (by omega)]
      rw [h.flat d m k (k + 1) (by omega) (Nat.le_refl _) hkn hz, (det_alt n).flat d m k (k + 1) (by omega) (Nat.le_refl _) hkn hz]; grind
theorem Alt.det {n : Nat} {f : M → Rat} (h : Alt n f) (m : M) : f m = f I * Det.det n m := h.uniq n m 0 (by omega) fun i j _ hj => by omega
/-- the product -/
def mul (n : Nat) (a b : M) : M := fun i j => sum n fun k => a i k * b k j
theorem det_mul (n : Nat) (a b : M) : det n (mul n a b) = det n a * det n b := by
  have h : Alt n fun a => det n (mul n a b) := by
    refine ⟨fun a a' h => det_congr fun i j hi hj => sum_congr fun k hk => by rw [h i k hi hk], fun m r g h x y hr => ?_, fun m r hr he => det_adj hr fun j => sum_congr fun k hk => by rw [he k]⟩
    have e : ∀ u : Nat → Rat, mul n (upd m r u) b = upd (mul n m b) r fun j => sum n fun k => u k * b k j := fun u => by
      funext i j
      unfold mul upd
      split
      · rfl
      · rfl
    rw [e, e, e]
    have e2 : (fun j => sum n fun k => (x * g k + y * h k) * b k j) = fun j => x * (sum n fun k => g k * b k j) + y * (sum n fun k => h k * b k j) := by
      funext j
      rw [← sum_mul, ← sum_mul, ← sum_add]
      exact sum_congr fun k _ => by grind
    rw [e2]
    exact det_lin hr
  have h1 := h.det a
  have h2 : det n (mul n I b) = det n b := det_congr fun i j hi hj => by
    unfold mul
    have : ∀ m, i < m → m ≤ n → sum m (fun k => I i k * b k j) = b i j := by
      intro m
      induction m with
      | zero => intro h; omega
      | succ m ih =>
        intro h1 h2
        rw [sum]
        by_cases e : i = m
        · subst e
          rw [sum_zero fun k hk => by unfold I; rw [if_neg (by omega)]; grind]
          unfold I; rw [if_pos rfl]; grind
        · rw [ih (by omega) (by omega)]
          unfold I; rw [if_neg e]; grind
    exact this n hi (Nat.le_refl _)
  rw [h1, h2]; grind
/-- column c is replaced -/
def updc (m : M) (c : Nat) (f : Nat → Rat) : M := fun i j => if j = c then f i else m i j
/-- linear in each column -/
theorem det_linc {n : Nat} : ∀ {m : M} {c : Nat} {f g : Nat → Rat} {a b : Rat}, c < n → det n (updc m c fun j => a * f j + b * g j) = a * det n (updc m c f) + b * det n (updc m c g) := by
  induction n with
  | zero => intro m c f g a b h; omega
  | succ n ih =>
    intro m c f g a b h
    simp only [det]
    rw [← sum_mul, ← sum_mul, ← sum_add]
    refine sum_congr fun i hi => ?_
    match c, h with
    | 0, _ =>
      have e : ∀ u, minor (updc m 0 u) i = minor m i := fun u => by funext x y; unfold minor updc; rw [if_neg (by omega)]
      rw [e, e, e]
      simp only [updc, if_true]; grind
    | c + 1, h =>
      have e : ∀ u : Nat → Rat, minor (updc m (c + 1) u) i = updc (minor m i) c (fun r => u (skip i r)) := fun u => by funext x y; unfold minor updc; grind
      rw [e, e, e, ih (by omega)]
      simp only [updc]
      rw [if_neg (by omega)]; grind
theorem sum_pick {n : Nat} {f : Nat → Rat} {j : Nat} (hj : j < n) (h : ∀ k, k < n → k ≠ j → f k = 0) : sum n f = f j := by
  induction n with
  | zero => omega
  | succ n ih =>
    rw [sum]
    by_cases e : j = n
    · subst e
      rw [sum_zero fun k hk => h k (by omega) (by omega)]; grind
    · rw [ih (by omega) fun k hk => h k (by omega), h n (by omega) (by omega)]; grind
/-- nought, where two columns, one behind the other, are alike -/
theorem det_adjc {n : Nat} {m : M} {c : Nat} (h : c + 1 < n) (he : ∀ i, m i c = m i (c + 1)) : det n m = 0 := by
  have h1 : det n (mul n m (swap I c (c + 1))) = det n m := det_congr fun i j hi hj => by
    unfold mul
    by_cases e1 : j = c
    · subst e1
      rw [sum_pick (j := j + 1) h fun k hk hne => by unfold swap upd I; grind]
      have := he i
      unfold swap upd I; grind
    · by_cases e2 : j = c + 1
      · subst e2
        rw [sum_pick (j := c) (by omega) fun k hk hne => by unfold swap upd I; grind]
        have := he i
        unfold swap upd I; grind
      · rw [sum_pick (j := j) hj fun k hk hne => by unfold swap upd I; grind]
        unfold swap upd I; grind
  rw [det_mul, (det_alt n).swap_adj I c h, det_I] at h1
  grind
/-- rows become columns -/
def tr (m : M) : M := fun i j => m j i
theorem det_tr (n : Nat) (m : M) : det n (tr m) = det n m := by
  have h : Alt n fun m => det n (tr m) := by
    refine ⟨fun a b h => det_congr fun i j hi hj => h j i hj hi, fun m r g h a b hr => ?_, fun m r hr he => det_adjc hr fun i => he i⟩
    have e : ∀ u, tr (upd m r u) = updc (tr m) r u := fun u => by funext i j; rfl
    rw [e, e, e]
    exact det_linc hr
  rw [h.det m, show tr I = I by funext i j; unfold tr I; grind, det_I]; grind
/-- without row a, and without column b -/
def min2 (m : M) (a b : Nat) : M := fun r c => m (skip a r) (skip b c)
theorem min2_upd {m : M} {r i b : Nat} {f : Nat → Rat} (h : i ≠ r) : min2 (upd m r f) i b = upd (min2 m i b) (down i r) (fun j => f (skip b j)) := by
  funext x y
  simp only [min2, upd, skip, down]
  grind
theorem min2_upd_same {m : M} {r b : Nat} {f : Nat → Rat} : min2 (upd m r f) r b = min2 m r b := by
  funext x y
  unfold min2 upd skip
  split <;> rw [if_neg (by omega)]
/-- told by column c -/
def byCol (n c : Nat) (m : M) : Rat := sum (n + 1) fun i => sg (i + c) * m i c * det n (min2 m i c)
theorem sg_succ (i : Nat) : sg (i + 1) = - sg i := by unfold sg; grind
theorem byCol_alt {n c : Nat} (hc : c < n + 1) : Alt (n + 1) (byCol n c) := by
  refine ⟨fun a b h => sum_congr fun i hi => ?_, fun m r g h a b hr => ?_, fun m r h he => ?_⟩
  · rw [h i c hi hc, det_congr (a := min2 a i c) (b := min2 b i c) fun x y hx hy => ?_]
    unfold min2
    refine h _ _ ?_ ?_ <;> (unfold skip; split <;> omega)
  · unfold byCol
    rw [← sum_mul, ← sum_mul, ← sum_add]
    refine sum_congr fun i hi => ?_
    by_cases e : i = r
    · subst e
      rw [min2_upd_same, min2_upd_same, min2_upd_same]
      simp only [upd, if_true]; grind
    · rw [min2_upd e, min2_upd e, min2_upd e, det_lin (by unfold down; split <;> omega)]
      simp only [upd, if_neg e]; grind
  · unfold byCol
    rw [sum_two (i := r) (j := r + 1) (by omega) h (by omega) fun k hk h1 h2 => ?_]
    · have : min2 m r c = min2 m (r + 1) c := by
        funext x y
        show m (skip r x) _ = m (skip (r + 1) x) _
        generalize skip c y = z
        have hz := he z
        unfold skip
        by_cases e1 : x < r
        · rw [if_pos e1, if_pos (by omega)]
        · rw [if_neg e1]
          by_cases e2 : x < r + 1
          · rw [if_pos e2]
            obtain rfl : x = r := by omega
            exact hz.symm
          · rw [if_neg e2]
      rw [this, he c]
      have : sg (r + 1 + c) = - sg (r + c) := by rw [show r + 1 + c = r + c + 1 by omega, sg_succ]
      rw [this]; grind
    · have : det n (min2 m k c) = 0 := by
        refine det_adj (r := down k r) (by unfold down; split <;> omega) fun j => ?_
        show m (skip k (down k r)) _ = m (skip k (down k r + 1)) _
        generalize skip c j = z
        have hz := he z
        unfold skip down
        by_cases e : r < k
        · rw [if_pos e, if_pos e, if_pos (by omega)]; exact hz
        · rw [if_neg e, if_neg (by omega), if_neg (by omega), show r - 1 + 1 = r by omega]; exact hz
      rw [this]; grind
/-- the determinant, by any column -/
theorem det_col {n c : Nat} (hc : c < n + 1) (m : M) : det (n + 1) m = byCol n c m := by
  have h := (byCol_alt hc).det m
  have h1 : byCol n c I = 1 := by
    unfold byCol
    rw [sum_pick (j := c) hc fun k hk hne => by unfold I; rw [if_neg hne]; grind]
    have : min2 I c c = I := by funext a b; simp only [min2, skip, I]; grind
    rw [this, det_I]
    have : sg (c + c) = 1 := by unfold sg; rw [if_pos (by omega)]
    rw [this]; unfold I; rw [if_pos rfl]; grind
  rw [h, h1]; grind
theorem det_samec {n : Nat} {m : M} {c d : Nat} (hc : c < n) (hd : d < n) (hne : c ≠ d) (he : ∀ i, m i c = m i d) : det n m = 0 := by
  rw [← det_tr]
  exact (det_alt n).same (tr m) c d hc hd hne fun j => he j
/-- the adjugate of n + 1 rows and columns -/
def adj (n : Nat) (m : M) : M := fun i j => sg (i + j) * det n (min2 m j i)
theorem adj_mul {n : Nat} {m : M} {i j : Nat} (hi : i < n + 1) (hj : j < n + 1) : mul (n + 1) (adj n m) m i j = if i = j then det (n + 1) m else 0 := by
  have key : ∀ g : Nat → Rat, det (n + 1) (updc m i g) = sum (n + 1) fun k => adj n m i k * g k := fun g => by
    rw [det_col hi]
    unfold byCol adj
    refine sum_congr fun k hk => ?_
    have : min2 (updc m i g) k i = min2 m k i := by
      funext x y
      unfold min2 updc
      rw [if_neg (by unfold skip; split <;> omega)]
    rw [this, Nat.add_comm k i]
    simp only [updc, if_true]; grind
  have h := key fun k => m k j
  unfold mul
  rw [← h]
  by_cases e : i = j
  · subst e
    rw [if_pos rfl]
    congr 1
    funext x y
    unfold updc
    grind
  · rw [if_neg e]
    refine det_samec hi hj e fun k => ?_
    unfold updc
    grind
end Det

/- Elimination without fractions, in plain Lean: minors, what is left behind k rows (Sylvester's identity). -/
set_option linter.unusedVariables false
set_option linter.unusedSimpArgs false
namespace Det
theorem sum_comm (n m : Nat) (f : Nat → Nat → Rat) : sum n (fun i => sum m fun j => f i j) = sum m fun j => sum n fun i => f i j := by
  induction n with
  | zero => simp only [sum]; rw [sum_zero fun i _ => rfl]
  | succ n ih => simp only [sum]; rw [ih, ← sum_add]
theorem sum_neg (n : Nat) (f : Nat → Rat) : sum n (fun i => - f i) = - sum n f := by
  have := sum_mul n f (-1)
  rw [show (fun i => -1 * f i) = fun i => - f i by funext i; grind] at this
  rw [this]; grind
/-- each row of as many numbers is put together of the rows of a matrix whose determinant is not nought -/
theorem solve_row : ∀ (k : Nat) (b : M), det k b ≠ 0 → ∀ v : Nat → Rat, ∃ l : Nat → Rat, ∀ j, j < k → sum k (fun i => l i * b i j) = v j
  | 0, b, _, v => ⟨fun _ => 0, fun j hj => by omega⟩
  | n + 1, b, h, v => by
    refine ⟨fun i => (det (n + 1) b)⁻¹ * sum (n + 1) fun t => v t * adj n b t i, fun j hj => ?_⟩
    have e1 : ∀ i, i < n + 1 → (det (n + 1) b)⁻¹ * (sum (n + 1) fun t => v t * adj n b t i) * b i j = (det (n + 1) b)⁻¹ * sum (n + 1) fun t => v t * (adj n b t i * b i j) := fun i _ => by
      have : sum (n + 1) (fun t => b i j * (v t * adj n b t i)) = b i j * sum (n + 1) fun t => v t * adj n b t i := sum_mul _ _ _
      have e : (fun t => b i j * (v t * adj n b t i)) = fun t => v t * (adj n b t i * b i j) := by funext t; grind
      rw [e] at this
      rw [this]; grind
    rw [sum_congr e1, sum_mul, sum_comm]
    have e2 : ∀ t, t < n + 1 → (sum (n + 1) fun i => v t * (adj n b t i * b i j)) = v t * if t = j then det (n + 1) b else 0 := fun t ht => by
      rw [sum_mul]
      congr 1
      exact adj_mul ht hj
    rw [sum_congr e2, sum_pick hj (fun t _ hne => by rw [if_neg hne]; grind), if_pos rfl]
    rw [Rat.mul_comm (v j), ← Rat.mul_assoc, Rat.inv_mul_cancel _ h]; grind
/-- a row, and what is put together of the rows ahead -/
theorem det_addrows {n : Nat} (m : M) (r : Nat) (hr : r < n) (l : Nat → Rat) : ∀ t, t ≤ r → det n (upd m r fun j => m r j + sum t fun i => l i * m i j) = det n m := by
  intro t
  induction t with
  | zero =>
    intro _
    refine det_congr fun i j _ _ => ?_
    unfold upd; split
    · subst_vars; simp only [sum]; grind
    · rfl
  | succ t ih =>
    intro ht
    rw [← ih (by omega)]
    have := (det_alt n).addmul (upd m r fun j => m r j + sum t fun i => l i * m i j) r t (l t) hr (by omega) (by omega)
    rw [← this, upd_upd]
    refine det_congr fun i j _ _ => ?_
    unfold upd
    by_cases h : i = r
    · subst h
      have : ¬ t = i := by omega
      simp only [if_true, if_neg this, sum]; grind
    · simp only [if_neg h]
/-- the last row is nought but for its last number -/
theorem det_last {n : Nat} {m : M} (h : ∀ j, j < n → m n j = 0) : det (n + 1) m = m n n * det n m := by
  rw [← det_tr, det_col (Nat.lt_succ_self n)]
  unfold byCol
  rw [sum_pick (Nat.lt_succ_self n) (fun k hk hne => by
    have : tr m k n = 0 := h k (by omega)
    rw [this]; grind)]
  have e1 : sg (n + n) = 1 := by unfold sg; rw [if_pos (by omega)]
  have e2 : det n (min2 (tr m) n n) = det n m := by
    rw [← det_tr n m]
    refine det_congr fun i j hi hj => ?_
    unfold min2 skip
    rw [if_pos hi, if_pos hj]
  rw [e1, e2]; unfold tr; grind
/-- a matrix with one row and one column behind -/
theorem border {k : Nat} {t : M} (l : Nat → Rat) (h : ∀ j, j < k → sum k (fun i => l i * t i j) = t k j) : det (k + 1) t = (t k k - sum k fun i => l i * t i k) * det k t := by
  have e := det_addrows (n := k + 1) t k (Nat.lt_succ_self k) (fun i => - l i) k (Nat.le_refl k)
  have hs : ∀ j, (sum k fun i => - l i * t i j) = - sum k fun i => l i * t i j := fun j => by
    rw [← sum_neg]; refine sum_congr fun i _ => ?_; grind
  rw [← e, det_last]
  · have e2 : det k (upd t k fun j => t k j + sum k fun i => - l i * t i j) = det k t := det_congr fun i j hi hj => by
      unfold upd; rw [if_neg (by omega)]
    rw [e2]; unfold upd; rw [if_pos rfl]; dsimp only; rw [hs]; grind
  · intro j hj
    unfold upd; rw [if_pos rfl]; dsimp only; rw [hs, h j hj]; grind
/-- the row k + 1 at the place of the row k; the same of columns -/
def nr (k : Nat) (t : M) : M := fun i j => t (if i = k then k + 1 else i) j
def nc (k : Nat) (t : M) : M := fun i j => t i (if j = k then k + 1 else j)
theorem sylvester {k : Nat} {t : M} (hk : det k t ≠ 0) (hp : det (k + 1) t ≠ 0) : det (k + 2) t * det k t = det (k + 1) t * det (k + 1) (nr k (nc k t)) - det (k + 1) (nr k t) * det (k + 1) (nc k t) := by
  obtain ⟨l, hl⟩ := solve_row k t hk (t k)
  obtain ⟨u, hu⟩ := solve_row k t hk (t (k + 1))
  have b1 := border l hl
  have sub : ∀ (a : M), (∀ i j, i < k → j < k → a i j = t i j) → det k a = det k t := fun a h => det_congr h
  have b2 : det (k + 1) (nr k t) = (t (k + 1) k - sum k fun i => u i * t i k) * det k t := by
    have e := border (k := k) (t := nr k t) u (fun j hj => by
      unfold nr
      rw [if_pos rfl, ← hu j hj]
      exact sum_congr fun i hi => by rw [if_neg (by omega)])
    rw [e, sub (nr k t) (fun i j hi hj => by unfold nr; rw [if_neg (by omega)])]
    unfold nr; rw [if_pos rfl]
    congr 2
    exact sum_congr fun i hi => by rw [if_neg (by omega)]
  have b3 : det (k + 1) (nc k t) = (t k (k + 1) - sum k fun i => l i * t i (k + 1)) * det k t := by
    have e := border (k := k) (t := nc k t) l (fun j hj => by
      unfold nc
      rw [if_neg (by omega)]
      exact hl j hj)
    rw [e, sub (nc k t) (fun i j hi hj => by unfold nc; rw [if_neg (by omega)])]
    unfold nc; rw [if_pos rfl]
  have b4 : det (k + 1) (nr k (nc k t)) = (t (k + 1) (k + 1) - sum k fun i => u i * t i (k + 1)) * det k t := by
    have e := border (k := k) (t := nr k (nc k t)) u (fun j hj => by
      unfold nr nc
      rw [if_pos rfl, if_neg (by omega), ← hu j hj]
      exact sum_congr fun i hi => by rw [if_neg (by omega)])
    rw [e, sub (nr k (nc k t)) (fun i j hi hj => by unfold nr nc; rw [if_neg (by omega), if_neg (by omega)])]
    unfold nr nc; rw [if_pos rfl]
    congr 2
    exact sum_congr fun i hi => by rw [if_neg (by omega)]
  -- the greater one: clear row k, clear row k + 1, then with row k
  obtain ⟨s, hs⟩ : ∃ s : Nat → Rat, s = fun j => t k j - sum k fun i => l i * t i j := ⟨_, rfl⟩
  obtain ⟨s', hs'⟩ : ∃ s : Nat → Rat, s = fun j => t (k + 1) j - sum k fun i => u i * t i j := ⟨_, rfl⟩
  have hneg : ∀ (l : Nat → Rat) j, (sum k fun i => - l i * t i j) = - sum k fun i => l i * t i j := fun l j => by
    rw [← sum_neg]; refine sum_congr fun i _ => ?_; grind
  have c1 : det (k + 2) (upd t k s) = det (k + 2) t := by
    have e := det_addrows (n := k + 2) t k (by omega) (fun i => - l i) k (Nat.le_refl k)
    rw [← e]
    congr 2
    funext j
    rw [hs, hneg]; grind
  have c2 : det (k + 2) (upd (upd t k s) (k + 1) s') = det (k + 2) (upd t k s) := by
    have e := det_addrows (n := k + 2) (upd t k s) (k + 1) (by omega) (fun i => - u i) k (by omega)
    rw [← e]
    congr 2
    funext j
    rw [hs']
    have e3 : (sum k fun i => - u i * upd t k s i j) = sum k fun i => - u i * t i j := sum_congr fun i hi => by unfold upd; rw [if_neg (by omega)]
    rw [e3, hneg]
    unfold upd; rw [if_neg (by omega)]; grind
  have hsz : s k ≠ 0 := by
    intro h0
    apply hp
    rw [b1]
    have : t k k - (sum k fun i => l i * t i k) = s k := by rw [hs]
    rw [this, h0]; grind
  have c3 := (det_alt (k + 2)).addmul (upd (upd t k s) (k + 1) s') (k + 1) k (- (s' k) * (s k)⁻¹) (by omega) (by omega) (by omega)
  rw [upd_upd] at c3
  have z0 : ∀ j, j < k → s j = 0 := fun j hj => by rw [hs]; show t k j - _ = 0; rw [hl j hj]; grind
  have z1 : ∀ j, j < k → s' j = 0 := fun j hj => by rw [hs']; show t (k + 1) j - _ = 0; rw [hu j hj]; grind
  have hinv : (s k)⁻¹ * s k = 1 := Rat.inv_mul_cancel _ hsz
  have c4 : det (k + 2) (upd (upd t k s) (k + 1) fun j => upd (upd t k s) (k + 1) s' (k + 1) j + - (s' k) * (s k)⁻¹ * upd (upd t k s) (k + 1) s' k j) = (s' (k + 1) + - (s' k) * (s k)⁻¹ * s (k + 1)) * (s k * det k t) := by
    rw [det_last]
    · have e1 : det (k + 1) (upd (upd t k s) (k + 1) fun j => upd (upd t k s) (k + 1) s' (k + 1) j + - (s' k) * (s k)⁻¹ * upd (upd t k s) (k + 1) s' k j) = s k * det k t := by
        rw [det_last]
        · have e2 : det k (upd (upd t k s) (k + 1) fun j => upd (upd t k s) (k + 1) s' (k + 1) j + - (s' k) * (s k)⁻¹ * upd (upd t k s) (k + 1) s' k j) = det k t := det_congr fun i j hi hj => by
            unfold upd; rw [if_neg (by omega), if_neg (by omega)]
          rw [e2]
          unfold upd; rw [if_neg (by omega), if_pos rfl]
        · intro j hj
          unfold upd; rw [if_neg (by omega), if_pos rfl]; exact z0 j hj
      rw [e1]
      have n1 : ¬ k = k + 1 := by omega
      unfold upd
      simp only [if_true, n1, if_false]
    · intro j hj
      have n1 : ¬ k = k + 1 := by omega
      unfold upd
      simp only [if_true, n1, if_false]
      by_cases h : j = k
      · subst h; grind
      · rw [z0 j (by omega), z1 j (by omega)]; grind
  rw [← c1, ← c2, ← c3, c4, b1, b2, b3, b4]
  have q1 : t k k - (sum k fun i => l i * t i k) = s k := by rw [hs]
  have q2 : t (k + 1) k - (sum k fun i => u i * t i k) = s' k := by rw [hs']
  have q3 : t k (k + 1) - (sum k fun i => l i * t i (k + 1)) = s (k + 1) := by rw [hs]
  have q4 : t (k + 1) (k + 1) - (sum k fun i => u i * t i (k + 1)) = s' (k + 1) := by rw [hs']
  rw [q1, q2, q3, q4]
  grind
end Det

/- Elimination without fractions, in plain Lean: the mirror of the program's, and what its numbers are: minors. -/
set_option linter.unusedVariables false
set_option linter.unusedSimpArgs false
namespace Det
/-- whole numbers as fractions -/
def cst (a : Nat → Nat → Int) : M := fun i j => (a i j : Rat)
/-- rows i and k change places -/
def swp (g : Nat → Nat → Int) (i k : Nat) : Nat → Nat → Int := fun r c => if r = i then g k c else if r = k then g i c else g r c
/-- the first of d rows from i on that has something in the column j -/
def fr (g : Nat → Nat → Int) (j : Nat) : Nat → Nat → Nat
  | 0, i => i
  | d + 1, i => if g i j = 0 then fr g j d (i + 1) else i
structure El where
  g : Nat → Nat → Int
  p : List Nat
  last : Int
  sign : Int
/-- one row's new number -/
def elNew (g : Nat → Nat → Int) (k j : Nat) (last : Int) (r c : Nat) : Int := (g k j * g r c - g r j * g k c) / last
def elStep (n : Nat) (s : El) (j : Nat) : El :=
  if fr s.g j (n - s.p.length) s.p.length = n then s
  else
    { g := fun r c => if s.p.length < r then elNew (swp s.g (fr s.g j (n - s.p.length) s.p.length) s.p.length) s.p.length j s.last r c else swp s.g (fr s.g j (n - s.p.length) s.p.length) s.p.length r c
      p := s.p ++ [j]
      last := swp s.g (fr s.g j (n - s.p.length) s.p.length) s.p.length s.p.length j
      sign := if fr s.g j (n - s.p.length) s.p.length = s.p.length then s.sign else - s.sign }
def elR (n : Nat) (a : Nat → Nat → Int) : Nat → El
  | 0 => ⟨a, [], 1, 1⟩
  | t + 1 => elStep n (elR n a t) t
theorem fr_ge (g : Nat → Nat → Int) (j : Nat) : ∀ d i, i ≤ fr g j d i ∧ fr g j d i ≤ i + d := by
  intro d
  induction d with
  | zero => intro i; simp [fr]
  | succ d ih =>
    intro i; unfold fr; split
    · have := ih (i + 1); omega
    · omega
theorem fr_zero (g : Nat → Nat → Int) (j : Nat) : ∀ d i t, i ≤ t → t < fr g j d i → g t j = 0 := by
  intro d
  induction d with
  | zero => intro i t h1 h2; simp [fr] at h2; omega
  | succ d ih =>
    intro i t h1 h2
    unfold fr at h2
    split at h2
    · by_cases e : t = i
      · subst e; assumption
      · exact ih (i + 1) t (by omega) h2
    · omega
theorem fr_at (g : Nat → Nat → Int) (j : Nat) : ∀ d i, fr g j d i < i + d → g (fr g j d i) j ≠ 0 := by
  intro d
  induction d with
  | zero => intro i h; simp [fr] at h
  | succ d ih =>
    intro i h
    unfold fr at h ⊢
    split
    · rename_i hz
      rw [if_pos hz] at h
      exact ih (i + 1) (by omega)
    · assumption
/-- it is that row -/
theorem fr_is {g : Nat → Nat → Int} {j n k i : Nat} (h1 : k ≤ i) (h2 : i < n) (hz : ∀ t, k ≤ t → t < i → g t j = 0) (hi : g i j ≠ 0) : fr g j (n - k) k = i := by
  have a := fr_ge g j (n - k) k
  rcases Nat.lt_trichotomy (fr g j (n - k) k) i with h | h | h
  · exact absurd (hz _ a.1 h) (fr_at g j (n - k) k (by omega))
  · exact h
  · exact absurd (fr_zero g j (n - k) k i h1 h) hi
theorem fr_none {g : Nat → Nat → Int} {j n k : Nat} (h1 : k ≤ n) (hz : ∀ t, k ≤ t → t < n → g t j = 0) : fr g j (n - k) k = n := by
  have a := fr_ge g j (n - k) k
  rcases Nat.lt_or_ge (fr g j (n - k) k) n with h | h
  · exact absurd (hz _ a.1 h) (fr_at g j (n - k) k (by omega))
  · omega
theorem elStep_none {n : Nat} {s : El} {j : Nat} (h1 : s.p.length ≤ n) (hz : ∀ t, s.p.length ≤ t → t < n → s.g t j = 0) : elStep n s j = s := by
  unfold elStep; rw [if_pos (fr_none h1 hz)]
theorem elStep_some {n : Nat} {s : El} {j i : Nat} (h1 : s.p.length ≤ i) (h2 : i < n) (hz : ∀ t, s.p.length ≤ t → t < i → s.g t j = 0) (hi : s.g i j ≠ 0) :
    elStep n s j = { g := fun r c => if s.p.length < r then elNew (swp s.g i s.p.length) s.p.length j s.last r c else swp s.g i s.p.length r c, p := s.p ++ [j], last := s.g i j, sign := if i = s.p.length then s.sign else - s.sign } := by
  unfold elStep
  rw [fr_is h1 h2 hz hi, if_neg (by omega)]
  have : swp s.g i s.p.length s.p.length j = s.g i j := by unfold swp; split <;> simp_all
  rw [this]
/-- determinants of whole numbers are whole -/
theorem sum_int {n : Nat} {f : Nat → Rat} (h : ∀ i, i < n → ∃ z : Int, f i = z) : ∃ z : Int, sum n f = z := by
  induction n with
  | zero => exact ⟨0, rfl⟩
  | succ n ih =>
    obtain ⟨a, ha⟩ := ih fun i hi => h i (by omega)
    obtain ⟨b, hb⟩ := h n (by omega)
    exact ⟨a + b, by simp only [sum]; rw [ha, hb, Rat.intCast_add]⟩
theorem sg_int (i : Nat) : ∃ z : Int, sg i = z := by
  unfold sg; split
  · exact ⟨1, rfl⟩
  · exact ⟨-1, rfl⟩
theorem det_int : ∀ (n : Nat) (a : Nat → Nat → Int), ∃ z : Int, det n (cst a) = z
  | 0, a => ⟨1, rfl⟩
  | n + 1, a => by
    unfold det
    refine sum_int fun i hi => ?_
    obtain ⟨x, hx⟩ := sg_int i
    obtain ⟨y, hy⟩ := det_int n fun r c => a (skip i r) (c + 1)
    exact ⟨x * a i 0 * y, by rw [hx, Rat.intCast_mul, Rat.intCast_mul, ← hy]; rfl⟩
/-- the rows of a matrix about which k rows and their pivot columns are laid: one row and one column more -/
def bord (a : Nat → Nat → Int) (q : Nat → Nat) (p : List Nat) (k r c : Nat) : M := fun i t => (a (q (if i < k then i else r)) (if t < k then p.getD t 0 else c) : Rat)
def q2 (q : Nat → Nat) (i k : Nat) : Nat → Nat := fun r => if r = i then q k else if r = k then q i else q r
structure Inv (n m : Nat) (a : Nat → Nat → Int) (s : El) (j : Nat) (q : Nat → Nat) : Prop where
  k : s.p.length ≤ n
  q1 : ∀ i, i < n → q i < n
  q2 : ∀ i i', i < n → i' < n → q i = q i' → i = i'
  q3 : ∀ x, x < n → ∃ i, i < n ∧ q i = x
  sgn : s.sign = 1 ∨ s.sign = -1
  alt : ∀ f, Alt n f → f (fun r c => (a (q r) c : Rat)) = s.sign * f (cst a)
  nz : s.last ≠ 0
  last : (s.last : Rat) = det s.p.length fun r c => (a (q r) (s.p.getD c 0) : Rat)
  gm : ∀ r c, s.p.length ≤ r → r < n → c < m → (s.g r c : Rat) = det (s.p.length + 1) (bord a q s.p s.p.length r c)
  ze : ∀ r c, s.p.length ≤ r → r < n → c < j → s.g r c = 0
  inc : ∀ i i', i < i' → i' < s.p.length → s.p.getD i 0 < s.p.getD i' 0
  top : ∀ i, i < s.p.length → s.p.getD i 0 < j
theorem inv_start (n m : Nat) (a : Nat → Nat → Int) : Inv n m a ⟨a, [], 1, 1⟩ 0 id := by
  refine ⟨Nat.zero_le _, fun i h => h, fun i i' _ _ h => h, fun x h => ⟨x, h, rfl⟩, .inl rfl, fun f hf => ?_, by simp, ?_, fun r c _ _ _ => ?_, fun r c _ _ h => by omega, fun i i' _ h => by simp at h, fun i h => by simp at h⟩
  · show f (cst a) = ((1 : Int) : Rat) * f (cst a)
    simp [Rat.one_mul]
  · simp [det]
  · simp only [List.length_nil, det, sum, sg, minor, bord]
    simp [Rat.zero_add, Rat.one_mul, Rat.mul_one]
theorem q2_same (q : Nat → Nat) (k : Nat) : q2 q k k = q := by funext r; unfold q2; split <;> simp_all
theorem alt_swap {n : Nat} {f : M → Rat} (hf : Alt n f) (a : Nat → Nat → Int) (q : Nat → Nat) {i k : Nat} (hi : i < n) (hk : k < n) (hne : i ≠ k) : f (fun r c => (a (q2 q i k r) c : Rat)) = - f (fun r c => (a (q r) c : Rat)) := by
  rw [← hf.swapped (fun r c => (a (q r) c : Rat)) i k hi hk hne]
  congr 1
  funext r c
  unfold q2 swap upd
  by_cases h1 : r = i
  · subst h1; simp [hne]
  · by_cases h2 : r = k
    · subst h2; simp [h1]
    · simp [h1, h2]
theorem inv_step {n m : Nat} {a : Nat → Nat → Int} {s : El} {j : Nat} {q : Nat → Nat} (hj : j < m) (h : Inv n m a s j q) : ∃ q', Inv n m a (elStep n s j) (j + 1) q' := by
  obtain ⟨i, hi⟩ : ∃ i, fr s.g j (n - s.p.length) s.p.length = i := ⟨_, rfl⟩
  have hge := fr_ge s.g j (n - s.p.length) s.p.length
  have hfz := fr_zero s.g j (n - s.p.length) s.p.length
  have hfa := fr_at s.g j (n - s.p.length) s.p.length
  have hk := h.k
  rw [hi] at hge hfz hfa
  by_cases hn : i = n
  · refine ⟨q, ?_⟩
    rw [elStep_none hk fun t h1 h2 => hfz t h1 (by omega)]
    exact ⟨h.k, h.q1, h.q2, h.q3, h.sgn, h.alt, h.nz, h.last, h.gm, fun r c h1 h2 h3 => by
      by_cases e : c = j
      · subst e; exact hfz r h1 (by omega)
      · exact h.ze r c h1 h2 (by omega), h.inc, fun i hi => Nat.lt_succ_of_lt (h.top i hi)⟩
  · have hin : i < n := by omega
    have hpv := hfa (by omega)
    rw [elStep_some hge.1 hin (fun t h1 h2 => hfz t h1 h2) hpv]
    obtain ⟨k, hkk⟩ : ∃ k, s.p.length = k := ⟨_, rfl⟩
    have hgm := h.gm
    have hlast := h.last
    have hze := h.ze
    have hinc := h.inc
    have htop := h.top
    rw [hkk] at hge hk hfz hgm hlast hze hinc htop ⊢
    have pk : ∀ t, t < k → (s.p ++ [j]).getD t 0 = s.p.getD t 0 := fun t ht => by simp [List.getElem?_append, hkk, ht]
    have pj : (s.p ++ [j]).getD k 0 = j := by simp [← hkk]
    -- the numbers once the rows have changed places
    have g1 : ∀ r c, k ≤ r → r < n → c < m → (swp s.g i k r c : Rat) = det (k + 1) (bord a (q2 q i k) s.p k r c) := fun r c h1 h2 h3 => by
      have bq : ∀ r', k ≤ r' → q2 q i k r = q r' → det (k + 1) (bord a (q2 q i k) s.p k r c) = det (k + 1) (bord a q s.p k r' c) := fun r' _ e => det_congr fun x y _ _ => by
        unfold bord
        by_cases hx : x < k
        · rw [if_pos hx]; unfold q2; rw [if_neg (by omega), if_neg (by omega)]
          simp only [hx, if_true]
        · rw [if_neg hx, e]; simp only [hx, if_false]
      by_cases e1 : r = i
      · rw [bq k (Nat.le_refl _) (by unfold q2; rw [if_pos e1]), ← hgm k c (Nat.le_refl _) (by omega) h3]
        unfold swp; rw [if_pos e1]
      · by_cases e2 : r = k
        · rw [bq i hge.1 (by unfold q2; rw [if_neg e1, if_pos e2]), ← hgm i c hge.1 hin h3]
          unfold swp; rw [if_neg e1, if_pos e2]
        · rw [bq r h1 (by unfold q2; rw [if_neg e1, if_neg e2]), ← hgm r c h1 h2 h3]
          unfold swp; rw [if_neg e1, if_neg e2]
    have z1 : ∀ r c, k ≤ r → r < n → c < j → swp s.g i k r c = 0 := fun r c h1 h2 h3 => by
      unfold swp
      split
      · exact hze k c (Nat.le_refl _) (by omega) h3
      · split
        · exact hze i c hge.1 hin h3
        · exact hze r c h1 h2 h3
    have hpv1 : swp s.g i k k j = s.g i j := by unfold swp; split <;> simp_all
    have hlast' : (s.last : Rat) = det k fun r c => (a (q2 q i k r) (s.p.getD c 0) : Rat) := by
      rw [hlast]
      refine det_congr fun x y hx hy => ?_
      unfold q2; rw [if_neg (by omega), if_neg (by omega)]
    -- what divides
    have hdiv : ∀ r c, k < r → r < n → c < m → ∃ z : Int, det (k + 2) (bord a (q2 q i k) (s.p ++ [j]) (k + 1) r c) = z ∧ swp s.g i k k j * swp s.g i k r c - swp s.g i k r j * swp s.g i k k c = z * s.last := fun r c h1 h2 h3 => by
      obtain ⟨z, hz⟩ := det_int (k + 2) fun x t => a (q2 q i k (if x < k + 1 then x else r)) (if t < k + 1 then (s.p ++ [j]).getD t 0 else c)
      have hz' : det (k + 2) (bord a (q2 q i k) (s.p ++ [j]) (k + 1) r c) = z := by rw [← hz]; rfl
      refine ⟨z, hz', ?_⟩
      obtain ⟨T, hT⟩ : ∃ T, bord a (q2 q i k) (s.p ++ [j]) (k + 1) r c = T := ⟨_, rfl⟩
      have tl : det k T = s.last := by
        rw [hlast', ← hT]
        refine det_congr fun x y hx hy => ?_
        unfold bord; rw [if_pos (by omega), if_pos (by omega), pk y hy]
      have sq : ∀ x : Nat, x < k + 1 → (if x < k then x else k) = x := fun x hx => by split <;> omega
      have t1 : det (k + 1) T = swp s.g i k k j := by
        rw [g1 k j (Nat.le_refl _) (by omega) hj, ← hT]
        refine det_congr fun x y hx hy => ?_
        unfold bord
        rw [if_pos (by omega), if_pos hy, sq x hx]
        by_cases hy' : y < k
        · rw [if_pos hy', pk y hy']
        · have : y = k := by omega
          subst this; rw [if_neg (by omega), pj]
      have t2 : det (k + 1) (nr k (nc k T)) = swp s.g i k r c := by
        rw [g1 r c (by omega) h2 h3, ← hT]
        refine det_congr fun x y hx hy => ?_
        unfold nr nc bord
        by_cases hx' : x < k
        · have hx2 : ¬ x = k := by omega
          simp only [hx2, if_false, hx, if_true, hx']
          by_cases hy' : y < k
          · have hy2 : ¬ y = k := by omega
            simp only [hy2, if_false, hy, if_true, hy']
            rw [pk y hy']
          · have : y = k := by omega
            subst this; simp
        · have hx2 : x = k := by omega
          subst hx2
          simp only [if_true, Nat.lt_irrefl, if_false]
          by_cases hy' : y < x
          · have hy2 : ¬ y = x := by omega
            simp only [hy2, if_false, hy, if_true, hy']
            rw [pk y hy']
          · have : y = x := by omega
            subst this; simp
      have t3 : det (k + 1) (nr k T) = swp s.g i k r j := by
        rw [g1 r j (by omega) h2 hj, ← hT]
        refine det_congr fun x y hx hy => ?_
        unfold nr bord
        have hyy : (if y < k + 1 then (s.p ++ [j]).getD y 0 else c) = if y < k then s.p.getD y 0 else j := by
          rw [if_pos hy]
          by_cases hy' : y < k
          · rw [if_pos hy', pk y hy']
          · have : y = k := by omega
            subst this; rw [if_neg (by omega), pj]
        rw [hyy]
        by_cases hx' : x < k
        · have hx2 : ¬ x = k := by omega
          simp only [hx2, if_false, hx, if_true, hx']
        · have hx2 : x = k := by omega
          subst hx2; simp
      have t4 : det (k + 1) (nc k T) = swp s.g i k k c := by
        rw [g1 k c (Nat.le_refl _) (by omega) h3, ← hT]
        refine det_congr fun x y hx hy => ?_
        unfold nc bord
        rw [if_pos (by omega), sq x hx]
        by_cases hy' : y < k
        · have hy2 : ¬ y = k := by omega
          simp only [hy2, if_false, hy, if_true, hy']
          rw [pk y hy']
        · have : y = k := by omega
          subst this; simp
      have hs := sylvester (k := k) (t := T) (by rw [tl]; simpa using h.nz) (by rw [t1, hpv1]; simpa using hpv)
      rw [t1, t2, t3, t4, tl, ← hT, hz'] at hs
      rw [← Rat.intCast_mul, ← Rat.intCast_mul, ← Rat.intCast_mul, ← Rat.intCast_sub] at hs
      have := Rat.intCast_inj.1 hs
      omega
    have hnew : ∀ r c, k < r → r < n → c < m → ((elNew (swp s.g i k) k j s.last r c : Int) : Rat) = det (k + 2) (bord a (q2 q i k) (s.p ++ [j]) (k + 1) r c) := fun r c h1 h2 h3 => by
      obtain ⟨z, hz, he⟩ := hdiv r c h1 h2 h3
      unfold elNew
      rw [he, Int.mul_ediv_cancel _ h.nz, hz]
    refine ⟨q2 q i k, ?_⟩
    have hsl : (s.p ++ [j]).length = k + 1 := by simp [hkk]
    refine ⟨by dsimp only; omega, fun x hx => ?_, fun x y hx hy e => ?_, fun x hx => ?_, ?_, fun f hf => ?_, hpv, ?_, ?_, ?_, ?_, ?_⟩
    · unfold q2; split
      · exact h.q1 k (by omega)
      · split
        · exact h.q1 i hin
        · exact h.q1 x hx
    · have hq := h.q2
      have key : ∀ x, x < n → ∃ x', x' < n ∧ q2 q i k x = q x' ∧ (x' = if x = i then k else if x = k then i else x) := fun x hx => by
        unfold q2
        by_cases e1 : x = i
        · exact ⟨k, by omega, by rw [if_pos e1], by rw [if_pos e1]⟩
        · by_cases e2 : x = k
          · exact ⟨i, hin, by rw [if_neg e1, if_pos e2], by rw [if_neg e1, if_pos e2]⟩
          · exact ⟨x, hx, by rw [if_neg e1, if_neg e2], by rw [if_neg e1, if_neg e2]⟩
      obtain ⟨x', hx1, hx2, hx3⟩ := key x hx
      obtain ⟨y', hy1, hy2, hy3⟩ := key y hy
      rw [hx2, hy2] at e
      have := hq x' y' hx1 hy1 e
      rw [hx3, hy3] at this
      clear hgm hlast hze hinc htop pk pj g1 z1 hpv1 hlast' hdiv hnew key
      by_cases a1 : x = i <;> by_cases a2 : x = k <;> by_cases a3 : y = i <;> by_cases a4 : y = k <;> simp only [a1, a2, a3, a4, if_true, if_false] at this ⊢ <;> first | omega | (split at this <;> omega)
    · obtain ⟨r, hr, rfl⟩ := h.q3 x hx
      by_cases e1 : r = i
      · exact ⟨k, by omega, by unfold q2; rw [e1]; split <;> simp_all⟩
      · by_cases e2 : r = k
        · exact ⟨i, hin, by unfold q2; rw [if_pos rfl, e2]⟩
        · exact ⟨r, hr, by unfold q2; rw [if_neg e1, if_neg e2]⟩
    · dsimp only; split
      · exact h.sgn
      · rcases h.sgn with h | h <;> rw [h] <;> simp
    · dsimp only
      by_cases e : i = k
      · rw [if_pos e]; subst e; rw [q2_same]; exact h.alt f hf
      · rw [if_neg e, alt_swap hf a q hin (by omega) e, h.alt f hf, Rat.intCast_neg]; grind
    · dsimp only
      rw [hsl, ← hpv1, g1 k j (Nat.le_refl _) (by omega) hj]
      refine det_congr fun x y hx hy => ?_
      unfold bord
      have hxx : (if x < k then x else k) = x := by split <;> omega
      rw [hxx]
      by_cases hy' : y < k
      · rw [if_pos hy', pk y hy']
      · have : y = k := by omega
        subst this; rw [if_neg (by omega), pj]
    · dsimp only
      rw [hsl]
      intro r c h1 h2 h3
      rw [if_pos (by omega)]
      exact hnew r c (by omega) h2 h3
    · dsimp only
      rw [hsl]
      intro r c h1 h2 h3
      rw [if_pos (by omega)]
      unfold elNew
      by_cases e : c = j
      · subst e; rw [Int.mul_comm (swp s.g i k r c)]; simp
      · rw [z1 r c (by omega) h2 (by omega), z1 k c (by omega) (by omega) (by omega)]; simp
    · dsimp only
      rw [hsl]
      intro x y hxy hy
      by_cases e : y = k
      · subst e; rw [pj, pk x hxy]; exact htop x hxy
      · rw [pk x (by omega), pk y (by omega)]; exact hinc x y hxy (by omega)
    · dsimp only
      rw [hsl]
      intro x hx
      by_cases e : x = k
      · subst e; rw [pj]; omega
      · rw [pk x (by omega)]; have := htop x (by omega); omega
theorem inv_all (n m : Nat) (a : Nat → Nat → Int) : ∀ j, j ≤ m → ∃ q, Inv n m a (elR n a j) j q
  | 0, _ => ⟨id, inv_start n m a⟩
  | j + 1, hj => by
    obtain ⟨q, hq⟩ := inv_all n m a j (by omega)
    exact inv_step (by omega) hq
end Det

/- Elimination without fractions, in plain Lean: the determinant, the rank, of what is turned too. -/
set_option linter.unusedVariables false
set_option linter.unusedSimpArgs false
namespace Det
/-- numbers that rise, below as many: each at its own place -/
theorem rise_id {n : Nat} {f : Nat → Nat} (h : ∀ i i', i < i' → i' < n → f i < f i') (ht : ∀ i, i < n → f i < n) : ∀ i, i < n → f i = i := by
  have lo : ∀ i, i < n → i ≤ f i := by
    intro i
    induction i with
    | zero => intro _; omega
    | succ i ih => intro hi; have := h i (i + 1) (by omega) hi; have := ih (by omega); omega
  have hi' : ∀ d i, i + d + 1 = n → f i ≤ i := by
    intro d
    induction d with
    | zero => intro i hi; have := ht i (by omega); omega
    | succ d ih => intro i hi; have := h i (i + 1) (by omega) (by omega); have := ih (i + 1) (by omega); omega
  intro i hi
  have := lo i hi
  have := hi' (n - i - 1) i (by omega)
  omega
/-- the rows behind the pivots' are put together of those -/
theorem rows_comb {n m : Nat} {a : Nat → Nat → Int} {s : El} {q : Nat → Nat} (h : Inv n m a s m q) {r : Nat} (h1 : s.p.length ≤ r) (h2 : r < n) :
    ∃ l : Nat → Rat, ∀ c, c < m → (a (q r) c : Rat) = sum s.p.length fun i => l i * (a (q i) c : Rat) := by
  have hd : det s.p.length (fun r c => (a (q r) (s.p.getD c 0) : Rat)) ≠ 0 := by rw [← h.last]; simpa using h.nz
  obtain ⟨l, hl⟩ := solve_row s.p.length _ hd (fun t => (a (q r) (s.p.getD t 0) : Rat))
  refine ⟨l, fun c hc => ?_⟩
  have hz : det (s.p.length + 1) (bord a q s.p s.p.length r c) = 0 := by
    rw [← h.gm r c h1 h2 hc, h.ze r c h1 h2 hc]; rfl
  rw [border l] at hz
  · have e : det s.p.length (bord a q s.p s.p.length r c) = det s.p.length fun r c => (a (q r) (s.p.getD c 0) : Rat) := det_congr fun x y hx hy => by
      unfold bord; rw [if_pos hx, if_pos hy]
    rw [e] at hz
    have h0 : (bord a q s.p s.p.length r c s.p.length s.p.length - sum s.p.length fun i => l i * bord a q s.p s.p.length r c i s.p.length) = 0 := by
      rcases Rat.mul_eq_zero.1 hz with h | h
      · exact h
      · exact absurd h hd
    have e1 : bord a q s.p s.p.length r c s.p.length s.p.length = (a (q r) c : Rat) := by unfold bord; simp
    have e2 : (sum s.p.length fun i => l i * bord a q s.p s.p.length r c i s.p.length) = sum s.p.length fun i => l i * (a (q i) c : Rat) := sum_congr fun i hi => by
      unfold bord; rw [if_pos hi, if_neg (by omega)]
    rw [e1, e2] at h0
    grind
  · intro j hj
    have := hl j hj
    unfold bord
    rw [if_pos hj, if_neg (Nat.lt_irrefl _), ← this]
    refine sum_congr fun i hi => ?_
    rw [if_pos hi]
/-- the determinant by elimination -/
def detE (n : Nat) (a : Nat → Nat → Int) : Int := if (elR n a n).p.length < n then 0 else (elR n a n).last * (elR n a n).sign
theorem detE_eq (n : Nat) (a : Nat → Nat → Int) : (detE n a : Rat) = det n (cst a) := by
  obtain ⟨q, h⟩ := inv_all n n a n (Nat.le_refl _)
  unfold detE
  have hsg : ((elR n a n).sign : Rat) * ((elR n a n).sign : Rat) = 1 := by
    rcases h.sgn with e | e <;> rw [e] <;> simp <;> grind
  have ha := h.alt _ (det_alt n)
  split
  · rename_i hk
    have hz : det n (fun r c => (a (q r) c : Rat)) = 0 := by
      obtain ⟨l, hl⟩ := rows_comb h (Nat.le_refl _) hk
      have e := det_addrows (n := n) (fun r c => (a (q r) c : Rat)) _ hk (fun i => - l i) _ (Nat.le_refl (elR n a n).p.length)
      rw [← e]
      refine (det_alt n).zero _ _ hk fun j hj => ?_
      unfold upd
      rw [if_pos rfl]
      dsimp only
      rw [hl j hj]
      have : (sum (elR n a n).p.length fun i => - l i * (a (q i) j : Rat)) = - sum (elR n a n).p.length fun i => l i * (a (q i) j : Rat) := by
        rw [← sum_neg]; refine sum_congr fun i _ => ?_; grind
      rw [this]; grind
    rw [ha] at hz
    show ((0 : Int) : Rat) = _
    rw [Rat.intCast_zero]
    rcases Rat.mul_eq_zero.1 hz with h0 | h0
    · rw [h0] at hsg; grind
    · exact h0.symm
  · have hk : (elR n a n).p.length = n := Nat.le_antisymm h.k (by omega)
    have hl := h.last
    have hinc := h.inc
    have htop := h.top
    rw [hk] at hl hinc htop
    have hid := rise_id hinc htop
    have e : det n (fun r c => (a (q r) ((elR n a n).p.getD c 0) : Rat)) = det n fun r c => (a (q r) c : Rat) := det_congr fun x y _ hy => by rw [hid y hy]
    rw [e, ha] at hl
    rw [Rat.intCast_mul, hl]
    grind
/-- sums of whole numbers -/
def isum (n : Nat) (f : Nat → Int) : Int := match n with
  | 0 => 0
  | n + 1 => isum n f + f n
theorem isum_congr {n : Nat} {f g : Nat → Int} (h : ∀ i, i < n → f i = g i) : isum n f = isum n g := by
  induction n with
  | zero => rfl
  | succ n ih => simp only [isum]; rw [ih fun i hi => h i (by omega), h n (by omega)]
theorem detE_congr {n : Nat} {a b : Nat → Nat → Int} (h : ∀ i j, i < n → j < n → a i j = b i j) : detE n a = detE n b := by
  apply Rat.intCast_inj.1
  rw [detE_eq, detE_eq]
  exact det_congr fun i j hi hj => by unfold cst; rw [h i j hi hj]
/-- the adjugate -/
def iadj (n : Nat) (a : Nat → Nat → Int) : Nat → Nat → Int := fun i j => if (i + j) % 2 = 1 then - detE (n - 1) (fun r c => a (skip j r) (skip i c)) else detE (n - 1) fun r c => a (skip j r) (skip i c)
end Det

/- matrix: Times. -/
namespace Go.Proofs.YthaohpfbengabaaDoor
open Num
open Go.ChangeShapes Go.WideShapes Go.ChangeAt Go.RowKit
set_option linter.unusedVariables false
set_option linter.unusedSimpArgs false
attribute [local go_sem ↓] Go.wp_at_zero Go.wp_at_succ
theorem isum_bd {k : Nat} {f : Nat → Int} (h : ∀ i, Bd k (f i)) : ∀ n, Bd (k + n) (Det.isum n f)
  | 0 => bd_zero
  | n + 1 => (Bd.add (isum_bd h n) ((h n).mono (by omega))).mono (by omega)
set_option maxRecDepth 100000 in
set_option maxHeartbeats 16000000 in
theorem times1_c (bm bo : Nat) (g h : Grid) (n m p k kh : Nat) (w : World) (hg : BoxM bm w g) (hh : BoxM bo w h) (lg : g.length = n) (lh : h.length = m) (rg : Rct g m) (rh : Rct h p) (kg : BdM k g) (kh' : BdM kh h) (hm : m ≤ 1099511627775) (hk : k + kh + m ≤ 17179869184) :
    FnF (fun i j => Det.isum m fun t => gat g i t * gat h t j) n p 42 #[.pointer (some ⟨bm, 0, none⟩), .pointer (some ⟨bo, 0, none⟩)] w := by
  intro w1 i j hi hj hW
  obtain ⟨c1, gb, go, ra, rc, q0, q1, hp⟩ := (hg.keep hW).row (by omega : i < g.length)
  rw [lg] at q0
  rw [rg i (by omega)] at q1
  have hrl := rg i (by omega)
  have HH := Lib.hid (show ∀ V, Below w1.heap.size w1 V → ∀ t, t < m → _ from fun V q t ht => ((hh.keep hW).keep q).elem rh (by omega : t < h.length) hj)
  have HP := Lib.hid hp
  rw [lh] at HH
  clear hg hW hp
  have HK := Lib.hid (And.intro kg kh')
  have HRL := Lib.hid hrl
  have hiI : (i : Int) < (n : Int) := by omega
  have hjI : (j : Int) < (p : Int) := by omega
  clear lg lh rg rh kg kh' hrl hh
  have zq0 := cell_lt q0; have zq1 := cell_lt q1
  obtain ⟨w, hw⟩ : ∃ w, w1 = w := ⟨_, rfl⟩
  subst hw
  have hB := Below.refl w1.heap.size w1
  show Calls Tryd.prog 42 #[.int .i64 (i : Nat), .int .i64 (j : Nat), .pointer (some ⟨bm, 0, none⟩), .pointer (some ⟨bo, 0, none⟩)] w1 _
  dsimp only
  go_enter Tryd.func42, Tryd.ntmps42
  go_wp2
  refine wp_name fun w0 hW0 => ?_
  have hB0 : Below w1.heap.size w1 w0 := by rw [hW0]; repeat (first | exact Below.refl _ _ | exact hB | refine Below.drew ?_ | refine below_drewN ?_ _ | refine bset ?_ (by simp <;> omega) _ | refine bal ?_ _)
  have HR0 := Lib.hid (show w0.cell? ⟨w1.heap.size, 0, none⟩ = some (.bool false) ∧ w0.cell? ⟨w1.heap.size, 1, none⟩ = some (.slice none 0 0) ∧ w0.frozen? ⟨w1.heap.size, 0, none⟩ = false ∧ w0.frozen? ⟨w1.heap.size, 1, none⟩ = false from by rw [hW0]; simp [go_sem])
  have HM0 := Lib.hid (show VarI (w1.heap.size + 1) 0 w0 from by rw [hW0]; exact ⟨typ_fresh (by simp), false, none, 0, 0, by simp [go_sem], by simp [go_sem], by simp [go_sem], by simp [go_sem], isInt_zero _⟩)
  clear hW0
  go_loopw [16] (fun x wr => ∃ t : Nat, t ≤ m ∧ x = .int .i64 t ∧ Below w1.heap.size w1 wr ∧ Hid (wr.cell? ⟨w1.heap.size, 0, none⟩ = some (.bool false) ∧ wr.cell? ⟨w1.heap.size, 1, none⟩ = some (.slice none 0 0) ∧ wr.frozen? ⟨w1.heap.size, 0, none⟩ = false ∧ wr.frozen? ⟨w1.heap.size, 1, none⟩ = false) ∧ Hid (VarI (w1.heap.size + 1) (Det.isum t fun t => gat g i t * gat h t j) wr)) (fun x _ => m - (intOf x).toNat)
  case atStart => exact ⟨0, Nat.zero_le _, rfl, hB0, HR0, HM0⟩
  case round =>
    obtain ⟨t, ht, rfl, hBr, HR, hM⟩ := hrel
    obtain ⟨-, n0, a0, ln0, c0, m0, m1, m0f, m1f, hi0⟩ := hM.out
    obtain ⟨r0, r1, r0f, r1f⟩ := HR.out
    have HI0 := Lib.hid hi0
    have zm := cell_lt m0
    have zr := cell_lt r0
    clear hi0
    by_cases hlt : t < m
    · have hltI : (t : Int) < (m : Int) := by omega
      obtain ⟨a', c', he, -, vr⟩ := (HP.out.keep lims_int hBr).view
      obtain ⟨rfl, -, rfl⟩ := Value.slice.inj he
      obtain ⟨b, off, n2, a2, l2, cc2, rfl, d0, d1, hx⟩ := vr t (by rw [HRL.out]; exact hlt)
      obtain ⟨c3, hb, ho, sb, so, sc, n3, a3, l3, k3, h0, h1, h2, h3, hy⟩ := HH.out _ hBr t hlt
      have HW := Lib.hid (show Det.isum (t + 1) (fun t => gat g i t * gat h t j) = Det.isum t (fun t => gat g i t * gat h t j) + gat g i t * gat h t j from rfl)
      have bs := isum_bd (k := k + kh) (f := fun t => gat g i t * gat h t j) (fun t => Bd.mul (HK.out.1 i t) (HK.out.2 t j)) t
      have bx := HK.out.1 i t
      have by' := HK.out.2 t j
      have bp := (Bd.mul bx by').mono (show k + kh ≤ k + kh + t by omega)
      have hgx : (g.getD i []).getD t 0 = gat g i t := rfl
      rw [hgx] at hx
      obtain ⟨x, hxx⟩ : ∃ x, gat g i t = x := ⟨_, rfl⟩
      obtain ⟨y, hyy⟩ : ∃ y, gat h t j = y := ⟨_, rfl⟩
      rw [hxx] at hx bx bp HW
      rw [hyy] at hy by' bp HW
      obtain ⟨s, hs⟩ : ∃ s, Det.isum t (fun t => gat g i t * gat h t j) = s := ⟨_, rfl⟩
      rw [hs] at HI0 HW hM bs
      have zd := cell_lt d0
      have z0 := cell_lt h0; have z1 := cell_lt h1; have z2 := cell_lt h2
      have HX := Lib.hid (And.intro hx hy)
      have HBP := Lib.hid (And.intro bs (And.intro bp (And.intro bx by')))
      have mc := fun W (q : Below wr.heap.size wr W) => mul_c (.agg #[.bool n2, .slice a2 l2 cc2]) (.agg #[.bool n3, .slice a3 l3 k3]) x y k kh W (HX.out.1.keep q) (HX.out.2.keep q) HBP.out.2.2.1 HBP.out.2.2.2 (by omega) (by omega)
      have ac := fun u W (q : Below wr.heap.size wr W) (hu : IsInt W u (x * y)) => addI_c _ u s (x * y) (k + kh + t) W (HI0.out.keep q) hu HBP.out.1 HBP.out.2.1 (by omega)
      clear hxx hyy hs he vr hx hy bs bp bx by' hgx
      have hBw := Below.refl wr.heap.size wr
      go_wp2
      refine wp_name fun w4 hW4 => ?_
      have hb4 : Below wr.heap.size wr w4 := by rw [hW4]; repeat (first | exact Below.refl _ _ | exact hBw | refine Below.drew ?_ | refine below_drewN ?_ _ | refine bset ?_ (by simp <;> omega) _ | refine bal ?_ _)
      have x0 : w4.cell? ⟨wr.heap.size, 0, none⟩ = some (.bool n2) := by rw [hW4]; simp [go_sem]
      have x1 : w4.cell? ⟨wr.heap.size, 1, none⟩ = some (.slice a2 l2 cc2) := by rw [hW4]; simp [go_sem]
      clear hW4
      have zx := cell_lt x0
      have HS := Lib.hid (show ∀ W, Below w4.heap.size w4 W → W.cell? ⟨wr.heap.size, 0, none⟩ = some (.bool n2) ∧ W.cell? ⟨wr.heap.size, 1, none⟩ = some (.slice a2 l2 cc2) ∧ W.cell? ⟨bo, 0, none⟩ = some (.slice (some ⟨hb, ho, none⟩) m c3) ∧ W.cell? ⟨hb, ho + t, none⟩ = some (.slice (some ⟨sb, so, none⟩) p sc) ∧ W.cell? ⟨sb, so + j * 2, none⟩ = some (.bool n3) ∧ W.cell? ⟨sb, so + j * 2 + 1, none⟩ = some (.slice a3 l3 k3) ∧ W.cell? ⟨w1.heap.size + 1, 0, none⟩ = some (.bool n0) ∧ W.cell? ⟨w1.heap.size + 1, 1, none⟩ = some (.slice a0 ln0 c0) ∧ W.frozen? ⟨w1.heap.size + 1, 0, none⟩ = false ∧ W.frozen? ⟨w1.heap.size + 1, 1, none⟩ = false from fun W q => ⟨bkeep q x0, bkeep q x1, bkeep (bthen hb4 q) h0, bkeep (bthen hb4 q) h1, bkeep (bthen hb4 q) h2, bkeep (bthen hb4 q) h3, bkeep (bthen hb4 q) m0, bkeep (bthen hb4 q) m1, bkeepf (bthen hb4 q) m0 m0f, bkeepf (bthen hb4 q) m1 m1f⟩)
      clear h0 h1 h2 h3 m0 m1 m0f m1f x0 x1
      obtain ⟨x0, x1, h0, h1, h2, h3, m0, m1, m0f, m1f⟩ := HS.out w4 (Below.refl _ _)
      have hBw := Below.refl w4.heap.size w4
      have hz4 := hb4.size
      go_region_law (go_simp; go_wp2_with (first
        | (go_at_call 20; refine (mc _ ?_).mono ?_; (refine bthen hb4 ?_; (repeat (first | exact Below.refl _ _ | exact hBw | refine Below.drew ?_ | refine below_drewN ?_ _ | refine bset ?_ (by simp <;> omega) _ | refine bal ?_ _))); rintro e w5 ⟨⟨v5, rfl, hv5⟩, hb5⟩; (have hBd : Below w4.heap.size w4 w5 := bthen (by repeat (first | exact Below.refl _ _ | exact hBw | refine Below.drew ?_ | refine below_drewN ?_ _ | refine bset ?_ (by simp <;> omega) _ | refine bal ?_ _)) hb5; clear hBw; have hBw := hBd; clear hBd); obtain ⟨x0, x1, h0, h1, h2, h3, m0, m1, m0f, m1f⟩ := HS.out w5 hBw; have zm5 := cell_lt m0; have HV5 := Lib.hid hv5; obtain ⟨n5, a5, c5, l5, rfl, -⟩ := hv5; unfold iv at *)
        | (go_at_call 43; refine (ac _ _ ?_ ?_).mono ?_; (refine bthen hb4 ?_; (repeat (first | exact Below.refl _ _ | exact hBw | refine Below.drew ?_ | refine below_drewN ?_ _ | refine bset ?_ (by simp <;> omega) _ | refine bal ?_ _))); (refine HV5.out.keep ?_; have hBz := Below.refl w5.heap.size w5; (repeat (first | exact Below.refl _ _ | exact hBz | refine Below.drew ?_ | refine below_drewN ?_ _ | refine bset ?_ (by simp <;> omega) _ | refine bal ?_ _))); rintro e w6 ⟨⟨v6, rfl, hv6⟩, hb6⟩; (have hBd : Below w4.heap.size w4 w6 := bthen (by repeat (first | exact Below.refl _ _ | exact hBw | refine Below.drew ?_ | refine below_drewN ?_ _ | refine bset ?_ (by simp <;> omega) _ | refine bal ?_ _)) hb6; clear hBw; have hBw := hBd; clear hBd); obtain ⟨x0, x1, h0, h1, h2, h3, m0, m1, m0f, m1f⟩ := HS.out w6 hBw; have zm6 := cell_lt m0; have HV6 := Lib.hid hv6; obtain ⟨n6, a6, c6, l6, rfl, -⟩ := hv6; unfold iv at *)
        | fail))
      all_goals
        have hBw' := bthen hb4 hBw
        have HV2 := Lib.hid ((hM.out.keep hBw').put HV6.out)
        have hB2 := bthen hBr hBw'
        have r0' := bkeep hBw' r0
        have r1' := bkeep hBw' r1
        have r0f' := bkeepf hBw' r0 r0f
        have r1f' := bkeepf hBw' r1 r1f
        clear mc ac HS
        go_wp2
        refine ⟨⟨t + 1, by omega, by go_num, bset (bset hB2 (by show w1.heap.size ≤ w1.heap.size + 1; omega) _) (by show w1.heap.size ≤ w1.heap.size + 1; omega) _, Lib.hid ⟨cell_far (cell_far r0' (addr_ne (by omega)) _) (addr_ne (by omega)) _, cell_far (cell_far r1' (addr_ne (by omega)) _) (addr_ne (by omega)) _, ?_, ?_⟩, Lib.hid (by rw [HW.out]; exact HV2.out)⟩, by simp [intOf]; omega⟩
        · rw [World.frozen?_setCell, World.frozen?_setCell]; exact r0f'
        · rw [World.frozen?_setCell, World.frozen?_setCell]; exact r1f'
    · obtain rfl : t = m := by omega
      have hp := Lib.hid (HI0.out.put2 r0 r1)
      go_wp2
      refine bodyPost_ret (v := .agg #[.bool n0, .slice a0 ln0 c0]) (by simp [results, Tryd.results42, go_sem, *]) rfl ⟨⟨_, rfl, hp.out _ _⟩, ?_⟩
      repeat (first | exact Below.refl _ _ | exact hBr | refine Below.drew ?_ | refine below_drewN ?_ _ | refine bset ?_ (by simp <;> omega) _ | refine bal ?_ _)
end Go.Proofs.YthaohpfbengabaaDoor

