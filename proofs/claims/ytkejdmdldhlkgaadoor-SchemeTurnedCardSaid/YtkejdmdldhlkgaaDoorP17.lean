/- Texts of this seat, laid together: RwG, MxA, MxB, MxC, MxD, MxE, MxF, MxG, Jn. Each opens with its own remark, which says what it proves, and under which conditions. -/
import Derived.Test.YtkejdmdldhlkgaaDoorP14
import Derived.Test.YtkejdmdldhlkgaaDoorP16
import Derived.Deep.RegionLaw
import Derived.StillTailTactics
import Derived.Test.YtkejdmdldhlkgaaDoorP03
import Derived.Test.YtkejdmdldhlkgaaDoorP08
import Derived.Shelf.Strings.OnBuilder
set_option linter.unusedVariables false
set_option linter.unusedSimpArgs false
/- integer: Sum; row: Dot. -/
namespace Go.Proofs.YtkejdmdldhlkgaaDoor
open Num
open Go.ChangeShapes Go.WideShapes Go.ChangeAt Go.RowKit
set_option linter.unusedVariables false
set_option linter.unusedSimpArgs false
attribute [local go_sem ↓] Go.wp_at_zero Go.wp_at_succ
end Go.Proofs.YtkejdmdldhlkgaaDoor

/- matrix: matrices as values; filled. -/
namespace Go.Proofs.YtkejdmdldhlkgaaDoor
open Num
open Go.ChangeShapes Go.WideShapes Go.ChangeAt Go.RowKit
set_option linter.unusedVariables false
set_option linter.unusedSimpArgs false
attribute [local go_sem ↓] Go.wp_at_zero Go.wp_at_succ
/-- a table of numbers -/
def tab (n m : Nat) (f : Nat → Nat → Int) : Grid := (List.range n).map fun i => (List.range m).map (f i)
theorem tab_len (n m : Nat) (f : Nat → Nat → Int) : (tab n m f).length = n := by simp [tab]
theorem tab_row {n m : Nat} {f : Nat → Nat → Int} {i : Nat} (h : i < n) : (tab n m f).getD i [] = (List.range m).map (f i) := by simp [tab, h]
theorem tab_rowlen {n m : Nat} {f : Nat → Nat → Int} {i : Nat} (h : i < n) : ((tab n m f).getD i []).length = m := by rw [tab_row h]; simp
theorem tab_at {n m : Nat} {f : Nat → Nat → Int} {i j : Nat} (h : i < n) (hj : j < m) : ((tab n m f).getD i []).getD j 0 = f i j := by rw [tab_row h]; simp [hj]
/-- a matrix as a value: its rows lie in blocks from base on -/
def IsM (base : Nat) (w : World) (v : Value) (g : Grid) : Prop := ∃ a c, v = .agg #[.slice a g.length c] ∧ IsL 42 (PRow base) base w (.slice a g.length c) g
theorem prs_prow (base : Nat) : Prs (fun t => t = 64 ∨ t = 37) (PRow base) := prs_row lims_int _ _
theorem IsM.keep {base : Nat} {w w' : World} {v : Value} {g : Grid} (h : IsM base w v g) (k : Below w.heap.size w w') : IsM base w' v g := by
  obtain ⟨a, c, e, h⟩ := h; exact ⟨a, c, e, h.keep (prs_prow base) k⟩
theorem IsM.rebase {base base' : Nat} {w : World} {v : Value} {g : Grid} (h : IsM base w v g) (hb : base' ≤ base) : IsM base' w v g := by
  obtain ⟨a, c, e, h⟩ := h; exact ⟨a, c, e, (h.rebase hb).mono fun u x hx => hx.rebase hb⟩
theorem IsM.nil (base : Nat) (w : World) : IsM base w (.agg #[.slice none 0 0]) [] := ⟨none, 0, rfl, IsL.nil _ _ _ _⟩
/-- a function value that tells the number at a place -/
def FnF (f : Nat → Nat → Int) (n m F : Nat) (caps : Array Value) (w : World) : Prop :=
  ∀ W i j, i < n → j < m → Below w.heap.size w W → Calls Tryd.prog F (#[.int .i64 (i : Nat), .int .i64 (j : Nat)] ++ caps) W fun e w' => (∃ v, e = .returned v ∧ IsInt w' v (f i j)) ∧ Below W.heap.size W w'
theorem range_snoc {α : Type} (f : Nat → α) (n : Nat) : (List.range (n + 1)).map f = (List.range n).map f ++ [f n] := by rw [List.range_succ, List.map_append]; rfl
theorem range_getD (f : Nat → Int) {n k : Nat} (h : k < n) : ((List.range n).map f).getD k 0 = f k := by simp [h]
theorem snoc_fn (f : Nat → Int) (j : Nat) : ∀ k, k < j + 1 → (fun i => if i = j then f j else f i) k = f k := by
  intro k hk; dsimp only; split
  · subst_vars; rfl
  · rfl
theorem typ_alloc {w : World} {o : Obj} {b : Nat} {t : TypeId} (h : typOf w b = some t) : typOf (w.alloc o) b = some t := typ_keep h (bal (Below.refl _ _) _)
set_option maxRecDepth 100000 in
set_option maxHeartbeats 8000000 in
theorem filled_c (n m : Nat) (f : Nat → Nat → Int) (F : Nat) (caps : Array Value) (w : World) (hF : FnF f n m F caps w) (eF : Enters Tryd.prog F) (hn : n ≤ 1099511627776) (hm : m ≤ 1099511627775) :
    Calls Tryd.prog 53 #[.int .i64 (n : Nat), .int .i64 (m : Nat), .func (.func F) #[] caps] w fun e w' => (∃ v, e = .returned v ∧ IsM w.heap.size w' v (tab n m f)) ∧ Below w.heap.size w w' := by
  have HF := Lib.hid hF
  clear hF
  have hB := Below.refl w.heap.size w
  unfold Enters at eF
  go_enter Tryd.func53, Tryd.ntmps53
  go_wp2
  refine wp_name fun w0 hW0 => ?_
  have hB0 : Below w.heap.size w w0 := by rw [hW0]; repeat (first | exact Below.refl _ _ | exact hB | refine Below.drew ?_ | refine below_drewN ?_ _ | refine bset ?_ (by simp <;> omega) _ | refine bal ?_ _)
  have HR0 := Lib.hid (show w0.cell? ⟨w.heap.size, 0, none⟩ = some (.slice none 0 0) ∧ w0.frozen? ⟨w.heap.size, 0, none⟩ = false ∧ w0.cell? ⟨w.heap.size + 1, 0, none⟩ = some (.slice none 0 0) ∧ w0.frozen? ⟨w.heap.size + 1, 0, none⟩ = false from by rw [hW0]; simp [go_sem])
  have HT0 := Lib.hid (show typOf w0 w.heap.size = some 46 ∧ typOf w0 (w.heap.size + 1) = some 46 from by
    rw [hW0]; exact ⟨typ_alloc (typ_fresh rfl), typ_fresh (by simp)⟩)
  clear hW0
  go_loopw [12] (fun x wr => ∃ i : Nat, i ≤ n ∧ x = .int .i64 i ∧ Below w.heap.size w wr ∧ Hid (wr.cell? ⟨w.heap.size, 0, none⟩ = some (.slice none 0 0) ∧ wr.frozen? ⟨w.heap.size, 0, none⟩ = false ∧ wr.frozen? ⟨w.heap.size + 1, 0, none⟩ = false ∧ typOf wr w.heap.size = some 46 ∧ typOf wr (w.heap.size + 1) = some 46) ∧ Hid (∃ v, wr.cell? ⟨w.heap.size + 1, 0, none⟩ = some v ∧ OwnL 42 (PRow w.heap.size) w wr v (tab i m f))) (fun x _ => n - (intOf x).toNat)
  case atStart => exact ⟨0, Nat.zero_le _, rfl, hB0, Lib.hid ⟨HR0.out.1, HR0.out.2.1, HR0.out.2.2.2, HT0.out.1, HT0.out.2⟩, Lib.hid ⟨_, HR0.out.2.2.1, OwnL.nil _ _ hB0⟩⟩
  case round =>
    obtain ⟨i, hi, rfl, hBr, HR, HO⟩ := hrel
    obtain ⟨v, o0, hO⟩ := HO.out
    obtain ⟨r0, r0f, o0f, t0, t1⟩ := HR.out
    obtain ⟨oa, oc, hvv⟩ := hO.ex
    rw [tab_len] at hvv
    subst hvv
    have HO := Lib.hid hO
    have HTT := Lib.hid (And.intro t0 t1)
    clear hO t0 t1 HR
    have zr := cell_lt r0
    have zo := cell_lt o0
    by_cases hlt : i < n
    · have hltI : (i : Int) < (n : Int) := by omega
      obtain ⟨wq, hwq⟩ : ∃ wq, wr = wq := ⟨_, rfl⟩
      rw [hwq] at HO HTT hBr r0 r0f o0 o0f zr zo ⊢
      clear hwq
      have hBq := Below.refl wq.heap.size wq
      go_wp2
      go_loopw [9, 16] (fun v x wr => ∃ j : Nat, j ≤ m ∧ x = .int .i64 j ∧ Hid (OwnF IsInt 37 wq wr v j (f i))) (fun _ x _ => m - (intOf x).toNat)
      case atStart => exact ⟨0, Nat.zero_le _, rfl, Lib.hid (OwnF.nil _ _ _ hBq)⟩
      case round =>
        obtain ⟨j, hj, rfl, hF⟩ := hrel
        by_cases hlt2 : j < m
        · have hltJ : (j : Int) < (m : Int) := by omega
          have hbF := hF.out.bel
          have fc := fun W (h : Below wr.heap.size wr W) => HF.out W i j hlt hlt2 (bthen hBr (bthen hbF h))
          obtain ⟨fa, fcp, hfv⟩ : ∃ a c, _ = Value.slice a j c := by obtain ⟨a, c, h, _⟩ := hF.out.view; exact ⟨a, c, h⟩
          subst hfv
          have HSN := Lib.hid (snoc_fn (f i) j)
          obtain ⟨z, hz⟩ : ∃ z, f i j = z := ⟨_, rfl⟩
          rw [hz] at fc HSN
          clear hz
          have hBw := Below.refl wr.heap.size wr
          go_wp2_with fail
          go_at_fn F
          refine (fc _ (by repeat (first | exact Below.refl _ _ | exact hBw | refine Below.drew ?_ | refine below_drewN ?_ _ | refine bset ?_ (by simp <;> omega) _ | refine bal ?_ _))).mono ?_
          rintro e w5 ⟨⟨v5, rfl, hi5⟩, hb5⟩
          have hB5 : Below wr.heap.size wr w5 := bthen (by repeat (first | exact Below.refl _ _ | exact hBw | refine Below.drew ?_ | refine below_drewN ?_ _ | refine bset ?_ (by simp <;> omega) _ | refine bal ?_ _)) hb5
          have HF5 := Lib.hid (hF.out.below lims_int hB5)
          have HI5 := Lib.hid hi5
          obtain ⟨n5, a5, c5, l5, rfl, -⟩ := hi5
          unfold iv at *
          clear fc
          go_wp2_with (at_builtin; refine app_num elInt (by decide) lims_int (by rfl) (by rfl) HF5.out HI5.out (by rfl) (by rfl) (by omega) ?_)
          intro v' w8 hF8 _ _
          have HF8 := Lib.hid (hF8.congr' HSN.out)
          clear hF8
          go_wp2
          exact ⟨⟨j + 1, by omega, by go_num, HF8⟩, by simp [intOf]; omega⟩
        · obtain rfl : j = m := by omega
          have hbF := hF.out.bel
          have HRO := Lib.hid (show PRow w.heap.size wr _ ((List.range j).map (f i)) from (OwnF.row (w0 := wq) (l := (List.range j).map (f i)) (by
            rw [List.length_map, List.length_range]
            exact hF.out.congr' fun k hk => (range_getD (f i) hk).symm)).rebase hBr.size)
          obtain ⟨fa, fc, hfv⟩ : ∃ a c, _ = Value.slice a j c := by obtain ⟨a, c, h, _⟩ := hF.out.view; exact ⟨a, c, h⟩
          subst hfv
          have HOW := Lib.hid (HO.out.below (prs_prow _) hbF)
          have o0f := bkeepf hbF o0 o0f
          have r0f := bkeepf hbF r0 r0f
          have o0 := bkeep hbF o0
          have r0 := bkeep hbF r0
          have HT2 := Lib.hid (And.intro (typ_keep HTT.out.1 hbF) (typ_keep HTT.out.2 hbF))
          clear HTT HO
          have zo2 := cell_lt o0
          go_wp2_with (at_builtin; refine appL elRow (prs_prow _) (by decide) (by rfl) (by rfl) (HOW.out.below (prs_prow _) (bal (Below.refl _ _) _)) (HRO.out.keep lims_int (bal (Below.refl _ _) _)) (by rfl) (by rfl) (cell_new rfl rfl) (by rw [tab_len]; omega) (by rw [tab_len]; unfold maxLen; omega) ?_)
          intro v' w8 hO8 hk8
          have ha8 : Kp (· ≠ 42) wr w8 := ((Kp.refl _ wr).alloc _).trans hk8
          have o08 := ha8.cell HT2.out.2 (by decide) o0
          have o08f := ha8.frz HT2.out.2 (by decide) o0f
          have r08 := ha8.cell HT2.out.1 (by decide) r0
          have r08f := ha8.frz HT2.out.1 (by decide) r0f
          have HT8 := Lib.hid (And.intro (ha8.typ HT2.out.1 (by decide)) (ha8.typ HT2.out.2 (by decide)))
          have HO8 := Lib.hid hO8
          have hb8 := hO8.bel
          obtain ⟨a8, c8, hv8⟩ := hO8.ex
          rw [show (tab i j f ++ [(List.range j).map (f i)]) = tab (i + 1) j f from by unfold tab; rw [range_snoc]] at HO8 hv8
          rw [tab_len] at hv8
          subst hv8
          clear hO8 hk8 ha8 HT2 o0 o0f r0 r0f HRO HOW
          go_wp2
          refine ⟨⟨i + 1, by omega, by go_num, bset hb8 (by show w.heap.size ≤ w.heap.size + 1; omega) _, Lib.hid ⟨cell_far r08 (addr_ne (by omega)) _, by rw [World.frozen?_setCell]; exact r08f, by rw [World.frozen?_setCell]; exact o08f, by rw [typ_set]; exact HT8.out.1, by rw [typ_set]; exact HT8.out.2⟩, Lib.hid ⟨_, cell_here o08 _, HO8.out.set (prs_prow _) (p := ⟨w.heap.size + 1, 0, none⟩) HT8.out.2 (by decide) (by decide) (by show w.heap.size ≤ w.heap.size + 1; omega) _⟩⟩, by simp [intOf]; omega⟩
    · obtain rfl : i = n := by omega
      have HL := Lib.hid (HO.out.isL)
      clear HO
      go_wp2
      refine bodyPost_ret (v := .agg #[.slice oa i oc]) (by simp [results, Tryd.results53, go_sem, *]) rfl ⟨⟨_, rfl, ?_⟩, ?_⟩
      · refine ⟨oa, oc, by rw [tab_len], ?_⟩
        rw [tab_len]
        exact IsL.kp (S' := fun t => t ≠ 46) (prs_prow _) HL.out ((Kp.refl _ _).set (p := ⟨w.heap.size, 0, none⟩) (fun t ht => by rw [HTT.out.1] at ht; cases ht; exact fun h => h rfl) _) (fun t ht => by rcases ht with rfl | rfl <;> decide) (by decide)
      · exact bset hBr (by show w.heap.size ≤ w.heap.size; omega) _
end Go.Proofs.YtkejdmdldhlkgaaDoor

/- matrix: Rows, Cols, square, Identity; a matrix in a variable. -/
namespace Go.Proofs.YtkejdmdldhlkgaaDoor
open Num
open Go.ChangeShapes Go.WideShapes Go.ChangeAt Go.RowKit
set_option linter.unusedVariables false
set_option linter.unusedSimpArgs false
attribute [local go_sem ↓] Go.wp_at_zero Go.wp_at_succ
/-- the number at a place -/
def gat (g : Grid) (i j : Nat) : Int := (g.getD i []).getD j 0
/-- how many columns -/
def cols (g : Grid) : Nat := (g.getD 0 []).length
/-- rows of one length -/
def Rct (g : Grid) (m : Nat) : Prop := ∀ i, i < g.length → (g.getD i []).length = m
theorem tab_gat {n m : Nat} {f : Nat → Nat → Int} {i j : Nat} (h : i < n) (hj : j < m) : gat (tab n m f) i j = f i j := tab_at h hj
theorem tab_rect (n m : Nat) (f : Nat → Nat → Int) : Rct (tab n m f) m := fun i hi => by rw [tab_len] at hi; exact tab_rowlen hi
theorem tab_cols {n m : Nat} (f : Nat → Nat → Int) (h : 0 < n) : cols (tab n m f) = m := tab_rowlen h
theorem Rct.cols {g : Grid} {m : Nat} (h : Rct g m) (hg : 0 < g.length) : cols g = m := h 0 hg
theorem IsM.lit {base : Nat} {w : World} {v : Value} {g : Grid} (h : IsM base w v g) : ∃ a c, v = .agg #[.slice a g.length c] := by obtain ⟨a, c, e, _⟩ := h; exact ⟨a, c, e⟩
/-- a matrix in a variable -/
def BoxM (b : Nat) (w : World) (g : Grid) : Prop := ∃ a c, w.cell? ⟨b, 0, none⟩ = some (.slice a g.length c) ∧ IsL 42 (PRow 0) 0 w (.slice a g.length c) g
theorem BoxM.keep {b : Nat} {w w' : World} {g : Grid} (h : BoxM b w g) (k : Below w.heap.size w w') : BoxM b w' g := by
  obtain ⟨a, c, e, h⟩ := h; exact ⟨a, c, bkeep k e, h.keep (prs_prow 0) k⟩
theorem IsL.row {base : Nat} {w : World} {v : Value} {g : Grid} (h : IsL 42 (PRow base) base w v g) {i : Nat} (hi : i < g.length) :
    ∃ c gb go ra rc, v = .slice (some ⟨gb, go, none⟩) g.length c ∧ w.cell? ⟨gb, go + i, none⟩ = some (.slice ra (g.getD i []).length rc) ∧ PRow base w (.slice ra (g.getD i []).length rc) (g.getD i []) := by
  obtain ⟨a, c, e, _, hv⟩ := h.view
  obtain ⟨gb, go, u, rfl, hu, hr⟩ := hv i hi
  have e2 : g[i] = g.getD i [] := by simp [hi]
  rw [e2] at hr
  have hr2 := hr
  obtain ⟨ra, rc, rfl, _⟩ := hr2
  exact ⟨c, gb, go, ra, rc, e, hu, hr⟩
theorem IsL.elem {base : Nat} {w : World} {v : Value} {g : Grid} {m : Nat} (hr : Rct g m) (h : IsL 42 (PRow base) base w v g) {i j : Nat} (hi : i < g.length) (hj : j < m) :
    ∃ c gb go rb ro rc n a l k, v = .slice (some ⟨gb, go, none⟩) g.length c ∧ w.cell? ⟨gb, go + i, none⟩ = some (.slice (some ⟨rb, ro, none⟩) m rc) ∧ w.cell? ⟨rb, ro + j * 2, none⟩ = some (.bool n) ∧ w.cell? ⟨rb, ro + j * 2 + 1, none⟩ = some (.slice a l k) ∧ IsInt w (.agg #[.bool n, .slice a l k]) (gat g i j) := by
  obtain ⟨c, gb, go, ra, rc, e, hu, hp⟩ := h.row hi
  obtain ⟨a', c', he, -, vr⟩ := hp.view
  obtain ⟨rfl, -, rfl⟩ := Value.slice.inj he
  obtain ⟨rb, ro, n, ad, len, cp, rfl, c0, c1, hI⟩ := vr j (by rw [hr i hi]; exact hj)
  rw [hr i hi] at hu
  exact ⟨c, gb, go, rb, ro, rc, n, ad, len, cp, e, hu, c0, c1, hI⟩
theorem BoxM.row {b : Nat} {w : World} {g : Grid} (h : BoxM b w g) {i : Nat} (hi : i < g.length) :
    ∃ c gb go ra rc, w.cell? ⟨b, 0, none⟩ = some (.slice (some ⟨gb, go, none⟩) g.length c) ∧ w.cell? ⟨gb, go + i, none⟩ = some (.slice ra (g.getD i []).length rc) ∧ PRow 0 w (.slice ra (g.getD i []).length rc) (g.getD i []) := by
  obtain ⟨a, c, e, h⟩ := h
  obtain ⟨c', gb, go, ra, rc, e2, hu, hp⟩ := h.row hi
  obtain ⟨rfl, -, rfl⟩ := Value.slice.inj e2
  exact ⟨c, gb, go, ra, rc, e, hu, hp⟩
theorem BoxM.elem {b : Nat} {w : World} {g : Grid} {m : Nat} (hr : Rct g m) (h : BoxM b w g) {i j : Nat} (hi : i < g.length) (hj : j < m) :
    ∃ c gb go rb ro rc n a l k, w.cell? ⟨b, 0, none⟩ = some (.slice (some ⟨gb, go, none⟩) g.length c) ∧ w.cell? ⟨gb, go + i, none⟩ = some (.slice (some ⟨rb, ro, none⟩) m rc) ∧ w.cell? ⟨rb, ro + j * 2, none⟩ = some (.bool n) ∧ w.cell? ⟨rb, ro + j * 2 + 1, none⟩ = some (.slice a l k) ∧ IsInt w (.agg #[.bool n, .slice a l k]) (gat g i j) := by
  obtain ⟨a, c, e, h⟩ := h
  obtain ⟨c', gb, go, rb, ro, rc, n, ad, l, k, e2, hu, c0, c1, hI⟩ := h.elem hr hi hj
  obtain ⟨rfl, -, rfl⟩ := Value.slice.inj e2
  exact ⟨c, gb, go, rb, ro, rc, n, ad, l, k, e, hu, c0, c1, hI⟩
set_option maxRecDepth 100000 in
theorem rowsM_c (a : Option Addr) (n c : Nat) (w : World) : Calls Tryd.prog 31 #[.agg #[.slice a n c]] w fun e w' => e = .returned (.int .i64 (n : Nat)) ∧ Below w.heap.size w w' := by
  have hB := Below.refl w.heap.size w
  go_enter Tryd.func31, Tryd.ntmps31
  go_wp2
  go_ret
  exact ⟨rfl, by repeat (first | exact Below.refl _ _ | exact hB | refine Below.drew ?_ | refine below_drewN ?_ _ | refine bset ?_ (by simp <;> omega) _ | refine bal ?_ _)⟩
set_option maxRecDepth 100000 in
set_option maxHeartbeats 1000000 in
theorem colsM_c (a : Option Addr) (c : Nat) (g : Grid) (w : World) (h : IsL 42 (PRow 0) 0 w (.slice a g.length c) g) : Calls Tryd.prog 76 #[.agg #[.slice a g.length c]] w fun e w' => e = .returned (.int .i64 (cols g : Nat)) ∧ Below w.heap.size w w' := by
  have hB := Below.refl w.heap.size w
  by_cases h0 : g.length = 0
  · have hg : g = [] := List.length_eq_zero_iff.1 h0
    subst hg
    have e : cols [] = 0 := rfl
    rw [e]
    clear h e h0
    rw [show ([] : Grid).length = 0 from rfl]
    go_enter Tryd.func76, Tryd.ntmps76
    go_wp2
    go_ret
    exact ⟨rfl, by repeat (first | exact Below.refl _ _ | exact hB | refine Below.drew ?_ | refine below_drewN ?_ _ | refine bset ?_ (by simp <;> omega) _ | refine bal ?_ _)⟩
  · obtain ⟨c', gb, go, ra, rc, e, hu, hp⟩ := h.row (show 0 < g.length by omega)
    obtain ⟨rfl, -, rfl⟩ := Value.slice.inj e
    rw [Nat.add_zero] at hu
    have zu := cell_lt hu
    have zu2 : gb < w.heap.size + 1 := by omega
    unfold cols
    obtain ⟨m, hm⟩ : ∃ m, (g.getD 0 []).length = m := ⟨_, rfl⟩
    obtain ⟨n, hn⟩ : ∃ n, g.length = n := ⟨_, rfl⟩
    rw [hm] at hu ⊢
    rw [hn] at h0 ⊢
    have hn0 : ((n : Int) == 0) = false := by simp; omega
    have hn1 : (0 : Int) < (n : Int) := by omega
    clear h hp e hm hn
    go_enter Tryd.func76, Tryd.ntmps76
    go_wp2
    go_ret
    exact ⟨rfl, by repeat (first | exact Below.refl _ _ | exact hB | refine Below.drew ?_ | refine below_drewN ?_ _ | refine bset ?_ (by simp <;> omega) _ | refine bal ?_ _)⟩
theorem IsM.setM {base : Nat} {w : World} {v : Value} {g : Grid} (h : IsM base w v g) {p : Addr} (ht : typOf w p.block = some 46) (u : Value) : IsM base (w.setCell p u) v g := by
  obtain ⟨a, c, e, h⟩ := h
  exact ⟨a, c, e, IsL.kp (S' := fun t => t ≠ 46) (prs_prow base) h ((Kp.refl _ _).set (fun t ht' => by rw [ht] at ht'; cases ht'; exact fun h => h rfl) _) (fun t ht => by rcases ht with rfl | rfl <;> decide) (by decide)⟩
end Go.Proofs.YtkejdmdldhlkgaaDoor

/- matrix: Plus, Scale, Turn, Times. -/
namespace Go.Proofs.YtkejdmdldhlkgaaDoor
open Num
open Go.ChangeShapes Go.WideShapes Go.ChangeAt Go.RowKit
set_option linter.unusedVariables false
set_option linter.unusedSimpArgs false
attribute [local go_sem ↓] Go.wp_at_zero Go.wp_at_succ
/-- numbers of so many bits -/
def BdM (k : Nat) (g : Grid) : Prop := ∀ i j, Bd k (gat g i j)
theorem BdM.mono {k m : Nat} {g : Grid} (h : BdM k g) (hk : k ≤ m) : BdM m g := fun i j => (h i j).mono hk
theorem tab_out {n m : Nat} {f : Nat → Nat → Int} {i j : Nat} (h : ¬ (i < n ∧ j < m)) : gat (tab n m f) i j = 0 := by
  unfold gat tab
  by_cases hi : i < n
  · have hj : m ≤ j := Nat.le_of_not_lt fun hj => h ⟨hi, hj⟩
    simp [hi, hj]
  · have : n ≤ i := Nat.le_of_not_lt hi
    have e : ((List.range n).map fun i => (List.range m).map (f i))[i]? = none := List.getElem?_eq_none (by simpa using this)
    simp only [List.getD_eq_getElem?_getD, e]; rfl
theorem tab_bd {n m k : Nat} {f : Nat → Nat → Int} (h : ∀ i j, i < n → j < m → Bd k (f i j)) : BdM k (tab n m f) := fun i j => by
  by_cases hh : i < n ∧ j < m
  · rw [tab_gat hh.1 hh.2]; exact h i j hh.1 hh.2
  · rw [tab_out hh]; exact bd_zero
theorem FnF.mono {f : Nat → Nat → Int} {n m F : Nat} {caps : Array Value} {w w' : World} (h : FnF f n m F caps w) (k : Below w.heap.size w w') : FnF f n m F caps w' := fun W i j hi hj q => h W i j hi hj (bthen k q)
theorem IsL.box {w W : World} {b : Nat} {a : Option Addr} {c : Nat} {g : Grid} (h : IsL 42 (PRow 0) 0 w (.slice a g.length c) g) (k : Below w.heap.size w W) (hc : W.cell? ⟨b, 0, none⟩ = some (.slice a g.length c)) : BoxM b W g := ⟨a, c, hc, h.keep (prs_prow 0) k⟩
/-- what an operation answers that may be asked wrongly -/
def MOr (ok : Prop) (err : Int) (r : Grid) (w : World) (e : Ending) (w' : World) : Prop :=
  ((ok ∧ ∃ v, e = .returned (.tuple #[v, .int .i64 0]) ∧ IsM w.heap.size w' v r) ∨ (¬ ok ∧ e = .returned (.tuple #[.agg #[.slice none 0 0], .int .i64 err]))) ∧ Below w.heap.size w w'
end Go.Proofs.YtkejdmdldhlkgaaDoor

/- matrix: Scale, Turn. -/
namespace Go.Proofs.YtkejdmdldhlkgaaDoor
open Num
open Go.ChangeShapes Go.WideShapes Go.ChangeAt Go.RowKit
set_option linter.unusedVariables false
set_option linter.unusedSimpArgs false
attribute [local go_sem ↓] Go.wp_at_zero Go.wp_at_succ
end Go.Proofs.YtkejdmdldhlkgaaDoor

/- matrix: Times. -/
namespace Go.Proofs.YtkejdmdldhlkgaaDoor
open Num
open Go.ChangeShapes Go.WideShapes Go.ChangeAt Go.RowKit
set_option linter.unusedVariables false
set_option linter.unusedSimpArgs false
attribute [local go_sem ↓] Go.wp_at_zero Go.wp_at_succ
end Go.Proofs.YtkejdmdldhlkgaaDoor

/- matrix: Times, square, New. -/
namespace Go.Proofs.YtkejdmdldhlkgaaDoor
open Num
open Go.ChangeShapes Go.WideShapes Go.ChangeAt Go.RowKit
set_option linter.unusedVariables false
set_option linter.unusedSimpArgs false
attribute [local go_sem ↓] Go.wp_at_zero Go.wp_at_succ
/-- is it square? -/
def sqB (g : Grid) : Bool := decide (0 < g.length) && decide (g.length = cols g)
set_option maxRecDepth 100000 in
set_option maxHeartbeats 4000000 in
theorem square_c (v : Value) (g : Grid) (w : World) (hv : IsM 0 w v g) : Calls Tryd.prog 63 #[v] w fun e w' => e = .returned (.bool (sqB g)) ∧ Below w.heap.size w w' := by
  obtain ⟨ag, cg, rfl, lv⟩ := hv
  have rc1 := fun V => rowsM_c ag g.length cg V
  have cc1 := fun V (q : Below w.heap.size w V) => colsM_c ag cg g V (lv.keep (prs_prow 0) q)
  clear lv
  unfold sqB
  obtain ⟨N, hN⟩ : ∃ N, g.length = N := ⟨_, rfl⟩
  obtain ⟨C, hC⟩ : ∃ N, cols g = N := ⟨_, rfl⟩
  rw [hN] at rc1 cc1
  rw [hC] at cc1
  rw [hN, hC]
  clear hN hC
  have RC1 := Lib.hid rc1
  have CC1 := Lib.hid cc1
  clear rc1 cc1
  have hB := Below.refl w.heap.size w
  by_cases h1 : 0 < N
  · have hnI : (0 : Int) < (N : Int) := by omega
    have hE := Lib.hid (show (decide (0 < N) && decide (N = C)) = ((N : Int) == (C : Int)) from by
      by_cases e : N = C
      · subst e; simp [h1]
      · have : ¬ (N : Int) = (C : Int) := by omega
        simp [e, this])
    have q1 : decide ((0 : Int) < (N : Int)) = true := by simp; omega
    have q2 : decide (0 < N) = true := by simp; omega
    clear h1
    go_enter Tryd.func63, Tryd.ntmps63
    go_wp2
    refine wp_name fun w0 hW0 => ?_
    have m0 : w0.cell? ⟨w.heap.size, 0, none⟩ = some (.slice ag N cg) := by rw [hW0]; simp [go_sem]
    have zm0 := cell_lt m0
    have hB : Below w.heap.size w w0 := by rw [hW0]; repeat (first | exact Below.refl _ _ | exact hB | refine Below.drew ?_ | refine below_drewN ?_ _ | refine bset ?_ (by simp <;> omega) _ | refine bal ?_ _)
    have hz : w.heap.size ≤ w0.heap.size := hB.size
    clear hW0
    refine wp_region_grow (w := w0) (by kernel_rfl) (by kernel_rfl) ?_
    have m0g : ∀ gs, (grow w0 gs).cell? ⟨w.heap.size, 0, none⟩ = some (.slice ag N cg) := fun gs => bkeep gs.below m0
    repeat (go_big_quiet_step ((first | (go_at_call 76; with_reducible exact grow_of (CC1.out _ (hB.trans ((Grows.below _).mono hz)))) | (go_at_call 31; with_reducible exact grow_of (RC1.out _)) | fail)))
    refine wpQuiet_nil ?_
    intro w1 hb1
    clear m0g
    have m0 := bkeep hb1 m0
    have hB := bthen hB hb1
    have hz := hB.size
    go_wp2
    go_ret
    exact ⟨by rw [hE.out]; rfl, hB⟩
  · obtain rfl : N = 0 := by omega
    clear h1
    go_enter Tryd.func63, Tryd.ntmps63
    go_wp2
    refine wp_name fun w0 hW0 => ?_
    have m0 : w0.cell? ⟨w.heap.size, 0, none⟩ = some (.slice ag 0 cg) := by rw [hW0]; simp [go_sem]
    have zm0 := cell_lt m0
    have hB : Below w.heap.size w w0 := by rw [hW0]; repeat (first | exact Below.refl _ _ | exact hB | refine Below.drew ?_ | refine below_drewN ?_ _ | refine bset ?_ (by simp <;> omega) _ | refine bal ?_ _)
    have hz : w.heap.size ≤ w0.heap.size := hB.size
    clear hW0
    refine wp_region_grow (w := w0) (by kernel_rfl) (by kernel_rfl) ?_
    have m0g : ∀ gs, (grow w0 gs).cell? ⟨w.heap.size, 0, none⟩ = some (.slice ag 0 cg) := fun gs => bkeep gs.below m0
    repeat (go_big_quiet_step ((first | (go_at_call 31; with_reducible exact grow_of (RC1.out _)) | fail)))
    refine wpQuiet_nil ?_
    intro w1 hb1
    clear m0g
    have m0 := bkeep hb1 m0
    have hB := bthen hB hb1
    have hz := hB.size
    go_wp2
    go_ret
    exact ⟨rfl, hB⟩
end Go.Proofs.YtkejdmdldhlkgaaDoor

/- matrix: New. -/
namespace Go.Proofs.YtkejdmdldhlkgaaDoor
open Num
open Go.ChangeShapes Go.WideShapes Go.ChangeAt Go.RowKit
set_option linter.unusedVariables false
set_option linter.unusedSimpArgs false
attribute [local go_sem ↓] Go.wp_at_zero Go.wp_at_succ
/-- a variable that holds a matrix -/
structure VarMx (b : Nat) (w : World) (v : Value) : Prop where
  ty : typOf w b = some 46
  c : w.cell? ⟨b, 0, none⟩ = some v
  f : w.frozen? ⟨b, 0, none⟩ = false
theorem VarMx.keep {b : Nat} {w w' : World} {v : Value} (h : VarMx b w v) (k : Below w.heap.size w w') : VarMx b w' v := ⟨typ_keep h.ty k, bkeep k h.c, bkeepf k h.c h.f⟩
theorem VarMx.kp {b : Nat} {S : TypeId → Prop} {w w' : World} {v : Value} (h : VarMx b w v) (k : Kp S w w') (hs : S 46) : VarMx b w' v := ⟨k.typ h.ty hs, k.cell h.ty hs h.c, k.frz h.ty hs h.f⟩
theorem VarMx.set {b : Nat} {w : World} {v : Value} (h : VarMx b w v) (u : Value) : VarMx b (w.setCell ⟨b, 0, none⟩ u) u := ⟨by rw [typ_set]; exact h.ty, cell_here h.c u, by rw [World.frozen?_setCell]; exact h.f⟩
theorem VarMx.far {b : Nat} {w : World} {v : Value} (h : VarMx b w v) {p : Addr} (hp : p.block ≠ b) (u : Value) : VarMx b (w.setCell p u) v := ⟨by rw [typ_set]; exact h.ty, cell_far h.c (fun e => hp (by rw [e])) u, by rw [World.frozen?_setCell]; exact h.f⟩
/-- what New says of rows -/
def fitsE (g : Grid) : Int := if g.length = 0 ∨ cols g = 0 then 2 else if 16 < g.length ∨ 16 < cols g then 3 else if ∀ i, i < g.length → (g.getD i []).length = cols g then 0 else 5
/-- what New answers -/
def NewMPost (g : Grid) (w : World) (e : Ending) (w' : World) : Prop :=
  ((fitsE g = 0 ∧ ∃ v, e = .returned (.tuple #[v, .int .i64 0]) ∧ IsM w.heap.size w' v g) ∨ (fitsE g ≠ 0 ∧ e = .returned (.tuple #[.agg #[.slice none 0 0], .int .i64 (fitsE g)]))) ∧ Below w.heap.size w w'
theorem newM_no {g : Grid} {w w' : World} {k : Int} (h : fitsE g = k) (hk : k ≠ 0) (hb : Below w.heap.size w w') : NewMPost g w (.returned (.tuple #[.agg #[.slice none 0 0], .int .i64 k])) w' := by
  subst h; exact ⟨.inr ⟨hk, rfl⟩, hb⟩
theorem newM_yes {g : Grid} {w w' : World} {v : Value} (h : fitsE g = 0) (hv : IsM w.heap.size w' v g) (hb : Below w.heap.size w w') : NewMPost g w (.returned (.tuple #[v, .int .i64 0])) w' := ⟨.inl ⟨h, _, rfl, hv⟩, hb⟩
set_option maxRecDepth 100000 in
set_option maxHeartbeats 16000000 in
theorem newM_c (v : Value) (g : Grid) (w : World) (hv : IsL 42 (PRow 0) 0 w v g) (hl : ∀ i, i < g.length → (g.getD i []).length ≤ 1099511627775) :
    Calls Tryd.prog 45 #[v] w (NewMPost g w) := by
  have HV := Lib.hid hv
  obtain ⟨ga, gc, rfl, -⟩ := hv
  have hB := Below.refl w.heap.size w
  by_cases h0 : g.length = 0
  · have HEE : Hid (fitsE g = 2) := Lib.hid (by unfold fitsE; rw [if_pos (.inl h0)])
    rw [h0] at *
    have hnI : ((0 : Int) == 0) = true := rfl
    clear HV hl
    go_enter Tryd.func45, Tryd.ntmps45
    go_wp2
    refine bodyPost_ret (v := .tuple #[.agg #[.slice none 0 0], .int .i64 2]) (by simp [results, Tryd.results45, go_sem, *]) rfl (newM_no HEE.out (by decide) ?_)
    repeat (first | exact Below.refl _ _ | exact hB | refine Below.drew ?_ | refine below_drewN ?_ _ | refine bset ?_ (by simp <;> omega) _ | refine bal ?_ _)
  · obtain ⟨c', gb, go, ra, rc, e, hu, hp⟩ := HV.out.row (show 0 < g.length by omega)
    obtain ⟨rfl, -, rfl⟩ := Value.slice.inj e
    rw [Nat.add_zero] at hu
    have zu := cell_lt hu
    have zu1 : gb < w.heap.size + 1 := by omega
    have hnI : ((g.length : Int) == 0) = false := beq_eq_false_iff_ne.2 (by omega)
    have hn0 : (0 : Int) < (g.length : Int) := by omega
    have hcol : (g.getD 0 []).length = cols g := rfl
    rw [hcol] at hu
    clear hcol e hp
    obtain ⟨m, hm⟩ : ∃ m, cols g = m := ⟨_, rfl⟩
    rw [hm] at hu
    have HM := Lib.hid hm
    clear hm
    by_cases h1 : m = 0
    · subst h1
      have HEE : Hid (fitsE g = 2) := Lib.hid (by unfold fitsE; rw [if_pos (.inr HM.out)])
      clear HV hl HM
      go_enter Tryd.func45, Tryd.ntmps45
      go_wp2
      refine bodyPost_ret (v := .tuple #[.agg #[.slice none 0 0], .int .i64 2]) (by simp [results, Tryd.results45, go_sem, *]) rfl (newM_no HEE.out (by decide) ?_)
      repeat (first | exact Below.refl _ _ | exact hB | refine Below.drew ?_ | refine below_drewN ?_ _ | refine bset ?_ (by simp <;> omega) _ | refine bal ?_ _)
    · have hmI : ((m : Int) == 0) = false := by simp; omega
      have hne : ¬ (g.length = 0 ∨ cols g = 0) := by rw [HM.out]; omega
      by_cases h2 : 16 < g.length
      · have HEE : Hid (fitsE g = 3) := Lib.hid (by unfold fitsE; rw [if_neg hne, if_pos (.inl h2)])
        have hb1 : (16 : Int) < (g.length : Int) := by omega
        clear HV hl HM hne
        go_enter Tryd.func45, Tryd.ntmps45
        go_wp2
        refine bodyPost_ret (v := .tuple #[.agg #[.slice none 0 0], .int .i64 3]) (by simp [results, Tryd.results45, go_sem, *]) rfl (newM_no HEE.out (by decide) ?_)
        repeat (first | exact Below.refl _ _ | exact hB | refine Below.drew ?_ | refine below_drewN ?_ _ | refine bset ?_ (by simp <;> omega) _ | refine bal ?_ _)
      · have hb1 : ¬ (16 : Int) < (g.length : Int) := by omega
        by_cases h3 : 16 < m
        · have HEE : Hid (fitsE g = 3) := Lib.hid (by unfold fitsE; rw [if_neg hne, if_pos (.inr (by rw [HM.out]; exact h3))])
          have hb2 : (16 : Int) < (m : Int) := by omega
          clear HV hl HM hne
          go_enter Tryd.func45, Tryd.ntmps45
          go_wp2
          refine bodyPost_ret (v := .tuple #[.agg #[.slice none 0 0], .int .i64 3]) (by simp [results, Tryd.results45, go_sem, *]) rfl (newM_no HEE.out (by decide) ?_)
          repeat (first | exact Below.refl _ _ | exact hB | refine Below.drew ?_ | refine below_drewN ?_ _ | refine bset ?_ (by simp <;> omega) _ | refine bal ?_ _)
        · have hb2 : ¬ (16 : Int) < (m : Int) := by omega
          have HE := Lib.hid (show fitsE g = if ∀ i, i < g.length → (g.getD i []).length = m then 0 else 5 from by
            unfold fitsE; rw [if_neg hne, if_neg (by rw [HM.out]; omega), HM.out])
          clear hne hl
          go_enter Tryd.func45, Tryd.ntmps45
          go_wp2
          refine wp_name fun w0 hW0 => ?_
          have hB0 : Below w.heap.size w w0 := by rw [hW0]; repeat (first | exact Below.refl _ _ | exact hB | refine Below.drew ?_ | refine below_drewN ?_ _ | refine bset ?_ (by simp <;> omega) _ | refine bal ?_ _)
          have HR0 := Lib.hid (show VarMx w.heap.size w0 (.slice none 0 0) ∧ VarMx (w.heap.size + 1) w0 (.slice none 0 0) from by
            rw [hW0]
            exact ⟨⟨typ_alloc (typ_fresh rfl), by simp [go_sem], by simp [go_sem]⟩, ⟨typ_fresh (by simp), by simp [go_sem], by simp [go_sem]⟩⟩)
          clear hW0
          go_loopw [31] (fun x wr => ∃ k : Nat, k ≤ g.length ∧ x = .int .i64 k ∧ Below w.heap.size w wr ∧ Hid (VarMx w.heap.size wr (.slice none 0 0) ∧ (∃ rv, VarMx (w.heap.size + 1) wr rv ∧ OwnL 42 (PRow w.heap.size) w wr rv (g.take k))) ∧ Hid (∀ j, j < k → (g.getD j []).length = m)) (fun x _ => g.length - (intOf x).toNat)
          case atStart => exact ⟨0, Nat.zero_le _, rfl, hB0, Lib.hid ⟨HR0.out.1, _, HR0.out.2, OwnL.nil _ _ hB0⟩, Lib.hid (fun j hj => by omega)⟩
          case round =>
            obtain ⟨k, hk, rfl, hBr, hrel, hall⟩ := hrel
            obtain ⟨hR, rv, hM, hO⟩ := hrel.out
            have r0 := hR.c
            have r0f := hR.f
            have zr := cell_lt r0
            by_cases hlt : k < g.length
            · have hltI : (k : Int) < (g.length : Int) := by omega
              obtain ⟨c2, gb2, go2, ra2, rc2, e2, hu2, hp2⟩ := (HV.out.keep (prs_prow 0) hBr).row hlt
              obtain ⟨⟨rfl, rfl⟩, -, rfl⟩ : (gb = gb2 ∧ go = go2) ∧ True ∧ gc = c2 := by
                have := Value.slice.inj e2
                simp at this
                exact ⟨this.1, trivial, this.2⟩
              have hu0 := bkeep hBr hu
              have zu2 := cell_lt hu0
              have zu3 := cell_lt hu2
              obtain ⟨lk, hlk⟩ : ∃ n, (g.getD k []).length = n := ⟨_, rfl⟩
              have HP2 := Lib.hid hp2
              rw [hlk] at hu2 HP2
              have HLK := Lib.hid hlk
              clear e2 hp2 hlk
              by_cases e1 : lk = m
              · subst e1
                have hq1 : ((lk : Int) != (lk : Int)) = false := by simp
                have HAL := Lib.hid (show ∀ j, j < k + 1 → (g.getD j []).length = lk from fun j hj => by
                  by_cases e : j = k
                  · subst e; exact HLK.out
                  · exact hall.out j (by omega))
                have kcl := fun W (h : Below wr.heap.size wr W) => cloneRow_c 0 (.slice ra2 lk rc2) (g.getD k []) W (HP2.out.keep lims_int h) (by rw [HLK.out]; omega)
                have HTK := Lib.hid (take_getD [] hlt)
                obtain ⟨row, hrow⟩ : ∃ row, g.getD k [] = row := ⟨_, rfl⟩
                rw [hrow] at HTK kcl
                clear hrow
                have hlen : (g.take k).length = k := by rw [List.length_take]; omega
                obtain ⟨oa, oc, hrv⟩ := hO.ex
                rw [hlen] at hrv
                subst hrv
                have HMM := Lib.hid hM
                have HRR := Lib.hid hR
                have HOO := Lib.hid hO
                have m0 := hM.c
                have m0f := hM.f
                have zm := cell_lt m0
                have HLEN := Lib.hid hlen
                clear hM hO hR hlen hrel hall
                go_upto_region 11 with (fail)
                have hBw := Below.refl wr.heap.size wr
                go_region_law (first
                  | (refine stepL elRow (prs_prow _) (by decide) (by rfl) (by rfl) (HO5.out.below (prs_prow _) (bal (Below.refl _ _) _)) ((prs_prow _).kp HR5.out (Kp.of_below _ (bal (Below.refl _ _) _))) (by rfl) (by rfl) (cell_new rfl rfl) (by rw [HLEN.out]; omega) (by rw [HLEN.out]; unfold maxLen; omega) ?_; intro v' w8 hO8 hk8; have HO8 := Lib.hid hO8; have HM8 := Lib.hid ((HM5.out.keep (bal (Below.refl _ _) _)).kp hk8 (by decide)); have HR8 := Lib.hid ((HRR5.out.keep (bal (Below.refl _ _) _)).kp hk8 (by decide)); have d4 := HM8.out.c; have df4 := HM8.out.f; have zd4 := cell_lt d4; obtain ⟨a8, c8, hv8⟩ := hO8.ex; rw [List.length_append, HLEN.out] at hv8; subst hv8; clear hO8 hk8)
                  | (go_simp; go_wp2_with (go_at_call 32; refine (kcl _ ?_).mono ?_; (repeat (first | exact Below.refl _ _ | exact hBw | refine Below.drew ?_ | refine below_drewN ?_ _ | refine bset ?_ (by simp <;> omega) _ | refine bal ?_ _)); rintro e w5 ⟨⟨v5, rfl, hr5⟩, hb5⟩; have hB5 : Below wr.heap.size wr w5 := bthen (by repeat (first | exact Below.refl _ _ | exact hBw | refine Below.drew ?_ | refine below_drewN ?_ _ | refine bset ?_ (by simp <;> omega) _ | refine bal ?_ _)) hb5; have hs5 := hB5.size; have HR5 := Lib.hid (show PRow w.heap.size w5 v5 row from hr5.row.rebase (show w.heap.size ≤ _ from hBr.size)); have HM5 := Lib.hid (HMM.out.keep hB5); have HRR5 := Lib.hid (HRR.out.keep hB5); have HO5 := Lib.hid (HOO.out.below (prs_prow _) hB5); have b4 := HM5.out.c; have b4f := HM5.out.f; have zb4 := cell_lt b4; obtain ⟨a5, c5, rfl⟩ := hr5.ex)))
                all_goals
                  have HEND := Lib.hid (show VarMx w.heap.size (w8.setCell ⟨w.heap.size + 1, 0, none⟩ (.slice a8 (k + 1) c8)) (.slice none 0 0) ∧ ∃ rv, VarMx (w.heap.size + 1) (w8.setCell ⟨w.heap.size + 1, 0, none⟩ (.slice a8 (k + 1) c8)) rv ∧ OwnL 42 (PRow w.heap.size) w (w8.setCell ⟨w.heap.size + 1, 0, none⟩ (.slice a8 (k + 1) c8)) rv (g.take (k + 1)) from
                    ⟨HR8.out.far (by show w.heap.size + 1 ≠ w.heap.size; omega) _, _, HM8.out.set _, by rw [HTK.out]; exact HO8.out.set (prs_prow _) HM8.out.ty (by decide) (by decide) (by show w.heap.size ≤ w.heap.size + 1; omega) _⟩)
                  have hB8 := bset HO8.out.bel (p := ⟨w.heap.size + 1, 0, none⟩) (by show w.heap.size ≤ w.heap.size + 1; omega) (.slice a8 (k + 1) c8)
                  go_wp2
                  exact ⟨⟨k + 1, by omega, by go_num, hB8, HEND, HAL⟩, by simp [intOf]; omega⟩
              · have hq1 : ((lk : Int) != (m : Int)) = true := by simp; omega
                have HEE : Hid (fitsE g = 5) := Lib.hid (by rw [HE.out, if_neg (fun h => e1 (by rw [← h k hlt]; exact HLK.out.symm))])
                clear hM hO hR hrel
                go_wp2
                refine bodyPost_ret (v := .tuple #[.agg #[.slice none 0 0], .int .i64 5]) (by simp [results, Tryd.results45, go_sem, *]) rfl (newM_no HEE.out (by decide) ?_)
                repeat (first | exact Below.refl _ _ | exact hBr | refine Below.drew ?_ | refine below_drewN ?_ _ | refine bset ?_ (by simp <;> omega) _ | refine bal ?_ _)
            · obtain rfl : k = g.length := by omega
              rw [List.take_length] at hO
              have HEE : Hid (fitsE g = 0) := Lib.hid (by rw [HE.out, if_pos hall.out])
              have HL := Lib.hid hO.isL
              have m0 := hM.c
              have zm := cell_lt m0
              have HTR := Lib.hid hR.ty
              obtain ⟨oa, oc, rfl⟩ := hO.ex
              have HIM := Lib.hid (show IsM w.heap.size wr (.agg #[.slice oa g.length oc]) g from ⟨oa, oc, rfl, HL.out⟩)
              clear hM hO hR hrel HE
              go_wp2
              refine bodyPost_ret (v := .tuple #[.agg #[.slice oa g.length oc], .int .i64 0]) (by simp [results, Tryd.results45, go_sem, *]) rfl (newM_yes HEE.out (HIM.out.setM HTR.out _) ?_)
              repeat (first | exact Below.refl _ _ | exact hBr | refine Below.drew ?_ | refine below_drewN ?_ _ | refine bset ?_ (by simp <;> omega) _ | refine bal ?_ _)
end Go.Proofs.YtkejdmdldhlkgaaDoor

/- strings.Join, laid from the shelf; lists of texts. -/
namespace Go.Proofs.YtkejdmdldhlkgaaDoor
open Num
open Go.ChangeShapes Go.WideShapes Go.ChangeAt Go.RowKit
set_option linter.unusedVariables false
set_option linter.unusedSimpArgs false
def jn_lays156_ren : Go.Shelf.Ren := ⟨fun | 156 => 38 | 165 => 55 | 166 => 56 | 169 => 57 | 240 => 71 | 241 => 72 | 276 => 85 | 277 => 86 | n => n, fun | 0 => 0 | 3 => 3 | 4 => 4 | 5 => 5 | 9 => 9 | 20 => 20 | 31 => 73 | 37 => 76 | 70 => 96 | 72 => 98 | 75 => 101 | 76 => 102 | 80 => 55 | 127 => 112 | 164 => 125 | n => n, fun n => n⟩
theorem jn_lays156 : Go.Proofs.Lays.n156 Tryd.prog jn_lays156_ren := {
  mixed := by kernel_rfl
  f156 := Tryd.func38.trans (congrArg some (by kernel_rfl))
  f165 := Tryd.func55.trans (congrArg some (by kernel_rfl))
  f166 := Tryd.func56.trans (congrArg some (by kernel_rfl))
  f169 := Tryd.func57.trans (congrArg some (by kernel_rfl))
  f240 := Tryd.func71.trans (congrArg some (by kernel_rfl))
  f241 := Tryd.func72.trans (congrArg some (by kernel_rfl))
  f276 := Tryd.func85.trans (congrArg some (by kernel_rfl))
  f277 := Tryd.func86.trans (congrArg some (by kernel_rfl))
  t0 := Tryd.underlying0
  a0 := Tryd.isAgg0
  z0 := Tryd.sizeOf0
  v0 := Tryd.zeroValue0
  t3 := Tryd.underlying3
  a3 := Tryd.isAgg3
  z3 := Tryd.sizeOf3
  v3 := Tryd.zeroValue3
  t4 := Tryd.underlying4
  a4 := Tryd.isAgg4
  z4 := Tryd.sizeOf4
  v4 := Tryd.zeroValue4
  t9 := Tryd.underlying9
  a9 := Tryd.isAgg9
  z9 := Tryd.sizeOf9
  v9 := Tryd.zeroValue9
  t20 := Tryd.underlying20
  a20 := Tryd.isAgg20
  z20 := Tryd.sizeOf20
  v20 := Tryd.zeroValue20
  t31 := Tryd.underlying73
  a31 := Tryd.isAgg73
  z31 := Tryd.sizeOf73
  v31 := Tryd.zeroValue73
  t37 := Tryd.underlying76
  a37 := Tryd.isAgg76
  z37 := Tryd.sizeOf76
  v37 := Tryd.zeroValue76
  t70 := Tryd.underlying96
  a70 := Tryd.isAgg96
  z70 := Tryd.sizeOf96
  v70 := Tryd.zeroValue96
  t72 := Tryd.underlying98
  a72 := Tryd.isAgg98
  z72 := Tryd.sizeOf98
  v72 := Tryd.zeroValue98
  t75 := Tryd.underlying101
  a75 := Tryd.isAgg101
  z75 := Tryd.sizeOf101
  v75 := Tryd.zeroValue101
  t76 := Tryd.underlying102
  a76 := Tryd.isAgg102
  z76 := Tryd.sizeOf102
  v76 := Tryd.zeroValue102
  t127 := Tryd.underlying112
  a127 := Tryd.isAgg112
  z127 := Tryd.sizeOf112
  v127 := Tryd.zeroValue112
  t164 := Tryd.underlying125
  a164 := Tryd.isAgg125
  z164 := Tryd.sizeOf125
  v164 := Tryd.zeroValue125 }
theorem jn_Builder_Extra : Go.Proofs.Builder.Extra Tryd.prog jn_lays156_ren := {
  sizeBuilder := by kernel_rfl
  liesBuilder := by kernel_rfl
  t5 := Tryd.underlying5
  a5 := Tryd.isAgg5
  z5 := Tryd.sizeOf5
  v5 := Tryd.zeroValue5
  infoByte := by kernel_rfl
  cellsByte := by kernel_rfl
  sizeByte := by kernel_rfl
  neB5 := by decide }
/-- a text in a list of texts -/
def PTx (w : World) (u : Value) (x : List UInt8) : Prop := u = .string ⟨x.toArray⟩
theorem prs_ptx : Prs (fun _ => False) PTx := ⟨fun h => by cases h; rfl, fun h _ => h⟩
theorem infoStr : (Tryd.prog.info? 9).map (fun i => (i.zero, i.size, i.bytes)) = some (some (.string ⟨#[]⟩), 1, 16) := by kernel_rfl
theorem elStr : Elt Tryd.prog 73 9 1 16 := Elt.mk' Tryd.underlying73 infoStr rfl (by decide) (by decide)
theorem txt_back (L : List (List UInt8)) : (L.map fun x => (⟨x.toArray⟩ : ByteArray)).map (·.data.toList) = L := by
  rw [List.map_map]; conv => rhs; rw [← List.map_id L]
  rfl
theorem join_c (v : Value) (L : List (List UInt8)) (base : Nat) (w : World) (hv : IsL 9 PTx base w v L) (hN : L.length ≤ 140737488355328) (hlen : (Lib.join L [32]).length ≤ 140737488355328) :
    Calls Tryd.prog 38 #[v, .string ⟨#[32]⟩] w fun e w' => e = .returned (.string ⟨(Lib.join L [32]).toArray⟩) ∧ Below w.heap.size w w' := by
  obtain ⟨a, c, rfl, hcap, hvw⟩ := hv.view
  cases L with
  | nil =>
    have h := (Any.strings_Join_none jn_lays156 jn_Builder_Extra a c ⟨#[32]⟩ w).mono fun e w' ⟨he, hw⟩ => (⟨he, hw ▸ Below.refl _ _⟩ : _ ∧ Below w.heap.size w w')
    exact h
  | cons x L =>
    obtain ⟨b, off, u, rfl, hu, -⟩ := hvw 0 (by simp)
    have h := Any.strings_Join jn_lays156 jn_Builder_Extra b off c ((x :: L).map fun x => (⟨x.toArray⟩ : ByteArray)) ⟨#[32]⟩ w (fun j y hj => by
      rw [List.getElem?_map] at hj
      obtain ⟨z, hz, rfl⟩ := Option.map_eq_some_iff.1 hj
      obtain ⟨hj', rfl⟩ := List.getElem?_eq_some_iff.1 hz
      obtain ⟨b2, off2, u2, e2, hu2, hp⟩ := hvw j hj'
      cases e2
      rw [← show u2 = _ from hp]; exact hu2) (cell_lt hu) (by simpa using hN) (by simpa using hcap) (by rw [txt_back]; exact hlen)
    rw [txt_back, List.length_map] at h
    exact h
end Go.Proofs.YtkejdmdldhlkgaaDoor

