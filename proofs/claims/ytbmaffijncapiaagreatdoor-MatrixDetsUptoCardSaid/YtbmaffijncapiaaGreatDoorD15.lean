/- Texts of this seat, laid together: ExJ, ExL, ExN, ExO, RwG, MxA, MxB, MxC, MxD, IntM. Each opens with its own remark, which says what it proves, and under which conditions. -/
import Derived.Test.YtbmaffijncapiaaGreatDoorD14
import Derived.Test.YtbmaffijncapiaaGreatDoorD11
import Derived.Test.YtbmaffijncapiaaGreatDoorD13
import Derived.Deep.RegionLaw
import Derived.Shelf.RegionOpen
import Derived.StillTailTactics
import Derived.Test.YtbmaffijncapiaaGreatDoorD08
import Derived.Test.YtbmaffijncapiaaGreatDoorD07
import Derived.Deep.DeepFit
import Derived.Deep.DeepCutAuto
set_option linter.unusedVariables false
set_option linter.unusedSimpArgs false
/- exact: Rows, Judge. -/
namespace Go.Proofs.YtbmaffijncapiaaGreatDoor
open Num
open Go.ChangeShapes Go.WideShapes Go.ChangeAt Go.RowKit
set_option linter.unusedVariables false
set_option linter.unusedSimpArgs false
attribute [local go_sem ↓] Go.wp_at_zero Go.wp_at_succ
end Go.Proofs.YtbmaffijncapiaaGreatDoor

/- exact: Trace: what its iterator tells. -/
namespace Go.Proofs.YtbmaffijncapiaaGreatDoor
open Num
open Go.ChangeShapes Go.WideShapes Go.ChangeAt Go.RowKit
set_option linter.unusedVariables false
set_option linter.unusedSimpArgs false
attribute [local go_sem ↓] Go.wp_at_zero Go.wp_at_succ
section
variable {n0 : Nat} {X0 : Nat → Prop} {pb xb : Nat} {ins regs : Int} {ca oa : Option Addr} {cc oc : Nat} {code : List Ins} {outs : List Int} {v : Value} {l : List Int} {W W' : World}
end
end Go.Proofs.YtbmaffijncapiaaGreatDoor

/- exact: Steps: what its iterator tells. -/
namespace Go.Proofs.YtbmaffijncapiaaGreatDoor
open Num
open Go.ChangeShapes Go.WideShapes Go.ChangeAt Go.RowKit
set_option linter.unusedVariables false
set_option linter.unusedSimpArgs false
attribute [local go_sem ↓] Go.wp_at_zero Go.wp_at_succ
section
variable {n0 : Nat} {S0 : Nat → Prop} {pb xb : Nat} {ins regs : Int} {ca oa : Option Addr} {cc oc : Nat} {code : List Ins} {outs : List Int} {v : Value} {g : Grid} {W W' : World}
end
end Go.Proofs.YtbmaffijncapiaaGreatDoor

/- exact: Widest. -/
namespace Go.Proofs.YtbmaffijncapiaaGreatDoor
open Num
open Go.ChangeShapes Go.WideShapes Go.ChangeAt Go.RowKit
set_option linter.unusedVariables false
set_option linter.unusedSimpArgs false
attribute [local go_sem ↓] Go.wp_at_zero Go.wp_at_succ
attribute [local go_sem] Oper.semAt_some
def VarI (ub : Nat) (m : Int) (W : World) : Prop := typOf W ub = some 50 ∧ ∃ n a ln c, W.cell? ⟨ub, 0, none⟩ = some (.bool n) ∧ W.cell? ⟨ub, 1, none⟩ = some (.slice a ln c) ∧ W.frozen? ⟨ub, 0, none⟩ = false ∧ W.frozen? ⟨ub, 1, none⟩ = false ∧ IsInt W (.agg #[.bool n, .slice a ln c]) m
theorem VarI.keep {ub : Nat} {m : Int} {W V : World} (h : VarI ub m W) (k : Below W.heap.size W V) : VarI ub m V := by
  obtain ⟨ht, n, a, ln, c, h0, h1, f0, f1, hi⟩ := h
  exact ⟨typ_keep ht k, n, a, ln, c, bkeep k h0, bkeep k h1, bkeepf k h0 f0, bkeepf k h1 f1, hi.keep k⟩
theorem VarI.put {ub : Nat} {m z : Int} {W : World} {n : Bool} {a : Option Addr} {ln c : Nat} (h : VarI ub m W) (hi : IsInt W (.agg #[.bool n, .slice a ln c]) z) : VarI ub z ((W.setCell ⟨ub, 0, none⟩ (.bool n)).setCell ⟨ub, 1, none⟩ (.slice a ln c)) := by
  obtain ⟨ht, n', a', ln', c', h0, h1, f0, f1, _⟩ := h
  refine ⟨by rw [typ_set, typ_set]; exact ht, n, a, ln, c, cell_far (cell_here h0 _) (by simp) _, cell_here (cell_far h1 (by simp) _) _, ?_, ?_, hi.put2 h0 h1 _ _⟩
  · rw [World.frozen?_setCell, World.frozen?_setCell]; exact f0
  · rw [World.frozen?_setCell, World.frozen?_setCell]; exact f1
end Go.Proofs.YtbmaffijncapiaaGreatDoor

/- integer: Sum; row: Dot. -/
namespace Go.Proofs.YtbmaffijncapiaaGreatDoor
open Num
open Go.ChangeShapes Go.WideShapes Go.ChangeAt Go.RowKit
set_option linter.unusedVariables false
set_option linter.unusedSimpArgs false
attribute [local go_sem ↓] Go.wp_at_zero Go.wp_at_succ
end Go.Proofs.YtbmaffijncapiaaGreatDoor

/- matrix: matrices as values; filled. -/
namespace Go.Proofs.YtbmaffijncapiaaGreatDoor
open Num
open Go.ChangeShapes Go.WideShapes Go.ChangeAt Go.RowKit
set_option linter.unusedVariables false
set_option linter.unusedSimpArgs false
attribute [local go_sem ↓] Go.wp_at_zero Go.wp_at_succ
def tab (n m : Nat) (f : Nat → Nat → Int) : Grid := (List.range n).map fun i => (List.range m).map (f i)
theorem tab_len (n m : Nat) (f : Nat → Nat → Int) : (tab n m f).length = n := by simp [tab]
theorem tab_row {n m : Nat} {f : Nat → Nat → Int} {i : Nat} (h : i < n) : (tab n m f).getD i [] = (List.range m).map (f i) := by simp [tab, h]
theorem tab_rowlen {n m : Nat} {f : Nat → Nat → Int} {i : Nat} (h : i < n) : ((tab n m f).getD i []).length = m := by rw [tab_row h]; simp
theorem tab_at {n m : Nat} {f : Nat → Nat → Int} {i j : Nat} (h : i < n) (hj : j < m) : ((tab n m f).getD i []).getD j 0 = f i j := by rw [tab_row h]; simp [hj]
def IsM (base : Nat) (w : World) (v : Value) (g : Grid) : Prop := ∃ a c, v = .agg #[.slice a g.length c] ∧ IsL 68 (PRow base) base w (.slice a g.length c) g
theorem prs_prow (base : Nat) : Prs (fun t => t = 177 ∨ t = 50) (PRow base) := prs_row lims_int _ _
theorem IsM.keep {base : Nat} {w w' : World} {v : Value} {g : Grid} (h : IsM base w v g) (k : Below w.heap.size w w') : IsM base w' v g := by
  obtain ⟨a, c, e, h⟩ := h; exact ⟨a, c, e, h.keep (prs_prow base) k⟩
theorem IsM.rebase {base base' : Nat} {w : World} {v : Value} {g : Grid} (h : IsM base w v g) (hb : base' ≤ base) : IsM base' w v g := by
  obtain ⟨a, c, e, h⟩ := h; exact ⟨a, c, e, (h.rebase hb).mono fun u x hx => hx.rebase hb⟩
def FnF (f : Nat → Nat → Int) (n m F : Nat) (caps : Array Value) (w : World) : Prop :=
  ∀ W i j, i < n → j < m → Below w.heap.size w W → Calls Tryz.prog F (#[.int .i64 (i : Nat), .int .i64 (j : Nat)] ++ caps) W fun e w' => (∃ v, e = .returned v ∧ IsInt w' v (f i j)) ∧ Below W.heap.size W w'
theorem range_snoc {α : Type} (f : Nat → α) (n : Nat) : (List.range (n + 1)).map f = (List.range n).map f ++ [f n] := by rw [List.range_succ, List.map_append]; rfl
theorem range_getD (f : Nat → Int) {n k : Nat} (h : k < n) : ((List.range n).map f).getD k 0 = f k := by simp [h]
theorem snoc_fn (f : Nat → Int) (j : Nat) : ∀ k, k < j + 1 → (fun i => if i = j then f j else f i) k = f k := by
  intro k hk; dsimp only; split
  · subst_vars; rfl
  · rfl
theorem typ_alloc {w : World} {o : Obj} {b : Nat} {t : TypeId} (h : typOf w b = some t) : typOf (w.alloc o) b = some t := typ_keep h (bal (Below.refl _ _) _)
set_option maxRecDepth 100000 in
set_option maxHeartbeats 8000000 in
theorem filled_c (n m : Nat) (f : Nat → Nat → Int) (F : Nat) (caps : Array Value) (w : World) (hF : FnF f n m F caps w) (eF : Enters Tryz.prog F) (hn : n ≤ 1099511627776) (hm : m ≤ 1099511627775) :
    Calls Tryz.prog 138 #[.int .i64 (n : Nat), .int .i64 (m : Nat), .func (.func F) #[] caps] w fun e w' => (∃ v, e = .returned v ∧ IsM w.heap.size w' v (tab n m f)) ∧ Below w.heap.size w w' := by
  have HF := Lib.hid hF
  clear hF
  have hB := Below.refl w.heap.size w
  unfold Enters at eF
  go_enter Tryz.func138, Tryz.ntmps138
  go_wp2
  refine wp_name fun w0 hW0 => ?_
  have hB0 : Below w.heap.size w w0 := by rw [hW0]; repeat (first|exact bzR _ _|exact hB|refine bzD ?_|refine bzN ?_|refine bzS ?_|refine bzA ?_)
  have HR0 := Lib.hid (show w0.cell? ⟨w.heap.size, 0, none⟩ = some (.slice none 0 0) ∧ w0.frozen? ⟨w.heap.size, 0, none⟩ = false ∧ w0.cell? ⟨w.heap.size + 1, 0, none⟩ = some (.slice none 0 0) ∧ w0.frozen? ⟨w.heap.size + 1, 0, none⟩ = false from by rw [hW0]; simp [go_sem])
  have HT0 := Lib.hid (show typOf w0 w.heap.size = some 47 ∧ typOf w0 (w.heap.size + 1) = some 47 from by
    rw [hW0]; exact ⟨typ_alloc (typ_fresh rfl), typ_fresh (by simp)⟩)
  clear hW0
  go_loopw [12] (fun x wr => ∃ i : Nat, i ≤ n ∧ x = .int .i64 i ∧ Below w.heap.size w wr ∧ Hid (wr.cell? ⟨w.heap.size, 0, none⟩ = some (.slice none 0 0) ∧ wr.frozen? ⟨w.heap.size, 0, none⟩ = false ∧ wr.frozen? ⟨w.heap.size + 1, 0, none⟩ = false ∧ typOf wr w.heap.size = some 47 ∧ typOf wr (w.heap.size + 1) = some 47) ∧ Hid (∃ v, wr.cell? ⟨w.heap.size + 1, 0, none⟩ = some v ∧ OwnL 68 (PRow w.heap.size) w wr v (tab i m f))) (fun x _ => n - (intOf x).toNat)
  case atStart => exact ⟨0, Nat.zero_le _, rfl, hB0, Lib.hid ⟨HR0.out.1, HR0.out.2.1, HR0.out.2.2.2, HT0.out.1, HT0.out.2⟩, Lib.hid ⟨_, HR0.out.2.2.1, OwnL.nil _ _ hB0⟩⟩
  case round =>
    obtain ⟨i, hi, rfl, hBr, HR, HO⟩ := hrel
    obtain ⟨v, o0, hO⟩ := HO.out
    obtain ⟨r0, r0f, o0f, t0, t1⟩ := HR.out
    obtain ⟨oa, oc, hvv⟩ := hO.ex
    rw [tab_len] at hvv
    subst hvv
    have HO := Lib.hid hO
    have HTT := Lib.hid (And.intro t0 t1)
    clear hO t0 t1 HR
    have zr := cell_lt r0
    have zo := cell_lt o0
    by_cases hlt : i < n
    · have hltI : (i : Int) < (n : Int) := by omega
      obtain ⟨wq, hwq⟩ : ∃ wq, wr = wq := ⟨_, rfl⟩
      rw [hwq] at HO HTT hBr r0 r0f o0 o0f zr zo ⊢
      clear hwq
      have hBq := Below.refl wq.heap.size wq
      go_wp2
      go_loopw [9, 16] (fun v x wr => ∃ j : Nat, j ≤ m ∧ x = .int .i64 j ∧ Hid (OwnF IsInt 50 wq wr v j (f i))) (fun _ x _ => m - (intOf x).toNat)
      case atStart => exact ⟨0, Nat.zero_le _, rfl, Lib.hid (OwnF.nil _ _ _ hBq)⟩
      case round =>
        obtain ⟨j, hj, rfl, hF⟩ := hrel
        by_cases hlt2 : j < m
        · have hltJ : (j : Int) < (m : Int) := by omega
          have hbF := hF.out.bel
          have fc := fun W (h : Below wr.heap.size wr W) => HF.out W i j hlt hlt2 (bthen hBr (bthen hbF h))
          obtain ⟨fa, fcp, hfv⟩ : ∃ a c, _ = Value.slice a j c := by obtain ⟨a, c, h, _⟩ := hF.out.view; exact ⟨a, c, h⟩
          subst hfv
          have HSN := Lib.hid (snoc_fn (f i) j)
          obtain ⟨z, hz⟩ : ∃ z, f i j = z := ⟨_, rfl⟩
          rw [hz] at fc HSN
          clear hz
          have hBw := Below.refl wr.heap.size wr
          go_wp2_with fail
          go_at_fn F
          refine (fc _ (by repeat (first|exact bzR _ _|exact hBw|refine bzD ?_|refine bzN ?_|refine bzS ?_|refine bzA ?_))).mono ?_
          rintro e w5 ⟨⟨v5, rfl, hi5⟩, hb5⟩
          have hB5 : Below wr.heap.size wr w5 := bthen (by repeat (first|exact bzR _ _|exact hBw|refine bzD ?_|refine bzN ?_|refine bzS ?_|refine bzA ?_)) hb5
          have HF5 := Lib.hid (hF.out.below lims_int hB5)
          have HI5 := Lib.hid hi5
          obtain ⟨n5, a5, c5, l5, rfl, -⟩ := hi5
          unfold iv at *
          clear fc
          go_wp2_with (at_builtin; refine app_num elInt (by decide) lims_int (by rfl) (by rfl) HF5.out HI5.out (by rfl) (by rfl) (by omega) ?_)
          intro v' w8 hF8 _ _
          have HF8 := Lib.hid (hF8.congr' HSN.out)
          clear hF8
          go_wp2
          exact ⟨⟨j + 1, by omega, by go_num, HF8⟩, by simp [intOf]; omega⟩
        · obtain rfl : j = m := by omega
          have hbF := hF.out.bel
          have HRO := Lib.hid (show PRow w.heap.size wr _ ((List.range j).map (f i)) from (OwnF.row (w0 := wq) (l := (List.range j).map (f i)) (by
            rw [List.length_map, List.length_range]
            exact hF.out.congr' fun k hk => (range_getD (f i) hk).symm)).rebase hBr.size)
          obtain ⟨fa, fc, hfv⟩ : ∃ a c, _ = Value.slice a j c := by obtain ⟨a, c, h, _⟩ := hF.out.view; exact ⟨a, c, h⟩
          subst hfv
          have HOW := Lib.hid (HO.out.below (prs_prow _) hbF)
          have o0f := bkeepf hbF o0 o0f
          have r0f := bkeepf hbF r0 r0f
          have o0 := bkeep hbF o0
          have r0 := bkeep hbF r0
          have HT2 := Lib.hid (And.intro (typ_keep HTT.out.1 hbF) (typ_keep HTT.out.2 hbF))
          clear HTT HO
          have zo2 := cell_lt o0
          go_wp2_with (at_builtin; refine appL elRow (prs_prow _) (by decide) (by rfl) (by rfl) (HOW.out.below (prs_prow _) (bal (Below.refl _ _) _)) (HRO.out.keep lims_int (bal (Below.refl _ _) _)) (by rfl) (by rfl) (cell_new rfl rfl) (by rw [tab_len]; omega) (by rw [tab_len]; unfold maxLen; omega) ?_)
          intro v' w8 hO8 hk8
          have ha8 : Kp (· ≠ 68) wr w8 := ((Kp.refl _ wr).alloc _).trans hk8
          have o08 := ha8.cell HT2.out.2 (by decide) o0
          have o08f := ha8.frz HT2.out.2 (by decide) o0f
          have r08 := ha8.cell HT2.out.1 (by decide) r0
          have r08f := ha8.frz HT2.out.1 (by decide) r0f
          have HT8 := Lib.hid (And.intro (ha8.typ HT2.out.1 (by decide)) (ha8.typ HT2.out.2 (by decide)))
          have HO8 := Lib.hid hO8
          have hb8 := hO8.bel
          obtain ⟨a8, c8, hv8⟩ := hO8.ex
          rw [show (tab i j f ++ [(List.range j).map (f i)]) = tab (i + 1) j f from by unfold tab; rw [range_snoc]] at HO8 hv8
          rw [tab_len] at hv8
          subst hv8
          clear hO8 hk8 ha8 HT2 o0 o0f r0 r0f HRO HOW
          go_wp2
          refine ⟨⟨i + 1, by omega, by go_num, bset hb8 (by show w.heap.size ≤ w.heap.size + 1; omega) _, Lib.hid ⟨cell_far r08 (addr_ne (by omega)) _, by rw [World.frozen?_setCell]; exact r08f, by rw [World.frozen?_setCell]; exact o08f, by rw [typ_set]; exact HT8.out.1, by rw [typ_set]; exact HT8.out.2⟩, Lib.hid ⟨_, cell_here o08 _, HO8.out.set (prs_prow _) (p := ⟨w.heap.size + 1, 0, none⟩) HT8.out.2 (by decide) (by decide) (by show w.heap.size ≤ w.heap.size + 1; omega) _⟩⟩, by simp [intOf]; omega⟩
    · obtain rfl : i = n := by omega
      have HL := Lib.hid (HO.out.isL)
      clear HO
      go_wp2
      refine bodyPost_ret (v := .agg #[.slice oa i oc]) (by simp [results, Tryz.results138, go_sem, *]) rfl ⟨⟨_, rfl, ?_⟩, ?_⟩
      · refine ⟨oa, oc, by rw [tab_len], ?_⟩
        rw [tab_len]
        exact IsL.kp (S' := fun t => t ≠ 47) (prs_prow _) HL.out ((Kp.refl _ _).set (p := ⟨w.heap.size, 0, none⟩) (fun t ht => by rw [HTT.out.1] at ht; cases ht; exact fun h => h rfl) _) (fun t ht => by rcases ht with rfl | rfl <;> decide) (by decide)
      · exact bset hBr (by show w.heap.size ≤ w.heap.size; omega) _
end Go.Proofs.YtbmaffijncapiaaGreatDoor

/- matrix: Rows, Cols, square, Identity; a matrix in a variable. -/
namespace Go.Proofs.YtbmaffijncapiaaGreatDoor
open Num
open Go.ChangeShapes Go.WideShapes Go.ChangeAt Go.RowKit
set_option linter.unusedVariables false
set_option linter.unusedSimpArgs false
attribute [local go_sem ↓] Go.wp_at_zero Go.wp_at_succ
def gat (g : Grid) (i j : Nat) : Int := (g.getD i []).getD j 0
def cols (g : Grid) : Nat := (g.getD 0 []).length
def Rct (g : Grid) (m : Nat) : Prop := ∀ i, i < g.length → (g.getD i []).length = m
theorem tab_gat {n m : Nat} {f : Nat → Nat → Int} {i j : Nat} (h : i < n) (hj : j < m) : gat (tab n m f) i j = f i j := tab_at h hj
theorem tab_rect (n m : Nat) (f : Nat → Nat → Int) : Rct (tab n m f) m := fun i hi => by rw [tab_len] at hi; exact tab_rowlen hi
theorem IsM.lit {base : Nat} {w : World} {v : Value} {g : Grid} (h : IsM base w v g) : ∃ a c, v = .agg #[.slice a g.length c] := by obtain ⟨a, c, e, _⟩ := h; exact ⟨a, c, e⟩
def BoxM (b : Nat) (w : World) (g : Grid) : Prop := ∃ a c, w.cell? ⟨b, 0, none⟩ = some (.slice a g.length c) ∧ IsL 68 (PRow 0) 0 w (.slice a g.length c) g
theorem BoxM.keep {b : Nat} {w w' : World} {g : Grid} (h : BoxM b w g) (k : Below w.heap.size w w') : BoxM b w' g := by
  obtain ⟨a, c, e, h⟩ := h; exact ⟨a, c, bkeep k e, h.keep (prs_prow 0) k⟩
theorem IsL.row {base : Nat} {w : World} {v : Value} {g : Grid} (h : IsL 68 (PRow base) base w v g) {i : Nat} (hi : i < g.length) :
    ∃ c gb go ra rc, v = .slice (some ⟨gb, go, none⟩) g.length c ∧ w.cell? ⟨gb, go + i, none⟩ = some (.slice ra (g.getD i []).length rc) ∧ PRow base w (.slice ra (g.getD i []).length rc) (g.getD i []) := by
  obtain ⟨a, c, e, _, hv⟩ := h.view
  obtain ⟨gb, go, u, rfl, hu, hr⟩ := hv i hi
  have e2 : g[i] = g.getD i [] := by simp [hi]
  rw [e2] at hr
  have hr2 := hr
  obtain ⟨ra, rc, rfl, _⟩ := hr2
  exact ⟨c, gb, go, ra, rc, e, hu, hr⟩
theorem IsL.elem {base : Nat} {w : World} {v : Value} {g : Grid} {m : Nat} (hr : Rct g m) (h : IsL 68 (PRow base) base w v g) {i j : Nat} (hi : i < g.length) (hj : j < m) :
    ∃ c gb go rb ro rc n a l k, v = .slice (some ⟨gb, go, none⟩) g.length c ∧ w.cell? ⟨gb, go + i, none⟩ = some (.slice (some ⟨rb, ro, none⟩) m rc) ∧ w.cell? ⟨rb, ro + j * 2, none⟩ = some (.bool n) ∧ w.cell? ⟨rb, ro + j * 2 + 1, none⟩ = some (.slice a l k) ∧ IsInt w (.agg #[.bool n, .slice a l k]) (gat g i j) := by
  obtain ⟨c, gb, go, ra, rc, e, hu, hp⟩ := h.row hi
  obtain ⟨a', c', he, -, vr⟩ := hp.view
  obtain ⟨rfl, -, rfl⟩ := Value.slice.inj he
  obtain ⟨rb, ro, n, ad, len, cp, rfl, c0, c1, hI⟩ := vr j (by rw [hr i hi]; exact hj)
  rw [hr i hi] at hu
  exact ⟨c, gb, go, rb, ro, rc, n, ad, len, cp, e, hu, c0, c1, hI⟩
theorem BoxM.row {b : Nat} {w : World} {g : Grid} (h : BoxM b w g) {i : Nat} (hi : i < g.length) :
    ∃ c gb go ra rc, w.cell? ⟨b, 0, none⟩ = some (.slice (some ⟨gb, go, none⟩) g.length c) ∧ w.cell? ⟨gb, go + i, none⟩ = some (.slice ra (g.getD i []).length rc) ∧ PRow 0 w (.slice ra (g.getD i []).length rc) (g.getD i []) := by
  obtain ⟨a, c, e, h⟩ := h
  obtain ⟨c', gb, go, ra, rc, e2, hu, hp⟩ := h.row hi
  obtain ⟨rfl, -, rfl⟩ := Value.slice.inj e2
  exact ⟨c, gb, go, ra, rc, e, hu, hp⟩
theorem BoxM.elem {b : Nat} {w : World} {g : Grid} {m : Nat} (hr : Rct g m) (h : BoxM b w g) {i j : Nat} (hi : i < g.length) (hj : j < m) :
    ∃ c gb go rb ro rc n a l k, w.cell? ⟨b, 0, none⟩ = some (.slice (some ⟨gb, go, none⟩) g.length c) ∧ w.cell? ⟨gb, go + i, none⟩ = some (.slice (some ⟨rb, ro, none⟩) m rc) ∧ w.cell? ⟨rb, ro + j * 2, none⟩ = some (.bool n) ∧ w.cell? ⟨rb, ro + j * 2 + 1, none⟩ = some (.slice a l k) ∧ IsInt w (.agg #[.bool n, .slice a l k]) (gat g i j) := by
  obtain ⟨a, c, e, h⟩ := h
  obtain ⟨c', gb, go, rb, ro, rc, n, ad, l, k, e2, hu, c0, c1, hI⟩ := h.elem hr hi hj
  obtain ⟨rfl, -, rfl⟩ := Value.slice.inj e2
  exact ⟨c, gb, go, rb, ro, rc, n, ad, l, k, e, hu, c0, c1, hI⟩
set_option maxRecDepth 100000 in
theorem rowsM_c (a : Option Addr) (n c : Nat) (w : World) : Calls Tryz.prog 24 #[.agg #[.slice a n c]] w fun e w' => e = .returned (.int .i64 (n : Nat)) ∧ Below w.heap.size w w' := by
  have hB := Below.refl w.heap.size w
  go_enter Tryz.func24, Tryz.ntmps24
  go_wp2
  go_ret
  exact ⟨rfl, by repeat (first|exact bzR _ _|exact hB|refine bzD ?_|refine bzN ?_|refine bzS ?_|refine bzA ?_)⟩
set_option maxRecDepth 100000 in
set_option maxHeartbeats 1000000 in
theorem colsM_c (a : Option Addr) (c : Nat) (g : Grid) (w : World) (h : IsL 68 (PRow 0) 0 w (.slice a g.length c) g) : Calls Tryz.prog 27 #[.agg #[.slice a g.length c]] w fun e w' => e = .returned (.int .i64 (cols g : Nat)) ∧ Below w.heap.size w w' := by
  have hB := Below.refl w.heap.size w
  by_cases h0 : g.length = 0
  · have hg : g = [] := List.length_eq_zero_iff.1 h0
    subst hg
    have e : cols [] = 0 := rfl
    rw [e]
    clear h e h0
    rw [show ([] : Grid).length = 0 from rfl]
    go_enter Tryz.func27, Tryz.ntmps27
    go_wp2
    go_ret
    exact ⟨rfl, by repeat (first|exact bzR _ _|exact hB|refine bzD ?_|refine bzN ?_|refine bzS ?_|refine bzA ?_)⟩
  · obtain ⟨c', gb, go, ra, rc, e, hu, hp⟩ := h.row (show 0 < g.length by omega)
    obtain ⟨rfl, -, rfl⟩ := Value.slice.inj e
    rw [Nat.add_zero] at hu
    have zu := cell_lt hu
    have zu2 : gb < w.heap.size + 1 := by omega
    unfold cols
    obtain ⟨m, hm⟩ : ∃ m, (g.getD 0 []).length = m := ⟨_, rfl⟩
    obtain ⟨n, hn⟩ : ∃ n, g.length = n := ⟨_, rfl⟩
    rw [hm] at hu ⊢
    rw [hn] at h0 ⊢
    have hn0 : ((n : Int) == 0) = false := by simp; omega
    have hn1 : (0 : Int) < (n : Int) := by omega
    clear h hp e hm hn
    go_enter Tryz.func27, Tryz.ntmps27
    go_wp2
    go_ret
    exact ⟨rfl, by repeat (first|exact bzR _ _|exact hB|refine bzD ?_|refine bzN ?_|refine bzS ?_|refine bzA ?_)⟩
theorem IsM.setM {base : Nat} {w : World} {v : Value} {g : Grid} (h : IsM base w v g) {p : Addr} (ht : typOf w p.block = some 47) (u : Value) : IsM base (w.setCell p u) v g := by
  obtain ⟨a, c, e, h⟩ := h
  exact ⟨a, c, e, IsL.kp (S' := fun t => t ≠ 47) (prs_prow base) h ((Kp.refl _ _).set (fun t ht' => by rw [ht] at ht'; cases ht'; exact fun h => h rfl) _) (fun t ht => by rcases ht with rfl | rfl <;> decide) (by decide)⟩
end Go.Proofs.YtbmaffijncapiaaGreatDoor

/- matrix: Plus, Scale, Turn, Times. -/
namespace Go.Proofs.YtbmaffijncapiaaGreatDoor
open Num
open Go.ChangeShapes Go.WideShapes Go.ChangeAt Go.RowKit
set_option linter.unusedVariables false
set_option linter.unusedSimpArgs false
attribute [local go_sem ↓] Go.wp_at_zero Go.wp_at_succ
def BdM (k : Nat) (g : Grid) : Prop := ∀ i j, Bd k (gat g i j)
theorem IsL.box {w W : World} {b : Nat} {a : Option Addr} {c : Nat} {g : Grid} (h : IsL 68 (PRow 0) 0 w (.slice a g.length c) g) (k : Below w.heap.size w W) (hc : W.cell? ⟨b, 0, none⟩ = some (.slice a g.length c)) : BoxM b W g := ⟨a, c, hc, h.keep (prs_prow 0) k⟩
def MOr (ok : Prop) (err : Int) (r : Grid) (w : World) (e : Ending) (w' : World) : Prop :=
  ((ok ∧ ∃ v, e = .returned (.tuple #[v, .int .i64 0]) ∧ IsM w.heap.size w' v r) ∨ (¬ ok ∧ e = .returned (.tuple #[.agg #[.slice none 0 0], .int .i64 err]))) ∧ Below w.heap.size w w'
end Go.Proofs.YtbmaffijncapiaaGreatDoor

/- matrix: Scale, Turn. -/
namespace Go.Proofs.YtbmaffijncapiaaGreatDoor
open Num
open Go.ChangeShapes Go.WideShapes Go.ChangeAt Go.RowKit
set_option linter.unusedVariables false
set_option linter.unusedSimpArgs false
attribute [local go_sem ↓] Go.wp_at_zero Go.wp_at_succ
end Go.Proofs.YtbmaffijncapiaaGreatDoor

/- integer: Abs's value; Gcd. -/
namespace Go.Proofs.YtbmaffijncapiaaGreatDoor
open Num
open Go.ChangeShapes Go.WideShapes Go.ChangeAt Go.RowKit
set_option linter.unusedVariables false
set_option linter.unusedSimpArgs false
attribute [local go_sem ↓] Go.wp_at_zero Go.wp_at_succ
def gcdI (x y : Int) : Int := (Nat.gcd x.natAbs y.natAbs : Nat)
theorem gcdI_bd {k : Nat} {x y : Int} (hx : Bd k x) (hy : Bd k y) : Bd k (gcdI x y) := by
  unfold Bd gcdI at *
  rw [Int.natAbs_natCast]
  by_cases h : x.natAbs = 0
  · rw [h, Nat.gcd_zero_left]; exact hy
  · exact Nat.lt_of_le_of_lt (Nat.gcd_le_left _ (by omega)) hx
theorem gcd_step (m n : Nat) : Nat.gcd n (m % n) = Nat.gcd m n := by
  rw [Nat.gcd_comm n (m % n), ← Nat.gcd_rec n m, Nat.gcd_comm]
def contL (l : List Int) : Int := l.foldl gcdI 0
theorem contL_snoc (l : List Int) (x : Int) : contL (l ++ [x]) = gcdI (contL l) x := by simp [contL]
theorem contL_take {l : List Int} {j : Nat} (hj : j < l.length) : contL (l.take (j + 1)) = gcdI (contL (l.take j)) (l.getD j 0) := by
  rw [List.take_succ_eq_append_getElem hj, contL_snoc]; simp [hj]
theorem gcdI_one (x : Int) : gcdI 1 x = 1 := by
  unfold gcdI; rw [show (1 : Int).natAbs = 1 from rfl, Nat.gcd_one_left]; rfl
theorem foldl_one (l : List Int) : l.foldl gcdI 1 = 1 := by
  induction l with
  | nil => rfl
  | cons x l ih => rw [List.foldl_cons, gcdI_one]; exact ih
theorem contL_one {l : List Int} {j : Nat} (h : contL (l.take j) = 1) : contL l = 1 := by
  unfold contL at *
  rw [← List.take_append_drop j l, List.foldl_append, h, foldl_one]
theorem contL_bd {l : List Int} {k : Nat} (h : ∀ j, Bd k (l.getD j 0)) : ∀ j, j ≤ l.length → Bd k (contL (l.take j)) := by
  intro j
  induction j with
  | zero => intro _; exact Nat.pow_pos (by omega)
  | succ j ih =>
    intro hj
    rw [contL_take (by omega)]
    exact gcdI_bd (ih (by omega)) (h j)
theorem tcell {W w1 : World} (hb : Below W.heap.size W w1) : ∀ b, b < W.heap.size → typOf w1 b = typOf W b := fun b h => typ_of_block (hb.block b h)
theorem typ_alloc_lt {w : World} {o : Obj} {b : Nat} (h : b < w.heap.size) : typOf (w.alloc o) b = typOf w b := typ_of_block ((bal (Below.refl _ _) o).block b h)
theorem typ_alloc_eq {w : World} {c : Array Value} {t : TypeId} {b : Nat} (h : b = w.heap.size) : typOf (w.alloc (.cells c t)) b = some t := typ_fresh h
theorem typ_drew (w : World) (b : Nat) : typOf w.drew b = typOf w b := rfl
theorem VarI.far {ub vb : Nat} {z m : Int} {W : World} (h : VarI ub m W) (k : VarI vb z W) (hne : ub ≠ vb) (x : Bool) (y : Option Addr) (p q : Nat) : VarI ub m ((W.setCell ⟨vb, 0, none⟩ (.bool x)).setCell ⟨vb, 1, none⟩ (.slice y p q)) := by
  obtain ⟨ht, n, a, ln, c, h0, h1, f0, f1, hi⟩ := h
  obtain ⟨-, n', a', ln', c', k0, k1, -, -, -⟩ := k
  exact ⟨by rw [typ_set, typ_set]; exact ht, n, a, ln, c, cell_far (cell_far h0 (addr_ne (Ne.symm hne)) _) (addr_ne (Ne.symm hne)) _, cell_far (cell_far h1 (addr_ne (Ne.symm hne)) _) (addr_ne (Ne.symm hne)) _, by rw [World.frozen?_setCell, World.frozen?_setCell]; exact f0, by rw [World.frozen?_setCell, World.frozen?_setCell]; exact f1, hi.put2 k0 k1 _ _⟩
theorem cell_far2 {W : World} {q o vb : Nat} {v : Value} (h : W.cell? ⟨q, o, none⟩ = some v) (hne : ¬ vb = q) (x : Bool) (y : Option Addr) (p r : Nat) : ((W.setCell ⟨vb, 0, none⟩ (.bool x)).setCell ⟨vb, 1, none⟩ (.slice y p r)).cell? ⟨q, o, none⟩ = some v :=
  cell_far (cell_far h (addr_ne hne) _) (addr_ne hne) _
set_option maxRecDepth 100000 in
set_option maxHeartbeats 1000000 in
theorem made_f (a : Option Addr) (ca k : Nat) (w : World) :
    Calls Tryz.prog 122 #[.bool false, .slice a k ca] w fun e w' => e = .returned (.agg #[.bool false, .slice a k ca]) ∧ Below w.heap.size w w' := by
  go_enter Tryz.func122, Tryz.ntmps122
  go_wp2
  refine bodyPost_ret (v := .agg #[.bool false, .slice a k ca]) (by simp [results, Tryz.results122, go_sem, *]) rfl ⟨rfl, ?_⟩
  repeat (first | exact Below.refl _ _ | exact Below.refl _ _ | refine Below.drew ?_ | refine below_drewN ?_ _ | refine bset ?_ (by simp <;> omega) _ | refine bal ?_ _)
set_option maxRecDepth 100000 in
set_option maxHeartbeats 2000000 in
theorem abs_v (n : Bool) (a : Option Addr) (c k : Nat) (w : World) :
    Calls Tryz.prog 224 #[.agg #[.bool n, .slice a k c]] w fun e w' => e = .returned (.agg #[.bool false, .slice a k c]) ∧ Below w.heap.size w w' := by
  have mc := fun W => made_f a c k W
  have hB0 := Below.refl w.heap.size w
  go_enter Tryz.func224, Tryz.ntmps224
  go_wp2_with fail
  refine (mc _).mono ?_
  rintro e w1 ⟨rfl, hb1⟩
  have r0 : w1.cell? ⟨w.heap.size + 1, 0, none⟩ = some (.bool false) := bkc hb1
  have zr0 := cell_lt r0
  have r0f : w1.frozen? ⟨w.heap.size + 1, 0, none⟩ = false := bkcf (v := .bool false) hb1
  have r1 : w1.cell? ⟨w.heap.size + 1, 1, none⟩ = some (.slice none 0 0) := bkc hb1
  have r1f : w1.frozen? ⟨w.heap.size + 1, 1, none⟩ = false := bkcf (v := .slice none 0 0) hb1
  have hB : Below w.heap.size w w1 := bthen (by repeat (first|exact bzR _ _|exact hB|refine bzD ?_|refine bzN ?_|refine bzS ?_|refine bzA ?_)) hb1
  have hz : w.heap.size ≤ w1.heap.size := hB.size
  go_wp2
  refine bodyPost_ret (v := .agg #[.bool false, .slice a k c]) (by simp [results, Tryz.results224, go_sem, *]) rfl ⟨rfl, ?_⟩
  repeat (first|exact bzR _ _|exact hB|refine bzD ?_|refine bzN ?_|refine bzS ?_|refine bzA ?_)
theorem IsInt.abs {w : World} {n : Bool} {a : Option Addr} {k c : Nat} {x : Int} (h : IsInt w (.agg #[.bool n, .slice a k c]) x) : IsInt w (.agg #[.bool false, .slice a k c]) (x.natAbs : Int) := by
  obtain ⟨n1, a1, c1, l1, e, u1, g1, s1, rfl⟩ := h
  unfold iv at e
  cases e
  exact ⟨false, a, c, l1, rfl, u1, g1, fun h => (by cases h), by rw [sg_abs]; rfl⟩
set_option maxRecDepth 100000 in
set_option maxHeartbeats 16000000 in
theorem gcdI_c (vx vy : Value) (x y : Int) (k : Nat) (w : World) (hx : IsInt w vx x) (hy : IsInt w vy y) (bx : Bd k x) (by' : Bd k y) (hk : k ≤ 17179869184) :
    Calls Tryz.prog 161 #[vx, vy] w fun e w' => (∃ u, e = .returned u ∧ IsInt w' u (gcdI x y)) ∧ Below w.heap.size w w' := by
  have HX := Lib.hid hx
  have HY := Lib.hid hy
  obtain ⟨nx, ax, cx, lx, rfl, -⟩ := hx
  obtain ⟨ny, ay, cy, ly, rfl, -⟩ := hy
  unfold iv at *
  obtain ⟨kx, hkx⟩ : ∃ m, lx.length = m := ⟨_, rfl⟩
  obtain ⟨ky, hky⟩ : ∃ m, ly.length = m := ⟨_, rfl⟩
  rw [hkx] at HX ⊢
  rw [hky] at HY ⊢
  clear hkx hky
  have HA := Lib.hid HX.out.abs
  have HB := Lib.hid HY.out.abs
  have HBD := Lib.hid (show x.natAbs < 2 ^ k ∧ y.natAbs < 2 ^ k from ⟨bx, by'⟩)
  unfold gcdI
  clear HX HY bx by'
  obtain ⟨m, hm⟩ : ∃ m, x.natAbs = m := ⟨_, rfl⟩
  obtain ⟨n, hn⟩ : ∃ n, y.natAbs = n := ⟨_, rfl⟩
  rw [hm] at HA HBD ⊢
  rw [hn] at HB HBD ⊢
  clear hm hn
  have hB := Below.refl w.heap.size w
  go_enter Tryz.func161, Tryz.ntmps161
  go_wp2
  refine wp_name fun w1 hW1 => ?_
  have hB1 : Below w.heap.size w w1 := by rw [hW1]; repeat (first|exact bzR _ _|exact hB|refine bzD ?_|refine bzN ?_|refine bzS ?_|refine bzA ?_)
  have hX1 : w1.cell? ⟨w.heap.size, 0, none⟩ = some (.bool nx) ∧ w1.cell? ⟨w.heap.size, 1, none⟩ = some (.slice ax kx cx) ∧ w1.cell? ⟨w.heap.size + 1, 0, none⟩ = some (.bool ny) ∧ w1.cell? ⟨w.heap.size + 1, 1, none⟩ = some (.slice ay ky cy) := by rw [hW1]; simp [go_sem]
  have HR1 := Lib.hid (show w1.cell? ⟨w.heap.size + 1 + 1, 0, none⟩ = some (.bool false) ∧ w1.cell? ⟨w.heap.size + 1 + 1, 1, none⟩ = some (.slice none 0 0) ∧ w1.frozen? ⟨w.heap.size + 1 + 1, 0, none⟩ = false ∧ w1.frozen? ⟨w.heap.size + 1 + 1, 1, none⟩ = false ∧ typOf w1 (w.heap.size + 1 + 1) = some 50 from by rw [hW1]; simp [go_sem]; exact typ_fresh (by simp))
  clear hW1
  obtain ⟨x0, x1, y0, y1⟩ := hX1
  have zx := cell_lt x0
  have zy := cell_lt y0
  have av := fun W => abs_v nx ax cx kx W
  have bv := fun W => abs_v ny ay cy ky W
  go_step3
  go_upto_region 1 with (fail)
  go_cut [5, 6] (fun s5 s6 wx => ∃ ab bb, s5 = .pointer (some ⟨ab, 0, none⟩) ∧ s6 = .pointer (some ⟨bb, 0, none⟩) ∧ ab ≠ bb ∧ w1.heap.size ≤ ab ∧ w1.heap.size ≤ bb ∧ Hid (VarI ab m wx) ∧ Hid (VarI bb n wx) ∧ Below w1.heap.size w1 wx)
  case first =>
    have hBj := Below.refl w1.heap.size w1
    have HS := Lib.hid (show ∀ W, Below w1.heap.size w1 W → W.cell? ⟨w.heap.size, 0, none⟩ = some (.bool nx) ∧ W.cell? ⟨w.heap.size, 1, none⟩ = some (.slice ax kx cx) ∧ W.cell? ⟨w.heap.size + 1, 0, none⟩ = some (.bool ny) ∧ W.cell? ⟨w.heap.size + 1, 1, none⟩ = some (.slice ay ky cy) from fun W q => ⟨bkeep q x0, bkeep q x1, bkeep q y0, bkeep q y1⟩)
    go_region_held3 (fun W => W.cell? ⟨w.heap.size, 0, none⟩ = some (.bool nx) ∧ W.cell? ⟨w.heap.size, 1, none⟩ = some (.slice ax kx cx) ∧ W.cell? ⟨w.heap.size + 1, 0, none⟩ = some (.bool ny) ∧ W.cell? ⟨w.heap.size + 1, 1, none⟩ = some (.slice ay ky cy))
      (first | (refine HS.out _ ?_; (repeat' (first | exact Below.refl _ _ | exact hBj | refine Below.drew ?_ | refine below_drewN ?_ _ | refine bal ?_ _ | refine bset ?_ ?_ _ | exact hla1 | exact Nat.le_trans hla1 (Nat.le_succ _) | exact hla2 | exact Nat.le_trans hla2 (Nat.le_succ _) | exact Nat.le_refl _ | exact Nat.le_succ _)); done) | fail)
      (first
      | (go_at_call 224; (with_reducible show Calls _ _ #[.agg #[.bool nx, _]] _ _); refine (av _).mono ?_; rintro e w11 ⟨rfl, hb11⟩; (have hBd : Below w1.heap.size w1 w11 := bthen (by repeat (first|exact bzR _ _|exact hBj|refine bzD ?_|refine bzN ?_|refine bzS ?_|refine bzA ?_)) hb11; clear hBj; have hBj := hBd; clear hBd); have hc11 := (bcell hb11).1; have hf11 := (bcell hb11).2; have ht11 := tcell hb11; have hla1 := hBj.size; have hs11 := hb11.size; (try simp [go_sem] at hs11); (try have qa : w1.heap.size < w11.heap.size := by omega); (try have qb : w1.heap.size + 1 < w11.heap.size := by omega); have zy11 := Nat.lt_of_lt_of_le zy hBj.size; have zy12 := Nat.lt_of_lt_of_le zx hBj.size)
      | (go_at_call 224; (with_reducible show Calls _ _ #[.agg #[.bool ny, _]] _ _); refine (bv _).mono ?_; rintro e w12 ⟨rfl, hb12⟩; (have hBd : Below w1.heap.size w1 w12 := bthen (by repeat (first|exact bzR _ _|exact hBj|refine bzD ?_|refine bzN ?_|refine bzS ?_|refine bzA ?_)) hb12; clear hBj; have hBj := hBd; clear hBd); have hc12 := (bcell hb12).1; have hf12 := (bcell hb12).2; have ht12 := tcell hb12; have hla2 := hBj.size; have hs12 := hb12.size; (try simp [go_sem] at hs12); (try have qc : w11.heap.size < w12.heap.size := by omega); (try have qd : w11.heap.size + 1 < w12.heap.size := by omega); (try have qe : w1.heap.size < w12.heap.size := by omega); (try have qf : w1.heap.size + 1 < w12.heap.size := by omega))
      | fail)
    all_goals
      go_wp2_with fail
      go_meet
      refine (fun hbx => ⟨_, _, rfl, rfl, by omega, by omega, by omega, Lib.hid ⟨?_, false, ax, kx, cx, ?_, ?_, ?_, ?_, HA.out.keep (bthen hB1 hbx)⟩, Lib.hid ⟨?_, false, ay, ky, cy, ?_, ?_, ?_, ?_, HB.out.keep (bthen hB1 hbx)⟩, hbx⟩ : Below w1.heap.size w1 _ → _) ?_
      all_goals first
        | (simp (disch := (first | (simp; done) | (simp; omega) | omega)) only [typ_set, typ_alloc_eq, typ_alloc_lt, ht12, ht11, typ_drew]; done)
        | (simp [go_sem, *]; done)
        | ((repeat' (first | exact Below.refl _ _ | exact hBj | refine Below.drew ?_ | refine below_drewN ?_ _ | refine bal ?_ _ | refine bset ?_ ?_ _ | exact hla1 | exact Nat.le_trans hla1 (Nat.le_succ _) | exact hla2 | exact Nat.le_trans hla2 (Nat.le_succ _) | exact Nat.le_refl _ | exact Nat.le_succ _)); done)
        | ((repeat (refine cell_far ?_ ?b _; case b => (first | (simp; done) | (simp; omega)))); (first | (refine cell_here (v := .bool false) ?_ _; (repeat (refine cell_far ?_ ?b _; case b => (first | (simp; done) | (simp; omega)))); (simp [go_sem, *]; done)) | (refine cell_here (v := .slice none 0 0) ?_ _; (repeat (refine cell_far ?_ ?b _; case b => (first | (simp; done) | (simp; omega)))); (simp [go_sem, *]; done))))
  case rest =>
    obtain ⟨ab, bb, rfl, rfl, hne, hla, hlb, hA, hBv, hbx⟩ := hcut
    have hb1c : Below w.heap.size w wc := bthen hB1 hbx
    have hrl : w.heap.size + 1 + 1 < w1.heap.size := cell_lt HR1.out.1
    have HR := Lib.hid (show wc.cell? ⟨w.heap.size + 1 + 1, 0, none⟩ = some (.bool false) ∧ wc.cell? ⟨w.heap.size + 1 + 1, 1, none⟩ = some (.slice none 0 0) ∧ wc.frozen? ⟨w.heap.size + 1 + 1, 0, none⟩ = false ∧ wc.frozen? ⟨w.heap.size + 1 + 1, 1, none⟩ = false from ⟨bkeep hbx HR1.out.1, bkeep hbx HR1.out.2.1, bkeepf hbx HR1.out.1 HR1.out.2.2.1, bkeepf hbx HR1.out.2.1 HR1.out.2.2.2.1⟩)
    have hws : w.heap.size ≤ w1.heap.size := hB1.size
    have H0 := Lib.hid (show VarI ab m wc ∧ VarI bb n wc ∧ Nat.gcd m n = Nat.gcd m n ∧ m < 2 ^ k ∧ n < 2 ^ k from ⟨hA.out, hBv.out, rfl, HBD.out.1, HBD.out.2⟩)
    clear av bv x0 x1 y0 y1 zx zy HR1 hB1 hbx hA hBv HA HB HBD hB
    go_wp2
    go_step3
    go_wp2
    go_loopg [] n (fun gk wr => ∃ m' : Nat, Hid (VarI ab m' wr ∧ VarI bb gk wr ∧ Nat.gcd m' gk = Nat.gcd m n ∧ m' < 2 ^ k ∧ gk < 2 ^ k) ∧ Hid (wr.cell? ⟨w.heap.size + 1 + 1, 0, none⟩ = some (.bool false) ∧ wr.cell? ⟨w.heap.size + 1 + 1, 1, none⟩ = some (.slice none 0 0) ∧ wr.frozen? ⟨w.heap.size + 1 + 1, 0, none⟩ = false ∧ wr.frozen? ⟨w.heap.size + 1 + 1, 1, none⟩ = false) ∧ Below w.heap.size w wr)
    case atStart => exact ⟨m, Lib.hid ⟨H0.out.1, H0.out.2.1, rfl, H0.out.2.2.2.1, H0.out.2.2.2.2⟩, HR, hb1c⟩
    case round =>
      obtain ⟨m', H, HR, hBr⟩ := hrel
      obtain ⟨-, n1, a1, l1, c1, a0, a1', -, -, aI⟩ := H.out.1
      obtain ⟨-, n2, a2, l2, c2, b0, b1, b0f, b1f, bI⟩ := H.out.2.1
      have HAI := Lib.hid aI
      have HBI := Lib.hid bI
      have sc := fun W (q : Below wr.heap.size wr W) => sign_c _ _ W (HBI.out.keep q)
      have za := cell_lt a0
      have zb := cell_lt b0
      have hBw := Below.refl wr.heap.size wr
      clear aI bI
      by_cases h0 : gk = 0
      · subst h0
        have hG : (m' : Int) = (Nat.gcd m n : Nat) := by rw [← H.out.2.2.1, Nat.gcd_zero_right]
        rw [show ((0 : Nat) : Int).sign = 0 from rfl] at sc
        go_wp2_with fail
        refine (sc _ (by repeat (first|exact bzR _ _|exact hBw|refine bzD ?_|refine bzN ?_|refine bzS ?_|refine bzA ?_))).mono ?_
        rintro e w5 ⟨rfl, hb5⟩
        have hb5' : Below wr.heap.size wr w5 := bthen (by repeat (first|exact bzR _ _|exact hBw|refine bzD ?_|refine bzN ?_|refine bzS ?_|refine bzA ?_)) hb5
        have r0f := bkeepf hb5' HR.out.1 HR.out.2.2.1
        have r1f := bkeepf hb5' HR.out.2.1 HR.out.2.2.2
        have r0 := bkeep hb5' HR.out.1
        have r1 := bkeep hb5' HR.out.2.1
        have a05 := bkeep hb5' a0
        have a15 := bkeep hb5' a1'
        have hp := Lib.hid ((HAI.out.keep hb5').put2 r0 r1 (.bool n1) (.slice a1 l1 c1))
        rw [hG] at hp
        have hB5 := bthen hBr hb5'
        clear sc H b0 b1 b0f b1f HBI a0 a1'
        go_wp2
        rw [Exit.noGoto_ret]
        refine bodyPost_ret (v := .agg #[.bool n1, .slice a1 l1 c1]) (by simp [results, Tryz.results161, go_sem, *]) rfl ⟨⟨_, rfl, hp.out⟩, ?_⟩
        repeat (first|exact bzR _ _|exact hB5|refine bzD ?_|refine bzN ?_|refine bzS ?_|refine bzA ?_)
      · obtain ⟨sg, hsg, hsgE⟩ : ∃ q : Int, q ≠ 0 ∧ (gk : Int).sign = q := ⟨_, (fun e => h0 (by have := Int.sign_eq_zero_iff_zero.1 e; omega)), rfl⟩
        rw [hsgE] at sc
        have hsb : (sg != 0) = true := by simpa using hsg
        have HM := Lib.hid h0
        have HBD := Lib.hid (And.intro H.out.2.2.2.1 (And.intro H.out.2.2.2.2 H.out.2.2.1))
        have HV := Lib.hid (And.intro H.out.1 H.out.2.1)
        clear hsgE hsg h0 H
        go_wp2_with fail
        refine (sc _ (by repeat (first|exact bzR _ _|exact hBw|refine bzD ?_|refine bzN ?_|refine bzS ?_|refine bzA ?_))).mono ?_
        rintro e w5 ⟨rfl, hb5⟩
        have hb5' : Below wr.heap.size wr w5 := bthen (by repeat (first|exact bzR _ _|exact hBw|refine bzD ?_|refine bzN ?_|refine bzS ?_|refine bzA ?_)) hb5
        have a05 := bkeep hb5' a0
        have a15 := bkeep hb5' a1'
        have b05 := bkeep hb5' b0
        have b15 := bkeep hb5' b1
        have HV5 := Lib.hid (And.intro (HV.out.1.keep hb5') (HV.out.2.keep hb5'))
        have HR5 := Lib.hid (show w5.cell? ⟨w.heap.size + 1 + 1, 0, none⟩ = some (.bool false) ∧ w5.cell? ⟨w.heap.size + 1 + 1, 1, none⟩ = some (.slice none 0 0) ∧ w5.frozen? ⟨w.heap.size + 1 + 1, 0, none⟩ = false ∧ w5.frozen? ⟨w.heap.size + 1 + 1, 1, none⟩ = false from ⟨bkeep hb5' HR.out.1, bkeep hb5' HR.out.2.1, bkeepf hb5' HR.out.1 HR.out.2.2.1, bkeepf hb5' HR.out.2.1 HR.out.2.2.2⟩)
        have dc := fun W (q : Below w5.heap.size w5 W) => divmod_c _ _ (m' : Int) (gk : Int) k W ((HAI.out.keep hb5').keep q) ((HBI.out.keep hb5').keep q) (by unfold Bd; rw [Int.natAbs_natCast]; exact HBD.out.1) (by unfold Bd; rw [Int.natAbs_natCast]; exact HBD.out.2.1) hk (by have := HM.out; omega)
        rw [show ((m' : Int) % (gk : Int)) = ((m' % gk : Nat) : Int) from (Int.natCast_emod m' gk).symm] at dc
        have hB5 := bthen hBr hb5'
        have za5 := cell_lt a05
        have zb5 := cell_lt b05
        have hBw5 := Below.refl w5.heap.size w5
        clear sc HV HR a0 a1' b0 b1 b0f b1f za zb hb5 hBr hBw
        go_wp2_with fail
        refine (dc _ (by repeat (first|exact bzR _ _|exact hBw5|refine bzD ?_|refine bzN ?_|refine bzS ?_|refine bzA ?_))).mono ?_
        rintro e w6 ⟨⟨u6, r6, rfl, hu6, hr6⟩, hb6⟩
        have hb6' : Below w5.heap.size w5 w6 := bthen (by repeat (first|exact bzR _ _|exact hBw5|refine bzD ?_|refine bzN ?_|refine bzS ?_|refine bzA ?_)) hb6
        have HR6 := Lib.hid hr6
        obtain ⟨n7, a7, c7, l7, rfl, -⟩ := hu6
        obtain ⟨n8, a8, c8, l8, rfl, -⟩ := hr6
        unfold iv at *
        have HV6 := Lib.hid (And.intro (HV5.out.1.keep hb6') (HV5.out.2.keep hb6'))
        have HRR6 := Lib.hid (show w6.cell? ⟨w.heap.size + 1 + 1, 0, none⟩ = some (.bool false) ∧ w6.cell? ⟨w.heap.size + 1 + 1, 1, none⟩ = some (.slice none 0 0) ∧ w6.frozen? ⟨w.heap.size + 1 + 1, 0, none⟩ = false ∧ w6.frozen? ⟨w.heap.size + 1 + 1, 1, none⟩ = false from ⟨bkeep hb6' HR5.out.1, bkeep hb6' HR5.out.2.1, bkeepf hb6' HR5.out.1 HR5.out.2.2.1, bkeepf hb6' HR5.out.2.1 HR5.out.2.2.2⟩)
        have hB6 := bthen hB5 hb6'
        clear dc a05 a15 b05 b15 HV5 HR5 za5 zb5 hb5' hb6 hB5 hBw5
        have hBw6 := Below.refl w6.heap.size w6
        go_wp2
        refine wp_name fun w7 hW7 => ?_
        have hb7 : Below w6.heap.size w6 w7 := by rw [hW7]; repeat (first|exact bzR _ _|exact hBw6|refine bzD ?_|refine bzN ?_|refine bzS ?_|refine bzA ?_)
        have HC7 := Lib.hid (show VarI (w6.heap.size + 1) ((m' % gk : Nat) : Int) w7 from by rw [hW7]; exact ⟨typ_fresh (by simp), n8, a8, l8.length, c8, by simp [go_sem], by simp [go_sem], by simp [go_sem], by simp [go_sem], HR6.out.keep (bal (bal (Below.refl _ _) _) _)⟩)
        have hs7 : w6.heap.size + 1 < w7.heap.size := typ_lt HC7.out.1
        have HV7 := Lib.hid (And.intro (HV6.out.1.keep hb7) (HV6.out.2.keep hb7))
        have HRR7 := Lib.hid (show w7.cell? ⟨w.heap.size + 1 + 1, 0, none⟩ = some (.bool false) ∧ w7.cell? ⟨w.heap.size + 1 + 1, 1, none⟩ = some (.slice none 0 0) ∧ w7.frozen? ⟨w.heap.size + 1 + 1, 0, none⟩ = false ∧ w7.frozen? ⟨w.heap.size + 1 + 1, 1, none⟩ = false from ⟨bkeep hb7 HRR6.out.1, bkeep hb7 HRR6.out.2.1, bkeepf hb7 HRR6.out.1 HRR6.out.2.2.1, bkeepf hb7 HRR6.out.2.1 HRR6.out.2.2.2⟩)
        have hB7 := bthen hB6 hb7
        have hxa : ab < w6.heap.size := typ_lt HV6.out.1.1
        have hxb : bb < w6.heap.size := typ_lt HV6.out.2.1
        clear hW7 HV6 HRR6 HR6 hBw6 hb6' hB6 hb7
        obtain ⟨cb, hcb⟩ : ∃ c, w6.heap.size + 1 = c := ⟨_, rfl⟩
        rw [hcb] at HC7 hs7 ⊢
        have hac : ab < cb := by omega
        have hbc : bb < cb := by omega
        clear hcb hxa hxb
        obtain ⟨-, m1, m2, m3, m4, q0, q1, q0f, q1f, qI⟩ := HV7.out.1
        obtain ⟨-, o1, o2, o3, o4, p0, p1, p0f, p1f, pI⟩ := HV7.out.2
        obtain ⟨-, s1, s2, s3, s4, t0, t1, t0f, t1f, tI⟩ := HC7.out
        have HPI := Lib.hid pI
        have HTI := Lib.hid tI
        have zq := cell_lt q0
        have zp := cell_lt p0
        clear qI pI tI
        go_region
        all_goals
          have HA1 := HV7.out.1.put HPI.out
          have HB1' := HV7.out.2.far HV7.out.1 (Ne.symm hne) o1 o2 o3 o4
          have HC1 := HC7.out.far HV7.out.1 (Ne.symm (Nat.ne_of_lt hac)) o1 o2 o3 o4
          have HT1 := HTI.out.put2 q0 q1 (.bool o1) (.slice o2 o3 o4)
          have HB2 := HB1'.put HT1
          have HA2 := HA1.far HB1' hne s1 s2 s3 s4
          have hnab : ¬ ab = w.heap.size + 1 + 1 := by omega
          have hnbb : ¬ bb = w.heap.size + 1 + 1 := by omega
          have hr0 := cell_far2 (cell_far2 HRR7.out.1 hnab o1 o2 o3 o4) hnbb s1 s2 s3 s4
          have hr1 := cell_far2 (cell_far2 HRR7.out.2.1 hnab o1 o2 o3 o4) hnbb s1 s2 s3 s4
          have HN := Lib.hid (And.intro HA2 (And.intro HB2 (And.intro hr0 hr1)))
          have hab : w.heap.size ≤ ab := by omega
          have hbb : w.heap.size ≤ bb := by omega
          have hBN : Below w.heap.size w ((((w7.setCell ⟨ab, 0, none⟩ (.bool o1)).setCell ⟨ab, 1, none⟩ (.slice o2 o3 o4)).setCell ⟨bb, 0, none⟩ (.bool s1)).setCell ⟨bb, 1, none⟩ (.slice s2 s3 s4)) := bset (bset (bset (bset hB7 hab _) hab _) hbb _) hbb _
          clear HA1 HB1' HC1 HT1 HB2 HA2 hr0 hr1 q0 q1 q0f q1f p0 p1 p0f p1f t0 t1 t0f t1f
          go_wp2
          go_roundg (m' % gk)
          case measure => exact Nat.mod_lt _ (Nat.pos_of_ne_zero HM.out)
          case rel => exact ⟨gk, Lib.hid ⟨HN.out.1.keep (Below.refl _ _).drew, HN.out.2.1.keep (Below.refl _ _).drew, by rw [gcd_step, HBD.out.2.2], HBD.out.2.1, Nat.lt_of_lt_of_le (Nat.mod_lt _ (Nat.pos_of_ne_zero HM.out)) (Nat.le_of_lt HBD.out.2.1)⟩, Lib.hid ⟨HN.out.2.2.1, HN.out.2.2.2, by show (World.drew _).frozen? _ = false; rw [show ∀ W : World, ∀ p, W.drew.frozen? p = W.frozen? p from fun _ _ => rfl, World.frozen?_setCell, World.frozen?_setCell, World.frozen?_setCell, World.frozen?_setCell]; exact HRR7.out.2.2.1, by show (World.drew _).frozen? _ = false; rw [show ∀ W : World, ∀ p, W.drew.frozen? p = W.frozen? p from fun _ _ => rfl, World.frozen?_setCell, World.frozen?_setCell, World.frozen?_setCell, World.frozen?_setCell]; exact HRR7.out.2.2.2⟩, hBN.drew⟩
end Go.Proofs.YtbmaffijncapiaaGreatDoor

