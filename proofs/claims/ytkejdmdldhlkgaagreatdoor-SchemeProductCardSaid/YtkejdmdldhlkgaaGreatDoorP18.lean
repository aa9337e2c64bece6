/- Texts of this seat, laid together: ExO, RwG, MxA, MxB, MxC, Jn. Each opens with its own remark, which says what it proves, and under which conditions. -/
import Derived.Test.YtkejdmdldhlkgaaGreatDoorP17
import Derived.Test.YtkejdmdldhlkgaaGreatDoorP15
import Derived.Deep.RegionLaw
import Derived.StillTailTactics
import Derived.Test.YtkejdmdldhlkgaaGreatDoorP05
import Derived.Test.YtkejdmdldhlkgaaGreatDoorP09
import Derived.Shelf.Strings.OnBuilder
set_option linter.unusedVariables false
set_option linter.unusedSimpArgs false
/- exact: Widest. -/
namespace Go.Proofs.YtkejdmdldhlkgaaGreatDoor
open Num
open Go.ChangeShapes Go.WideShapes Go.ChangeAt Go.RowKit
set_option linter.unusedVariables false
set_option linter.unusedSimpArgs false
attribute [local go_sem ↓] Go.wp_at_zero Go.wp_at_succ
attribute [local go_sem] Oper.semAt_some
/-- a variable in memory that holds a number -/
def VarI (ub : Nat) (m : Int) (W : World) : Prop := typOf W ub = some 41 ∧ ∃ n a ln c, W.cell? ⟨ub, 0, none⟩ = some (.bool n) ∧ W.cell? ⟨ub, 1, none⟩ = some (.slice a ln c) ∧ W.frozen? ⟨ub, 0, none⟩ = false ∧ W.frozen? ⟨ub, 1, none⟩ = false ∧ IsInt W (.agg #[.bool n, .slice a ln c]) m
theorem VarI.keep {ub : Nat} {m : Int} {W V : World} (h : VarI ub m W) (k : Below W.heap.size W V) : VarI ub m V := by
  obtain ⟨ht, n, a, ln, c, h0, h1, f0, f1, hi⟩ := h
  exact ⟨typ_keep ht k, n, a, ln, c, bkeep k h0, bkeep k h1, bkeepf k h0 f0, bkeepf k h1 f1, hi.keep k⟩
theorem VarI.put {ub : Nat} {m z : Int} {W : World} {n : Bool} {a : Option Addr} {ln c : Nat} (h : VarI ub m W) (hi : IsInt W (.agg #[.bool n, .slice a ln c]) z) : VarI ub z ((W.setCell ⟨ub, 0, none⟩ (.bool n)).setCell ⟨ub, 1, none⟩ (.slice a ln c)) := by
  obtain ⟨ht, n', a', ln', c', h0, h1, f0, f1, _⟩ := h
  refine ⟨by rw [typ_set, typ_set]; exact ht, n, a, ln, c, cell_far (cell_here h0 _) (by simp) _, cell_here (cell_far h1 (by simp) _) _, ?_, ?_, hi.put2 h0 h1 _ _⟩
  · rw [World.frozen?_setCell, World.frozen?_setCell]; exact f0
  · rw [World.frozen?_setCell, World.frozen?_setCell]; exact f1
end Go.Proofs.YtkejdmdldhlkgaaGreatDoor

/- integer: Sum; row: Dot. -/
namespace Go.Proofs.YtkejdmdldhlkgaaGreatDoor
open Num
open Go.ChangeShapes Go.WideShapes Go.ChangeAt Go.RowKit
set_option linter.unusedVariables false
set_option linter.unusedSimpArgs false
attribute [local go_sem ↓] Go.wp_at_zero Go.wp_at_succ
/-- the sum of all -/
def sumL (l : List Int) : Int := l.foldl (· + ·) 0
theorem sumL_snoc (l : List Int) (x : Int) : sumL (l ++ [x]) = sumL l + x := by simp [sumL]
theorem sumL_take {l : List Int} {j : Nat} (hj : j < l.length) : sumL (l.take (j + 1)) = sumL (l.take j) + l.getD j 0 := by
  rw [List.take_succ_eq_append_getElem hj, sumL_snoc]; simp [hj]
theorem sumL_bd {l : List Int} {k : Nat} (h : ∀ j, Bd k (l.getD j 0)) : ∀ j, j ≤ l.length → Bd (k + j) (sumL (l.take j)) := by
  intro j
  induction j with
  | zero => intro _; exact bd_zero
  | succ j ih =>
    intro hj
    rw [sumL_take (by omega)]
    exact (Bd.add (ih (by omega)) ((h j).mono (by omega))).mono (by omega)
/-- the sum of the products -/
def dotL (a b : List Int) : Int := sumL (List.zipWith (fun x y => x * y) a b)
set_option maxRecDepth 100000 in
set_option maxHeartbeats 4000000 in
theorem sum_c (v : Value) (l : List Int) (k : Nat) (w : World) (hv : PRow 0 w v l) (hl : l.length ≤ 1099511627775) (hb : ∀ j, Bd k (l.getD j 0)) (hk : k + l.length ≤ 17179869184) :
    Calls Tryz.prog 118 #[v] w fun e w' => (∃ u, e = .returned u ∧ IsInt w' u (sumL l)) ∧ Below w.heap.size w w' := by
  have HV := Lib.hid hv
  have HBD := Lib.hid hb
  obtain ⟨va, vc, rfl, -⟩ := hv
  clear hb
  have hB := Below.refl w.heap.size w
  go_enter Tryz.func118, Tryz.ntmps118
  go_wp2
  refine wp_name fun w0 hW0 => ?_
  have hB0 : Below w.heap.size w w0 := by rw [hW0]; repeat (first | exact Below.refl _ _ | exact hB | refine Below.drew ?_ | refine below_drewN ?_ _ | refine bset ?_ (by simp <;> omega) _ | refine bal ?_ _)
  have HR0 := Lib.hid (show w0.cell? ⟨w.heap.size, 0, none⟩ = some (.bool false) ∧ w0.cell? ⟨w.heap.size, 1, none⟩ = some (.slice none 0 0) ∧ w0.frozen? ⟨w.heap.size, 0, none⟩ = false ∧ w0.frozen? ⟨w.heap.size, 1, none⟩ = false from by rw [hW0]; simp [go_sem])
  have HM0 := Lib.hid (show VarI (w.heap.size + 1) 0 w0 from by rw [hW0]; exact ⟨typ_fresh (by simp), false, none, 0, 0, by simp [go_sem], by simp [go_sem], by simp [go_sem], by simp [go_sem], isInt_zero _⟩)
  clear hW0
  go_loopw [8] (fun x wr => ∃ j : Nat, j ≤ l.length ∧ x = .int .i64 j ∧ Below w.heap.size w wr ∧ Hid (wr.cell? ⟨w.heap.size, 0, none⟩ = some (.bool false) ∧ wr.cell? ⟨w.heap.size, 1, none⟩ = some (.slice none 0 0) ∧ wr.frozen? ⟨w.heap.size, 0, none⟩ = false ∧ wr.frozen? ⟨w.heap.size, 1, none⟩ = false) ∧ Hid (VarI (w.heap.size + 1) (sumL (l.take j)) wr)) (fun x _ => l.length - (intOf x).toNat)
  case atStart => exact ⟨0, Nat.zero_le _, rfl, hB0, HR0, HM0⟩
  case round =>
    obtain ⟨j, hj, rfl, hBr, HR, hM⟩ := hrel
    obtain ⟨-, n0, a0, ln0, c0, m0, m1, m0f, m1f, hi0⟩ := hM.out
    obtain ⟨r0, r1, r0f, r1f⟩ := HR.out
    have HI0 := Lib.hid hi0
    have zm := cell_lt m0
    have zr := cell_lt r0
    have HR' := HR
    clear hi0 HR
    by_cases hlt : j < l.length
    · have hltI : (j : Int) < (l.length : Int) := by omega
      obtain ⟨a', c', he, -, vr⟩ := (HV.out.keep lims_int hBr).view
      obtain ⟨rfl, -, rfl⟩ := Value.slice.inj he
      obtain ⟨b, off, n2, a2, l2, cc2, rfl, d0, d1, hi⟩ := vr j hlt
      have HW := Lib.hid (sumL_take hlt)
      have bs := sumL_bd HBD.out j (by omega)
      have bj := (HBD.out j).mono (show k ≤ k + j by omega)
      obtain ⟨x, hx⟩ : ∃ x, l.getD j 0 = x := ⟨_, rfl⟩
      rw [hx] at hi HW bj
      obtain ⟨m, hm⟩ : ∃ m, sumL (l.take j) = m := ⟨_, rfl⟩
      rw [hm] at HI0 HW hM bs
      have zd := cell_lt d0
      have ac := fun W (h : Below wr.heap.size wr W) => addI_c _ _ m x (k + j) W (HI0.out.keep h) (hi.keep h) bs bj (by omega)
      clear hx hm he vr hi
      have hBw := Below.refl wr.heap.size wr
      go_wp2_with fail
      refine (ac _ (by repeat (first | exact Below.refl _ _ | exact hBw | refine Below.drew ?_ | refine below_drewN ?_ _ | refine bset ?_ (by simp <;> omega) _ | refine bal ?_ _))).mono ?_
      rintro e w2 ⟨⟨u, rfl, hu⟩, hb2⟩
      have hb2' : Below wr.heap.size wr w2 := bthen (by repeat (first | exact Below.refl _ _ | exact hBw | refine Below.drew ?_ | refine below_drewN ?_ _ | refine bset ?_ (by simp <;> omega) _ | refine bal ?_ _)) hb2
      have HU := Lib.hid hu
      obtain ⟨nu, au, cu, lu, rfl, -⟩ := hu
      unfold iv at *
      have HV2 := Lib.hid ((hM.out.keep hb2').put HU.out)
      replace r0f := bkeepf hb2' r0 r0f
      replace r1f := bkeepf hb2' r1 r1f
      replace m0f := bkeepf hb2' m0 m0f
      replace m1f := bkeepf hb2' m1 m1f
      replace r0 := bkeep hb2' r0
      replace r1 := bkeep hb2' r1
      replace m0 := bkeep hb2' m0
      replace m1 := bkeep hb2' m1
      have hB2 := bthen hBr hb2'
      clear ac d0 d1 bs bj hb2
      go_wp2
      refine ⟨⟨j + 1, by omega, by go_num, bset (bset hB2 (by show w.heap.size ≤ w.heap.size + 1; omega) _) (by show w.heap.size ≤ w.heap.size + 1; omega) _, Lib.hid ⟨cell_far (cell_far r0 (addr_ne (by omega)) _) (addr_ne (by omega)) _, cell_far (cell_far r1 (addr_ne (by omega)) _) (addr_ne (by omega)) _, ?_, ?_⟩, Lib.hid (by rw [HW.out]; exact HV2.out)⟩, by simp [intOf]; omega⟩
      · rw [World.frozen?_setCell, World.frozen?_setCell]; exact r0f
      · rw [World.frozen?_setCell, World.frozen?_setCell]; exact r1f
    · obtain rfl : j = l.length := by omega
      rw [List.take_length] at HI0
      have hp := Lib.hid (HI0.out.put2 r0 r1)
      go_wp2
      refine bodyPost_ret (v := .agg #[.bool n0, .slice a0 ln0 c0]) (by simp [results, Tryz.results118, go_sem, *]) rfl ⟨⟨_, rfl, hp.out _ _⟩, ?_⟩
      repeat (first | exact Below.refl _ _ | exact hBr | refine Below.drew ?_ | refine below_drewN ?_ _ | refine bset ?_ (by simp <;> omega) _ | refine bal ?_ _)
theorem zip_bd {la lb : List Int} {k m : Nat} (ba : ∀ j, Bd k (la.getD j 0)) (bb : ∀ j, Bd m (lb.getD j 0)) : ∀ j, Bd (k + m) ((List.zipWith (fun x y => x * y) la lb).getD j 0) := fun j => by
  by_cases h : j < la.length ∧ j < lb.length
  · rw [zip_getD h.1 h.2]; exact Bd.mul (ba j) (bb j)
  · rw [List.getD_eq_getElem?_getD, List.getElem?_eq_none (by simp; omega)]; exact bd_zero
set_option maxRecDepth 100000 in
set_option maxHeartbeats 2000000 in
theorem dot_c (va vb : Value) (la lb : List Int) (k m : Nat) (w : World) (ha : PRow 0 w va la) (hb : PRow 0 w vb lb) (hl : la.length ≤ 1099511627775) (he : la.length = lb.length) (ba : ∀ j, Bd k (la.getD j 0)) (bb : ∀ j, Bd m (lb.getD j 0)) (hk : k + m + la.length ≤ 17179869184) :
    Calls Tryz.prog 70 #[va, vb] w fun e w' => (∃ u, e = .returned (.tuple #[u, .int .i64 0]) ∧ IsInt w' u (dotL la lb)) ∧ Below w.heap.size w w' := by
  have eF : Enters Tryz.prog 24 := ens Tryz.func24 (by kernel_rfl) rfl
  have hz : (List.zipWith (fun x y => x * y) la lb).length = la.length := by rw [List.length_zipWith]; omega
  have bc := fun W (hB : Below w.heap.size w W) => both_yes va vb la lb (List.zipWith (fun x y => x * y) la lb) 24 #[] #[] W (ha.keep lims_int hB) (hb.keep lims_int hB) hl he hz eF (fun j W1 u1 u2 hj _ h1 h2 => by
    have hc := mul_c u1 u2 (la.getD j 0) (lb.getD j 0) k m W1 h1 h2 (ba j) (bb j) (by omega) (by omega)
    rw [zip_getD hj (by omega)]
    exact hc)
  have HBC := Lib.hid bc
  have HZB := Lib.hid (zip_bd ba bb)
  have HZ := Lib.hid hz
  obtain ⟨aa, ca, rfl, -⟩ := ha
  obtain ⟨ab, cb, rfl, -⟩ := hb
  obtain ⟨L, hL⟩ : ∃ L, List.zipWith (fun x y => x * y) la lb = L := ⟨_, rfl⟩
  unfold dotL
  rw [hL] at HBC HZB HZ ⊢
  clear bc hz eF ba bb he hL
  have hB := Below.refl w.heap.size w
  go_enter Tryz.func70, Tryz.ntmps70
  go_wp2_with fail
  refine (HBC.out _ (by repeat (first | exact Below.refl _ _ | exact hB | refine Below.drew ?_ | refine below_drewN ?_ _ | refine bset ?_ (by simp <;> omega) _ | refine bal ?_ _))).mono ?_
  rintro e w1 ⟨⟨u, rfl, hu⟩, hb1⟩
  have r0 : w1.cell? ⟨w.heap.size, 0, none⟩ = some (.bool false) := bkc hb1
  have zr0 := cell_lt r0
  have r0f : w1.frozen? ⟨w.heap.size, 0, none⟩ = false := bkcf (v := .bool false) hb1
  have r1 : w1.cell? ⟨w.heap.size, 1, none⟩ = some (.slice none 0 0) := bkc hb1
  have r1f : w1.frozen? ⟨w.heap.size, 1, none⟩ = false := bkcf (v := .slice none 0 0) hb1
  have hB : Below w.heap.size w w1 := bthen (by repeat (first | exact Below.refl _ _ | exact hB | refine Below.drew ?_ | refine below_drewN ?_ _ | refine bset ?_ (by simp <;> omega) _ | refine bal ?_ _)) hb1
  have hz : w.heap.size ≤ w1.heap.size := hB.size
  have sc := fun W (h : Below w1.heap.size w1 W) => sum_c u L (k + m) W ((hu.row.rebase (Nat.zero_le _)).keep lims_int h) (by rw [HZ.out]; omega) HZB.out (by rw [HZ.out]; omega)
  obtain ⟨ua, un, uc, rfl⟩ : ∃ a n c, u = Value.slice a n c := by obtain ⟨a, c, h⟩ := hu.ex; exact ⟨a, _, c, h⟩
  have hw1 := Below.refl w1.heap.size w1
  clear HBC hu
  go_wp2_with fail
  refine (sc _ (by repeat (first | exact Below.refl _ _ | exact hw1 | refine Below.drew ?_ | refine below_drewN ?_ _ | refine bset ?_ (by simp <;> omega) _ | refine bal ?_ _))).mono ?_
  rintro e w2 ⟨⟨u2, rfl, hu2⟩, hb2⟩
  have r0 : w2.cell? ⟨w.heap.size, 0, none⟩ = some (.bool false) := bkc hb2
  have zr0 := cell_lt r0
  have r0f : w2.frozen? ⟨w.heap.size, 0, none⟩ = false := bkcf (v := .bool false) hb2
  have r1 : w2.cell? ⟨w.heap.size, 1, none⟩ = some (.slice none 0 0) := bkc hb2
  have r1f : w2.frozen? ⟨w.heap.size, 1, none⟩ = false := bkcf (v := .slice none 0 0) hb2
  have hB : Below w.heap.size w w2 := bthen (by repeat (first | exact Below.refl _ _ | exact hB | refine Below.drew ?_ | refine below_drewN ?_ _ | refine bset ?_ (by simp <;> omega) _ | refine bal ?_ _)) hb2
  have hz : w.heap.size ≤ w2.heap.size := hB.size
  have hp := Lib.hid (hu2.put2 r0 r1)
  obtain ⟨n2, a2, c2, l2, rfl, -⟩ := hu2
  unfold iv at *
  clear sc
  go_wp2
  refine bodyPost_ret (v := .tuple #[.agg #[.bool n2, .slice a2 l2.length c2], .int .i64 0]) (by simp [results, Tryz.results70, go_sem, *]) rfl ⟨⟨_, rfl, hp.out _ _⟩, ?_⟩
  repeat (first | exact Below.refl _ _ | exact hB | refine Below.drew ?_ | refine below_drewN ?_ _ | refine bset ?_ (by simp <;> omega) _ | refine bal ?_ _)
end Go.Proofs.YtkejdmdldhlkgaaGreatDoor

/- matrix: matrices as values; filled. -/
namespace Go.Proofs.YtkejdmdldhlkgaaGreatDoor
open Num
open Go.ChangeShapes Go.WideShapes Go.ChangeAt Go.RowKit
set_option linter.unusedVariables false
set_option linter.unusedSimpArgs false
attribute [local go_sem ↓] Go.wp_at_zero Go.wp_at_succ
/-- a table of numbers -/
def tab (n m : Nat) (f : Nat → Nat → Int) : Grid := (List.range n).map fun i => (List.range m).map (f i)
theorem tab_len (n m : Nat) (f : Nat → Nat → Int) : (tab n m f).length = n := by simp [tab]
theorem tab_row {n m : Nat} {f : Nat → Nat → Int} {i : Nat} (h : i < n) : (tab n m f).getD i [] = (List.range m).map (f i) := by simp [tab, h]
theorem tab_rowlen {n m : Nat} {f : Nat → Nat → Int} {i : Nat} (h : i < n) : ((tab n m f).getD i []).length = m := by rw [tab_row h]; simp
theorem tab_at {n m : Nat} {f : Nat → Nat → Int} {i j : Nat} (h : i < n) (hj : j < m) : ((tab n m f).getD i []).getD j 0 = f i j := by rw [tab_row h]; simp [hj]
theorem tab_congr {n m : Nat} {f g : Nat → Nat → Int} (h : ∀ i j, i < n → j < m → f i j = g i j) : tab n m f = tab n m g := by
  unfold tab
  refine List.map_congr_left fun i hi => List.map_congr_left fun j hj => h i j (by simpa using hi) (by simpa using hj)
/-- a matrix as a value: its rows lie in blocks from base on -/
def IsM (base : Nat) (w : World) (v : Value) (g : Grid) : Prop := ∃ a c, v = .agg #[.slice a g.length c] ∧ IsL 54 (PRow base) base w (.slice a g.length c) g
theorem prs_prow (base : Nat) : Prs (fun t => t = 104 ∨ t = 41) (PRow base) := prs_row lims_int _ _
theorem IsM.keep {base : Nat} {w w' : World} {v : Value} {g : Grid} (h : IsM base w v g) (k : Below w.heap.size w w') : IsM base w' v g := by
  obtain ⟨a, c, e, h⟩ := h; exact ⟨a, c, e, h.keep (prs_prow base) k⟩
theorem IsM.rebase {base base' : Nat} {w : World} {v : Value} {g : Grid} (h : IsM base w v g) (hb : base' ≤ base) : IsM base' w v g := by
  obtain ⟨a, c, e, h⟩ := h; exact ⟨a, c, e, (h.rebase hb).mono fun u x hx => hx.rebase hb⟩
theorem IsM.nil (base : Nat) (w : World) : IsM base w (.agg #[.slice none 0 0]) [] := ⟨none, 0, rfl, IsL.nil _ _ _ _⟩
/-- a function value that tells the number at a place -/
def FnF (f : Nat → Nat → Int) (n m F : Nat) (caps : Array Value) (w : World) : Prop :=
  ∀ W i j, i < n → j < m → Below w.heap.size w W → Calls Tryz.prog F (#[.int .i64 (i : Nat), .int .i64 (j : Nat)] ++ caps) W fun e w' => (∃ v, e = .returned v ∧ IsInt w' v (f i j)) ∧ Below W.heap.size W w'
theorem range_snoc {α : Type} (f : Nat → α) (n : Nat) : (List.range (n + 1)).map f = (List.range n).map f ++ [f n] := by rw [List.range_succ, List.map_append]; rfl
theorem range_getD (f : Nat → Int) {n k : Nat} (h : k < n) : ((List.range n).map f).getD k 0 = f k := by simp [h]
theorem snoc_fn (f : Nat → Int) (j : Nat) : ∀ k, k < j + 1 → (fun i => if i = j then f j else f i) k = f k := by
  intro k hk; dsimp only; split
  · subst_vars; rfl
  · rfl
theorem typ_alloc {w : World} {o : Obj} {b : Nat} {t : TypeId} (h : typOf w b = some t) : typOf (w.alloc o) b = some t := typ_keep h (bal (Below.refl _ _) _)
set_option maxRecDepth 100000 in
set_option maxHeartbeats 8000000 in
theorem filled_c (n m : Nat) (f : Nat → Nat → Int) (F : Nat) (caps : Array Value) (w : World) (hF : FnF f n m F caps w) (eF : Enters Tryz.prog F) (hn : n ≤ 1099511627776) (hm : m ≤ 1099511627775) :
    Calls Tryz.prog 79 #[.int .i64 (n : Nat), .int .i64 (m : Nat), .func (.func F) #[] caps] w fun e w' => (∃ v, e = .returned v ∧ IsM w.heap.size w' v (tab n m f)) ∧ Below w.heap.size w w' := by
  have HF := Lib.hid hF
  clear hF
  have hB := Below.refl w.heap.size w
  unfold Enters at eF
  go_enter Tryz.func79, Tryz.ntmps79
  go_wp2
  refine wp_name fun w0 hW0 => ?_
  have hB0 : Below w.heap.size w w0 := by rw [hW0]; repeat (first | exact Below.refl _ _ | exact hB | refine Below.drew ?_ | refine below_drewN ?_ _ | refine bset ?_ (by simp <;> omega) _ | refine bal ?_ _)
  have HR0 := Lib.hid (show w0.cell? ⟨w.heap.size, 0, none⟩ = some (.slice none 0 0) ∧ w0.frozen? ⟨w.heap.size, 0, none⟩ = false ∧ w0.cell? ⟨w.heap.size + 1, 0, none⟩ = some (.slice none 0 0) ∧ w0.frozen? ⟨w.heap.size + 1, 0, none⟩ = false from by rw [hW0]; simp [go_sem])
  have HT0 := Lib.hid (show typOf w0 w.heap.size = some 34 ∧ typOf w0 (w.heap.size + 1) = some 34 from by
    rw [hW0]; exact ⟨typ_alloc (typ_fresh rfl), typ_fresh (by simp)⟩)
  clear hW0
  go_loopw [12] (fun x wr => ∃ i : Nat, i ≤ n ∧ x = .int .i64 i ∧ Below w.heap.size w wr ∧ Hid (wr.cell? ⟨w.heap.size, 0, none⟩ = some (.slice none 0 0) ∧ wr.frozen? ⟨w.heap.size, 0, none⟩ = false ∧ wr.frozen? ⟨w.heap.size + 1, 0, none⟩ = false ∧ typOf wr w.heap.size = some 34 ∧ typOf wr (w.heap.size + 1) = some 34) ∧ Hid (∃ v, wr.cell? ⟨w.heap.size + 1, 0, none⟩ = some v ∧ OwnL 54 (PRow w.heap.size) w wr v (tab i m f))) (fun x _ => n - (intOf x).toNat)
  case atStart => exact ⟨0, Nat.zero_le _, rfl, hB0, Lib.hid ⟨HR0.out.1, HR0.out.2.1, HR0.out.2.2.2, HT0.out.1, HT0.out.2⟩, Lib.hid ⟨_, HR0.out.2.2.1, OwnL.nil _ _ hB0⟩⟩
  case round =>
    obtain ⟨i, hi, rfl, hBr, HR, HO⟩ := hrel
    obtain ⟨v, o0, hO⟩ := HO.out
    obtain ⟨r0, r0f, o0f, t0, t1⟩ := HR.out
    obtain ⟨oa, oc, hvv⟩ := hO.ex
    rw [tab_len] at hvv
    subst hvv
    have HO := Lib.hid hO
    have HTT := Lib.hid (And.intro t0 t1)
    clear hO t0 t1 HR
    have zr := cell_lt r0
    have zo := cell_lt o0
    by_cases hlt : i < n
    · have hltI : (i : Int) < (n : Int) := by omega
      obtain ⟨wq, hwq⟩ : ∃ wq, wr = wq := ⟨_, rfl⟩
      rw [hwq] at HO HTT hBr r0 r0f o0 o0f zr zo ⊢
      clear hwq
      have hBq := Below.refl wq.heap.size wq
      go_wp2
      go_loopw [9, 16] (fun v x wr => ∃ j : Nat, j ≤ m ∧ x = .int .i64 j ∧ Hid (OwnF IsInt 41 wq wr v j (f i))) (fun _ x _ => m - (intOf x).toNat)
      case atStart => exact ⟨0, Nat.zero_le _, rfl, Lib.hid (OwnF.nil _ _ _ hBq)⟩
      case round =>
        obtain ⟨j, hj, rfl, hF⟩ := hrel
        by_cases hlt2 : j < m
        · have hltJ : (j : Int) < (m : Int) := by omega
          have hbF := hF.out.bel
          have fc := fun W (h : Below wr.heap.size wr W) => HF.out W i j hlt hlt2 (bthen hBr (bthen hbF h))
          obtain ⟨fa, fcp, hfv⟩ : ∃ a c, _ = Value.slice a j c := by obtain ⟨a, c, h, _⟩ := hF.out.view; exact ⟨a, c, h⟩
          subst hfv
          have HSN := Lib.hid (snoc_fn (f i) j)
          obtain ⟨z, hz⟩ : ∃ z, f i j = z := ⟨_, rfl⟩
          rw [hz] at fc HSN
          clear hz
          have hBw := Below.refl wr.heap.size wr
          go_wp2_with fail
          go_at_fn F
          refine (fc _ (by repeat (first | exact Below.refl _ _ | exact hBw | refine Below.drew ?_ | refine below_drewN ?_ _ | refine bset ?_ (by simp <;> omega) _ | refine bal ?_ _))).mono ?_
          rintro e w5 ⟨⟨v5, rfl, hi5⟩, hb5⟩
          have hB5 : Below wr.heap.size wr w5 := bthen (by repeat (first | exact Below.refl _ _ | exact hBw | refine Below.drew ?_ | refine below_drewN ?_ _ | refine bset ?_ (by simp <;> omega) _ | refine bal ?_ _)) hb5
          have HF5 := Lib.hid (hF.out.below lims_int hB5)
          have HI5 := Lib.hid hi5
          obtain ⟨n5, a5, c5, l5, rfl, -⟩ := hi5
          unfold iv at *
          clear fc
          go_wp2_with (at_builtin; refine app_num elInt (by decide) lims_int (by rfl) (by rfl) HF5.out HI5.out (by rfl) (by rfl) (by omega) ?_)
          intro v' w8 hF8 _ _
          have HF8 := Lib.hid (hF8.congr' HSN.out)
          clear hF8
          go_wp2
          exact ⟨⟨j + 1, by omega, by go_num, HF8⟩, by simp [intOf]; omega⟩
        · obtain rfl : j = m := by omega
          have hbF := hF.out.bel
          have HRO := Lib.hid (show PRow w.heap.size wr _ ((List.range j).map (f i)) from (OwnF.row (w0 := wq) (l := (List.range j).map (f i)) (by
            rw [List.length_map, List.length_range]
            exact hF.out.congr' fun k hk => (range_getD (f i) hk).symm)).rebase hBr.size)
          obtain ⟨fa, fc, hfv⟩ : ∃ a c, _ = Value.slice a j c := by obtain ⟨a, c, h, _⟩ := hF.out.view; exact ⟨a, c, h⟩
          subst hfv
          have HOW := Lib.hid (HO.out.below (prs_prow _) hbF)
          have o0f := bkeepf hbF o0 o0f
          have r0f := bkeepf hbF r0 r0f
          have o0 := bkeep hbF o0
          have r0 := bkeep hbF r0
          have HT2 := Lib.hid (And.intro (typ_keep HTT.out.1 hbF) (typ_keep HTT.out.2 hbF))
          clear HTT HO
          have zo2 := cell_lt o0
          go_wp2_with (at_builtin; refine appL elRow (prs_prow _) (by decide) (by rfl) (by rfl) (HOW.out.below (prs_prow _) (bal (Below.refl _ _) _)) (HRO.out.keep lims_int (bal (Below.refl _ _) _)) (by rfl) (by rfl) (cell_new rfl rfl) (by rw [tab_len]; omega) (by rw [tab_len]; unfold maxLen; omega) ?_)
          intro v' w8 hO8 hk8
          have ha8 : Kp (· ≠ 54) wr w8 := ((Kp.refl _ wr).alloc _).trans hk8
          have o08 := ha8.cell HT2.out.2 (by decide) o0
          have o08f := ha8.frz HT2.out.2 (by decide) o0f
          have r08 := ha8.cell HT2.out.1 (by decide) r0
          have r08f := ha8.frz HT2.out.1 (by decide) r0f
          have HT8 := Lib.hid (And.intro (ha8.typ HT2.out.1 (by decide)) (ha8.typ HT2.out.2 (by decide)))
          have HO8 := Lib.hid hO8
          have hb8 := hO8.bel
          obtain ⟨a8, c8, hv8⟩ := hO8.ex
          rw [show (tab i j f ++ [(List.range j).map (f i)]) = tab (i + 1) j f from by unfold tab; rw [range_snoc]] at HO8 hv8
          rw [tab_len] at hv8
          subst hv8
          clear hO8 hk8 ha8 HT2 o0 o0f r0 r0f HRO HOW
          go_wp2
          refine ⟨⟨i + 1, by omega, by go_num, bset hb8 (by show w.heap.size ≤ w.heap.size + 1; omega) _, Lib.hid ⟨cell_far r08 (addr_ne (by omega)) _, by rw [World.frozen?_setCell]; exact r08f, by rw [World.frozen?_setCell]; exact o08f, by rw [typ_set]; exact HT8.out.1, by rw [typ_set]; exact HT8.out.2⟩, Lib.hid ⟨_, cell_here o08 _, HO8.out.set (prs_prow _) (p := ⟨w.heap.size + 1, 0, none⟩) HT8.out.2 (by decide) (by decide) (by show w.heap.size ≤ w.heap.size + 1; omega) _⟩⟩, by simp [intOf]; omega⟩
    · obtain rfl : i = n := by omega
      have HL := Lib.hid (HO.out.isL)
      clear HO
      go_wp2
      refine bodyPost_ret (v := .agg #[.slice oa i oc]) (by simp [results, Tryz.results79, go_sem, *]) rfl ⟨⟨_, rfl, ?_⟩, ?_⟩
      · refine ⟨oa, oc, by rw [tab_len], ?_⟩
        rw [tab_len]
        exact IsL.kp (S' := fun t => t ≠ 34) (prs_prow _) HL.out ((Kp.refl _ _).set (p := ⟨w.heap.size, 0, none⟩) (fun t ht => by rw [HTT.out.1] at ht; cases ht; exact fun h => h rfl) _) (fun t ht => by rcases ht with rfl | rfl <;> decide) (by decide)
      · exact bset hBr (by show w.heap.size ≤ w.heap.size; omega) _
end Go.Proofs.YtkejdmdldhlkgaaGreatDoor

/- matrix: Rows, Cols, square, Identity; a matrix in a variable. -/
namespace Go.Proofs.YtkejdmdldhlkgaaGreatDoor
open Num
open Go.ChangeShapes Go.WideShapes Go.ChangeAt Go.RowKit
set_option linter.unusedVariables false
set_option linter.unusedSimpArgs false
attribute [local go_sem ↓] Go.wp_at_zero Go.wp_at_succ
/-- the number at a place -/
def gat (g : Grid) (i j : Nat) : Int := (g.getD i []).getD j 0
/-- how many columns -/
def cols (g : Grid) : Nat := (g.getD 0 []).length
/-- rows of one length -/
def Rct (g : Grid) (m : Nat) : Prop := ∀ i, i < g.length → (g.getD i []).length = m
theorem tab_gat {n m : Nat} {f : Nat → Nat → Int} {i j : Nat} (h : i < n) (hj : j < m) : gat (tab n m f) i j = f i j := tab_at h hj
theorem tab_rect (n m : Nat) (f : Nat → Nat → Int) : Rct (tab n m f) m := fun i hi => by rw [tab_len] at hi; exact tab_rowlen hi
theorem tab_cols {n m : Nat} (f : Nat → Nat → Int) (h : 0 < n) : cols (tab n m f) = m := tab_rowlen h
theorem Rct.cols {g : Grid} {m : Nat} (h : Rct g m) (hg : 0 < g.length) : cols g = m := h 0 hg
theorem IsM.lit {base : Nat} {w : World} {v : Value} {g : Grid} (h : IsM base w v g) : ∃ a c, v = .agg #[.slice a g.length c] := by obtain ⟨a, c, e, _⟩ := h; exact ⟨a, c, e⟩
/-- a matrix in a variable -/
def BoxM (b : Nat) (w : World) (g : Grid) : Prop := ∃ a c, w.cell? ⟨b, 0, none⟩ = some (.slice a g.length c) ∧ IsL 54 (PRow 0) 0 w (.slice a g.length c) g
theorem BoxM.keep {b : Nat} {w w' : World} {g : Grid} (h : BoxM b w g) (k : Below w.heap.size w w') : BoxM b w' g := by
  obtain ⟨a, c, e, h⟩ := h; exact ⟨a, c, bkeep k e, h.keep (prs_prow 0) k⟩
theorem IsL.row {base : Nat} {w : World} {v : Value} {g : Grid} (h : IsL 54 (PRow base) base w v g) {i : Nat} (hi : i < g.length) :
    ∃ c gb go ra rc, v = .slice (some ⟨gb, go, none⟩) g.length c ∧ w.cell? ⟨gb, go + i, none⟩ = some (.slice ra (g.getD i []).length rc) ∧ PRow base w (.slice ra (g.getD i []).length rc) (g.getD i []) := by
  obtain ⟨a, c, e, _, hv⟩ := h.view
  obtain ⟨gb, go, u, rfl, hu, hr⟩ := hv i hi
  have e2 : g[i] = g.getD i [] := by simp [hi]
  rw [e2] at hr
  have hr2 := hr
  obtain ⟨ra, rc, rfl, _⟩ := hr2
  exact ⟨c, gb, go, ra, rc, e, hu, hr⟩
theorem IsL.elem {base : Nat} {w : World} {v : Value} {g : Grid} {m : Nat} (hr : Rct g m) (h : IsL 54 (PRow base) base w v g) {i j : Nat} (hi : i < g.length) (hj : j < m) :
    ∃ c gb go rb ro rc n a l k, v = .slice (some ⟨gb, go, none⟩) g.length c ∧ w.cell? ⟨gb, go + i, none⟩ = some (.slice (some ⟨rb, ro, none⟩) m rc) ∧ w.cell? ⟨rb, ro + j * 2, none⟩ = some (.bool n) ∧ w.cell? ⟨rb, ro + j * 2 + 1, none⟩ = some (.slice a l k) ∧ IsInt w (.agg #[.bool n, .slice a l k]) (gat g i j) := by
  obtain ⟨c, gb, go, ra, rc, e, hu, hp⟩ := h.row hi
  obtain ⟨a', c', he, -, vr⟩ := hp.view
  obtain ⟨rfl, -, rfl⟩ := Value.slice.inj he
  obtain ⟨rb, ro, n, ad, len, cp, rfl, c0, c1, hI⟩ := vr j (by rw [hr i hi]; exact hj)
  rw [hr i hi] at hu
  exact ⟨c, gb, go, rb, ro, rc, n, ad, len, cp, e, hu, c0, c1, hI⟩
theorem BoxM.row {b : Nat} {w : World} {g : Grid} (h : BoxM b w g) {i : Nat} (hi : i < g.length) :
    ∃ c gb go ra rc, w.cell? ⟨b, 0, none⟩ = some (.slice (some ⟨gb, go, none⟩) g.length c) ∧ w.cell? ⟨gb, go + i, none⟩ = some (.slice ra (g.getD i []).length rc) ∧ PRow 0 w (.slice ra (g.getD i []).length rc) (g.getD i []) := by
  obtain ⟨a, c, e, h⟩ := h
  obtain ⟨c', gb, go, ra, rc, e2, hu, hp⟩ := h.row hi
  obtain ⟨rfl, -, rfl⟩ := Value.slice.inj e2
  exact ⟨c, gb, go, ra, rc, e, hu, hp⟩
theorem BoxM.elem {b : Nat} {w : World} {g : Grid} {m : Nat} (hr : Rct g m) (h : BoxM b w g) {i j : Nat} (hi : i < g.length) (hj : j < m) :
    ∃ c gb go rb ro rc n a l k, w.cell? ⟨b, 0, none⟩ = some (.slice (some ⟨gb, go, none⟩) g.length c) ∧ w.cell? ⟨gb, go + i, none⟩ = some (.slice (some ⟨rb, ro, none⟩) m rc) ∧ w.cell? ⟨rb, ro + j * 2, none⟩ = some (.bool n) ∧ w.cell? ⟨rb, ro + j * 2 + 1, none⟩ = some (.slice a l k) ∧ IsInt w (.agg #[.bool n, .slice a l k]) (gat g i j) := by
  obtain ⟨a, c, e, h⟩ := h
  obtain ⟨c', gb, go, rb, ro, rc, n, ad, l, k, e2, hu, c0, c1, hI⟩ := h.elem hr hi hj
  obtain ⟨rfl, -, rfl⟩ := Value.slice.inj e2
  exact ⟨c, gb, go, rb, ro, rc, n, ad, l, k, e, hu, c0, c1, hI⟩
set_option maxRecDepth 100000 in
theorem rowsM_c (a : Option Addr) (n c : Nat) (w : World) : Calls Tryz.prog 52 #[.agg #[.slice a n c]] w fun e w' => e = .returned (.int .i64 (n : Nat)) ∧ Below w.heap.size w w' := by
  have hB := Below.refl w.heap.size w
  go_enter Tryz.func52, Tryz.ntmps52
  go_wp2
  go_ret
  exact ⟨rfl, by repeat (first | exact Below.refl _ _ | exact hB | refine Below.drew ?_ | refine below_drewN ?_ _ | refine bset ?_ (by simp <;> omega) _ | refine bal ?_ _)⟩
set_option maxRecDepth 100000 in
set_option maxHeartbeats 1000000 in
theorem colsM_c (a : Option Addr) (c : Nat) (g : Grid) (w : World) (h : IsL 54 (PRow 0) 0 w (.slice a g.length c) g) : Calls Tryz.prog 53 #[.agg #[.slice a g.length c]] w fun e w' => e = .returned (.int .i64 (cols g : Nat)) ∧ Below w.heap.size w w' := by
  have hB := Below.refl w.heap.size w
  by_cases h0 : g.length = 0
  · have hg : g = [] := List.length_eq_zero_iff.1 h0
    subst hg
    have e : cols [] = 0 := rfl
    rw [e]
    clear h e h0
    rw [show ([] : Grid).length = 0 from rfl]
    go_enter Tryz.func53, Tryz.ntmps53
    go_wp2
    go_ret
    exact ⟨rfl, by repeat (first | exact Below.refl _ _ | exact hB | refine Below.drew ?_ | refine below_drewN ?_ _ | refine bset ?_ (by simp <;> omega) _ | refine bal ?_ _)⟩
  · obtain ⟨c', gb, go, ra, rc, e, hu, hp⟩ := h.row (show 0 < g.length by omega)
    obtain ⟨rfl, -, rfl⟩ := Value.slice.inj e
    rw [Nat.add_zero] at hu
    have zu := cell_lt hu
    have zu2 : gb < w.heap.size + 1 := by omega
    unfold cols
    obtain ⟨m, hm⟩ : ∃ m, (g.getD 0 []).length = m := ⟨_, rfl⟩
    obtain ⟨n, hn⟩ : ∃ n, g.length = n := ⟨_, rfl⟩
    rw [hm] at hu ⊢
    rw [hn] at h0 ⊢
    have hn0 : ((n : Int) == 0) = false := by simp; omega
    have hn1 : (0 : Int) < (n : Int) := by omega
    clear h hp e hm hn
    go_enter Tryz.func53, Tryz.ntmps53
    go_wp2
    go_ret
    exact ⟨rfl, by repeat (first | exact Below.refl _ _ | exact hB | refine Below.drew ?_ | refine below_drewN ?_ _ | refine bset ?_ (by simp <;> omega) _ | refine bal ?_ _)⟩
theorem IsM.setM {base : Nat} {w : World} {v : Value} {g : Grid} (h : IsM base w v g) {p : Addr} (ht : typOf w p.block = some 34) (u : Value) : IsM base (w.setCell p u) v g := by
  obtain ⟨a, c, e, h⟩ := h
  exact ⟨a, c, e, IsL.kp (S' := fun t => t ≠ 34) (prs_prow base) h ((Kp.refl _ _).set (fun t ht' => by rw [ht] at ht'; cases ht'; exact fun h => h rfl) _) (fun t ht => by rcases ht with rfl | rfl <;> decide) (by decide)⟩
/-- a function's value: the one of Identity -/
theorem ident1_c (n : Nat) (w : World) : FnF (fun i j => if i = j then 1 else 0) n n 81 #[] w := by
  intro W i j hi hj hW
  have hB := Below.refl W.heap.size W
  show Calls Tryz.prog 81 #[.int .i64 (i : Nat), .int .i64 (j : Nat)] W _
  by_cases h : i = j
  · subst h
    have oc := fun V => of_c 1 V (by decide) (by decide)
    dsimp only
    rw [if_pos rfl]
    go_enter Tryz.func81, Tryz.ntmps81
    go_wp2_with fail
    refine (oc _).mono ?_
    rintro e w1 ⟨⟨u, rfl, hu⟩, hb1⟩
    have r0 : w1.cell? ⟨W.heap.size, 0, none⟩ = some (.bool false) := bkeep hb1 (cell_new rfl rfl)
    have r1 : w1.cell? ⟨W.heap.size, 1, none⟩ = some (.slice none 0 0) := bkeep hb1 (cell_new rfl rfl)
    have r0f : w1.frozen? ⟨W.heap.size, 0, none⟩ = false := bkeepf hb1 (v := .bool false) (cell_new rfl rfl) (by simp [go_sem])
    have r1f : w1.frozen? ⟨W.heap.size, 1, none⟩ = false := bkeepf hb1 (v := .slice none 0 0) (cell_new rfl rfl) (by simp [go_sem])
    have HP := Lib.hid (hu.put2 r0 r1)
    obtain ⟨nu, au, cu, lu, rfl, -⟩ := hu
    unfold iv at *
    clear oc
    have hB1 : Below W.heap.size W w1 := bthen (by repeat (first | exact Below.refl _ _ | exact hB | refine Below.drew ?_ | refine below_drewN ?_ _ | refine bset ?_ (by simp <;> omega) _ | refine bal ?_ _)) hb1
    go_wp2
    refine bodyPost_ret (v := .agg #[.bool nu, .slice au lu.length cu]) (by simp [results, Tryz.results81, go_sem, *]) rfl ⟨⟨_, rfl, HP.out _ _⟩, ?_⟩
    repeat (first | exact Below.refl _ _ | exact hB1 | refine Below.drew ?_ | refine below_drewN ?_ _ | refine bset ?_ (by simp <;> omega) _ | refine bal ?_ _)
  · have oc := fun V => of_c 0 V (by decide) (by decide)
    dsimp only
    rw [if_neg h]
    have hij : ((i : Int) == (j : Int)) = false := by simp; omega
    go_enter Tryz.func81, Tryz.ntmps81
    go_wp2_with fail
    refine (oc _).mono ?_
    rintro e w1 ⟨⟨u, rfl, hu⟩, hb1⟩
    have r0 : w1.cell? ⟨W.heap.size, 0, none⟩ = some (.bool false) := bkeep hb1 (cell_new rfl rfl)
    have r1 : w1.cell? ⟨W.heap.size, 1, none⟩ = some (.slice none 0 0) := bkeep hb1 (cell_new rfl rfl)
    have r0f : w1.frozen? ⟨W.heap.size, 0, none⟩ = false := bkeepf hb1 (v := .bool false) (cell_new rfl rfl) (by simp [go_sem])
    have r1f : w1.frozen? ⟨W.heap.size, 1, none⟩ = false := bkeepf hb1 (v := .slice none 0 0) (cell_new rfl rfl) (by simp [go_sem])
    have HP := Lib.hid (hu.put2 r0 r1)
    obtain ⟨nu, au, cu, lu, rfl, -⟩ := hu
    unfold iv at *
    clear oc
    have hB1 : Below W.heap.size W w1 := bthen (by repeat (first | exact Below.refl _ _ | exact hB | refine Below.drew ?_ | refine below_drewN ?_ _ | refine bset ?_ (by simp <;> omega) _ | refine bal ?_ _)) hb1
    go_wp2
    refine bodyPost_ret (v := .agg #[.bool nu, .slice au lu.length cu]) (by simp [results, Tryz.results81, go_sem, *]) rfl ⟨⟨_, rfl, HP.out _ _⟩, ?_⟩
    repeat (first | exact Below.refl _ _ | exact hB1 | refine Below.drew ?_ | refine below_drewN ?_ _ | refine bset ?_ (by simp <;> omega) _ | refine bal ?_ _)
/-- the identity -/
def idG (n : Nat) : Grid := tab n n fun i j => if i = j then 1 else 0
/-- what Identity answers -/
def IdentPost (n : Int) (w : World) (e : Ending) (w' : World) : Prop :=
  ((n < 1 ∧ e = .returned (.tuple #[.agg #[.slice none 0 0], .int .i64 2])) ∨ (16 < n ∧ e = .returned (.tuple #[.agg #[.slice none 0 0], .int .i64 3])) ∨
   (1 ≤ n ∧ n ≤ 16 ∧ ∃ v, e = .returned (.tuple #[v, .int .i64 0]) ∧ IsM w.heap.size w' v (idG n.toNat))) ∧ Below w.heap.size w w'
set_option maxRecDepth 100000 in
set_option maxHeartbeats 1000000 in
theorem identity_c (n : Int) (w : World) : Calls Tryz.prog 32 #[.int .i64 n] w (IdentPost n w) := by
  have hB := Below.refl w.heap.size w
  by_cases h1 : n < 1
  ·
    go_enter Tryz.func32, Tryz.ntmps32
    go_wp2
    refine bodyPost_ret (v := .tuple #[.agg #[.slice none 0 0], .int .i64 2]) (by simp [results, Tryz.results32, go_sem, *]) rfl ⟨.inl ⟨h1, rfl⟩, ?_⟩
    repeat (first | exact Below.refl _ _ | exact hB | refine Below.drew ?_ | refine below_drewN ?_ _ | refine bset ?_ (by simp <;> omega) _ | refine bal ?_ _)
  · by_cases h2 : 16 < n
    ·
      go_enter Tryz.func32, Tryz.ntmps32
      go_wp2
      refine bodyPost_ret (v := .tuple #[.agg #[.slice none 0 0], .int .i64 3]) (by simp [results, Tryz.results32, go_sem, *]) rfl ⟨.inr (.inl ⟨h2, rfl⟩), ?_⟩
      repeat (first | exact Below.refl _ _ | exact hB | refine Below.drew ?_ | refine below_drewN ?_ _ | refine bset ?_ (by simp <;> omega) _ | refine bal ?_ _)
    · obtain ⟨k, rfl⟩ : ∃ k : Nat, n = k := ⟨n.toNat, by omega⟩
      have fc := fun W => filled_c k k (fun i j => if i = j then 1 else 0) 81 #[] W (ident1_c k W) (ens Tryz.func81 (by kernel_rfl) rfl) (by omega) (by omega)
      have hh := Lib.hid (And.intro h1 h2)
      go_enter Tryz.func32, Tryz.ntmps32
      go_wp2_with fail
      refine (fc _).mono ?_
      rintro e w1 ⟨⟨u, rfl, hu⟩, hb1⟩
      have r0 : w1.cell? ⟨w.heap.size, 0, none⟩ = some (.slice none 0 0) := bkeep hb1 (cell_new rfl rfl)
      have r0f : w1.frozen? ⟨w.heap.size, 0, none⟩ = false := bkeepf hb1 (v := .slice none 0 0) (cell_new rfl rfl) (by simp [go_sem])
      have rt : typOf w1 w.heap.size = some 34 := typ_keep (typ_fresh rfl) hb1
      have HU := Lib.hid (hu.rebase (show w.heap.size ≤ _ from (show Below w.heap.size w _ by repeat (first | exact Below.refl _ _ | exact hB | refine Below.drew ?_ | refine below_drewN ?_ _ | refine bset ?_ (by simp <;> omega) _ | refine bal ?_ _)).size))
      obtain ⟨a, c, rfl⟩ := hu.lit
      have hB1 : Below w.heap.size w w1 := bthen (by repeat (first | exact Below.refl _ _ | exact hB | refine Below.drew ?_ | refine below_drewN ?_ _ | refine bset ?_ (by simp <;> omega) _ | refine bal ?_ _)) hb1
      obtain ⟨N, hN⟩ : ∃ N, (tab k k fun i j => if i = j then 1 else 0).length = N := ⟨_, rfl⟩
      rw [hN] at HU ⊢
      clear fc hu
      go_wp2
      refine bodyPost_ret (v := .tuple #[.agg #[.slice a N c], .int .i64 0]) (by simp [results, Tryz.results32, go_sem, *]) rfl ⟨.inr (.inr ⟨by omega, by omega, _, rfl, ?_⟩), ?_⟩
      · exact (HU.out.setM rt _)
      ·
        repeat (first | exact Below.refl _ _ | exact hB1 | refine Below.drew ?_ | refine below_drewN ?_ _ | refine bset ?_ (by simp <;> omega) _ | refine bal ?_ _)
end Go.Proofs.YtkejdmdldhlkgaaGreatDoor

/- matrix: Plus, Scale, Turn, Times. -/
namespace Go.Proofs.YtkejdmdldhlkgaaGreatDoor
open Num
open Go.ChangeShapes Go.WideShapes Go.ChangeAt Go.RowKit
set_option linter.unusedVariables false
set_option linter.unusedSimpArgs false
attribute [local go_sem ↓] Go.wp_at_zero Go.wp_at_succ
/-- numbers of so many bits -/
def BdM (k : Nat) (g : Grid) : Prop := ∀ i j, Bd k (gat g i j)
theorem BdM.mono {k m : Nat} {g : Grid} (h : BdM k g) (hk : k ≤ m) : BdM m g := fun i j => (h i j).mono hk
theorem tab_out {n m : Nat} {f : Nat → Nat → Int} {i j : Nat} (h : ¬ (i < n ∧ j < m)) : gat (tab n m f) i j = 0 := by
  unfold gat tab
  by_cases hi : i < n
  · have hj : m ≤ j := Nat.le_of_not_lt fun hj => h ⟨hi, hj⟩
    simp [hi, hj]
  · have : n ≤ i := Nat.le_of_not_lt hi
    have e : ((List.range n).map fun i => (List.range m).map (f i))[i]? = none := List.getElem?_eq_none (by simpa using this)
    simp only [List.getD_eq_getElem?_getD, e]; rfl
theorem tab_bd {n m k : Nat} {f : Nat → Nat → Int} (h : ∀ i j, i < n → j < m → Bd k (f i j)) : BdM k (tab n m f) := fun i j => by
  by_cases hh : i < n ∧ j < m
  · rw [tab_gat hh.1 hh.2]; exact h i j hh.1 hh.2
  · rw [tab_out hh]; exact bd_zero
theorem FnF.mono {f : Nat → Nat → Int} {n m F : Nat} {caps : Array Value} {w w' : World} (h : FnF f n m F caps w) (k : Below w.heap.size w w') : FnF f n m F caps w' := fun W i j hi hj q => h W i j hi hj (bthen k q)
theorem IsL.box {w W : World} {b : Nat} {a : Option Addr} {c : Nat} {g : Grid} (h : IsL 54 (PRow 0) 0 w (.slice a g.length c) g) (k : Below w.heap.size w W) (hc : W.cell? ⟨b, 0, none⟩ = some (.slice a g.length c)) : BoxM b W g := ⟨a, c, hc, h.keep (prs_prow 0) k⟩
/-- what an operation answers that may be asked wrongly -/
def MOr (ok : Prop) (err : Int) (r : Grid) (w : World) (e : Ending) (w' : World) : Prop :=
  ((ok ∧ ∃ v, e = .returned (.tuple #[v, .int .i64 0]) ∧ IsM w.heap.size w' v r) ∨ (¬ ok ∧ e = .returned (.tuple #[.agg #[.slice none 0 0], .int .i64 err]))) ∧ Below w.heap.size w w'
end Go.Proofs.YtkejdmdldhlkgaaGreatDoor

/- strings.Join, laid from the shelf; lists of texts. -/
namespace Go.Proofs.YtkejdmdldhlkgaaGreatDoor
open Num
open Go.ChangeShapes Go.WideShapes Go.ChangeAt Go.RowKit
set_option linter.unusedVariables false
set_option linter.unusedSimpArgs false
def jn_lays156_ren : Go.Shelf.Ren := ⟨fun | 156 => 90 | 165 => 129 | 166 => 130 | 169 => 131 | 240 => 153 | 241 => 154 | 276 => 176 | 277 => 177 | n => n, fun | 0 => 0 | 3 => 3 | 4 => 4 | 5 => 5 | 9 => 9 | 20 => 20 | 31 => 130 | 37 => 98 | 70 => 167 | 72 => 169 | 75 => 172 | 76 => 173 | 80 => 43 | 127 => 194 | 164 => 215 | n => n, fun n => n⟩
theorem jn_lays156 : Go.Proofs.Lays.n156 Tryz.prog jn_lays156_ren := {
  mixed := by kernel_rfl
  f156 := Tryz.func90.trans (congrArg some (by kernel_rfl))
  f165 := Tryz.func129.trans (congrArg some (by kernel_rfl))
  f166 := Tryz.func130.trans (congrArg some (by kernel_rfl))
  f169 := Tryz.func131.trans (congrArg some (by kernel_rfl))
  f240 := Tryz.func153.trans (congrArg some (by kernel_rfl))
  f241 := Tryz.func154.trans (congrArg some (by kernel_rfl))
  f276 := Tryz.func176.trans (congrArg some (by kernel_rfl))
  f277 := Tryz.func177.trans (congrArg some (by kernel_rfl))
  t0 := Tryz.underlying0
  a0 := Tryz.isAgg0
  z0 := Tryz.sizeOf0
  v0 := Tryz.zeroValue0
  t3 := Tryz.underlying3
  a3 := Tryz.isAgg3
  z3 := Tryz.sizeOf3
  v3 := Tryz.zeroValue3
  t4 := Tryz.underlying4
  a4 := Tryz.isAgg4
  z4 := Tryz.sizeOf4
  v4 := Tryz.zeroValue4
  t9 := Tryz.underlying9
  a9 := Tryz.isAgg9
  z9 := Tryz.sizeOf9
  v9 := Tryz.zeroValue9
  t20 := Tryz.underlying20
  a20 := Tryz.isAgg20
  z20 := Tryz.sizeOf20
  v20 := Tryz.zeroValue20
  t31 := Tryz.underlying130
  a31 := Tryz.isAgg130
  z31 := Tryz.sizeOf130
  v31 := Tryz.zeroValue130
  t37 := Tryz.underlying98
  a37 := Tryz.isAgg98
  z37 := Tryz.sizeOf98
  v37 := Tryz.zeroValue98
  t70 := Tryz.underlying167
  a70 := Tryz.isAgg167
  z70 := Tryz.sizeOf167
  v70 := Tryz.zeroValue167
  t72 := Tryz.underlying169
  a72 := Tryz.isAgg169
  z72 := Tryz.sizeOf169
  v72 := Tryz.zeroValue169
  t75 := Tryz.underlying172
  a75 := Tryz.isAgg172
  z75 := Tryz.sizeOf172
  v75 := Tryz.zeroValue172
  t76 := Tryz.underlying173
  a76 := Tryz.isAgg173
  z76 := Tryz.sizeOf173
  v76 := Tryz.zeroValue173
  t127 := Tryz.underlying194
  a127 := Tryz.isAgg194
  z127 := Tryz.sizeOf194
  v127 := Tryz.zeroValue194
  t164 := Tryz.underlying215
  a164 := Tryz.isAgg215
  z164 := Tryz.sizeOf215
  v164 := Tryz.zeroValue215 }
theorem jn_Builder_Extra : Go.Proofs.Builder.Extra Tryz.prog jn_lays156_ren := {
  sizeBuilder := by kernel_rfl
  liesBuilder := by kernel_rfl
  t5 := Tryz.underlying5
  a5 := Tryz.isAgg5
  z5 := Tryz.sizeOf5
  v5 := Tryz.zeroValue5
  infoByte := by kernel_rfl
  cellsByte := by kernel_rfl
  sizeByte := by kernel_rfl
  neB5 := by decide }
/-- a text in a list of texts -/
def PTx (w : World) (u : Value) (x : List UInt8) : Prop := u = .string ⟨x.toArray⟩
theorem prs_ptx : Prs (fun _ => False) PTx := ⟨fun h => by cases h; rfl, fun h _ => h⟩
theorem infoStr : (Tryz.prog.info? 9).map (fun i => (i.zero, i.size, i.bytes)) = some (some (.string ⟨#[]⟩), 1, 16) := by kernel_rfl
theorem elStr : Elt Tryz.prog 130 9 1 16 := Elt.mk' Tryz.underlying130 infoStr rfl (by decide) (by decide)
theorem txt_back (L : List (List UInt8)) : (L.map fun x => (⟨x.toArray⟩ : ByteArray)).map (·.data.toList) = L := by
  rw [List.map_map]; conv => rhs; rw [← List.map_id L]
  rfl
theorem join_c (v : Value) (L : List (List UInt8)) (base : Nat) (w : World) (hv : IsL 9 PTx base w v L) (hN : L.length ≤ 140737488355328) (hlen : (Lib.join L [32]).length ≤ 140737488355328) :
    Calls Tryz.prog 90 #[v, .string ⟨#[32]⟩] w fun e w' => e = .returned (.string ⟨(Lib.join L [32]).toArray⟩) ∧ Below w.heap.size w w' := by
  obtain ⟨a, c, rfl, hcap, hvw⟩ := hv.view
  cases L with
  | nil =>
    have h := (Any.strings_Join_none jn_lays156 jn_Builder_Extra a c ⟨#[32]⟩ w).mono fun e w' ⟨he, hw⟩ => (⟨he, hw ▸ Below.refl _ _⟩ : _ ∧ Below w.heap.size w w')
    exact h
  | cons x L =>
    obtain ⟨b, off, u, rfl, hu, -⟩ := hvw 0 (by simp)
    have h := Any.strings_Join jn_lays156 jn_Builder_Extra b off c ((x :: L).map fun x => (⟨x.toArray⟩ : ByteArray)) ⟨#[32]⟩ w (fun j y hj => by
      rw [List.getElem?_map] at hj
      obtain ⟨z, hz, rfl⟩ := Option.map_eq_some_iff.1 hj
      obtain ⟨hj', rfl⟩ := List.getElem?_eq_some_iff.1 hz
      obtain ⟨b2, off2, u2, e2, hu2, hp⟩ := hvw j hj'
      cases e2
      rw [← show u2 = _ from hp]; exact hu2) (cell_lt hu) (by simpa using hN) (by simpa using hcap) (by rw [txt_back]; exact hlen)
    rw [txt_back, List.length_map] at h
    exact h
end Go.Proofs.YtkejdmdldhlkgaaGreatDoor

