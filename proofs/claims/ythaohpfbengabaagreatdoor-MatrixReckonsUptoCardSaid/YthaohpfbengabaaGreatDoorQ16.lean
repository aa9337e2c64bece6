/- Texts of this seat, laid together: MwJ, MwK, Rdt, MwN, MwO, MwP, MwQ. Each opens with its own remark, which says what it proves, and under which conditions. -/
import Derived.Test.YthaohpfbengabaaGreatDoorQ15
import Derived.Test.YthaohpfbengabaaGreatDoorQ11
import Derived.Test.YthaohpfbengabaaGreatDoorQ02
set_option linter.unusedVariables false
set_option linter.unusedSimpArgs false
/- matrix: Apply. -/
namespace Go.Proofs.YthaohpfbengabaaGreatDoor
open Num
open Go.ChangeShapes Go.WideShapes Go.ChangeAt Go.RowKit
set_option linter.unusedVariables false
set_option linter.unusedSimpArgs false
attribute [local go_sem ↓] Go.wp_at_zero Go.wp_at_succ
/-- what a matrix turns numbers into -/
def applyG (g : Grid) (l : List Int) : List Int := g.map fun r => dotL r l
/-- what Apply answers -/
def AppPost (g : Grid) (l : List Int) (w : World) (e : Ending) (w' : World) : Prop :=
  ((cols g ≠ 0 ∧ l.length = cols g ∧ ∃ v, e = .returned (.tuple #[v, .int .i64 0]) ∧ RowO IsInt 36 w.heap.size w' v (applyG g l)) ∨ (¬ (cols g ≠ 0 ∧ l.length = cols g) ∧ e = .returned (.tuple #[.slice none 0 0, .int .i64 5]))) ∧ Below w.heap.size w w'
theorem app_get {g : Grid} {l : List Int} {i : Nat} (h : i < g.length) : (applyG g l).getD i 0 = dotL (g.getD i []) l := by simp [applyG, h]
set_option maxRecDepth 100000 in
set_option maxHeartbeats 8000000 in
theorem applyM_c (vm vl : Value) (g : Grid) (l : List Int) (k m : Nat) (w : World) (hm : IsM 0 w vm g) (hv : PRow 0 w vl l) (rg : Rct g (cols g)) (hn : g.length ≤ 65536) (hc : cols g ≤ 65536) (hl : l.length ≤ 1099511627775) (bg : BdM k g) (bl : ∀ j, Bd m (l.getD j 0)) (hk : k + m + cols g ≤ 17179869184) :
    Calls Tryz.prog 44 #[vm, vl] w (AppPost g l w) := by
  have HM := Lib.hid hm
  have HV := Lib.hid hv
  have HRG := Lib.hid rg
  have HBD := Lib.hid (And.intro bg bl)
  obtain ⟨a, c, rfl, -⟩ := hm
  obtain ⟨la, lc, rfl, -⟩ := hv
  have COC := Lib.hid (fun V (q : Below w.heap.size w V) => (show Calls Tryz.prog 61 #[.agg #[.slice a g.length c]] V fun e w' => e = .returned (.int .i64 (cols g : Nat)) ∧ Below V.heap.size V w' from by
    obtain ⟨a', c', e, hl⟩ := HM.out.keep q
    cases e
    exact colsM_c _ _ g V hl))
  have hzg : g.length = 0 → cols g = 0 := fun h => by rw [List.length_eq_zero_iff.1 h]; rfl
  have HZG := Lib.hid hzg
  have HAP := Lib.hid (fun i (h : i < g.length) => app_get (l := l) h)
  have HAL := Lib.hid (show (applyG g l).length = g.length by simp [applyG])
  unfold AppPost
  obtain ⟨n, hnE⟩ : ∃ n, g.length = n := ⟨_, rfl⟩
  have HN := Lib.hid hnE
  obtain ⟨cc, hcE⟩ : ∃ n, cols g = n := ⟨_, rfl⟩
  rw [hnE] at COC hn HZG
  rw [hcE] at COC hc hk HRG HZG
  have HCC := Lib.hid hcE
  rw [hnE]
  clear rg bg bl hnE hcE hzg
  have hB := Below.refl w.heap.size w
  by_cases h0 : cc = 0
  · have hI : ((cc : Int) == 0) = true := by simp [h0]
    have HNO := Lib.hid (show ¬ (cols g ≠ 0 ∧ l.length = cols g) from fun h => h.1 (by rw [HCC.out]; exact h0))
    clear h0
    go_enter Tryz.func44, Tryz.ntmps44
    go_wp2_with fail
    (with_reducible refine (COC.out _ ?_).mono ?_); (repeat (first | exact Below.refl _ _ | exact hB | refine Below.drew ?_ | refine below_drewN ?_ _ | refine bset ?_ (by simp <;> omega) _ | refine bal ?_ _))
    rintro e w1 ⟨rfl, hb1⟩
    have hB1 : Below w.heap.size w w1 := bthen (by repeat (first | exact Below.refl _ _ | exact hB | refine Below.drew ?_ | refine below_drewN ?_ _ | refine bset ?_ (by simp <;> omega) _ | refine bal ?_ _)) hb1
    clear COC
    go_wp2
    refine bodyPost_ret (v := .tuple #[.slice none 0 0, .int .i64 5]) (by simp [results, Tryz.results44, go_sem, *]) rfl ⟨.inr ⟨HNO.out, rfl⟩, hB1⟩
  · have hI : ((cc : Int) == 0) = false := by simp; omega
    by_cases hlc : l.length = cc
    · have HYES := Lib.hid (show cols g ≠ 0 ∧ l.length = cols g from by rw [HCC.out]; exact ⟨h0, hlc⟩)
      have hI2 : ((l.length : Int) != (cc : Int)) = false := by simp [hlc]
      have HLC := Lib.hid hlc
      obtain ⟨ll, hll⟩ : ∃ x, l.length = x := ⟨_, rfl⟩
      rw [hll] at hI2 hl HLC
      have HLL := Lib.hid hll
      have hnp : 0 < n := Nat.pos_of_ne_zero fun e => h0 (HZG.out e)
      rw [hll] at hlc
      rw [hll]
      clear h0 hlc hll
      go_enter Tryz.func44, Tryz.ntmps44
      go_wp2_with fail
      (with_reducible refine (COC.out _ ?_).mono ?_); (repeat (first | exact Below.refl _ _ | exact hB | refine Below.drew ?_ | refine below_drewN ?_ _ | refine bset ?_ (by simp <;> omega) _ | refine bal ?_ _))
      rintro e w1 ⟨rfl, hb1⟩
      have m0 : w1.cell? ⟨w.heap.size, 0, none⟩ = some (.slice a n c) := bkc hb1
      have zm0 := cell_lt m0
      have hB : Below w.heap.size w w1 := bthen (by repeat (first | exact Below.refl _ _ | exact hB | refine Below.drew ?_ | refine below_drewN ?_ _ | refine bset ?_ (by simp <;> omega) _ | refine bal ?_ _)) hb1
      have hz : w.heap.size ≤ w1.heap.size := hB.size
      go_wp2_with fail
      (with_reducible refine (COC.out _ ?_).mono ?_); (repeat (first | exact Below.refl _ _ | exact hB | refine Below.drew ?_ | refine below_drewN ?_ _ | refine bset ?_ (by simp <;> omega) _ | refine bal ?_ _))
      rintro e w2 ⟨rfl, hb2⟩
      have m0 : w2.cell? ⟨w.heap.size, 0, none⟩ = some (.slice a n c) := bkc hb2
      have zm0 := cell_lt m0
      have hB : Below w.heap.size w w2 := bthen (by repeat (first | exact Below.refl _ _ | exact hB | refine Below.drew ?_ | refine below_drewN ?_ _ | refine bset ?_ (by simp <;> omega) _ | refine bal ?_ _)) hb2
      have hz : w.heap.size ≤ w2.heap.size := hB.size
      have HM2 := Lib.hid (HM.out.keep hB)
      have HV2 := Lib.hid (HV.out.keep lims_int hB)
      obtain ⟨gb, go, rfl⟩ : ∃ gb go, a = some ⟨gb, go, none⟩ := by
        obtain ⟨gb, go, ra, rc, e, -⟩ := HM.out.rowAt (i := 0) (by rw [HN.out]; exact hnp)
        exact ⟨gb, go, e⟩
      have hB22 := Below.refl w2.heap.size w2
      clear COC hb1 hb2
      go_wp2
      go_loopw [6, 24] (fun v x wr => ∃ i : Nat, i ≤ n ∧ x = .int .i64 i ∧ Hid (OwnF IsInt 36 w2 wr v ((applyG g l).take i).length (fun t => ((applyG g l).take i).getD t 0))) (fun _ x _ => n - (intOf x).toNat)
      case atStart => exact ⟨0, Nat.zero_le _, rfl, Lib.hid (OwnF.nil _ _ _ hB22)⟩
      case round =>
        obtain ⟨i, hi, rfl, hF⟩ := hrel
        have hBr := hF.out.bel
        have hlt' : ((applyG g l).take i).length = i := by rw [List.length_take, HAL.out, HN.out]; omega
        have HLT := Lib.hid hlt'
        obtain ⟨fa, fc, hfv⟩ : ∃ a c, _ = Value.slice a i c := by obtain ⟨a, c, h, _⟩ := hF.out.view; rw [hlt'] at h; exact ⟨a, c, h⟩
        subst hfv
        clear hlt'
        by_cases hlt : i < n
        · have hltI : (i : Int) < (n : Int) := by omega
          have hig : i < g.length := by rw [HN.out]; exact hlt
          obtain ⟨gb2, go2, ra, rc, e2, hu, hp⟩ := (HM2.out.keep hBr).rowAt hig
          obtain ⟨rfl, rfl⟩ : gb = gb2 ∧ go = go2 := by simp at e2; exact e2
          have hrl := HRG.out i hig
          have hbj : ∀ t, Bd k ((g.getD i []).getD t 0) := fun t => HBD.out.1 i t
          have HAI := Lib.hid (HAP.out i hig)
          obtain ⟨row, hrow⟩ : ∃ r, g.getD i [] = r := ⟨_, rfl⟩
          rw [hrow] at hu hp hrl hbj HAI
          have DC := Lib.hid (fun W (q : Below wr.heap.size wr W) => dot_c (.slice ra row.length rc) (.slice la ll lc) row l k m W (hp.keep lims_int q) (by rw [← HLL.out]; exact (HV2.out.keep lims_int (bthen hBr q))) (by rw [hrl]; omega) (by rw [hrl, HLL.out, HLC.out]) hbj HBD.out.2 (by rw [hrl]; exact hk))
          have HTK := Lib.hid (take_getD (l := applyG g l) (k := i) 0 (by rw [HAL.out]; exact hig))
          rw [HAI.out] at HTK
          obtain ⟨z, hz⟩ : ∃ z, dotL row l = z := ⟨_, rfl⟩
          rw [hz] at DC HTK
          rw [hrl] at hu DC
          have zu := cell_lt hu
          have hBw := Below.refl wr.heap.size wr
          clear e2 hp hrow hbj hz hrl
          go_wp2_with fail
          (with_reducible refine (DC.out _ ?_).mono ?_); (repeat (first | exact Below.refl _ _ | exact hBw | refine Below.drew ?_ | refine below_drewN ?_ _ | refine bset ?_ (by simp <;> omega) _ | refine bal ?_ _))
          rintro e w5 ⟨⟨v5, rfl, hi5⟩, hb5⟩
          have hb5' : Below wr.heap.size wr w5 := bthen (by repeat (first | exact Below.refl _ _ | exact hBw | refine Below.drew ?_ | refine below_drewN ?_ _ | refine bset ?_ (by simp <;> omega) _ | refine bal ?_ _)) hb5
          have HF5 := Lib.hid (hF.out.below lims_int hb5')
          have HI5 := Lib.hid hi5
          obtain ⟨n5, a5, c5, l5, rfl, -⟩ := hi5
          unfold iv at *
          clear DC hu hF
          obtain ⟨L, hL⟩ : ∃ L, (applyG g l).take i = L := ⟨_, rfl⟩
          rw [hL] at HF5 HTK HLT
          have hLn : L.length + [z].length ≤ 1099511627776 := by rw [HLT.out]; simp; omega
          clear hL
          go_wp2_with (at_builtin; refine app_cat (l := [z]) (b := w5.heap.size + 1) (off := 0) (by rfl) (by rfl) (HF5.out.below lims_int (bal (bal (Below.refl _ _) _) _)) (fun k hk => by
            have hk0 : k = 0 := by simpa using hk
            subst hk0
            exact ⟨n5, a5, l5.length, c5, cell_new (by simp) rfl, cell_new (by simp) rfl, HI5.out.keep (bal (bal (Below.refl _ _) _) _)⟩) (by rfl) (by rfl) hLn ?_)
          intro v' w8 HO7
          have HF8 := Lib.hid (show OwnF IsInt 36 w2 w8 v' (L ++ [z]).length (fun t => (L ++ [z]).getD t 0) from by rw [List.length_append]; exact HO7.out)
          rw [← HTK.out] at HF8
          clear HO7
          go_wp2
          exact ⟨⟨i + 1, hlt, by go_num, HF8⟩, meas hlt (by go_num) rfl⟩
        · obtain rfl : i = n := by omega
          have HRO := Lib.hid (show RowO IsInt 36 w.heap.size wr _ (applyG g l) from (OwnF.rowO (w0 := w2) (by have h := hF.out; rw [List.take_of_length_le (by rw [HAL.out, HN.out]; exact Nat.le_refl _)] at h; exact h)).rebase hB.size)
          have hB5 := bthen hB hBr
          clear hF
          go_wp2
          refine bodyPost_ret (v := .tuple #[.slice fa i fc, .int .i64 0]) (by simp [results, Tryz.results44, go_sem, *]) rfl ⟨.inl ⟨HYES.out.1, by rw [← HYES.out.2, HLL.out], _, rfl, HRO.out⟩, hB5⟩
    · have hI2 : ((l.length : Int) != (cc : Int)) = true := by simp; omega
      have HNO := Lib.hid (show ¬ (cols g ≠ 0 ∧ l.length = cols g) from fun h => hlc (by rw [← HCC.out]; exact h.2))
      clear h0 hlc
      go_enter Tryz.func44, Tryz.ntmps44
      go_wp2_with fail
      (with_reducible refine (COC.out _ ?_).mono ?_); (repeat (first | exact Below.refl _ _ | exact hB | refine Below.drew ?_ | refine below_drewN ?_ _ | refine bset ?_ (by simp <;> omega) _ | refine bal ?_ _))
      rintro e w1 ⟨rfl, hb1⟩
      have m0 : w1.cell? ⟨w.heap.size, 0, none⟩ = some (.slice a n c) := bkc hb1
      have zm0 := cell_lt m0
      have hB : Below w.heap.size w w1 := bthen (by repeat (first | exact Below.refl _ _ | exact hB | refine Below.drew ?_ | refine below_drewN ?_ _ | refine bset ?_ (by simp <;> omega) _ | refine bal ?_ _)) hb1
      have hz : w.heap.size ≤ w1.heap.size := hB.size
      go_wp2_with fail
      (with_reducible refine (COC.out _ ?_).mono ?_); (repeat (first | exact Below.refl _ _ | exact hB | refine Below.drew ?_ | refine below_drewN ?_ _ | refine bset ?_ (by simp <;> omega) _ | refine bal ?_ _))
      rintro e w2 ⟨rfl, hb2⟩
      have m0 : w2.cell? ⟨w.heap.size, 0, none⟩ = some (.slice a n c) := bkc hb2
      have zm0 := cell_lt m0
      have hB : Below w.heap.size w w2 := bthen (by repeat (first | exact Below.refl _ _ | exact hB | refine Below.drew ?_ | refine below_drewN ?_ _ | refine bset ?_ (by simp <;> omega) _ | refine bal ?_ _)) hb2
      have hz : w.heap.size ≤ w2.heap.size := hB.size
      clear COC
      go_wp2
      refine bodyPost_ret (v := .tuple #[.slice none 0 0, .int .i64 5]) (by simp [results, Tryz.results44, go_sem, *]) rfl ⟨.inr ⟨HNO.out, rfl⟩, hB⟩
end Go.Proofs.YthaohpfbengabaaGreatDoor

/- matrices, plain: the laws of sums and products. -/
namespace Go.Proofs.YthaohpfbengabaaGreatDoor
open Num
set_option linter.unusedVariables false
set_option linter.unusedSimpArgs false
theorem times_len (g h : Grid) : (timesG g h).length = g.length := tab_len _ _ _
theorem times_cols {g h : Grid} (hg : 0 < g.length) : cols (timesG g h) = cols h := tab_cols _ hg
theorem times_rct (g h : Grid) : Rct (timesG g h) (cols h) := tab_rect _ _ _
theorem turn_len (g : Grid) : (turnG g).length = cols g := tab_len _ _ _
theorem turn_cols {g : Grid} (h : 0 < cols g) : cols (turnG g) = g.length := tab_cols _ h
theorem plus_len (g h : Grid) : (plusG g h).length = g.length := tab_len _ _ _
theorem plus_cols {g h : Grid} (hg : 0 < g.length) : cols (plusG g h) = cols g := tab_cols _ hg
/-- the sum of products, by places -/
theorem dotL_isum : ∀ (a b : List Int), a.length = b.length → dotL a b = Det.isum a.length fun t => a.getD t 0 * b.getD t 0 := by
  intro a b h
  have key : ∀ n, n ≤ a.length → dotL (a.take n) (b.take n) = Det.isum n fun t => a.getD t 0 * b.getD t 0 := by
    intro n
    induction n with
    | zero => intro _; rfl
    | succ n ih =>
      intro hn
      have e1 : a.take (n + 1) = a.take n ++ [a.getD n 0] := take_getD 0 (by omega)
      have e2 : b.take (n + 1) = b.take n ++ [b.getD n 0] := take_getD 0 (by omega)
      show dotL (a.take (n + 1)) (b.take (n + 1)) = Det.isum n _ + a.getD n 0 * b.getD n 0
      rw [e1, e2, ← ih (by omega)]
      unfold dotL
      rw [List.zipWith_append (by rw [List.length_take, List.length_take, h])]
      show sumL (_ ++ [a.getD n 0 * b.getD n 0]) = _
      rw [sumL_snoc]
  have := key a.length (Nat.le_refl _)
  rw [List.take_length, h, List.take_length] at this
  rw [h]; exact this
theorem app_len (g : Grid) (l : List Int) : (applyG g l).length = g.length := by simp [applyG]
theorem app_at {g : Grid} {l : List Int} {m i : Nat} (hr : Rct g m) (hl : l.length = m) (hi : i < g.length) : (applyG g l).getD i 0 = Det.isum m fun t => gat g i t * l.getD t 0 := by
  rw [app_get hi, dotL_isum _ _ (by rw [hr i hi, hl]), hr i hi]; rfl
end Go.Proofs.YthaohpfbengabaaGreatDoor

/- The reference: Dot of two rows. -/
namespace Go.Proofs.YthaohpfbengabaaGreatDoor
open Num
open Go.ChangeShapes Go.WideShapes Go.ChangeAt Go.RowKit
set_option linter.unusedVariables false
set_option linter.unusedSimpArgs false
attribute [local go_sem ↓] Go.wp_at_zero Go.wp_at_succ
/-- a variable in memory that holds a number of the reference -/
def VarQ (ub : Nat) (m : Int) (W : World) : Prop := ∃ n a ln c, W.cell? ⟨ub, 0, none⟩ = some (.bool n) ∧ W.cell? ⟨ub, 1, none⟩ = some (.slice a ln c) ∧ W.frozen? ⟨ub, 0, none⟩ = false ∧ W.frozen? ⟨ub, 1, none⟩ = false ∧ IsRef W (.agg #[.bool n, .slice a ln c]) m
theorem VarQ.put {ub : Nat} {m z : Int} {W : World} {n : Bool} {a : Option Addr} {ln c : Nat} (h : VarQ ub m W) (hi : IsRef W (.agg #[.bool n, .slice a ln c]) z) : VarQ ub z ((W.setCell ⟨ub, 0, none⟩ (.bool n)).setCell ⟨ub, 1, none⟩ (.slice a ln c)) := by
  obtain ⟨n', a', ln', c', h0, h1, f0, f1, _⟩ := h
  refine ⟨n, a, ln, c, cell_far (cell_here h0 _) (by simp) _, cell_here (cell_far h1 (by simp) _) _, ?_, ?_, hi.put2 h0 h1 _ _⟩
  · rw [World.frozen?_setCell, World.frozen?_setCell]; exact f0
  · rw [World.frozen?_setCell, World.frozen?_setCell]; exact f1
theorem VarQ.keep {ub : Nat} {m : Int} {W V : World} (h : VarQ ub m W) (k : Below W.heap.size W V) : VarQ ub m V := by
  obtain ⟨n, a, ln, c, h0, h1, f0, f1, hi⟩ := h
  exact ⟨n, a, ln, c, bkeep k h0, bkeep k h1, bkeepf k h0 f0, bkeepf k h1 f1, hi.keep k⟩
set_option maxRecDepth 100000 in
set_option maxHeartbeats 8000000 in
theorem rdot_c (va vb : Value) (la lb : List Int) (k m : Nat) (w : World) (ha : RRow 0 w va la) (hb : RRow 0 w vb lb) (hl : la.length ≤ 1099511627775) (he : la.length = lb.length) (ba : ∀ j, Bd k (la.getD j 0)) (bb : ∀ j, Bd m (lb.getD j 0)) (hk : k + m + la.length ≤ 17179869184) :
    Calls Tryz.prog 96 #[va, vb] w fun e w' => (∃ u, e = .returned u ∧ IsRef w' u (dotL la lb)) ∧ Below w.heap.size w w' := by
  have HA := Lib.hid ha
  have HBB := Lib.hid hb
  have HBD := Lib.hid (And.intro ba (And.intro bb (zip_bd ba bb)))
  obtain ⟨aa, ca, rfl, -⟩ := ha
  obtain ⟨ab, cb, rfl, -⟩ := hb
  have HE := Lib.hid he
  have hzl : (List.zipWith (fun x y => x * y) la lb).length = la.length := by rw [List.length_zipWith]; omega
  have HZL := Lib.hid hzl
  have HZG := Lib.hid (fun j (hj : j < la.length) => (zip_getD (f := fun x y => x * y) hj (by omega : j < lb.length)))
  unfold dotL
  obtain ⟨L, hL⟩ : ∃ L, List.zipWith (fun x y => x * y) la lb = L := ⟨_, rfl⟩
  rw [hL] at HBD HZL HZG ⊢
  clear ba bb he hzl hL
  have hB := Below.refl w.heap.size w
  go_enter Tryz.func96, Tryz.ntmps96
  go_wp2
  refine wp_name fun w0 hW0 => ?_
  have hB0 : Below w.heap.size w w0 := by rw [hW0]; repeat (first | exact Below.refl _ _ | exact hB | refine Below.drew ?_ | refine below_drewN ?_ _ | refine bset ?_ (by simp <;> omega) _ | refine bal ?_ _)
  have HR0 := Lib.hid (show w0.cell? ⟨w.heap.size, 0, none⟩ = some (.bool false) ∧ w0.cell? ⟨w.heap.size, 1, none⟩ = some (.slice none 0 0) ∧ w0.frozen? ⟨w.heap.size, 0, none⟩ = false ∧ w0.frozen? ⟨w.heap.size, 1, none⟩ = false from by rw [hW0]; simp [go_sem])
  have HM0 := Lib.hid (show VarQ (w.heap.size + 1) 0 w0 from by rw [hW0]; exact ⟨false, none, 0, 0, by simp [go_sem], by simp [go_sem], by simp [go_sem], by simp [go_sem], isRef_zero _⟩)
  clear hW0
  go_loopw [6] (fun x wr => ∃ j : Nat, j ≤ la.length ∧ x = .int .i64 j ∧ Below w.heap.size w wr ∧ Hid (wr.cell? ⟨w.heap.size, 0, none⟩ = some (.bool false) ∧ wr.cell? ⟨w.heap.size, 1, none⟩ = some (.slice none 0 0) ∧ wr.frozen? ⟨w.heap.size, 0, none⟩ = false ∧ wr.frozen? ⟨w.heap.size, 1, none⟩ = false) ∧ Hid (VarQ (w.heap.size + 1) (sumL (L.take j)) wr)) (fun x _ => la.length - (intOf x).toNat)
  case atStart => exact ⟨0, Nat.zero_le _, rfl, hB0, HR0, HM0⟩
  case round =>
    obtain ⟨j, hj, rfl, hBr, HR, hM⟩ := hrel
    obtain ⟨n0, a0, ln0, c0, m0, m1, m0f, m1f, hi0⟩ := hM.out
    obtain ⟨r0, r1, r0f, r1f⟩ := HR.out
    have HI0 := Lib.hid hi0
    have zm := cell_lt m0
    have zr := cell_lt r0
    clear hi0
    by_cases hlt : j < la.length
    · have hltI : (j : Int) < (la.length : Int) := by omega
      have hltB : (j : Int) < (lb.length : Int) := by have := HE.out; omega
      obtain ⟨a', c', he, -, vr⟩ := (HA.out.keep lims_ref hBr).view
      obtain ⟨rfl, -, rfl⟩ := Value.slice.inj he
      obtain ⟨b, off, n2, a2, l2, cc2, rfl, d0, d1, hi⟩ := vr j hlt
      obtain ⟨a', c', he2, -, vr2⟩ := (HBB.out.keep lims_ref hBr).view
      obtain ⟨rfl, -, rfl⟩ := Value.slice.inj he2
      obtain ⟨bb, offb, n3, a3, l3, cc3, rfl, f0, f1, hi2⟩ := vr2 j (by have := HE.out; omega)
      have HW := Lib.hid (sumL_take (show j < L.length by rw [HZL.out]; exact hlt))
      have bs := sumL_bd HBD.out.2.2 j (by rw [HZL.out]; omega)
      have bp := (HBD.out.2.2 j).mono (show k + m ≤ k + m + j by omega)
      have bx := HBD.out.1 j
      have by' := HBD.out.2.1 j
      have hzg := HZG.out j hlt
      obtain ⟨x, hx⟩ : ∃ x, la.getD j 0 = x := ⟨_, rfl⟩
      obtain ⟨y, hy⟩ : ∃ y, lb.getD j 0 = y := ⟨_, rfl⟩
      rw [hx] at hi bx hzg
      rw [hy] at hi2 by' hzg
      rw [hzg] at HW bp
      obtain ⟨s, hs⟩ : ∃ s, sumL (L.take j) = s := ⟨_, rfl⟩
      rw [hs] at HI0 HW hM bs
      have zd := cell_lt d0
      have zf := cell_lt f0
      have HX := Lib.hid (And.intro hi hi2)
      have HBP := Lib.hid (And.intro bs (And.intro bp (And.intro bx by')))
      have mc := fun W (h : Below wr.heap.size wr W) => rmul_c _ _ x y k m W (HX.out.1.keep h) (HX.out.2.keep h) HBP.out.2.2.1 HBP.out.2.2.2 (by omega) (by omega)
      have ac := fun u W (h : Below wr.heap.size wr W) (hu : IsRef W u (x * y)) => radd_c _ u s (x * y) (k + m + j) W (HI0.out.keep h) hu HBP.out.1 HBP.out.2.1 (by omega)
      have HS := Lib.hid (show ∀ W, Below wr.heap.size wr W → W.cell? ⟨b, off + j * 2, none⟩ = some (.bool n2) ∧ W.cell? ⟨b, off + j * 2 + 1, none⟩ = some (.slice a2 l2 cc2) ∧ W.cell? ⟨bb, offb + j * 2, none⟩ = some (.bool n3) ∧ W.cell? ⟨bb, offb + j * 2 + 1, none⟩ = some (.slice a3 l3 cc3) ∧ W.cell? ⟨w.heap.size + 1, 0, none⟩ = some (.bool n0) ∧ W.cell? ⟨w.heap.size + 1, 1, none⟩ = some (.slice a0 ln0 c0) ∧ W.frozen? ⟨w.heap.size + 1, 0, none⟩ = false ∧ W.frozen? ⟨w.heap.size + 1, 1, none⟩ = false from fun W h => ⟨bkeep h d0, bkeep h d1, bkeep h f0, bkeep h f1, bkeep h m0, bkeep h m1, bkeepf h m0 m0f, bkeepf h m1 m1f⟩)
      clear hx hy hs he vr he2 vr2 hi hi2 bs bp bx by' hzg
      have hBw := Below.refl wr.heap.size wr
      go_wp2
      go_region_law (go_simp; go_wp2_with (first
        | (go_at_call 128; refine (mc _ ?_).mono ?_; (repeat (first | exact Below.refl _ _ | exact hBw | refine Below.drew ?_ | refine below_drewN ?_ _ | refine bset ?_ (by simp <;> omega) _ | refine bal ?_ _)); rintro e w5 ⟨⟨v5, rfl, hv5⟩, hb5⟩; (have hBd : Below wr.heap.size wr w5 := bthen (by repeat (first | exact Below.refl _ _ | exact hBw | refine Below.drew ?_ | refine below_drewN ?_ _ | refine bset ?_ (by simp <;> omega) _ | refine bal ?_ _)) hb5; clear hBw; have hBw := hBd; clear hBd); obtain ⟨d0, d1, f0, f1, m0, m1, m0f, m1f⟩ := HS.out w5 hBw; have zm5 := cell_lt m0; have zd5 := cell_lt d0; have zf5 := cell_lt f0; have HV5 := Lib.hid hv5; obtain ⟨n5, a5, c5, l5, rfl, -⟩ := hv5; unfold iv at *)
        | (go_at_call 144; refine (ac _ _ ?_ ?_).mono ?_; (repeat (first | exact Below.refl _ _ | exact hBw | refine Below.drew ?_ | refine below_drewN ?_ _ | refine bset ?_ (by simp <;> omega) _ | refine bal ?_ _)); (refine HV5.out.keep ?_; have hBz := Below.refl w5.heap.size w5; (repeat (first | exact Below.refl _ _ | exact hBz | refine Below.drew ?_ | refine below_drewN ?_ _ | refine bset ?_ (by simp <;> omega) _ | refine bal ?_ _))); rintro e w6 ⟨⟨v6, rfl, hv6⟩, hb6⟩; (have hBd : Below wr.heap.size wr w6 := bthen (by repeat (first | exact Below.refl _ _ | exact hBw | refine Below.drew ?_ | refine below_drewN ?_ _ | refine bset ?_ (by simp <;> omega) _ | refine bal ?_ _)) hb6; clear hBw; have hBw := hBd; clear hBd); obtain ⟨d0, d1, f0, f1, m0, m1, m0f, m1f⟩ := HS.out w6 hBw; have zm6 := cell_lt m0; have HV6 := Lib.hid hv6; obtain ⟨n6, a6, c6, l6, rfl, -⟩ := hv6; unfold iv at *)
        | fail))
      all_goals
        have HV2 := Lib.hid ((hM.out.keep hBw).put HV6.out)
        have hB2 := bthen hBr hBw
        have r0' := bkeep hBw r0
        have r1' := bkeep hBw r1
        have r0f' := bkeepf hBw r0 r0f
        have r1f' := bkeepf hBw r1 r1f
        clear mc ac HS
        go_wp2
        refine ⟨⟨j + 1, by omega, by go_num, bset (bset hB2 (by show w.heap.size ≤ w.heap.size + 1; omega) _) (by show w.heap.size ≤ w.heap.size + 1; omega) _, Lib.hid ⟨cell_far (cell_far r0' (addr_ne (by omega)) _) (addr_ne (by omega)) _, cell_far (cell_far r1' (addr_ne (by omega)) _) (addr_ne (by omega)) _, ?_, ?_⟩, Lib.hid (by rw [HW.out]; exact HV2.out)⟩, by simp [intOf]; omega⟩
        · rw [World.frozen?_setCell, World.frozen?_setCell]; exact r0f'
        · rw [World.frozen?_setCell, World.frozen?_setCell]; exact r1f'
    · obtain rfl : j = la.length := by omega
      rw [← HZL.out, List.take_length] at HI0
      have hp := Lib.hid (HI0.out.put2 r0 r1)
      go_wp2
      refine bodyPost_ret (v := .agg #[.bool n0, .slice a0 ln0 c0]) (by simp [results, Tryz.results96, go_sem, *]) rfl ⟨⟨_, rfl, hp.out _ _⟩, ?_⟩
      repeat (first | exact Below.refl _ _ | exact hBr | refine Below.drew ?_ | refine below_drewN ?_ _ | refine bset ?_ (by simp <;> omega) _ | refine bal ?_ _)
end Go.Proofs.YthaohpfbengabaaGreatDoor

/- the reference's matrices: Plus, Scale, Apply. -/
namespace Go.Proofs.YthaohpfbengabaaGreatDoor
open Num
open Go.ChangeShapes Go.WideShapes Go.ChangeAt Go.RowKit
set_option linter.unusedVariables false
set_option linter.unusedSimpArgs false
attribute [local go_sem ↓] Go.wp_at_zero Go.wp_at_succ
theorem tab_row_eq {n m i : Nat} {f : Nat → Nat → Int} {l : List Int} (hi : i < n) (hl : l.length = m) (h : ∀ j, j < m → f i j = l.getD j 0) : (tab n m f).getD i [] = l := by
  rw [tab_row hi]
  refine list_ext (d := 0) (by simp [hl]) fun t ht => ?_
  have ht2 : t < m := by simpa using ht
  rw [range_getD _ ht2, h t ht2]
theorem plus_row {g h : Grid} {i : Nat} (rg : Rct g (cols g)) (rh : Rct h (cols g)) (hi : i < g.length) (hi2 : i < h.length) : (plusG g h).getD i [] = List.zipWith (fun x y => x + y) (g.getD i []) (h.getD i []) :=
  tab_row_eq hi (by rw [List.length_zipWith, rg i hi, rh i hi2]; omega) fun j hj => by
    rw [zip_getD (f := fun x y => x + y) (by rw [rg i hi]; exact hj) (by rw [rh i hi2]; exact hj)]; rfl
theorem scale_row {g : Grid} {c : Int} {i : Nat} (rg : Rct g (cols g)) (hi : i < g.length) : (scaleG g c).getD i [] = (g.getD i []).map fun x => x * c :=
  tab_row_eq hi (by rw [List.length_map, rg i hi]) fun j hj => by
    have hj2 : j < (g.getD i []).length := by rw [rg i hi]; exact hj
    rw [show ((g.getD i []).map fun x => x * c).getD j 0 = (g.getD i []).getD j 0 * c by
      generalize g.getD i [] = l at *
      simp [hj2]]; rfl
theorem scale_len (g : Grid) (c : Int) : (scaleG g c).length = g.length := tab_len _ _ _
theorem lim_two {k : Nat} (h : k ≤ 65536) : (k + 1) * 24 ≤ 140737488355328 ∧ k + 1 ≤ maxLen := by unfold maxLen; omega
set_option maxRecDepth 100000 in
set_option maxHeartbeats 8000000 in
theorem rplusM_c (va vb : Value) (g h : Grid) (k : Nat) (w : World) (ha : RefM w va g) (hb : RefM w vb h) (rg : Rct g (cols g)) (rh : Rct h (cols g)) (hl : g.length = h.length) (hn : g.length ≤ 65536) (hc : cols g ≤ 65536) (bg : BdM k g) (bh : BdM k h) (hk : k ≤ 17179869180) :
    Calls Tryz.prog 34 #[va, vb] w fun e w' => (∃ u, e = .returned u ∧ RefM w' u (plusG g h)) ∧ Below w.heap.size w w' := by
  have HA := Lib.hid (show IsL 33 (RRow 0) 0 w va g from ha)
  have HBB := Lib.hid (show IsL 33 (RRow 0) 0 w vb h from hb)
  obtain ⟨aa, ca, rfl, -⟩ : ∃ a c, va = .slice a g.length c ∧ True := by obtain ⟨a, c, e, _⟩ := HA.out.view; exact ⟨a, c, e, trivial⟩
  obtain ⟨ab, cb, rfl, -⟩ : ∃ a c, vb = .slice a h.length c ∧ True := by obtain ⟨a, c, e, _⟩ := HBB.out.view; exact ⟨a, c, e, trivial⟩
  have HZL := Lib.hid (plus_len g h)
  have HZ := Lib.hid (fun i (hi : i < g.length) => plus_row rg rh hi (hl ▸ hi))
  have HLK := Lib.hid (fun i (hi : i < g.length) => And.intro (rg i hi) (rh i (hl ▸ hi)))
  have HBD := Lib.hid (And.intro bg bh)
  obtain ⟨Z, hZ⟩ : ∃ Z, plusG g h = Z := ⟨_, rfl⟩
  rw [hZ] at HZ HZL ⊢
  obtain ⟨cc, hcc⟩ : ∃ n, cols g = n := ⟨_, rfl⟩
  rw [hcc] at HLK hc
  obtain ⟨n, hnE⟩ : ∃ n, g.length = n := ⟨_, rfl⟩
  have hnE2 : h.length = n := by rw [← hl]; exact hnE
  have HN := Lib.hid (And.intro hnE hnE2)
  rw [hnE] at hn HZL ⊢
  rw [hnE2]
  clear ha hb rg rh bg bh hZ hcc hl hnE hnE2
  have hB := Below.refl w.heap.size w
  go_enter Tryz.func34, Tryz.ntmps34
  go_wp2
  go_loopw [5, 6] (fun v x wr => ∃ i : Nat, i ≤ n ∧ x = .int .i64 i ∧ Hid (OwnL 33 (RRow 0) w wr v (Z.take i))) (fun _ x _ => n - (intOf x).toNat)
  case atStart => exact ⟨0, Nat.zero_le _, rfl, Lib.hid (OwnL.nil _ _ hB)⟩
  case round =>
    obtain ⟨i, hi, rfl, hO⟩ := hrel
    have hBr := hO.out.bel
    have hlen : (Z.take i).length = i := by rw [List.length_take, HZL.out]; omega
    have HLEN := Lib.hid hlen
    obtain ⟨oa, oc, hvv⟩ := hO.out.ex
    rw [hlen] at hvv
    subst hvv
    clear hlen
    by_cases hlt : i < n
    · have hltI : (i : Int) < (n : Int) := by omega
      have hig : i < g.length := by rw [HN.out.1]; exact hlt
      obtain ⟨c1, gb, go, ra, rc, e1, hu1, hp1⟩ := IsL.rrow HA.out hig
      obtain ⟨rfl, -, rfl⟩ := Value.slice.inj e1
      obtain ⟨c2, hb, ho, sa, sc, e2, hu2, hp2⟩ := IsL.rrow HBB.out (i := i) (by rw [HN.out.2]; exact hlt)
      obtain ⟨rfl, -, rfl⟩ := Value.slice.inj e2
      have HT := Lib.hid (take_getD (l := Z) (k := i) [] (by rw [HZL.out]; exact hlt))
      rw [HZ.out i hig] at HT
      have hlk := HLK.out i hig
      have b1 : ∀ t, Bd k ((g.getD i []).getD t 0) := fun t => HBD.out.1 i t
      have b2 : ∀ t, Bd k ((h.getD i []).getD t 0) := fun t => HBD.out.2 i t
      obtain ⟨l1, hl1⟩ : ∃ l, g.getD i [] = l := ⟨_, rfl⟩
      obtain ⟨l2, hl2⟩ : ∃ l, h.getD i [] = l := ⟨_, rfl⟩
      rw [hl1] at hu1 hp1 HT hlk b1
      rw [hl2] at hu2 hp2 HT hlk b2
      have AC := Lib.hid (fun W (q : Below w.heap.size w W) => radd4_c (.slice ra l1.length rc) (.slice sa l2.length sc) l1 l2 k W (hp1.keep lims_ref q) (hp2.keep lims_ref q) (by omega) (by omega) b1 b2 hk)
      obtain ⟨z, hz⟩ : ∃ z, List.zipWith (fun x y => x + y) l1 l2 = z := ⟨_, rfl⟩
      rw [hz] at AC HT
      obtain ⟨hLL, hLM⟩ := lim_two (show (Z.take i).length ≤ 65536 by rw [HLEN.out]; omega)
      have HS := Lib.hid (show ∀ W, Below w.heap.size w W → W.cell? ⟨gb, go + i, none⟩ = some (.slice ra l1.length rc) ∧ W.cell? ⟨hb, ho + i, none⟩ = some (.slice sa l2.length sc) from fun W q => ⟨bkeep q hu1, bkeep q hu2⟩)
      have hBc := hBr
      clear hu1 hu2
      obtain ⟨hu1, hu2⟩ := HS.out wr hBc
      have z1 := cell_lt hu1
      have z2 := cell_lt hu2
      have HO := hO
      have hBw := Below.refl wr.heap.size wr
      clear e1 e2 hp1 hp2 hl1 hl2 b1 b2 hlk hO hz
      go_wp2
      go_region_held3 (fun W => W.cell? ⟨gb, go + i, none⟩ = some (.slice ra l1.length rc) ∧ W.cell? ⟨hb, ho + i, none⟩ = some (.slice sa l2.length sc))
        (first | (refine HS.out _ ?_; (repeat (first | exact Below.refl _ _ | exact hBc | refine Below.drew ?_ | refine below_drewN ?_ _ | refine bset ?_ (by simp <;> omega) _ | refine bal ?_ _)); done) | fail)
        (first
        | (refine stepL elMat prs_rrow (by decide) (by rfl) (by rfl) (HO5.out.below prs_rrow (bal (Below.refl _ _) _)) (prs_rrow.kp HR5.out (Kp.of_below _ (bal (Below.refl _ _) _))) (by rfl) (by rfl) (cell_new rfl rfl) hLL hLM ?_; intro v' w8 hO8 hk8; have HO8 := Lib.hid hO8; (clear hBc; have hBc := hO8.bel); clear hO8 hk8)
        | (go_at_call 92; (with_reducible refine (AC.out _ ?_).mono ?_); (repeat (first | exact Below.refl _ _ | exact hBc | refine Below.drew ?_ | refine below_drewN ?_ _ | refine bset ?_ (by simp <;> omega) _ | refine bal ?_ _)); rintro e w5 ⟨⟨v5, rfl, hr5⟩, hb5⟩; (have hBd : Below w.heap.size w w5 := bthen (by repeat (first | exact Below.refl _ _ | exact hBc | refine Below.drew ?_ | refine below_drewN ?_ _ | refine bset ?_ (by simp <;> omega) _ | refine bal ?_ _)) hb5; clear hBc; have hBc := hBd; clear hBd); have hb5' : Below wr.heap.size wr w5 := bthen (by repeat (first | exact Below.refl _ _ | exact hBw | refine Below.drew ?_ | refine below_drewN ?_ _ | refine bset ?_ (by simp <;> omega) _ | refine bal ?_ _)) hb5; have HR5 := Lib.hid (show RRow 0 w5 v5 z from hr5.row.rebase (Nat.zero_le _)); have HO5 := Lib.hid (HO.out.below prs_rrow hb5'); obtain ⟨a5, c5, rfl⟩ := hr5.ex; clear hr5 hb5)
        | fail)
      all_goals
        rw [← HT.out] at HO8
        go_wp2
        exact ⟨⟨i + 1, hlt, by go_num, HO8⟩, meas hlt (by go_num) rfl⟩
    · obtain rfl : i = n := by omega
      have HR := Lib.hid (show RefM wr _ Z from by
        have h := hO.out.isL
        rw [List.take_of_length_le (Nat.le_of_eq HZL.out)] at h
        exact h.rebase (Nat.zero_le _))
      go_wp2
      go_ret
      exact ⟨⟨_, rfl, HR.out⟩, hBr⟩
theorem IsL.relem {w : World} {v : Value} {g : Grid} {m : Nat} (hr : Rct g m) (h : IsL 33 (RRow 0) 0 w v g) {i j : Nat} (hi : i < g.length) (hj : j < m) :
    ∃ c gb go rb ro rc n a l k, v = .slice (some ⟨gb, go, none⟩) g.length c ∧ w.cell? ⟨gb, go + i, none⟩ = some (.slice (some ⟨rb, ro, none⟩) m rc) ∧ w.cell? ⟨rb, ro + j * 2, none⟩ = some (.bool n) ∧ w.cell? ⟨rb, ro + j * 2 + 1, none⟩ = some (.slice a l k) ∧ IsRef w (.agg #[.bool n, .slice a l k]) (gat g i j) := by
  obtain ⟨c, gb, go, ra, rc, e, hu, hp⟩ := h.rrow hi
  obtain ⟨a', c', e2, _, vr⟩ := hp.view
  obtain ⟨rfl, -, rfl⟩ := Value.slice.inj e2
  obtain ⟨rb, ro, n, a, l, k, rfl, h0, h1, h2⟩ := vr j (by rw [hr i hi]; exact hj)
  rw [hr i hi] at hu
  exact ⟨c, gb, go, rb, ro, rc, n, a, l, k, e, hu, h0, h1, h2⟩
set_option maxRecDepth 100000 in
set_option maxHeartbeats 8000000 in
theorem rscaleM_c (va vc : Value) (g : Grid) (c : Int) (k m : Nat) (w : World) (ha : RefM w va g) (hcv : IsRef w vc c) (rg : Rct g (cols g)) (hn : g.length ≤ 65536) (hc : cols g ≤ 65536) (bg : BdM k g) (bc : Bd m c) (hk : k + m ≤ 17179869184) :
    Calls Tryz.prog 41 #[va, vc] w fun e w' => (∃ u, e = .returned u ∧ RefM w' u (scaleG g c)) ∧ Below w.heap.size w w' := by
  have HA := Lib.hid (show IsL 33 (RRow 0) 0 w va g from ha)
  have HCV := Lib.hid hcv
  obtain ⟨aa, ca, rfl, -⟩ : ∃ a c, va = .slice a g.length c ∧ True := by obtain ⟨a, c, e, _⟩ := HA.out.view; exact ⟨a, c, e, trivial⟩
  obtain ⟨n1, a1, c1, l1, rfl, -⟩ := hcv
  unfold iv at *
  have HZL := Lib.hid (scale_len g c)
  have HZ := Lib.hid (fun i (hi : i < g.length) => scale_row (c := c) rg hi)
  have HLK := Lib.hid (fun i (hi : i < g.length) => (rg i hi))
  have HBD := Lib.hid (And.intro bg bc)
  obtain ⟨Z, hZ⟩ : ∃ Z, scaleG g c = Z := ⟨_, rfl⟩
  rw [hZ] at HZ HZL ⊢
  obtain ⟨cc, hcc⟩ : ∃ n, cols g = n := ⟨_, rfl⟩
  rw [hcc] at HLK hc
  obtain ⟨n, hnE⟩ : ∃ n, g.length = n := ⟨_, rfl⟩
  have HN := Lib.hid hnE
  rw [hnE] at hn HZL ⊢
  clear ha rg bg bc hZ hcc hnE
  have hB := Below.refl w.heap.size w
  go_enter Tryz.func41, Tryz.ntmps41
  go_wp2
  refine wp_name fun w0 hW0 => ?_
  have x0 : w0.cell? ⟨w.heap.size, 0, none⟩ = some (.bool n1) := by rw [hW0]; exact (by first | assumption | exact cell_new (by with_reducible first | rfl | (simp; done) | (simp; omega)) rfl | (repeat (first | assumption | exact cell_new (by with_reducible first | rfl | (simp; done) | (simp; omega)) rfl | refine cell_alloc ?_ _ | refine cell_drew ?_ | refine cell_drewN ?_ _ | refine cell_far ?_ (by simp) _ | (refine cell_far ?_ (by simp <;> omega) _))) | simp [go_sem, *])
  have zx0 := cell_lt x0
  have x1 : w0.cell? ⟨w.heap.size, 1, none⟩ = some (.slice a1 l1.length c1) := by rw [hW0]; exact (by first | assumption | exact cell_new (by with_reducible first | rfl | (simp; done) | (simp; omega)) rfl | (repeat (first | assumption | exact cell_new (by with_reducible first | rfl | (simp; done) | (simp; omega)) rfl | refine cell_alloc ?_ _ | refine cell_drew ?_ | refine cell_drewN ?_ _ | refine cell_far ?_ (by simp) _ | (refine cell_far ?_ (by simp <;> omega) _))) | simp [go_sem, *])
  have hB : Below w.heap.size w w0 := by rw [hW0]; repeat (first | exact Below.refl _ _ | exact hB | refine Below.drew ?_ | refine below_drewN ?_ _ | refine bset ?_ (by simp <;> omega) _ | refine bal ?_ _)
  have hz : w.heap.size ≤ w0.heap.size := hB.size
  clear hW0
  have hz0 : w.heap.size < w0.heap.size := zx0
  have HP := Lib.hid (show ∀ W, Below w0.heap.size w0 W → W.cell? ⟨w.heap.size, 0, none⟩ = some (.bool n1) ∧ W.cell? ⟨w.heap.size, 1, none⟩ = some (.slice a1 l1.length c1) from fun W h => ⟨bkeep h x0, bkeep h x1⟩)
  clear x0 x1
  go_loopw [5, 6] (fun v x wr => ∃ i : Nat, i ≤ n ∧ x = .int .i64 i ∧ Hid (OwnL 33 (RRow 0) w0 wr v (Z.take i))) (fun _ x _ => n - (intOf x).toNat)
  case atStart => exact ⟨0, Nat.zero_le _, rfl, Lib.hid (OwnL.nil _ _ (Below.refl _ _))⟩
  case round =>
    obtain ⟨i, hi, rfl, hO⟩ := hrel
    have hbr := hO.out.bel
    have hBr := bthen hB hbr
    have hlen : (Z.take i).length = i := by rw [List.length_take, HZL.out]; omega
    have HLEN := Lib.hid hlen
    obtain ⟨oa, oc, hvv⟩ := hO.out.ex
    rw [hlen] at hvv
    subst hvv
    clear hlen
    by_cases hlt : i < n
    · have hltI : (i : Int) < (n : Int) := by omega
      have hig : i < g.length := by rw [HN.out]; exact hlt
      obtain ⟨c4, gb, go, ra, rc, e1, hu1, hp1⟩ := IsL.rrow HA.out hig
      obtain ⟨rfl, -, rfl⟩ := Value.slice.inj e1
      have HT := Lib.hid (take_getD (l := Z) (k := i) [] (by rw [HZL.out]; exact hlt))
      rw [HZ.out i hig] at HT
      have hlk := HLK.out i hig
      have b1 : ∀ t, Bd k ((g.getD i []).getD t 0) := fun t => HBD.out.1 i t
      obtain ⟨l5, hl5⟩ : ∃ l, g.getD i [] = l := ⟨_, rfl⟩
      rw [hl5] at hu1 hp1 HT hlk b1
      have AC := Lib.hid (fun W (q : Below w0.heap.size w0 W) => rscale_c (.slice ra l5.length rc) (.agg #[.bool n1, .slice a1 l1.length c1]) l5 c k m W (hp1.keep lims_ref (bthen hB q)) (HCV.out.keep (bthen hB q)) (by omega) b1 HBD.out.2 hk)
      obtain ⟨z, hz⟩ : ∃ z, (l5.map fun x => x * c) = z := ⟨_, rfl⟩
      rw [hz] at AC HT
      obtain ⟨hLL, hLM⟩ := lim_two (show (Z.take i).length ≤ 65536 by rw [HLEN.out]; omega)
      have HS := Lib.hid (show ∀ W, Below w0.heap.size w0 W → W.cell? ⟨gb, go + i, none⟩ = some (.slice ra l5.length rc) ∧ W.cell? ⟨w.heap.size, 0, none⟩ = some (.bool n1) ∧ W.cell? ⟨w.heap.size, 1, none⟩ = some (.slice a1 l1.length c1) from fun W q => ⟨bkeep (bthen hB q) hu1, (HP.out W q).1, (HP.out W q).2⟩)
      have hBc := hbr
      clear hu1
      obtain ⟨hu1, q1, q2⟩ := HS.out wr hBc
      have z1 := cell_lt hu1
      have z2 := cell_lt q1
      have HO := hO
      have hBw := Below.refl wr.heap.size wr
      clear e1 hp1 hl5 b1 hlk hO hz
      go_wp2
      go_region_held3 (fun W => W.cell? ⟨gb, go + i, none⟩ = some (.slice ra l5.length rc) ∧ W.cell? ⟨w.heap.size, 0, none⟩ = some (.bool n1) ∧ W.cell? ⟨w.heap.size, 1, none⟩ = some (.slice a1 l1.length c1))
        (first | (refine HS.out _ ?_; (repeat (first | exact Below.refl _ _ | exact hBc | refine Below.drew ?_ | refine below_drewN ?_ _ | refine bset ?_ (by simp <;> omega) _ | refine bal ?_ _)); done) | fail)
        (first
        | (refine stepL elMat prs_rrow (by decide) (by rfl) (by rfl) (HO5.out.below prs_rrow (bal (Below.refl _ _) _)) (prs_rrow.kp HR5.out (Kp.of_below _ (bal (Below.refl _ _) _))) (by rfl) (by rfl) (cell_new rfl rfl) hLL hLM ?_; intro v' w8 hO8 hk8; have HO8 := Lib.hid hO8; (clear hBc; have hBc := hO8.bel); clear hO8 hk8)
        | (go_at_call 99; (with_reducible refine (AC.out _ ?_).mono ?_); (repeat (first | exact Below.refl _ _ | exact hBc | refine Below.drew ?_ | refine below_drewN ?_ _ | refine bset ?_ (by simp <;> omega) _ | refine bal ?_ _)); rintro e w5 ⟨⟨v5, rfl, hr5⟩, hb5⟩; (have hBd : Below w0.heap.size w0 w5 := bthen (by repeat (first | exact Below.refl _ _ | exact hBc | refine Below.drew ?_ | refine below_drewN ?_ _ | refine bset ?_ (by simp <;> omega) _ | refine bal ?_ _)) hb5; clear hBc; have hBc := hBd; clear hBd); have hb5' : Below wr.heap.size wr w5 := bthen (by repeat (first | exact Below.refl _ _ | exact hBw | refine Below.drew ?_ | refine below_drewN ?_ _ | refine bset ?_ (by simp <;> omega) _ | refine bal ?_ _)) hb5; have HR5 := Lib.hid (show RRow 0 w5 v5 z from hr5.row.rebase (Nat.zero_le _)); have HO5 := Lib.hid (HO.out.below prs_rrow hb5'); obtain ⟨a5, c5, rfl⟩ := hr5.ex; clear hr5 hb5)
        | fail)
      all_goals
        rw [← HT.out] at HO8
        go_wp2
        exact ⟨⟨i + 1, hlt, by go_num, HO8⟩, meas hlt (by go_num) rfl⟩
    · obtain rfl : i = n := by omega
      have HR := Lib.hid (show RefM wr _ Z from by
        have h := hO.out.isL
        rw [List.take_of_length_le (Nat.le_of_eq HZL.out)] at h
        exact h.rebase (Nat.zero_le _))
      go_wp2
      go_ret
      exact ⟨⟨_, rfl, HR.out⟩, hBr⟩
set_option maxRecDepth 100000 in
set_option maxHeartbeats 8000000 in
theorem rapplyM_c (va vl : Value) (g : Grid) (l : List Int) (k m : Nat) (w : World) (ha : RefM w va g) (hv : RRow 0 w vl l) (rg : Rct g (cols g)) (hl : l.length = cols g) (hn : g.length ≤ 65536) (hc : cols g ≤ 65536) (bg : BdM k g) (bl : ∀ j, Bd m (l.getD j 0)) (hk : k + m + cols g ≤ 17179869184) :
    Calls Tryz.prog 46 #[va, vl] w fun e w' => (∃ u, e = .returned u ∧ RRow 0 w' u (applyG g l)) ∧ Below w.heap.size w w' := by
  have HA := Lib.hid (show IsL 33 (RRow 0) 0 w va g from ha)
  have HV := Lib.hid hv
  obtain ⟨aa, ca, rfl, -⟩ : ∃ a c, va = .slice a g.length c ∧ True := by obtain ⟨a, c, e, _⟩ := HA.out.view; exact ⟨a, c, e, trivial⟩
  obtain ⟨la, lc, rfl, -⟩ := hv
  have HZL := Lib.hid (show (applyG g l).length = g.length by simp [applyG])
  have HZ := Lib.hid (fun i (hi : i < g.length) => app_get (l := l) hi)
  have HLK := Lib.hid (fun i (hi : i < g.length) => (rg i hi))
  have HBD := Lib.hid (And.intro bg bl)
  obtain ⟨Z, hZ⟩ : ∃ Z, applyG g l = Z := ⟨_, rfl⟩
  rw [hZ] at HZ HZL ⊢
  obtain ⟨cc, hcc⟩ : ∃ n, cols g = n := ⟨_, rfl⟩
  rw [hcc] at HLK hc hl hk
  obtain ⟨n, hnE⟩ : ∃ n, g.length = n := ⟨_, rfl⟩
  have HN := Lib.hid hnE
  rw [hnE] at hn HZL ⊢
  have HL := Lib.hid hl
  obtain ⟨ll, hll⟩ : ∃ n, l.length = n := ⟨_, rfl⟩
  have HLL := Lib.hid hll
  rw [hll]
  clear rg bg bl hZ hcc hnE hl hll
  have hB := Below.refl w.heap.size w
  go_enter Tryz.func46, Tryz.ntmps46
  go_wp2
  go_loopw [5, 6] (fun v x wr => ∃ i : Nat, i ≤ n ∧ x = .int .i64 i ∧ Hid (OwnF IsRef 43 w wr v i (fun t => Z.getD t 0))) (fun _ x _ => n - (intOf x).toNat)
  case atStart => exact ⟨0, Nat.zero_le _, rfl, Lib.hid (OwnF.nil _ _ _ hB)⟩
  case round =>
    obtain ⟨i, hi, rfl, hF⟩ := hrel
    have hBr := hF.out.bel
    obtain ⟨fa, fc, hfv⟩ : ∃ a c, _ = Value.slice a i c := by obtain ⟨a, c, h, _⟩ := hF.out.view; exact ⟨a, c, h⟩
    subst hfv
    by_cases hlt : i < n
    · have hltI : (i : Int) < (n : Int) := by omega
      have hig : i < g.length := by rw [HN.out]; exact hlt
      obtain ⟨c4, gb, go, ra, rc, e1, hu1, hp1⟩ := IsL.rrow (HA.out.keep prs_rrow hBr) hig
      obtain ⟨rfl, -, rfl⟩ := Value.slice.inj e1
      have HT := Lib.hid (snoc_fun Z i (by rw [HZL.out]; exact hlt))
      rw [HZ.out i hig] at HT
      have hlk := HLK.out i hig
      have b1 : ∀ t, Bd k ((g.getD i []).getD t 0) := fun t => HBD.out.1 i t
      obtain ⟨l5, hl5⟩ : ∃ l, g.getD i [] = l := ⟨_, rfl⟩
      rw [hl5] at hu1 hp1 HT hlk b1
      have DC := Lib.hid (fun W (q : Below wr.heap.size wr W) => rdot_c (.slice ra l5.length rc) (.slice la ll lc) l5 l k m W (hp1.keep lims_ref q) (by rw [← HLL.out]; exact HV.out.keep lims_ref (bthen hBr q)) (by omega) (by rw [hlk, HL.out]) b1 HBD.out.2 (by omega))
      obtain ⟨z, hz⟩ : ∃ z, dotL l5 l = z := ⟨_, rfl⟩
      rw [hz] at DC HT
      have z1 := cell_lt hu1
      have hBw := Below.refl wr.heap.size wr
      clear e1 hp1 hl5 b1 hlk hz
      go_wp2_with fail
      (with_reducible refine (DC.out _ ?_).mono ?_); (repeat (first | exact Below.refl _ _ | exact hBw | refine Below.drew ?_ | refine below_drewN ?_ _ | refine bset ?_ (by simp <;> omega) _ | refine bal ?_ _))
      rintro e w5 ⟨⟨v5, rfl, hi5⟩, hb5⟩
      have hb5' : Below wr.heap.size wr w5 := bthen (by repeat (first | exact Below.refl _ _ | exact hBw | refine Below.drew ?_ | refine below_drewN ?_ _ | refine bset ?_ (by simp <;> omega) _ | refine bal ?_ _)) hb5
      have HF5 := Lib.hid (hF.out.below lims_ref hb5')
      have HI5 := Lib.hid hi5
      obtain ⟨n5, a5, c5, l6, rfl, -⟩ := hi5
      unfold iv at *
      clear DC hu1
      go_wp2_with (at_builtin; refine app_num elRw5 (by decide) lims_ref (by rfl) (by rfl) HF5.out HI5.out (by rfl) (by rfl) (by omega) ?_)
      intro v' w8 hF8 _ _
      have HF8 := Lib.hid (hF8.congr' HT.out)
      clear hF8
      go_wp2
      exact ⟨⟨i + 1, hlt, by go_num, HF8⟩, meas hlt (by go_num) rfl⟩
    · obtain rfl : i = n := by omega
      have HR := Lib.hid (show RRow 0 wr _ Z from (OwnF.rowO (w0 := w) (by rw [HZL.out]; exact hF.out)).row.rebase (Nat.zero_le _))
      have HZZ := Lib.hid HZL.out
      go_wp2
      go_ret
      exact ⟨⟨_, rfl, HR.out⟩, hBr⟩
end Go.Proofs.YthaohpfbengabaaGreatDoor

/- the reference's matrices: Turn, Times. -/
namespace Go.Proofs.YthaohpfbengabaaGreatDoor
open Num
open Go.ChangeShapes Go.WideShapes Go.ChangeAt Go.RowKit
set_option linter.unusedVariables false
set_option linter.unusedSimpArgs false
attribute [local go_sem ↓] Go.wp_at_zero Go.wp_at_succ
theorem tab_snoc (i m : Nat) (f : Nat → Nat → Int) : tab i m f ++ [(List.range m).map (f i)] = tab (i + 1) m f := by unfold tab; rw [range_snoc]
set_option maxRecDepth 100000 in
set_option maxHeartbeats 8000000 in
theorem rturnM_c (va : Value) (g : Grid) (w : World) (ha : RefM w va g) (rg : Rct g (cols g)) (hn : g.length ≤ 65536) (hc : cols g ≤ 65536) :
    Calls Tryz.prog 39 #[va] w fun e w' => (∃ u, e = .returned u ∧ RefM w' u (turnG g)) ∧ Below w.heap.size w w' := by
  have HA := Lib.hid (show IsL 33 (RRow 0) 0 w va g from ha)
  obtain ⟨aa, ca, rfl, -⟩ : ∃ a c, va = .slice a g.length c ∧ True := by obtain ⟨a, c, e, _⟩ := HA.out.view; exact ⟨a, c, e, trivial⟩
  have CC := Lib.hid (fun W (q : Below w.heap.size w W) => rcols_c (.slice aa g.length ca) g W (HA.out.keep prs_rrow q))
  have HRG := Lib.hid rg
  unfold turnG
  obtain ⟨m, hcc⟩ : ∃ n, cols g = n := ⟨_, rfl⟩
  rw [hcc] at hc CC HRG ⊢
  obtain ⟨n, hnE⟩ : ∃ n, g.length = n := ⟨_, rfl⟩
  have HN := Lib.hid hnE
  rw [hnE] at hn CC ⊢
  clear ha rg hcc hnE
  have hB := Below.refl w.heap.size w
  go_enter Tryz.func39, Tryz.ntmps39
  go_wp2
  go_loopw [3, 4] (fun v x wr => ∃ j : Nat, j ≤ m ∧ x = .int .i64 j ∧ Hid (OwnL 33 (RRow 0) w wr v (tab j n fun i j => gat g j i))) (fun _ x _ => m - (intOf x).toNat)
  case atStart => exact ⟨0, Nat.zero_le _, rfl, Lib.hid (OwnL.nil _ _ hB)⟩
  case round =>
    obtain ⟨j, hj, rfl, hO⟩ := hrel
    have hBr := hO.out.bel
    obtain ⟨oa, oc, hvv⟩ := hO.out.ex
    rw [tab_len] at hvv
    subst hvv
    have HO := hO
    clear hO
    obtain ⟨wq, hwq⟩ : ∃ wq, wr = wq := ⟨_, rfl⟩
    rw [hwq] at HO hBr ⊢
    clear hwq
    have hBq := Below.refl wq.heap.size wq
    by_cases hlt : j < m
    · have hltI : (j : Int) < (m : Int) := by omega
      go_wp2_with fail
      (with_reducible refine (CC.out _ ?_).mono ?_); (repeat (first | exact Below.refl _ _ | exact hBr | refine Below.drew ?_ | refine below_drewN ?_ _ | refine bset ?_ (by simp <;> omega) _ | refine bal ?_ _))
      rintro e w1 ⟨rfl, hb1⟩
      have hb1' : Below wq.heap.size wq w1 := bthen (by repeat (first | exact Below.refl _ _ | exact hBq | refine Below.drew ?_ | refine below_drewN ?_ _ | refine bset ?_ (by simp <;> omega) _ | refine bal ?_ _)) hb1
      have hBr1 := bthen hBr hb1'
      have HO1 := Lib.hid (HO.out.below prs_rrow hb1')
      have hBw1 := Below.refl w1.heap.size w1
      clear HO hb1
      go_wp2
      go_loopw [5, 6] (fun v x wr => ∃ i : Nat, i ≤ n ∧ x = .int .i64 i ∧ Hid (OwnF IsRef 43 w1 wr v i (fun t => gat g t j))) (fun _ x _ => n - (intOf x).toNat)
      case atStart => exact ⟨0, Nat.zero_le _, rfl, Lib.hid (OwnF.nil _ _ _ hBw1)⟩
      case round =>
        obtain ⟨i, hi, rfl, hF⟩ := hrel
        have hbF := hF.out.bel
        obtain ⟨fa, fc, hfv⟩ : ∃ a c, _ = Value.slice a i c := by obtain ⟨a, c, h, _⟩ := hF.out.view; exact ⟨a, c, h⟩
        subst hfv
        by_cases hlt2 : i < n
        · have hltJ : (i : Int) < (n : Int) := by omega
          obtain ⟨c4, gb, go, rb, ro, rc, n5, a5, l5, k5, e1, hu1, d0, d1, hI⟩ := IsL.relem HRG.out (HA.out.keep prs_rrow (bthen hBr1 hbF)) (i := i) (j := j) (by rw [HN.out]; exact hlt2) hlt
          obtain ⟨rfl, -, rfl⟩ := Value.slice.inj e1
          have HSN := Lib.hid (snoc_fn (fun t => gat g t j) i)
          have HI := Lib.hid hI
          obtain ⟨z, hz⟩ : ∃ z, gat g i j = z := ⟨_, rfl⟩
          have HSN : Hid (∀ k, k < i + 1 → (fun t => if t = i then z else gat g t j) k = gat g k j) := Lib.hid (fun k hk => by have := HSN.out k hk; rw [hz] at this; exact this)
          rw [hz] at HI
          have z1 := cell_lt hu1
          have z2 := cell_lt d0
          clear e1 hI hz
          go_wp2_with (at_builtin; refine app_num elRw5 (by decide) lims_ref (by rfl) (by rfl) (hF.out.below lims_ref (Below.refl _ _)) HI.out (by rfl) (by rfl) (by omega) ?_)
          intro v' w8 hF8 _ _
          have HF8 := Lib.hid (hF8.congr' HSN.out)
          clear hF8
          go_wp2
          exact ⟨⟨i + 1, hlt2, by go_num, HF8⟩, meas hlt2 (by go_num) rfl⟩
        · obtain rfl : i = n := by omega
          have HRO := Lib.hid (show RRow 0 wr _ ((List.range i).map fun t => gat g t j) from (OwnF.row (w0 := w1) (l := (List.range i).map fun t => gat g t j) (by
            rw [List.length_map, List.length_range]
            exact hF.out.congr' fun k hk => (range_getD (fun t => gat g t j) hk).symm)).rebase (Nat.zero_le _))
          have HOW := Lib.hid (HO1.out.below prs_rrow hbF)
          obtain ⟨hLL, hLM⟩ := lim_two (show (tab j i fun i j => gat g j i).length ≤ 65536 by rw [tab_len]; omega)
          clear HO1
          go_wp2_with (at_builtin; refine appL elMat prs_rrow (by decide) (by rfl) (by rfl) (HOW.out.below prs_rrow (bal (Below.refl _ _) _)) (HRO.out.keep lims_ref (bal (Below.refl _ _) _)) (by rfl) (by rfl) (cell_new rfl rfl) hLL hLM ?_)
          intro v' w8 hO8 hk8
          have HO8 := Lib.hid hO8
          rw [tab_snoc] at HO8
          clear hO8 hk8
          go_wp2
          exact ⟨⟨j + 1, hlt, by go_num, HO8⟩, meas hlt (by go_num) rfl⟩
    · obtain rfl : j = m := by omega
      have HR := Lib.hid (show RefM wq _ (tab j n fun i j => gat g j i) from HO.out.isL.rebase (Nat.zero_le _))
      go_wp2_with fail
      (with_reducible refine (CC.out _ ?_).mono ?_); (repeat (first | exact Below.refl _ _ | exact hBr | refine Below.drew ?_ | refine below_drewN ?_ _ | refine bset ?_ (by simp <;> omega) _ | refine bal ?_ _))
      rintro e w1 ⟨rfl, hb1⟩
      have hb1' : Below wq.heap.size wq w1 := bthen (by repeat (first | exact Below.refl _ _ | exact hBq | refine Below.drew ?_ | refine below_drewN ?_ _ | refine bset ?_ (by simp <;> omega) _ | refine bal ?_ _)) hb1
      have HR1 := Lib.hid (HR.out.keep hb1')
      have hB1 := bthen hBr hb1'
      clear HR HO CC hb1
      go_wp2
      go_ret
      exact ⟨⟨_, rfl, HR1.out⟩, hB1⟩
theorem times_dot {g h : Grid} {i j : Nat} (rg : Rct g (cols g)) (hl : cols g = h.length) (hi : i < g.length) (hj : j < cols h) : dotL (g.getD i []) ((turnG h).getD j []) = Det.isum (cols g) fun t => gat g i t * gat h t j := by
  have hr : ((turnG h).getD j []).length = h.length := tab_rowlen hj
  rw [dotL_isum _ _ (by rw [rg i hi, hr, hl]), rg i hi]
  exact Det.isum_congr fun t ht => by
    rw [show ((turnG h).getD j []).getD t 0 = gat h t j from tab_at hj (by rw [← hl]; exact ht)]; rfl
set_option maxRecDepth 100000 in
set_option maxHeartbeats 8000000 in
theorem rtimesM_c (va vb : Value) (g h : Grid) (k m : Nat) (w : World) (ha : RefM w va g) (hb : RefM w vb h) (rg : Rct g (cols g)) (rh : Rct h (cols h)) (hl : cols g = h.length) (hn : g.length ≤ 65536) (hc : cols g ≤ 65536) (hp : cols h ≤ 65536) (bg : BdM k g) (bh : BdM m h) (hk : k + m + cols g ≤ 17179869184) :
    Calls Tryz.prog 37 #[va, vb] w fun e w' => (∃ u, e = .returned u ∧ RefM w' u (timesG g h)) ∧ Below w.heap.size w w' := by
  have HA := Lib.hid (show IsL 33 (RRow 0) 0 w va g from ha)
  have TC := Lib.hid (fun W (q : Below w.heap.size w W) => rturnM_c vb h W (hb.keep q) rh (by omega) hp)
  obtain ⟨aa, ca, rfl, -⟩ : ∃ a c, va = .slice a g.length c ∧ True := by obtain ⟨a, c, e, _⟩ := HA.out.view; exact ⟨a, c, e, trivial⟩
  obtain ⟨ab, cb, rfl, -⟩ : ∃ a c, vb = .slice a h.length c ∧ True := by obtain ⟨a, c, e, _⟩ := (show IsL 33 (RRow 0) 0 w vb h from hb).view; exact ⟨a, c, e, trivial⟩
  have HD := Lib.hid (fun i j (hi : i < g.length) (hj : j < cols h) => times_dot rg hl hi hj)
  have HTL := Lib.hid (show (turnG h).length = cols h from tab_len _ _ _)
  have HTR := Lib.hid (show ∀ j, j < cols h → ((turnG h).getD j []).length = cols g from fun j hj => by rw [hl]; exact tab_rowlen hj)
  have HTB := Lib.hid (show BdM m (turnG h) from tab_bd fun i j _ _ => bh j i)
  have HRG := Lib.hid rg
  have HBD := Lib.hid bg
  unfold timesG
  obtain ⟨T, hT⟩ : ∃ T, turnG h = T := ⟨_, rfl⟩
  rw [hT] at TC HTL HTR HTB HD
  obtain ⟨Z, hZ⟩ : ∃ Z : Nat → Nat → Int, (fun i j => Det.isum (cols g) fun t => gat g i t * gat h t j) = Z := ⟨_, rfl⟩
  have HD : Hid (∀ i j, i < g.length → j < cols h → dotL (g.getD i []) (T.getD j []) = Z i j) := Lib.hid (fun i j hi hj => by rw [← hZ]; exact HD.out i j hi hj)
  rw [hZ]
  obtain ⟨p, hpE⟩ : ∃ n, cols h = n := ⟨_, rfl⟩
  rw [hpE] at hp HTL HTR HD ⊢
  obtain ⟨cc, hcc⟩ : ∃ n, cols g = n := ⟨_, rfl⟩
  rw [hcc] at hc HTR HRG hk
  obtain ⟨n, hnE⟩ : ∃ n, g.length = n := ⟨_, rfl⟩
  have HN := Lib.hid hnE
  rw [hnE] at hn HD ⊢
  clear ha hb rg rh bg bh hT hZ hpE hcc hnE hl
  have hB := Below.refl w.heap.size w
  go_enter Tryz.func37, Tryz.ntmps37
  go_wp2_with fail
  (with_reducible refine (TC.out _ ?_).mono ?_); (repeat (first | exact Below.refl _ _ | exact hB | refine Below.drew ?_ | refine below_drewN ?_ _ | refine bset ?_ (by simp <;> omega) _ | refine bal ?_ _))
  rintro e w1 ⟨⟨tv, rfl, htv⟩, hb1⟩
  have hB1 : Below w.heap.size w w1 := bthen (by repeat (first | exact Below.refl _ _ | exact hB | refine Below.drew ?_ | refine below_drewN ?_ _ | refine bset ?_ (by simp <;> omega) _ | refine bal ?_ _)) hb1
  have HT1 := Lib.hid (show IsL 33 (RRow 0) 0 w1 tv T from htv)
  obtain ⟨ta, tc, rfl, -⟩ : ∃ a c, tv = .slice a p c ∧ True := by obtain ⟨a, c, e, _⟩ := HT1.out.view; rw [HTL.out] at e; exact ⟨a, c, e, trivial⟩
  have hBw1 := Below.refl w1.heap.size w1
  clear TC htv hb1
  go_wp2
  go_loopw [6, 7] (fun v x wr => ∃ i : Nat, i ≤ n ∧ x = .int .i64 i ∧ Hid (OwnL 33 (RRow 0) w1 wr v (tab i p Z))) (fun _ x _ => n - (intOf x).toNat)
  case atStart => exact ⟨0, Nat.zero_le _, rfl, Lib.hid (OwnL.nil _ _ hBw1)⟩
  case round =>
    obtain ⟨i, hi, rfl, hO⟩ := hrel
    have hBr := hO.out.bel
    obtain ⟨oa, oc, hvv⟩ := hO.out.ex
    rw [tab_len] at hvv
    subst hvv
    have HO := hO
    clear hO
    obtain ⟨wq, hwq⟩ : ∃ wq, wr = wq := ⟨_, rfl⟩
    rw [hwq] at HO hBr ⊢
    clear hwq
    have hBq := Below.refl wq.heap.size wq
    by_cases hlt : i < n
    · have hltI : (i : Int) < (n : Int) := by omega
      have hig : i < g.length := by rw [HN.out]; exact hlt
      go_wp2
      go_loopw [8, 9] (fun v x wr => ∃ j : Nat, j ≤ p ∧ x = .int .i64 j ∧ Hid (OwnF IsRef 43 wq wr v j (Z i))) (fun _ x _ => p - (intOf x).toNat)
      case atStart => exact ⟨0, Nat.zero_le _, rfl, Lib.hid (OwnF.nil _ _ _ hBq)⟩
      case round =>
        obtain ⟨j, hj, rfl, hF⟩ := hrel
        have hbF := hF.out.bel
        obtain ⟨fa, fc, hfv⟩ : ∃ a c, _ = Value.slice a j c := by obtain ⟨a, c, h, _⟩ := hF.out.view; exact ⟨a, c, h⟩
        subst hfv
        by_cases hlt2 : j < p
        · have hltJ : (j : Int) < (p : Int) := by omega
          obtain ⟨c4, gb, go, ra, rc, e1, hu1, hp1⟩ := IsL.rrow HA.out hig
          obtain ⟨rfl, -, rfl⟩ := Value.slice.inj e1
          obtain ⟨c5, tb, tt, sa, sc, e2, hu2, hp2⟩ := IsL.rrow HT1.out (i := j) (by rw [HTL.out]; exact hlt2)
          obtain ⟨rfl, -, rfl⟩ := Value.slice.inj e2
          have hd := HD.out i j hlt hlt2
          have hlk := HRG.out i hig
          have hlk2 := HTR.out j hlt2
          have b1 : ∀ t, Bd k ((g.getD i []).getD t 0) := fun t => HBD.out i t
          have b2 : ∀ t, Bd m ((T.getD j []).getD t 0) := fun t => HTB.out j t
          obtain ⟨l1, hl1⟩ : ∃ l, g.getD i [] = l := ⟨_, rfl⟩
          obtain ⟨l2, hl2⟩ : ∃ l, T.getD j [] = l := ⟨_, rfl⟩
          rw [hl1] at hu1 hp1 hd hlk b1
          rw [hl2] at hu2 hp2 hd hlk2 b2
          have DC := Lib.hid (fun W (q : Below wq.heap.size wq W) => rdot_c (.slice ra l1.length rc) (.slice sa l2.length sc) l1 l2 k m W (hp1.keep lims_ref (bthen hB1 (bthen hBr q))) (hp2.keep lims_ref (bthen hBr q)) (by omega) (by omega) b1 b2 (by omega))
          have HSN := Lib.hid (snoc_fn (Z i) j)
          rw [hd] at DC
          obtain ⟨z, hz⟩ : ∃ z, Z i j = z := ⟨_, rfl⟩
          rw [hz] at DC HSN
          have HS := Lib.hid (show ∀ W, Below wq.heap.size wq W → W.cell? ⟨gb, go + i, none⟩ = some (.slice ra l1.length rc) ∧ W.cell? ⟨tb, tt + j, none⟩ = some (.slice sa l2.length sc) from fun W q => ⟨bkeep (bthen hB1 (bthen hBr q)) hu1, bkeep (bthen hBr q) hu2⟩)
          have hBc := hbF
          clear hu1 hu2
          obtain ⟨hu1, hu2⟩ := HS.out wr hBc
          have z1 := cell_lt hu1
          have z2 := cell_lt hu2
          have HF := hF
          have hBw := Below.refl wr.heap.size wr
          clear e1 e2 hp1 hp2 hl1 hl2 b1 b2 hlk hlk2 hd hz hF
          go_wp2
          go_region_held3 (fun W => W.cell? ⟨gb, go + i, none⟩ = some (.slice ra l1.length rc) ∧ W.cell? ⟨tb, tt + j, none⟩ = some (.slice sa l2.length sc))
            (first | (refine HS.out _ ?_; (repeat (first | exact Below.refl _ _ | exact hBc | refine Below.drew ?_ | refine below_drewN ?_ _ | refine bset ?_ (by simp <;> omega) _ | refine bal ?_ _)); done) | fail)
            (first
            | (refine step_num0 elRw5 (by decide) lims_ref (by rfl) (by rfl) HF5.out HV5.out (by rfl) (by rfl) (by omega) ?_; intro v' w8 hF8 _ _; have HF8 := Lib.hid (hF8.congr' HSN.out); (clear hBc; have hBc := hF8.bel); clear hF8)
            | (go_at_call 96; (with_reducible refine (DC.out _ ?_).mono ?_); (repeat (first | exact Below.refl _ _ | exact hBc | refine Below.drew ?_ | refine below_drewN ?_ _ | refine bset ?_ (by simp <;> omega) _ | refine bal ?_ _)); rintro e w5 ⟨⟨v5, rfl, hi5⟩, hb5⟩; (have hBd : Below wq.heap.size wq w5 := bthen (by repeat (first | exact Below.refl _ _ | exact hBc | refine Below.drew ?_ | refine below_drewN ?_ _ | refine bset ?_ (by simp <;> omega) _ | refine bal ?_ _)) hb5; clear hBc; have hBc := hBd; clear hBd); have hb5' : Below wr.heap.size wr w5 := bthen (by repeat (first | exact Below.refl _ _ | exact hBw | refine Below.drew ?_ | refine below_drewN ?_ _ | refine bset ?_ (by simp <;> omega) _ | refine bal ?_ _)) hb5; have HF5 := Lib.hid (HF.out.below lims_ref hb5'); have HV5 := Lib.hid hi5; obtain ⟨n5, a5, c5, l5, rfl, -⟩ := hi5; unfold iv at *)
            | fail)
          all_goals
            go_wp2
            exact ⟨⟨j + 1, hlt2, by go_num, HF8⟩, meas hlt2 (by go_num) rfl⟩
        · obtain rfl : j = p := by omega
          have HRO := Lib.hid (show RRow 0 wr _ ((List.range j).map (Z i)) from (OwnF.row (w0 := wq) (l := (List.range j).map (Z i)) (by
            rw [List.length_map, List.length_range]
            exact hF.out.congr' fun k hk => (range_getD (Z i) hk).symm)).rebase (Nat.zero_le _))
          have HOW := Lib.hid (HO.out.below prs_rrow hbF)
          obtain ⟨hLL, hLM⟩ := lim_two (show (tab i j Z).length ≤ 65536 by rw [tab_len]; omega)
          clear HO
          go_wp2_with (at_builtin; refine appL elMat prs_rrow (by decide) (by rfl) (by rfl) (HOW.out.below prs_rrow (bal (Below.refl _ _) _)) (HRO.out.keep lims_ref (bal (Below.refl _ _) _)) (by rfl) (by rfl) (cell_new rfl rfl) hLL hLM ?_)
          intro v' w8 hO8 hk8
          have HO8 := Lib.hid hO8
          rw [tab_snoc] at HO8
          clear hO8 hk8
          go_wp2
          exact ⟨⟨i + 1, hlt, by go_num, HO8⟩, meas hlt (by go_num) rfl⟩
    · obtain rfl : i = n := by omega
      have HR := Lib.hid (show RefM wq _ (tab i p Z) from HO.out.isL.rebase (Nat.zero_le _))
      have hB5 := bthen hB1 hBr
      clear HO
      go_wp2
      go_ret
      exact ⟨⟨_, rfl, HR.out⟩, hB5⟩
end Go.Proofs.YthaohpfbengabaaGreatDoor

/- the reference's Same of rows and of matrices. -/
namespace Go.Proofs.YthaohpfbengabaaGreatDoor
open Num
open Go.ChangeShapes Go.WideShapes Go.ChangeAt Go.RowKit
set_option linter.unusedVariables false
set_option linter.unusedSimpArgs false
attribute [local go_sem ↓] Go.wp_at_zero Go.wp_at_succ
set_option maxRecDepth 100000 in
set_option maxHeartbeats 8000000 in
theorem rrowSame_c (va vb : Value) (la lb : List Int) (w : World) (ha : RRow 0 w va la) (hb : RRow 0 w vb lb) (hla : la.length ≤ 1099511627775) :
    Calls Tryz.prog 93 #[va, vb] w fun e w' => e = .returned (.bool (decide (la = lb))) ∧ Below w.heap.size w w' := by
  have HA := Lib.hid ha
  have HBB := Lib.hid hb
  obtain ⟨aa, ca, rfl, -⟩ := ha
  obtain ⟨ab, cb, rfl, -⟩ := hb
  obtain ⟨q, hq⟩ : ∃ q, decide (la = lb) = q := ⟨_, rfl⟩
  have HQ := Lib.hid hq
  rw [hq]
  clear hq
  have hB := Below.refl w.heap.size w
  by_cases hl : la.length = lb.length
  · have HLE := Lib.hid hl
    obtain ⟨n, hn⟩ : ∃ n, la.length = n := ⟨_, rfl⟩
    have hn2 : lb.length = n := by rw [← hl]; exact hn
    have HN := Lib.hid (And.intro hn hn2)
    rw [hn] at hla ⊢
    rw [hn2]
    clear hl hn hn2
    have hnn : ((n : Int) != (n : Int)) = false := by simp
    go_enter Tryz.func93, Tryz.ntmps93
    go_wp2
    go_loopw [5] (fun x wr => ∃ j : Nat, j ≤ n ∧ x = .int .i64 j ∧ Below w.heap.size w wr ∧ Hid (∀ t, t < j → la.getD t 0 = lb.getD t 0)) (fun x _ => n - (intOf x).toNat)
    case atStart => exact ⟨0, Nat.zero_le _, rfl, hB, Lib.hid (fun t ht => by omega)⟩
    case round =>
      obtain ⟨j, hj, rfl, hBr, hE⟩ := hrel
      by_cases hlt : j < n
      · have hltI : (j : Int) < (n : Int) := by omega
        obtain ⟨a', c', he, -, vr⟩ := (HA.out.keep lims_ref hBr).view
        obtain ⟨rfl, -, rfl⟩ := Value.slice.inj he
        obtain ⟨b', d', he2, -, vs⟩ := (HBB.out.keep lims_ref hBr).view
        obtain ⟨rfl, -, rfl⟩ := Value.slice.inj he2
        obtain ⟨rb, ro, n3, a3, l3, c3, rfl, r0, r1, hi⟩ := vr j (by rw [HN.out.1]; exact hlt)
        obtain ⟨sb, so, n4, a4, l4, c4, rfl, s0, s1, hi2⟩ := vs j (by rw [HN.out.2]; exact hlt)
        have HI := Lib.hid (And.intro hi hi2)
        have kc := fun W (q : Below wr.heap.size wr W) => rcmp_c _ _ (la.getD j 0) (lb.getD j 0) W (HI.out.1.keep q) (HI.out.2.keep q)
        obtain ⟨c, hc⟩ : ∃ c, cmpI (la.getD j 0) (lb.getD j 0) = c := ⟨_, rfl⟩
        have HC := Lib.hid hc
        rw [hc] at kc
        have KC := Lib.hid kc
        have zr := cell_lt r0
        have zs := cell_lt s0
        clear hc kc hi hi2 vr vs he he2
        have HS := Lib.hid (show ∀ W, Below wr.heap.size wr W → W.cell? ⟨rb, ro + j * 2, none⟩ = some (.bool n3) ∧ W.cell? ⟨rb, ro + j * 2 + 1, none⟩ = some (.slice a3 l3 c3) ∧ W.cell? ⟨sb, so + j * 2, none⟩ = some (.bool n4) ∧ W.cell? ⟨sb, so + j * 2 + 1, none⟩ = some (.slice a4 l4 c4) from fun W q => ⟨bkeep q r0, bkeep q r1, bkeep q s0, bkeep q s1⟩)
        have hBx := Below.refl wr.heap.size wr
        go_wp2
        go_region_held3 (fun W => W.cell? ⟨rb, ro + j * 2, none⟩ = some (.bool n3) ∧ W.cell? ⟨rb, ro + j * 2 + 1, none⟩ = some (.slice a3 l3 c3) ∧ W.cell? ⟨sb, so + j * 2, none⟩ = some (.bool n4) ∧ W.cell? ⟨sb, so + j * 2 + 1, none⟩ = some (.slice a4 l4 c4))
          (first | (refine HS.out _ ?_; (repeat (first | exact Below.refl _ _ | exact hBx | refine Below.drew ?_ | refine below_drewN ?_ _ | refine bset ?_ (by simp <;> omega) _ | refine bal ?_ _)); done) | fail)
          (first
          | (go_at_call 142; (with_reducible refine (KC.out _ ?_).mono ?_); (repeat (first | exact Below.refl _ _ | exact hBx | refine Below.drew ?_ | refine below_drewN ?_ _ | refine bset ?_ (by simp <;> omega) _ | refine bal ?_ _)); rintro e w5 ⟨rfl, hb5⟩; (have hBd : Below wr.heap.size wr w5 := bthen (by repeat (first | exact Below.refl _ _ | exact hBx | refine Below.drew ?_ | refine below_drewN ?_ _ | refine bset ?_ (by simp <;> omega) _ | refine bal ?_ _)) hb5; clear hBx; have hBx := hBd; clear hBd))
          | fail)
        all_goals
          have hB5 := bthen hBr hBx
          by_cases hc0 : c = 0
          · have hcI : (c != 0) = false := by simp [hc0]
            have HE2 := Lib.hid (show ∀ t, t < j + 1 → la.getD t 0 = lb.getD t 0 from fun t ht => by
              by_cases e : t = j
              · subst e; exact cmpI_zero.1 (by rw [HC.out]; exact hc0)
              · exact hE.out t (by omega))
            clear hc0 r0 r1 s0 s1
            go_wp2
            exact ⟨⟨j + 1, hlt, by go_num, hB5, HE2⟩, meas hlt (by go_num) rfl⟩
          · have hcI : (c != 0) = true := by simp [hc0]
            have HNE := Lib.hid (show q = false from by
              rw [← HQ.out]
              exact decide_eq_false fun h => hc0 (by rw [← HC.out, h]; exact cmpI_zero.2 rfl))
            clear hc0 r0 r1 s0 s1
            go_wp2
            go_ret
            exact ⟨by rw [HNE.out]; rfl, hB5⟩
      · obtain rfl : j = n := by omega
        have HEQ := Lib.hid (show q = true from by
          rw [← HQ.out]
          exact decide_eq_true (list_ext (d := 0) HLE.out (fun t ht => hE.out t (by rw [← HN.out.1]; exact ht))))
        go_wp2
        go_ret
        exact ⟨by rw [HEQ.out]; rfl, hBr⟩
  · have hnI : ((la.length : Int) != (lb.length : Int)) = true := by simp; omega
    have HNE := Lib.hid (show q = false from by rw [← HQ.out]; exact decide_eq_false fun e => hl (by rw [e]))
    go_enter Tryz.func93, Tryz.ntmps93
    go_wp2
    go_ret
    exact ⟨by rw [HNE.out]; rfl, by repeat (first | exact Below.refl _ _ | exact hB | refine Below.drew ?_ | refine below_drewN ?_ _ | refine bset ?_ (by simp <;> omega) _ | refine bal ?_ _)⟩
set_option maxRecDepth 100000 in
set_option maxHeartbeats 8000000 in
theorem rsameM_c (va vb : Value) (g h : Grid) (w : World) (ha : RefM w va g) (hb : RefM w vb h) (hgl : g.length ≤ 65536) (hg : ∀ i, i < g.length → (g.getD i []).length ≤ 1099511627775) :
    Calls Tryz.prog 35 #[va, vb] w fun e w' => e = .returned (.bool (decide (g = h))) ∧ Below w.heap.size w w' := by
  have HA := Lib.hid (show IsL 33 (RRow 0) 0 w va g from ha)
  have HBB := Lib.hid (show IsL 33 (RRow 0) 0 w vb h from hb)
  have HG := Lib.hid hg
  obtain ⟨aa, ca, rfl, -⟩ : ∃ a c, va = .slice a g.length c ∧ True := by obtain ⟨a, c, e, _⟩ := HA.out.view; exact ⟨a, c, e, trivial⟩
  obtain ⟨ab, cb, rfl, -⟩ : ∃ a c, vb = .slice a h.length c ∧ True := by obtain ⟨a, c, e, _⟩ := HBB.out.view; exact ⟨a, c, e, trivial⟩
  clear ha hb hg
  obtain ⟨q, hq⟩ : ∃ q, decide (g = h) = q := ⟨_, rfl⟩
  have HQ := Lib.hid hq
  rw [hq]
  clear hq
  have hB := Below.refl w.heap.size w
  by_cases hl : g.length = h.length
  · obtain ⟨n, hn⟩ : ∃ n, g.length = n := ⟨_, rfl⟩
    have hn2 : h.length = n := by rw [← hl]; exact hn
    have HN := Lib.hid (And.intro hn hn2)
    rw [hn] at hgl ⊢
    rw [hn2]
    clear hl hn hn2
    have hnn : ((n : Int) != (n : Int)) = false := by simp
    go_enter Tryz.func35, Tryz.ntmps35
    go_wp2
    go_loopw [5] (fun x wr => ∃ j : Nat, j ≤ n ∧ x = .int .i64 j ∧ Below w.heap.size w wr ∧ Hid (∀ t, t < j → g.getD t [] = h.getD t [])) (fun x _ => n - (intOf x).toNat)
    case atStart => exact ⟨0, Nat.zero_le _, rfl, hB, Lib.hid (fun t ht => by omega)⟩
    case round =>
      obtain ⟨j, hj, rfl, hBr, hE⟩ := hrel
      by_cases hlt : j < n
      · have hltI : (j : Int) < (n : Int) := by omega
        obtain ⟨c1, gb1, go1, ra1, rc1, e1, hu1, hp1⟩ := IsL.rrow (HA.out.keep prs_rrow hBr) (i := j) (by rw [HN.out.1]; exact hlt)
        obtain ⟨rfl, -, rfl⟩ := Value.slice.inj e1
        obtain ⟨c2, gb2, go2, ra2, rc2, e2, hu2, hp2⟩ := IsL.rrow (HBB.out.keep prs_rrow hBr) (i := j) (by rw [HN.out.2]; exact hlt)
        obtain ⟨rfl, -, rfl⟩ := Value.slice.inj e2
        have b1 := HG.out j (by rw [HN.out.1]; exact hlt)
        obtain ⟨l1, hl1⟩ : ∃ l, g.getD j [] = l := ⟨_, rfl⟩
        obtain ⟨l2, hl2⟩ : ∃ l, h.getD j [] = l := ⟨_, rfl⟩
        rw [hl1] at hu1 hp1 b1
        rw [hl2] at hu2 hp2
        have HL := Lib.hid (And.intro hl1 hl2)
        have KC := Lib.hid (fun W (q : Below wr.heap.size wr W) => rrowSame_c (.slice ra1 l1.length rc1) (.slice ra2 l2.length rc2) l1 l2 W (hp1.keep lims_ref q) (hp2.keep lims_ref q) b1)
        have z1 := cell_lt hu1
        have z2 := cell_lt hu2
        have HS := Lib.hid (show ∀ W, Below wr.heap.size wr W → W.cell? ⟨gb1, go1 + j, none⟩ = some (.slice ra1 l1.length rc1) ∧ W.cell? ⟨gb2, go2 + j, none⟩ = some (.slice ra2 l2.length rc2) from fun W q => ⟨bkeep q hu1, bkeep q hu2⟩)
        have hBx := Below.refl wr.heap.size wr
        clear e1 e2 hp1 hp2 b1 hl1 hl2
        obtain ⟨p, hp⟩ : ∃ p, decide (l1 = l2) = p := ⟨_, rfl⟩
        have HP := Lib.hid hp
        rw [hp] at KC
        clear hp
        go_wp2
        go_region_held3 (fun W => W.cell? ⟨gb1, go1 + j, none⟩ = some (.slice ra1 l1.length rc1) ∧ W.cell? ⟨gb2, go2 + j, none⟩ = some (.slice ra2 l2.length rc2))
          (first | (refine HS.out _ ?_; (repeat (first | exact Below.refl _ _ | exact hBx | refine Below.drew ?_ | refine below_drewN ?_ _ | refine bset ?_ (by simp <;> omega) _ | refine bal ?_ _)); done) | fail)
          (first
          | (go_at_call 93; (with_reducible refine (KC.out _ ?_).mono ?_); (repeat (first | exact Below.refl _ _ | exact hBx | refine Below.drew ?_ | refine below_drewN ?_ _ | refine bset ?_ (by simp <;> omega) _ | refine bal ?_ _)); rintro e w5 ⟨rfl, hb5⟩; (have hBd : Below wr.heap.size wr w5 := bthen (by repeat (first | exact Below.refl _ _ | exact hBx | refine Below.drew ?_ | refine below_drewN ?_ _ | refine bset ?_ (by simp <;> omega) _ | refine bal ?_ _)) hb5; clear hBx; have hBx := hBd; clear hBd))
          | fail)
        all_goals
          have hB5 := bthen hBr hBx
          clear KC hu1 hu2
          cases p with
          | true =>
            have HE2 := Lib.hid (show ∀ t, t < j + 1 → g.getD t [] = h.getD t [] from fun t ht => by
              by_cases e : t = j
              · subst e; rw [HL.out.1, HL.out.2]; exact of_decide_eq_true HP.out
              · exact hE.out t (by omega))
            go_wp2
            exact ⟨⟨j + 1, hlt, by go_num, hB5, HE2⟩, meas hlt (by go_num) rfl⟩
          | false =>
            have HNE := Lib.hid (show q = false from by
              rw [← HQ.out]
              exact decide_eq_false fun e => (of_decide_eq_false HP.out) (by rw [← HL.out.1, ← HL.out.2, e]))
            go_wp2
            go_ret
            exact ⟨by rw [HNE.out]; rfl, hB5⟩
      · obtain rfl : j = n := by omega
        have HEQ := Lib.hid (show q = true from by
          rw [← HQ.out]
          exact decide_eq_true (list_ext (d := []) (by rw [HN.out.1, HN.out.2]) (fun t ht => hE.out t (by rw [← HN.out.1]; exact ht))))
        go_wp2
        go_ret
        exact ⟨by rw [HEQ.out]; rfl, hBr⟩
  · have hnI : ((g.length : Int) != (h.length : Int)) = true := by simp; omega
    have HNE := Lib.hid (show q = false from by rw [← HQ.out]; exact decide_eq_false fun e => hl (by rw [e]))
    go_enter Tryz.func35, Tryz.ntmps35
    go_wp2
    go_ret
    exact ⟨by rw [HNE.out]; rfl, by repeat (first | exact Below.refl _ _ | exact hB | refine Below.drew ?_ | refine below_drewN ?_ _ | refine bset ?_ (by simp <;> omega) _ | refine bal ?_ _)⟩
end Go.Proofs.YthaohpfbengabaaGreatDoor

/- matrix's laws: bits of sums and products; whatever comes, or just that error. -/
namespace Go.Proofs.YthaohpfbengabaaGreatDoor
open Num
open Go.ChangeShapes Go.WideShapes Go.ChangeAt Go.RowKit
set_option linter.unusedVariables false
set_option linter.unusedSimpArgs false
attribute [local go_sem ↓] Go.wp_at_zero Go.wp_at_succ
theorem fits_yes {g : Grid} (h : fitsE g = 0) : 0 < g.length ∧ 0 < cols g ∧ g.length ≤ 16 ∧ cols g ≤ 16 ∧ Rct g (cols g) := by
  unfold fitsE at h
  split at h
  · cases h
  · split at h
    · cases h
    · split at h
      · refine ⟨by omega, by omega, by omega, by omega, fun i hi => ?_⟩
        rename_i h3
        exact h3 i hi
      · cases h
theorem i64_bd {w : World} {v : Value} {l : List Int} (h : RowI w v l) : ∀ j, Bd 64 (l.getD j 0) := fun j => by
  obtain ⟨a, c, -, h⟩ := h
  by_cases hj : j < l.length
  · obtain ⟨b, off, -, -, h5⟩ := h j hj
    unfold I64 at h5; unfold Bd; omega
  · rw [List.getD_eq_getElem?_getD, List.getElem?_eq_none (by omega)]; exact bd_zero
theorem i64_bdM {w : World} {v : Value} {g : Grid} (h : GridI w v g) : BdM 64 g := fun i j => by
  obtain ⟨a, c, -, h⟩ := h
  by_cases hi : i < g.length
  · obtain ⟨b, off, u, -, -, hr⟩ := h i hi
    exact i64_bd hr j
  · unfold gat
    rw [List.getD_eq_getElem?_getD (l := g), List.getElem?_eq_none (by omega)]
    simp [bd_zero]
theorem plus_bd {g h : Grid} {k : Nat} (h1 : BdM k g) (h2 : BdM k h) : BdM (k + 1) (plusG g h) := tab_bd fun i j _ _ => (h1 i j).add (h2 i j)
theorem times_bd {g h : Grid} {k m : Nat} (h1 : BdM k g) (h2 : BdM m h) : BdM (k + m + cols g) (timesG g h) := tab_bd fun i j _ _ => isum_bd (fun t => (h1 i t).mul (h2 t j)) _
theorem scale_bd {g : Grid} {c : Int} {k m : Nat} (h1 : BdM k g) (h2 : Bd m c) : BdM (k + m) (scaleG g c) := tab_bd fun i j _ _ => (h1 i j).mul h2
theorem turn_bd {g : Grid} {k : Nat} (h1 : BdM k g) : BdM k (turnG g) := tab_bd fun i j _ _ => h1 j i
theorem app_bd {g : Grid} {l : List Int} {k m : Nat} (rg : Rct g (cols g)) (hl : l.length = cols g) (h1 : BdM k g) (h2 : ∀ j, Bd m (l.getD j 0)) : ∀ j, Bd (k + m + cols g) ((applyG g l).getD j 0) := fun j => by
  by_cases hj : j < g.length
  · rw [app_at rg hl hj]
    exact isum_bd (fun t => (h1 j t).mul (h2 t)) _
  · rw [List.getD_eq_getElem?_getD, List.getElem?_eq_none (by rw [app_len]; omega)]; exact bd_zero
/-- a matrix of the program and one of the reference that are the same -/
structure Pair (k : Nat) (g : Grid) (vm vr : Value) (w : World) : Prop where
  m : IsM 0 w vm g
  r : RefM w vr g
  rc : Rct g (cols g)
  ln : g.length ≤ 65536
  lc : cols g ≤ 65536
  bd : BdM k g
theorem Pair.keep {k : Nat} {g : Grid} {vm vr : Value} {w w' : World} (h : Pair k g vm vr w) (b : Below w.heap.size w w') : Pair k g vm vr w' := ⟨h.m.keep b, h.r.keep b, h.rc, h.ln, h.lc, h.bd⟩
theorem Pair.is_c {k : Nat} {g : Grid} {vm vr : Value} {w : World} (h : Pair k g vm vr w) (hk : k ≤ 1073741824) : Calls Tryz.prog 29 #[vm, vr] w fun e w' => e = .returned (.bool true) ∧ Below w.heap.size w w' := mIs_c vm vr g k w h.m h.r h.rc h.ln h.lc h.bd hk
/-- what came is that, or just that error and none -/
def CmS (k : Nat) (g : Grid) (vm : Value) (ne : Int) (vr : Value) (no : Int) (w : World) : Prop :=
  (no = 0 ∧ ne = 0 ∧ Pair k g vm vr w) ∨ (no ≠ 0 ∧ ne = no ∧ vm = .agg #[.slice none 0 0] ∧ ∃ a n c, vr = .slice a n c)
theorem CmS.keep {k : Nat} {g : Grid} {vm vr : Value} {ne no : Int} {w w' : World} (h : CmS k g vm ne vr no w) (b : Below w.heap.size w w') : CmS k g vm ne vr no w' := by
  rcases h with ⟨h1, h2, h3⟩ | h
  · exact .inl ⟨h1, h2, h3.keep b⟩
  · exact .inr h
theorem mComes_any {k : Nat} {g : Grid} {vm vr : Value} {ne no : Int} {w : World} (h : CmS k g vm ne vr no w) (hk : k ≤ 1073741824) :
    Calls Tryz.prog 26 #[vm, .int .i64 ne, vr, .int .i64 no] w fun e w' => e = .returned (.bool true) ∧ Below w.heap.size w w' := by
  rcases h with ⟨rfl, rfl, h⟩ | ⟨h0, rfl, rfl, h⟩
  · exact mComes_yes vm vr g k w h.m h.r h.rc h.ln h.lc h.bd hk
  · exact mComes_no ne vr w h0 h
/-- what a matrix's cell keeps, when another one's variable is set -/
theorem CmS.setM {k : Nat} {g : Grid} {vm vr : Value} {ne no : Int} {w : World} (h : CmS k g vm ne vr no w) {p : Addr} (ht : typOf w p.block = some 27) (u : Value) : CmS k g vm ne vr no (w.setCell p u) := by
  rcases h with ⟨h1, h2, h3⟩ | h
  · exact .inl ⟨h1, h2, h3.m.setM ht u, IsL.kp (S' := fun t => t ≠ 27) prs_rrow h3.r ((Kp.refl _ _).set (fun t ht' => by rw [ht] at ht'; cases ht'; exact fun h => h rfl) _) (fun t ht => by rcases ht with rfl | rfl <;> decide) (by decide), h3.rc, h3.ln, h3.lc, h3.bd⟩
  · exact .inr h
/-- what an operation answers that may be asked wrongly, both ways in one -/
theorem mor_any {ok : Prop} {r : Grid} {w w' : World} {e : Ending} (al : Bool) (hal : al = true ↔ ok) (h : MOr ok 5 r w e w') :
    (∃ pa pn pc ne, e = .returned (.tuple #[.agg #[.slice pa pn pc], .int .i64 ne]) ∧ ((al = true ∧ ne = 0 ∧ IsM 0 w' (.agg #[.slice pa pn pc]) r) ∨ (al = false ∧ ne = 5 ∧ (Value.agg #[.slice pa pn pc]) = .agg #[.slice none 0 0]))) ∧ Below w.heap.size w w' := by
  obtain ⟨h, hb⟩ := h
  refine ⟨?_, hb⟩
  rcases h with ⟨ho, v, rfl, hv⟩ | ⟨ho, rfl⟩
  · have hv := hv.rebase (Nat.zero_le _)
    obtain ⟨a, c, rfl⟩ := hv.lit
    exact ⟨a, _, c, 0, rfl, .inl ⟨hal.2 ho, rfl, hv⟩⟩
  · exact ⟨none, 0, 0, 5, rfl, .inr ⟨by cases al with
      | true => exact absurd (hal.1 rfl) ho
      | false => rfl, rfl, rfl⟩⟩
theorem RefM.lit {w : World} {v : Value} {g : Grid} (h : RefM w v g) : ∃ a n c, v = .slice a n c := by
  obtain ⟨a, c, e, _⟩ := (show IsL 33 (RRow 0) 0 w v g from h).view
  exact ⟨a, _, c, e⟩
end Go.Proofs.YthaohpfbengabaaGreatDoor

