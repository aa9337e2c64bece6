/- Texts of this seat, laid together: PtPow, RwD, RwE, ExL. Each opens with its own remark, which says what it proves, and under which conditions. -/
import Derived.Test.YtdllbdfchloijaaDoorK01
import Derived.Test.YtdllbdfchloijaaDoorK06
import Derived.Test.YtdllbdfchloijaaDoorK05
import Derived.Test.YtdllbdfchloijaaDoorK14
import Derived.Deep.RegionLaw
import Derived.Test.YtdllbdfchloijaaDoorK12
import Derived.Test.YtdllbdfchloijaaDoorK13
set_option linter.unusedVariables false
set_option linter.unusedSimpArgs false
/- point: Powers. -/
namespace Go.Proofs.YtdllbdfchloijaaDoor
open Pt Num
open Go.ChangeShapes Go.WideShapes Go.ChangeAt Go.RowKit
set_option linter.unusedVariables false
set_option linter.unusedSimpArgs false

/-- the powers of a point -/
def powF (a b : Int) (n : Nat) (i : Nat) : Int := a ^ i * b ^ (n - 1 - i)
def powUp (a : Int) (j i : Nat) : Int := if i < j then a ^ i else 0
def powDn (a b : Int) (n j i : Nat) : Int := if i < j then a ^ i else a ^ i * b ^ (n - 1 - i)
theorem bd_pt {a : Int} (h1 : -16 ≤ a) (h2 : a ≤ 16) : Bd 5 a := by unfold Bd; omega

theorem powUp_succ (a : Int) (j : Nat) {n : Nat} : ∀ i, i < n → (if i = j then a ^ j else powUp a j i) = powUp a (j + 1) i := fun i _ => by
  unfold powUp
  by_cases h : i = j
  · subst h; simp
  · rw [if_neg h]
    by_cases h2 : i < j
    · rw [if_pos h2, if_pos (by omega)]
    · rw [if_neg h2, if_neg (by omega)]
theorem powDn_succ (a b : Int) (n k : Nat) : ∀ i, i < n → (if i = k then a ^ k * b ^ (n - (k + 1)) else powDn a b n (k + 1) i) = powDn a b n k i := fun i _ => by
  unfold powDn
  by_cases h : i = k
  · subst h
    rw [if_pos rfl, if_neg (by omega)]
    congr 2; omega
  · rw [if_neg h]
    by_cases h2 : i < k
    · rw [if_pos h2, if_pos (by omega)]
    · rw [if_neg h2, if_neg (by omega)]
/-- a block of numbers that is free -/
structure FreeI (w : World) (g : Nat) : Prop where
  lt : g < w.heap.size
  fz : ∀ j, w.frozen? ⟨g, j, none⟩ = false
  ty : typOf w g = some 31
theorem FreeI.keep {w w' : World} {g : Nat} (h : FreeI w g) (hb : Below w.heap.size w w') : FreeI w' g :=
  ⟨(Free.keep ⟨h.1, h.2⟩ hb).1, (Free.keep ⟨h.1, h.2⟩ hb).2, typ_keep h.3 hb⟩
theorem FreeI.new {w : World} {c : Array Value} {g : Nat} (hg : g = w.heap.size) : FreeI (w.alloc (.cells c 31)) g :=
  ⟨(Free.new (t := 31) hg).1, (Free.new (t := 31) hg).2, by subst hg; unfold typOf; rw [(MapKept.heap_alloc w _).1]⟩
theorem FreeI.set {w : World} {g : Nat} (h : FreeI w g) (p : Addr) (v : Value) : FreeI (w.setCell p v) g :=
  ⟨(Free.set ⟨h.1, h.2⟩ p v).1, (Free.set ⟨h.1, h.2⟩ p v).2, by rw [typ_set]; exact h.3⟩
set_option maxRecDepth 100000 in
set_option maxHeartbeats 4000000 in
theorem ptPow_own (a b : Int) (n : Nat) (w : World) (hp : PIn a b) (hn : n ≤ 16) :
    Calls Tryd.prog 29 #[pv a b, .int .i64 (n : Int)] w fun e w' => (∃ g, e = .returned (.tuple #[.slice (some ⟨g, 0, none⟩) n n, .int .i64 0]) ∧ IntsF IsInt w' g 0 n (powF a b n) ∧ w.heap.size ≤ g ∧ typOf w' g = some 31) ∧ Below w.heap.size w w' := by
  have cc : ∀ w, Calls Tryd.prog 7 #[pv a b] w fun e w' => e = .returned (.bool true) ∧ Below w.heap.size w w' := fun w => by rw [← inB_yes hp]; exact ptIn_c a b w
  have oc := fun w => of_c 1 w (by omega) (by omega)
  have ba := bd_pt hp.1 hp.2.1
  have bb := bd_pt hp.2.2.1 hp.2.2.2
  have tca := fun v j w h hj => times_c v (a ^ j) a (j * 5 + 1) w h (ba.pow j) hj (by have := hp.1; omega) (by have := hp.2.1; omega)
  have tcb := fun v j w h hj => times_c v (b ^ j) b (j * 5 + 1) w h (bb.pow j) hj (by have := hp.2.2.1; omega) (by have := hp.2.2.2; omega)
  have mc := fun u v i j w h1 h2 hi hj => mul_c u v (a ^ i) (b ^ j) (i * 5 + 1) (j * 5 + 1) w h1 h2 (ba.pow i) (bb.pow j) hi hj
  have hmk := mkInts n (by omega)
  have hn0 : decide ((n : Int) < 0) = false := by simp
  have hn1 : decide (16 < (n : Int)) = false := by simp; omega
  go_enter Tryd.func29, Tryd.ntmps29
  go_wp2_with fail
  refine (cc _).mono ?_
  rintro e w2 ⟨rfl, hb2⟩
  have g0 : w2.cell? ⟨w.heap.size, 0, none⟩ = some (.int .i64 a) := bkc hb2
  have zg0 := cell_lt g0
  have g1 : w2.cell? ⟨w.heap.size, 1, none⟩ = some (.int .i64 b) := bkc hb2
  have hB : Below w.heap.size w w2 := bthen (by repeat (first | exact Below.refl _ _ | exact hB | refine Below.drew ?_ | refine below_drewN ?_ _ | refine bset ?_ (by simp <;> omega) _ | refine bal ?_ _)) hb2
  have hz : w.heap.size ≤ w2.heap.size := hB.size
  have hgw := zg0
  go_wp2_with fail
  refine (oc _).mono ?_
  rintro e w3 ⟨⟨v3, rfl, hi3⟩, hb3⟩
  have hI3 := IntsF.keep lims_int (zcel_ints isInt_zero w2 n 31 rfl) hb3
  have hF3 := (FreeI.new (c := zcel n) (w := w2) rfl).keep hb3
  have g0 : w3.cell? ⟨w.heap.size, 0, none⟩ = some (.int .i64 a) := bkc hb3
  have zg0 := cell_lt g0
  have g1 : w3.cell? ⟨w.heap.size, 1, none⟩ = some (.int .i64 b) := bkc hb3
  have hB : Below w.heap.size w w3 := bthen (by repeat (first | exact Below.refl _ _ | exact hB | refine Below.drew ?_ | refine below_drewN ?_ _ | refine bset ?_ (by simp <;> omega) _ | refine bal ?_ _)) hb3
  have hz : w.heap.size ≤ w3.heap.size := hB.size
  generalize w2.heap.size = g at *
  clear hmk
  have HI3 := Lib.hid hi3
  obtain ⟨n3, a3, c3, l3, rfl, -⟩ := hi3
  unfold iv at *
  go_wp2_with fail
  refine (oc _).mono ?_
  rintro e w4 ⟨⟨v4, rfl, hi4⟩, hb4⟩
  have HI3' := Lib.hid (HI3.out.keep hb4)
  have hI4 := hI3.keep lims_int hb4
  have hF4 := hF3.keep hb4
  have g0 : w4.cell? ⟨w.heap.size, 0, none⟩ = some (.int .i64 a) := bkc hb4
  have zg0 := cell_lt g0
  have g1 : w4.cell? ⟨w.heap.size, 1, none⟩ = some (.int .i64 b) := bkc hb4
  have hB : Below w.heap.size w w4 := bthen (by repeat (first | exact Below.refl _ _ | exact hB | refine Below.drew ?_ | refine below_drewN ?_ _ | refine bset ?_ (by simp <;> omega) _ | refine bal ?_ _)) hb4
  have hz : w.heap.size ≤ w4.heap.size := hB.size
  have HI4 := Lib.hid hi4
  obtain ⟨n4, a4, c4, l4, rfl, -⟩ := hi4
  unfold iv at *
  clear HI3 hI3 hF3 hb2 hb3 hb4 oc cc
  go_wp2
  refine wp_name fun w5 hW5 => ?_
  have g0 : w5.cell? ⟨w.heap.size, 0, none⟩ = some (.int .i64 a) := by rw [hW5]; exact (by first | assumption | exact cell_new (by with_reducible first | rfl | (simp; done) | (simp; omega)) rfl | (repeat (first | assumption | exact cell_new (by with_reducible first | rfl | (simp; done) | (simp; omega)) rfl | refine cell_alloc ?_ _ | refine cell_drew ?_ | refine cell_drewN ?_ _ | refine cell_far ?_ (by simp) _ | (refine cell_far ?_ (by simp <;> omega) _))) | simp [go_sem, *])
  have zg0 := cell_lt g0
  have g1 : w5.cell? ⟨w.heap.size, 1, none⟩ = some (.int .i64 b) := by rw [hW5]; exact (by first | assumption | exact cell_new (by with_reducible first | rfl | (simp; done) | (simp; omega)) rfl | (repeat (first | assumption | exact cell_new (by with_reducible first | rfl | (simp; done) | (simp; omega)) rfl | refine cell_alloc ?_ _ | refine cell_drew ?_ | refine cell_drewN ?_ _ | refine cell_far ?_ (by simp) _ | (refine cell_far ?_ (by simp <;> omega) _))) | simp [go_sem, *])
  have u0f : w5.frozen? ⟨w4.heap.size, 0, none⟩ = false := by rw [hW5]; simp [go_sem, *]
  have u0 : w5.cell? ⟨w4.heap.size, 0, none⟩ = some (.bool n3) := by rw [hW5]; exact (by first | assumption | exact cell_new (by with_reducible first | rfl | (simp; done) | (simp; omega)) rfl | (repeat (first | assumption | exact cell_new (by with_reducible first | rfl | (simp; done) | (simp; omega)) rfl | refine cell_alloc ?_ _ | refine cell_drew ?_ | refine cell_drewN ?_ _ | refine cell_far ?_ (by simp) _ | (refine cell_far ?_ (by simp <;> omega) _))) | simp [go_sem, *])
  have zu0 := cell_lt u0
  have u1f : w5.frozen? ⟨w4.heap.size, 1, none⟩ = false := by rw [hW5]; simp [go_sem, *]
  have u1 : w5.cell? ⟨w4.heap.size, 1, none⟩ = some (.slice a3 l3.length c3) := by rw [hW5]; exact (by first | assumption | exact cell_new (by with_reducible first | rfl | (simp; done) | (simp; omega)) rfl | (repeat (first | assumption | exact cell_new (by with_reducible first | rfl | (simp; done) | (simp; omega)) rfl | refine cell_alloc ?_ _ | refine cell_drew ?_ | refine cell_drewN ?_ _ | refine cell_far ?_ (by simp) _ | (refine cell_far ?_ (by simp <;> omega) _))) | simp [go_sem, *])
  have d0f : w5.frozen? ⟨w4.heap.size + 1, 0, none⟩ = false := by rw [hW5]; simp [go_sem, *]
  have d0 : w5.cell? ⟨w4.heap.size + 1, 0, none⟩ = some (.bool n4) := by rw [hW5]; exact (by first | assumption | exact cell_new (by with_reducible first | rfl | (simp; done) | (simp; omega)) rfl | (repeat (first | assumption | exact cell_new (by with_reducible first | rfl | (simp; done) | (simp; omega)) rfl | refine cell_alloc ?_ _ | refine cell_drew ?_ | refine cell_drewN ?_ _ | refine cell_far ?_ (by simp) _ | (refine cell_far ?_ (by simp <;> omega) _))) | simp [go_sem, *])
  have zd0 := cell_lt d0
  have d1f : w5.frozen? ⟨w4.heap.size + 1, 1, none⟩ = false := by rw [hW5]; simp [go_sem, *]
  have d1 : w5.cell? ⟨w4.heap.size + 1, 1, none⟩ = some (.slice a4 l4.length c4) := by rw [hW5]; exact (by first | assumption | exact cell_new (by with_reducible first | rfl | (simp; done) | (simp; omega)) rfl | (repeat (first | assumption | exact cell_new (by with_reducible first | rfl | (simp; done) | (simp; omega)) rfl | refine cell_alloc ?_ _ | refine cell_drew ?_ | refine cell_drewN ?_ _ | refine cell_far ?_ (by simp) _ | (refine cell_far ?_ (by simp <;> omega) _))) | simp [go_sem, *])
  have hB : Below w.heap.size w w5 := by rw [hW5]; repeat (first | exact Below.refl _ _ | exact hB | refine Below.drew ?_ | refine below_drewN ?_ _ | refine bset ?_ (by simp <;> omega) _ | refine bal ?_ _)
  have hb5 : Below w4.heap.size w4 w5 := by rw [hW5]; exact bal (bal (Below.refl _ _) _) _
  have hz : w.heap.size ≤ w5.heap.size := hB.size
  clear hW5
  have HU := Lib.hid (HI3'.out.keep hb5)
  have HD := Lib.hid (HI4.out.keep hb5)
  have HG := Lib.hid (hI4.keep lims_int hb5)
  have HF := Lib.hid (hF4.keep hb5)
  have hgu : g < w4.heap.size := hF4.1
  clear HI3' HI4 hI4 hF4 hb5
  generalize w4.heap.size = u at *
  have HP := Lib.hid (And.intro u0 (And.intro u1 (And.intro u0f u1f)))
  clear u0 u1 u0f u1f
  have HFX := Lib.hid (And.intro g0 (And.intro g1 (And.intro d0 (And.intro d0f (And.intro d1 (d1f))))))
  clear g0 g1 d0 d0f d1 d1f
  go_loopw [28] (fun y wr => ∃ (j : Nat) (n6 : Bool) (a6 : Option Addr) (k6 c6 : Nat), j ≤ n ∧ y = .int .i64 j ∧ IsInt wr (.agg #[.bool n6, .slice a6 k6 c6]) (a ^ j) ∧ wr.cell? ⟨u, 0, none⟩ = some (.bool n6) ∧ wr.cell? ⟨u, 1, none⟩ = some (.slice a6 k6 c6) ∧ wr.frozen? ⟨u, 0, none⟩ = false ∧ wr.frozen? ⟨u, 1, none⟩ = false ∧ Out (fun k => k = g ∨ k = u) w5 wr ∧ Lim w5 wr ∧ IntsF IsInt wr g 0 n (powUp a j) ∧ FreeI wr g) (fun y _ => n - (intOf y).toNat)
  case atStart => exact ⟨0, n3, a3, _, c3, Nat.zero_le _, rfl, by simpa using HU.out, HP.out.1, HP.out.2.1, HP.out.2.2.1, HP.out.2.2.2, Out.refl _ _, Lim.refl _, HG.out.congr (fun k _ => by simp [powUp]), HF.out⟩
  case round =>
    obtain ⟨j, n6, a6, k6, c6, hj, rfl, hi6, u0, u1, u0f, u1f, hOut, hLim, hG, hFr⟩ := hrel
    obtain ⟨g0, g1, d0, d0f, d1, d1f⟩ := HFX.out
    replace g0 := okeep hOut g0 (fun h => by first | (have h2 : _ = _ := h; omega) | (rcases (show _ ∨ _ from h) with h | h <;> omega) | (rcases (show _ ∨ _ ∨ _ from h) with h | h | h <;> omega))
    replace g1 := okeep hOut g1 (fun h => by first | (have h2 : _ = _ := h; omega) | (rcases (show _ ∨ _ from h) with h | h <;> omega) | (rcases (show _ ∨ _ ∨ _ from h) with h | h | h <;> omega))
    replace d0f := okeepf hOut d0 d0f (fun h => by first | (have h2 : _ = _ := h; omega) | (rcases (show _ ∨ _ from h) with h | h <;> omega) | (rcases (show _ ∨ _ ∨ _ from h) with h | h | h <;> omega))
    replace d0 := okeep hOut d0 (fun h => by first | (have h2 : _ = _ := h; omega) | (rcases (show _ ∨ _ from h) with h | h <;> omega) | (rcases (show _ ∨ _ ∨ _ from h) with h | h | h <;> omega))
    replace d1f := okeepf hOut d1 d1f (fun h => by first | (have h2 : _ = _ := h; omega) | (rcases (show _ ∨ _ from h) with h | h <;> omega) | (rcases (show _ ∨ _ ∨ _ from h) with h | h | h <;> omega))
    replace d1 := okeep hOut d1 (fun h => by first | (have h2 : _ = _ := h; omega) | (rcases (show _ ∨ _ from h) with h | h <;> omega) | (rcases (show _ ∨ _ ∨ _ from h) with h | h | h <;> omega))
    by_cases hjn : j < n
    · obtain ⟨nb, ax, lx, cx, e0, e1, -⟩ := hG.at0 hjn
      have e0f := hFr.2 (j * 2)
      have e1f := hFr.2 (j * 2 + 1)
      have hG2 := hG.store0 lims_int hjn hi6
      have hL2 := Lim.set2 e0 e1 (.bool n6) (.slice a6 k6 c6)
      have HI2 := Lib.hid (hi6.lim hL2)
      have hO2 := hOut.set2 (g := g) (o := j * 2) (fun _ => .inl rfl) (.bool n6) (.slice a6 k6 c6)
      have hjn' : (j : Int) < (n : Int) := by omega
      go_wp2_with fail
      refine (tca _ j _ HI2.out (by omega)).mono ?_
      rintro e w7 ⟨⟨v7, rfl, hi7⟩, hb7⟩
      have hgne : g ≠ u := by omega
      replace u0f := bkeepf hb7 (cell_far (cell_far u0 (addr_ne hgne) _) (addr_ne hgne) _) (by simpa [go_sem] using u0f)
      replace u1f := bkeepf hb7 (cell_far (cell_far u1 (addr_ne hgne) _) (addr_ne hgne) _) (by simpa [go_sem] using u1f)
      replace u0 := bkeep hb7 (cell_far (cell_far u0 (addr_ne hgne) _) (addr_ne hgne) _)
      replace u1 := bkeep hb7 (cell_far (cell_far u1 (addr_ne hgne) _) (addr_ne hgne) _)
      have hI7 := Lib.hid hi7
      obtain ⟨n7, a7, c7, l7, rfl, -⟩ := hi7
      unfold iv at *
      have hL7 := Lim.set2 u0 u1 (.bool n7) (.slice a7 l7.length c7)
      have hG7 := (hG2.keep lims_int hb7).far lims_int (Ne.symm hgne) u0 u1 (.bool n7) (.slice a7 l7.length c7)
      have hO7 := (hO2.below hb7).set2 (g := u) (o := 0) (fun _ => .inr rfl) (.bool n7) (.slice a7 l7.length c7)
      have hF7 := ((((hFr.set ⟨g, j * 2, none⟩ (.bool n6)).set ⟨g, j * 2 + 1, none⟩ (.slice a6 k6 c6)).keep hb7).set ⟨u, 0, none⟩ (.bool n7)).set ⟨u, 1, none⟩ (.slice a7 l7.length c7)
      have hLL := ((hLim.trans hL2).below hb7).trans hL7
      clear hG hG2 hL2 hO2 hOut hLim hFr e0 e1 e0f e1f d0 d1 d0f d1f g0 g1
      go_wp2
      exact ⟨⟨j + 1, n7, a7, l7.length, c7, by omega, by go_num, by rw [Int.pow_succ]; exact hI7.out.lim hL7, cell_far (cell_here u0 _) (by simp) _, cell_here (cell_far u1 (by simp) _) _, by simpa [go_sem] using u0f, by simpa [go_sem] using u1f, hO7, hLL, hG7.congr (powUp_succ a j), hF7⟩, by simp [intOf]; omega⟩
    · obtain rfl : j = n := by omega
      have hDw := Lib.hid (HD.out.lim hLim)
      have hGj := Lib.hid (hG.congr (f' := powDn a b j j) (fun k hk => by simp [powUp, powDn, hk]))
      have hOB := Lib.hid (hB.trans (hOut.to_below (B := w.heap.size) (fun k hk _ h => by rcases h with h | h <;> omega) (by omega)))
      have HFr := Lib.hid hFr
      have HDP := Lib.hid (And.intro d0 (And.intro d1 (And.intro d0f d1f)))
      clear d0 d1 d0f d1f hOut hLim hG hFr u0 u1 u0f u1f hi6
      have HF2 := Lib.hid (And.intro g0 (g1))
      clear g0 g1
      go_wp2
      go_loopw [10] (fun y wi => ∃ (k : Nat) (n6 : Bool) (a6 : Option Addr) (k6 c6 : Nat), k ≤ j ∧ y = .int .i64 ((k : Int) - 1) ∧ IsInt wi (.agg #[.bool n6, .slice a6 k6 c6]) (b ^ (j - k)) ∧ wi.cell? ⟨u + 1, 0, none⟩ = some (.bool n6) ∧ wi.cell? ⟨u + 1, 1, none⟩ = some (.slice a6 k6 c6) ∧ wi.frozen? ⟨u + 1, 0, none⟩ = false ∧ wi.frozen? ⟨u + 1, 1, none⟩ = false ∧ Out (fun i => i = g ∨ i = u + 1) wr wi ∧ IntsF IsInt wi g 0 j (powDn a b j k) ∧ FreeI wi g) (fun y _ => (intOf y + 1).toNat)
      case atStart => exact ⟨j, n4, a4, _, c4, Nat.le_refl _, rfl, by simpa using hDw.out, HDP.out.1, HDP.out.2.1, HDP.out.2.2.1, HDP.out.2.2.2, Out.refl _ _, hGj.out, HFr.out⟩
      case round =>
        rename World => wi
        obtain ⟨k, n6, a6, k6, c6, hk, rfl, hi6, d0, d1, d0f, d1f, hOut, hG, hFr⟩ := hrel
        obtain ⟨g0, g1⟩ := HF2.out
        replace g0 := okeep hOut g0 (fun h => by first | (have h2 : _ = _ := h; omega) | (rcases (show _ ∨ _ from h) with h | h <;> omega) | (rcases (show _ ∨ _ ∨ _ from h) with h | h | h <;> omega))
        replace g1 := okeep hOut g1 (fun h => by first | (have h2 : _ = _ := h; omega) | (rcases (show _ ∨ _ from h) with h | h <;> omega) | (rcases (show _ ∨ _ ∨ _ from h) with h | h | h <;> omega))
        cases k with
        | zero =>
          have hB9 : Below w.heap.size w wi := hOB.out.trans (hOut.to_below (B := w.heap.size) (fun k hk _ h => by rcases h with h | h <;> omega) (by have := hOB.out.size; omega))
          have hG9 := Lib.hid (hG.congr (f' := powF a b j) (fun i _ => by simp [powDn, powF]))
          clear hG hOut
          go_wp2
          go_ret2
          exact ⟨⟨g, rfl, hG9.out, Nat.le_of_lt hgw, hFr.ty⟩, hB9⟩
        | succ k =>
          obtain ⟨nb, ax, lx, cx, e0, e1, he⟩ := hG.at0 (show k < j by omega)
          have e0f := hFr.2 (k * 2)
          have e1f := hFr.2 (k * 2 + 1)
          have hjn' : (k : Int) < (j : Int) := by omega
          have HE := Lib.hid (show IsInt wi (.agg #[.bool nb, .slice ax lx cx]) (a ^ k) by have := he; unfold powDn at this; rwa [if_pos (by omega)] at this)
          have HI6 := Lib.hid hi6
          clear he hi6
          go_wp2
          have HB := Lib.hid (Below.refl wi.heap.size wi)
          go_region_with ((go_at_call 10; refine (mc _ _ k _ _ (HE.out.lim (Lim.refl _).drew) (HI6.out.lim (Lim.refl _).drew) (by omega) (by omega)).mono ?_; rintro e w7 ⟨⟨v7, rfl, hi7⟩, hb7⟩; replace hb7 := (show Below wi.heap.size wi w7 from HB.out.drew.trans hb7); replace e0f := bkeepf hb7 e0 e0f; replace e1f := bkeepf hb7 e1 e1f; replace e0 := bkeep hb7 e0; replace e1 := bkeep hb7 e1; have HI7 := Lib.hid hi7; obtain ⟨n7, a7, c7, l7, rfl, -⟩ := hi7; unfold iv at *))
          all_goals
            have hG7 := (hG.keep lims_int hb7).store0 lims_int (show k < j by omega) HI7.out
            have hL7 := Lim.set2 e0 e1 (.bool n7) (.slice a7 l7.length c7)
            have hO7 := (hOut.below hb7).set2 (g := g) (o := k * 2) (fun _ => .inl rfl) (.bool n7) (.slice a7 l7.length c7)
            have HI8 := Lib.hid ((HI6.out.lim (.of_below hb7)).lim hL7)
            have hF7 := ((hFr.keep hb7).set ⟨g, k * 2, none⟩ (.bool n7)).set ⟨g, k * 2 + 1, none⟩ (.slice a7 l7.length c7)
            have hgne : g ≠ u + 1 := by omega
            have hgnw : g ≠ w.heap.size := by omega
            replace g0 := cell_far (cell_far (bkeep hb7 g0) (p := ⟨g, k * 2, none⟩) (addr_ne hgnw) (.bool n7)) (p := ⟨g, k * 2 + 1, none⟩) (addr_ne hgnw) (.slice a7 l7.length c7)
            replace g1 := cell_far (cell_far (bkeep hb7 g1) (p := ⟨g, k * 2, none⟩) (addr_ne hgnw) (.bool n7)) (p := ⟨g, k * 2 + 1, none⟩) (addr_ne hgnw) (.slice a7 l7.length c7)
            replace d0f := bkeepf hb7 d0 d0f
            replace d1f := bkeepf hb7 d1 d1f
            replace d0 := cell_far (cell_far (bkeep hb7 d0) (p := ⟨g, k * 2, none⟩) (addr_ne hgne) (.bool n7)) (p := ⟨g, k * 2 + 1, none⟩) (addr_ne hgne) (.slice a7 l7.length c7)
            replace d1 := cell_far (cell_far (bkeep hb7 d1) (p := ⟨g, k * 2, none⟩) (addr_ne hgne) (.bool n7)) (p := ⟨g, k * 2 + 1, none⟩) (addr_ne hgne) (.slice a7 l7.length c7)
            clear hG hOut hFr e0 e1 e0f e1f hL7 hb7 HE HI6 HI7
            go_wp2_with fail
            refine (tcb _ (j - (k + 1)) _ HI8.out (by omega)).mono ?_
            rintro e w8 ⟨⟨v8, rfl, hi8⟩, hb8⟩
            replace d0f := bkeepf hb8 d0 (by simpa [go_sem] using d0f)
            replace d1f := bkeepf hb8 d1 (by simpa [go_sem] using d1f)
            replace d0 := bkeep hb8 d0
            replace d1 := bkeep hb8 d1
            have HI9 := Lib.hid hi8
            obtain ⟨n8, a8, c8, l8, rfl, -⟩ := hi8
            unfold iv at *
            have hL8 := Lim.set2 d0 d1 (.bool n8) (.slice a8 l8.length c8)
            have hG8 := (hG7.keep lims_int hb8).far lims_int (Ne.symm hgne) d0 d1 (.bool n8) (.slice a8 l8.length c8)
            have hO8 := (hO7.below hb8).set2 (g := u + 1) (o := 0) (fun _ => .inr rfl) (.bool n8) (.slice a8 l8.length c8)
            have hF8 := ((hF7.keep hb8).set ⟨u + 1, 0, none⟩ (.bool n8)).set ⟨u + 1, 1, none⟩ (.slice a8 l8.length c8)
            have HE := Lib.hid (show b ^ (j - (k + 1)) * b = b ^ (j - k) by rw [← Int.pow_succ]; congr 1; omega)
            clear hG7 hO7 hF7 HI8
            go_wp2
            exact ⟨⟨k, n8, a8, l8.length, c8, by omega, rfl, by rw [← HE.out]; exact HI9.out.lim hL8, cell_far (cell_here d0 _) (by simp) _, cell_here (cell_far d1 (by simp) _) _, by simpa [go_sem] using d0f, by simpa [go_sem] using d1f, hO8, hG8.congr (powDn_succ a b j k), hF8⟩, by simp [intOf] <;> omega⟩
theorem ptPow_yes (a b : Int) (n : Nat) (w : World) (hp : PIn a b) (hn : n ≤ 16) :
    Calls Tryd.prog 29 #[pv a b, .int .i64 (n : Int)] w fun e w' => (∃ g, e = .returned (.tuple #[.slice (some ⟨g, 0, none⟩) n n, .int .i64 0]) ∧ IntsF IsInt w' g 0 n (powF a b n)) ∧ Below w.heap.size w w' :=
  (ptPow_own a b n w hp hn).mono fun e w' ⟨⟨g, h1, h2, _, _⟩, hb⟩ => ⟨⟨g, h1, h2⟩, hb⟩
end Go.Proofs.YtdllbdfchloijaaDoor

/- row: both, Add, Sub. -/
namespace Go.Proofs.YtdllbdfchloijaaDoor
open Num
open Go.ChangeShapes Go.WideShapes Go.ChangeAt Go.RowKit
set_option linter.unusedVariables false
set_option linter.unusedSimpArgs false
attribute [local go_sem ↓] Go.wp_at_zero Go.wp_at_succ
theorem typ_fresh {w : World} {c : Array Value} {t : TypeId} {q : Nat} (h : q = w.heap.size) : typOf (w.alloc (.cells c t)) q = some t := by
  subst h; unfold typOf; rw [(MapKept.heap_alloc w _).1]
set_option maxRecDepth 100000 in
set_option maxHeartbeats 4000000 in
theorem bothF_c (u vb : Value) (lb : List Int) (x z : Int) (F : Nat) (bnd caps : Array Value) (j kb fb bb : Nat) (w : World) (hx : IsInt w u x) (hrow : PRow 0 w vb lb) (hj : j < lb.length) (hl : lb.length ≤ 1099511627775)
    (c0 : w.cell? ⟨kb, 0, none⟩ = some (.int .i64 ((j : Int) - 1))) (c0f : w.frozen? ⟨kb, 0, none⟩ = false) (c1 : w.cell? ⟨fb, 0, none⟩ = some (.func (.func F) bnd caps)) (c2 : w.cell? ⟨bb, 0, none⟩ = some vb) (hT : typOf w kb = some 3) (hkf : kb ≠ fb) (hkb : kb ≠ bb)
    (eF : Enters Tryd.prog F) (hF : ∀ W u1 u2, Out (fun k => k = kb) w W → IsInt W u1 x → IsInt W u2 (lb.getD j 0) → Calls Tryd.prog F (bnd ++ #[u1, u2] ++ caps) W fun e w' => (∃ v, e = .returned v ∧ IsInt w' v z) ∧ Below W.heap.size W w') :
    Calls Tryd.prog 89 #[u, .pointer (some ⟨kb, 0, none⟩), .pointer (some ⟨fb, 0, none⟩), .pointer (some ⟨bb, 0, none⟩)] w fun e w' => (∃ v, e = .returned v ∧ IsInt w' v z) ∧ w'.cell? ⟨kb, 0, none⟩ = some (.int .i64 (j : Int)) ∧ (w'.frozen? ⟨kb, 0, none⟩ = false ∧ typOf w' kb = some 3) ∧ Out (fun k => k = kb) w w' := by
  have HF := Lib.hid hF
  have HX := Lib.hid hx
  obtain ⟨a', c', rfl, -, vr⟩ := hrow.view
  obtain ⟨b, off, n2, a2, l2, c2', rfl, d0, d1, hi⟩ := vr j hj
  have HY := Lib.hid hi
  have zk := cell_lt c0
  have hbk : b ≠ kb := fun e => by
    obtain ⟨a1, c1', he, -, -, h4⟩ := hrow
    obtain ⟨rfl, -, -⟩ := Value.slice.inj he
    rcases h4 with h4 | ⟨b', off', h1, -, h3, -⟩
    · rw [h4] at hj; simp at hj
    · cases h1; subst e; rw [hT] at h3; exact absurd (Option.some.inj h3) (by decide)
  obtain ⟨n1, a1, c1', l1, rfl, -⟩ := hx
  unfold iv at *
  unfold Enters at eF
  have hjI : (j : Int) < (lb.length : Int) := by omega
  have hkf' := Ne.symm hkf
  have hkb' := Ne.symm hkb
  clear hF vr hi
  have HZ := Lib.hid (And.intro hrow hT)
  clear hrow hT
  have hB := Below.refl w.heap.size w
  go_enter Tryd.func89, Tryd.ntmps89
  go_wp2
  refine wp_name fun w0 hW0 => ?_
  have hO : Out (fun k => k = kb) w w0 := by rw [hW0]; repeat (first | exact Out.refl _ _ | refine Out.drew ?_ | refine Out.set ?_ (fun _ => show kb = kb from rfl) _ | refine Out.alloc ?_ _)
  have x0 : w0.cell? ⟨w.heap.size, 0, none⟩ = some (.bool n1) := by rw [hW0]; simp [go_sem, *]
  have x1 : w0.cell? ⟨w.heap.size, 1, none⟩ = some (.slice a1 l1.length c1') := by rw [hW0]; simp [go_sem, *]
  have r0 : w0.cell? ⟨w.heap.size + 1, 0, none⟩ = some (.bool false) := by rw [hW0]; simp [go_sem, *]
  have r1 : w0.cell? ⟨w.heap.size + 1, 1, none⟩ = some (.slice none 0 0) := by rw [hW0]; simp [go_sem, *]
  have r0f : w0.frozen? ⟨w.heap.size + 1, 0, none⟩ = false := by rw [hW0]; simp [go_sem, *]
  have r1f : w0.frozen? ⟨w.heap.size + 1, 1, none⟩ = false := by rw [hW0]; simp [go_sem, *]
  have k0 : w0.cell? ⟨kb, 0, none⟩ = some (.int .i64 (j : Int)) := by rw [hW0]; simp [go_sem, *]
  have k0f : w0.frozen? ⟨kb, 0, none⟩ = false := by rw [hW0]; simp [go_sem, *]
  have ht0 : Hid (typOf w0 kb = some 3) := Lib.hid (by rw [hW0]; repeat (first | exact HZ.out.2 | (with_reducible rw [typ_set]) | (refine typ_keep ?_ (bal (Below.refl _ _) _))))
  have zfb := cell_lt c1
  have zbb := cell_lt c2
  have zbl := cell_lt d0
  have q1 := okeep hO c1 hkf'
  have q2 := okeep hO c2 hkb'
  have e0 := okeep hO d0 hbk
  have e1 := okeep hO d1 hbk
  clear hW0 c0 c0f c1 c2 d0 d1
  have hs := hO.size
  have zr := cell_lt r0
  have zx := cell_lt x0
  have ze := cell_lt e0
  have zq1 := cell_lt q1
  have zq2 := cell_lt q2
  have zk0 := cell_lt k0
  have hLim : Lim w w0 := (Kp.out (S := (· ≠ 3)) hO (fun q t hq ht k => by subst hq; rw [HZ.out.2] at ht; exact k (Option.some.inj ht).symm)).lim (by decide)
  have fc := fun W (h : Below w0.heap.size w0 W) => HF.out W (.agg #[.bool n1, .slice a1 l1.length c1']) (.agg #[.bool n2, .slice a2 l2 c2']) (hO.below h) ((HX.out.lim hLim).keep h) ((HY.out.lim hLim).keep h)
  simp only [Array.append_assoc] at fc
  have hBw := Below.refl w0.heap.size w0
  clear hLim
  have HS := Lib.hid (show ∀ W, Out (fun k => k = w.heap.size + 1) w0 W → W.cell? ⟨fb, 0, none⟩ = some (.func (.func F) bnd caps) ∧ W.cell? ⟨w.heap.size, 0, none⟩ = some (.bool n1) ∧ W.cell? ⟨w.heap.size, 1, none⟩ = some (.slice a1 l1.length c1') ∧ W.cell? ⟨bb, 0, none⟩ = some (.slice (some ⟨b, off, none⟩) lb.length c') ∧ W.cell? ⟨kb, 0, none⟩ = some (.int .i64 (j : Int)) ∧ W.cell? ⟨b, off + j * 2, none⟩ = some (.bool n2) ∧ W.cell? ⟨b, off + j * 2 + 1, none⟩ = some (.slice a2 l2 c2') from fun W h => ⟨okeep h q1 (by omega), okeep h x0 (by omega), okeep h x1 (by omega), okeep h q2 (by omega), okeep h k0 (by omega), okeep h e0 (by omega), okeep h e1 (by omega)⟩)
  have hOw := Out.refl (fun k => k = w.heap.size + 1) w0
  go_region_held3 (fun w' => w'.cell? ⟨fb, 0, none⟩ = some (.func (.func F) bnd caps) ∧ w'.cell? ⟨w.heap.size, 0, none⟩ = some (.bool n1) ∧ w'.cell? ⟨w.heap.size, 1, none⟩ = some (.slice a1 l1.length c1') ∧ w'.cell? ⟨bb, 0, none⟩ = some (.slice (some ⟨b, off, none⟩) lb.length c') ∧ w'.cell? ⟨kb, 0, none⟩ = some (.int .i64 (j : Int)) ∧ w'.cell? ⟨b, off + j * 2, none⟩ = some (.bool n2) ∧ w'.cell? ⟨b, off + j * 2 + 1, none⟩ = some (.slice a2 l2 c2'))
    (first | (refine HS.out _ ?_; (repeat (first | exact hOw | refine Out.drew ?_ | refine Out.drewN ?_ _ | refine Out.set ?_ (fun _ => show w.heap.size + 1 = w.heap.size + 1 from rfl) _ | refine Out.alloc ?_ _)); done) | fail)
    (first
      | (go_at_fn F; refine (fc _ ?_).mono ?_; (repeat (first | exact Below.refl _ _ | exact hBw | refine Below.drew ?_ | refine below_drewN ?_ _ | refine bset ?_ (by simp <;> omega) _ | refine bal ?_ _)); rintro e w5 ⟨⟨v5, rfl, hv5⟩, hb5⟩; have hB5 : Below w0.heap.size w0 w5 := bthen (by repeat (first | exact Below.refl _ _ | exact hBw | refine Below.drew ?_ | refine below_drewN ?_ _ | refine bset ?_ (by simp <;> omega) _ | refine bal ?_ _)) hb5; (have hBd : Out (fun k => k = w.heap.size + 1) w0 w5 := Out.of_below _ hB5; clear hOw; have hOw := hBd; clear hBd); have r05f := bkeepf hB5 r0 r0f; have r15f := bkeepf hB5 r1 r1f; have r05 := bkeep hB5 r0; have r15 := bkeep hB5 r1; have HV := Lib.hid hv5; obtain ⟨n5, a5, c5, l5, rfl, -⟩ := hv5; unfold iv at *)
      | fail)
  all_goals
    have k05 := bkeep hB5 k0
    have k05f := bkeepf hB5 k0 k0f
    have t05 := Lib.hid (typ_keep ht0.out hB5)
    have hO5 := hO.below hB5
    clear fc
    go_wp2
    refine bodyPost_ret (v := .agg #[.bool n5, .slice a5 l5.length c5]) (by simp [results, Tryd.results89, go_sem, *]) rfl ⟨⟨_, rfl, (HV.out).put2 r05 r15 _ _⟩, ?_, ⟨?_, ?_⟩, ?_⟩
    · exact cell_far (cell_far k05 (by simp <;> omega) _) (by simp <;> omega) _
    · rw [World.frozen?_setCell, World.frozen?_setCell]; exact k05f
    · rw [typ_set, typ_set]; exact t05.out
    · exact (hO5.set (fun h => absurd h (by show ¬ (w.heap.size + 1 < w.heap.size); omega)) _).set (fun h => absurd h (by show ¬ (w.heap.size + 1 < w.heap.size); omega)) _
set_option maxRecDepth 100000 in
set_option maxHeartbeats 4000000 in
/-- both, of rows that are as long -/
theorem both_yes (va vb : Value) (la lb lz : List Int) (F : Nat) (bnd caps : Array Value) (w : World) (ha : PRow 0 w va la) (hb : PRow 0 w vb lb) (hl : la.length ≤ 1099511627775) (he : la.length = lb.length) (hz : lz.length = la.length)
    (eF : Enters Tryd.prog F) (hF : ∀ j W u1 u2, j < la.length → Below w.heap.size w W → IsInt W u1 (la.getD j 0) → IsInt W u2 (lb.getD j 0) → Calls Tryd.prog F (bnd ++ #[u1, u2] ++ caps) W fun e w' => (∃ v, e = .returned v ∧ IsInt w' v (lz.getD j 0)) ∧ Below W.heap.size W w') :
    Calls Tryd.prog 81 #[va, vb, .func (.func F) bnd caps] w fun e w' => (∃ u, e = .returned (.tuple #[u, .int .i64 0]) ∧ RowO IsInt 31 w.heap.size w' u lz) ∧ Below w.heap.size w w' := by
  have HF := Lib.hid hF
  have HA := Lib.hid ha
  have HB' := Lib.hid hb
  obtain ⟨aa, ca, rfl, -⟩ := ha
  obtain ⟨ab, cb, rfl, -⟩ := hb
  have hb0 : lb.length ≤ 1099511627775 := by omega
  have HE := Lib.hid (And.intro he hz)
  have hne : (la.length != lb.length) = false := by simp [he]
  have hneI : ((la.length : Int) != (lb.length : Int)) = false := by simp [he]
  have ec := fun W (hB : Below w.heap.size w W) (k0 : W.cell? ⟨w.heap.size + 1 + 1, 0, none⟩ = some (.int .i64 (((0 : Nat) : Int) - 1))) (k0f : W.frozen? ⟨w.heap.size + 1 + 1, 0, none⟩ = false) (f0 : W.cell? ⟨w.heap.size + 1, 0, none⟩ = some (.func (.func F) bnd caps)) (b0 : W.cell? ⟨w.heap.size, 0, none⟩ = some (.slice ab lb.length cb)) (hT : typOf W (w.heap.size + 1 + 1) = some 3) =>
    each_c (.slice aa la.length ca) la 89 #[] #[.pointer (some ⟨w.heap.size + 1 + 1, 0, none⟩), .pointer (some ⟨w.heap.size + 1, 0, none⟩), .pointer (some ⟨w.heap.size, 0, none⟩)] (fun j => lz.getD j 0)
      (fun j W' => Below w.heap.size w W' ∧ W'.cell? ⟨w.heap.size + 1 + 1, 0, none⟩ = some (.int .i64 ((j : Int) - 1)) ∧ W'.frozen? ⟨w.heap.size + 1 + 1, 0, none⟩ = false ∧ W'.cell? ⟨w.heap.size + 1, 0, none⟩ = some (.func (.func F) bnd caps) ∧ W'.cell? ⟨w.heap.size, 0, none⟩ = some (.slice ab lb.length cb) ∧ typOf W' (w.heap.size + 1 + 1) = some 3)
      (fun q => q = w.heap.size + 1 + 1) W (HA.out.keep lims_int hB) hl (ens Tryd.func89 (by kernel_rfl) rfl) ⟨hB, k0, k0f, f0, b0, hT⟩
      (fun j W1 W2 h hk ho => by
        obtain ⟨h1, h2, h3, h4, h5, h6⟩ := h
        have hz := cell_lt k0
        have g : ∀ q, q ≤ w.heap.size + 2 → ¬ (W.heap.size ≤ q) := fun q hq => by omega
        have hs1 := h1.size
        exact ⟨h1.trans (ho.to_below (fun q hq _ => g q (by omega)) h1.size), okeep ho h2 (g _ (by omega)), okeepf ho h2 h3 (g _ (by omega)), okeep ho h4 (g _ (by omega)), okeep ho h5 (g _ (by omega)), by rw [typ_of_block (w := W1) (ho.block _ (cell_lt h2) (g _ (by omega)))]; exact h6⟩)
      (fun q hq => by subst hq; exact hT)
      (fun j W1 u hj h hu => by
        obtain ⟨h1, h2, h3, h4, h5, h6⟩ := h
        refine (bothF_c u (.slice ab lb.length cb) lb (la.getD j 0) (lz.getD j 0) F bnd caps j (w.heap.size + 1 + 1) (w.heap.size + 1) w.heap.size W1 hu (HB'.out.keep lims_int h1) (by have := HE.out.1; omega) hb0 h2 h3 h4 h5 h6 (by omega) (by omega) eF (fun W2 u1 u2 hO k1 k2 => HF.out j W2 u1 u2 hj (h1.trans (hO.to_below (fun q hq _ e => by omega) h1.size)) k1 k2)).mono ?_
        rintro e w' ⟨h7, h8, ⟨h8f, h8t⟩, h9⟩
        have hkp : Kp (· ≠ 3) W1 w' := Kp.out h9 (fun q t hq ht k => by subst hq; rw [h6] at ht; exact k (Option.some.inj ht).symm)
        refine ⟨h7, ⟨h1.trans (h9.to_below (fun q hq _ e => by omega) h1.size), by rw [h8]; congr 2; omega, h8f, okeep h9 h4 (by omega), okeep h9 h5 (by omega), h8t⟩, hkp, h9⟩)
  have EC := Lib.hid ec
  clear ec he hz hF
  have hB := Below.refl w.heap.size w
  go_enter Tryd.func81, Tryd.ntmps81
  go_upto_region 4 with (fail)
  refine wp_name fun w1 hW1 => ?_
  have k0f : w1.frozen? ⟨w.heap.size + 1 + 1, 0, none⟩ = false := by rw [hW1]; simp [go_sem, *]
  have k0 : w1.cell? ⟨w.heap.size + 1 + 1, 0, none⟩ = some (.int .i64 (-1)) := by rw [hW1]; exact (by first | assumption | exact cell_new (by with_reducible first | rfl | (simp; done) | (simp; omega)) rfl | (repeat (first | assumption | exact cell_new (by with_reducible first | rfl | (simp; done) | (simp; omega)) rfl | refine cell_alloc ?_ _ | refine cell_drew ?_ | refine cell_drewN ?_ _ | refine cell_far ?_ (by simp) _ | (refine cell_far ?_ (by simp <;> omega) _))) | simp [go_sem, *])
  have zk0 := cell_lt k0
  have f0 : w1.cell? ⟨w.heap.size + 1, 0, none⟩ = some (.func (.func F) bnd caps) := by rw [hW1]; exact (by first | assumption | exact cell_new (by with_reducible first | rfl | (simp; done) | (simp; omega)) rfl | (repeat (first | assumption | exact cell_new (by with_reducible first | rfl | (simp; done) | (simp; omega)) rfl | refine cell_alloc ?_ _ | refine cell_drew ?_ | refine cell_drewN ?_ _ | refine cell_far ?_ (by simp) _ | (refine cell_far ?_ (by simp <;> omega) _))) | simp [go_sem, *])
  have zf0 := cell_lt f0
  have b0 : w1.cell? ⟨w.heap.size, 0, none⟩ = some (.slice ab lb.length cb) := by rw [hW1]; exact (by first | assumption | exact cell_new (by with_reducible first | rfl | (simp; done) | (simp; omega)) rfl | (repeat (first | assumption | exact cell_new (by with_reducible first | rfl | (simp; done) | (simp; omega)) rfl | refine cell_alloc ?_ _ | refine cell_drew ?_ | refine cell_drewN ?_ _ | refine cell_far ?_ (by simp) _ | (refine cell_far ?_ (by simp <;> omega) _))) | simp [go_sem, *])
  have zb0 := cell_lt b0
  have hB : Below w.heap.size w w1 := by rw [hW1]; repeat (first | exact Below.refl _ _ | exact hB | refine Below.drew ?_ | refine below_drewN ?_ _ | refine bset ?_ (by simp <;> omega) _ | refine bal ?_ _)
  have hT : Hid (typOf w1 (w.heap.size + 1 + 1) = some 3) := Lib.hid (by rw [hW1]; exact typ_fresh (by simp))
  have hz : w.heap.size ≤ w1.heap.size := hB.size
  clear hW1

  have hb11 := Below.refl w1.heap.size w1
  go_wp2_with fail
  refine (EC.out _ (by repeat (first | exact Below.refl _ _ | exact hB | refine Below.drew ?_ | refine below_drewN ?_ _ | refine bset ?_ (by simp <;> omega) _ | refine bal ?_ _)) ?_ ?_ ?_ ?_ ?_).mono ?_
  · simpa using k0
  · exact k0f
  · exact f0
  · exact b0
  · exact hT.out
  rintro e w2 ⟨⟨u, rfl, hu⟩, hp, hO⟩
  have HU := Lib.hid (show RowO IsInt 31 w.heap.size w2 u lz from (hu.rowO HE.out.2 (fun k hk => rfl)).rebase hz)
  have HP := Lib.hid hp.1
  obtain ⟨ua, uc, rfl⟩ := hu.ex
  clear hu hp hO
  go_wp2
  go_ret2
  exact ⟨⟨_, rfl, HU.out⟩, HP.out⟩
end Go.Proofs.YtdllbdfchloijaaDoor

/- row: Over. -/
namespace Go.Proofs.YtdllbdfchloijaaDoor
open Num
open Go.ChangeShapes Go.WideShapes Go.ChangeAt Go.RowKit
set_option linter.unusedVariables false
set_option linter.unusedSimpArgs false
attribute [local go_sem ↓] Go.wp_at_zero Go.wp_at_succ
/-- what Over answers where the divisor is not 0 -/
def OverPost (l : List Int) (c : Int) (w : World) (e : Ending) (w' : World) : Prop :=
  (((∃ j, j < l.length ∧ l.getD j 0 % c ≠ 0) ∧ e = .returned (.tuple #[.slice none 0 0, .int .i64 20])) ∨
   ((∀ j, j < l.length → l.getD j 0 % c = 0) ∧ ∃ u, e = .returned (.tuple #[u, .int .i64 0]) ∧ RowO IsInt 31 w.heap.size w' u (l.map fun x => x / c))) ∧ Below w.heap.size w w'
set_option maxRecDepth 100000 in
set_option maxHeartbeats 8000000 in
theorem rowOver_c (v vc : Value) (l : List Int) (c : Int) (k : Nat) (w : World) (hv : PRow 0 w v l) (hc : IsInt w vc c) (hl : l.length ≤ 1099511627775) (hb : ∀ j, Bd k (l.getD j 0)) (bc : Bd k c) (hk : k ≤ 17179869184) (h0 : c ≠ 0) :
    Calls Tryd.prog 69 #[v, vc] w (OverPost l c w) := by
  have sc := fun W (h : Below w.heap.size w W) => sign_c vc c W (hc.keep h)
  have HV := Lib.hid hv
  have HC := Lib.hid hc
  have HBD := Lib.hid (And.intro hb (And.intro bc h0))
  obtain ⟨sg, hsg, hsgE⟩ : ∃ s : Int, s ≠ 0 ∧ c.sign = s := ⟨_, (fun e => h0 (Int.sign_eq_zero_iff_zero.1 e)), rfl⟩
  rw [hsgE] at sc
  have hsb : (sg == 0) = false := by simpa using hsg
  clear hsgE hb bc h0 hsg
  obtain ⟨va, vcap, rfl, -⟩ := hv
  obtain ⟨n1, a1, cc1, l1, rfl, -⟩ := hc
  unfold iv at *
  have hB := Below.refl w.heap.size w
  go_enter Tryd.func69, Tryd.ntmps69
  go_wp2_with fail
  refine (sc _ (by repeat (first | exact Below.refl _ _ | exact hB | refine Below.drew ?_ | refine below_drewN ?_ _ | refine bset ?_ (by simp <;> omega) _ | refine bal ?_ _))).mono ?_
  rintro e w1 ⟨rfl, hb1⟩
  have c0 : w1.cell? ⟨w.heap.size, 0, none⟩ = some (.bool n1) := bkc hb1
  have zc0 := cell_lt c0
  have c1 : w1.cell? ⟨w.heap.size, 1, none⟩ = some (.slice a1 l1.length cc1) := bkc hb1
  have hB : Below w.heap.size w w1 := bthen (by repeat (first | exact Below.refl _ _ | exact hB | refine Below.drew ?_ | refine below_drewN ?_ _ | refine bset ?_ (by simp <;> omega) _ | refine bal ?_ _)) hb1
  have hz : w.heap.size ≤ w1.heap.size := hB.size
  clear sc
  have hb11 := Below.refl w1.heap.size w1
  go_wp2
  go_loopw [6, 17] (fun v x wr => ∃ j : Nat, j ≤ l.length ∧ x = .int .i64 j ∧ Hid (OwnF IsInt 31 w1 wr v j (fun i => l.getD i 0 / c)) ∧ Hid (∀ i, i < j → l.getD i 0 % c = 0)) (fun _ x _ => l.length - (intOf x).toNat)
  case atStart => exact ⟨0, Nat.zero_le _, rfl, Lib.hid (OwnF.nil _ _ _ (by repeat (first | exact Below.refl _ _ | exact hb11 | refine Below.drew ?_ | refine below_drewN ?_ _ | refine bset ?_ (by simp <;> omega) _ | refine bal ?_ _))), Lib.hid (fun i hi => by omega)⟩
  case round =>
    obtain ⟨j, hj, rfl, hF, hA⟩ := hrel
    have hbr := hF.out.bel
    obtain ⟨fa, fc, hfv⟩ : ∃ a c, _ = Value.slice a j c := by obtain ⟨a, c, h, _⟩ := hF.out.view; exact ⟨a, c, h⟩
    subst hfv
    have c0 := bkeep hbr c0
    have c1 := bkeep hbr c1
    have zcr := cell_lt c0
    have hB := bthen hB hbr
    by_cases hlt : j < l.length
    · have hltI : (j : Int) < (l.length : Int) := by omega
      obtain ⟨a', c', he, -, vr⟩ := (HV.out.keep lims_int hB).view
      obtain ⟨rfl, -, rfl⟩ := Value.slice.inj he
      obtain ⟨b, off, n2, a2, l2, cc2, rfl, d0, d1, hi⟩ := vr j hlt
      have hb2 := HBD.out.1 j
      have HSN := Lib.hid (show ∀ q z, z = l.getD j 0 / c → q < j + 1 → (fun i => if i = j then z else l.getD i 0 / c) q = l.getD q 0 / c from fun q z hz hq => by dsimp only; split; (subst_vars; rfl); rfl)
      have HAN := Lib.hid (show l.getD j 0 % c = 0 → ∀ i, i < j + 1 → l.getD i 0 % c = 0 from fun h i hi => by
        by_cases e : i = j
        · subst e; exact h
        · exact hA.out i (by omega))
      have HNO := Lib.hid (show l.getD j 0 % c ≠ 0 → ∃ j, j < l.length ∧ l.getD j 0 % c ≠ 0 from fun h => ⟨j, hlt, h⟩)
      obtain ⟨x, hx⟩ : ∃ x, l.getD j 0 = x := ⟨_, rfl⟩
      rw [hx] at hi hb2 HSN HAN HNO
      have dc := fun W (h : Below wr.heap.size wr W) => divmod_c (.agg #[.bool n2, .slice a2 l2 cc2]) (.agg #[.bool n1, .slice a1 l1.length cc1]) x c k W (hi.keep h) ((HC.out.keep hB).keep h) hb2 HBD.out.2.1 hk HBD.out.2.2
      obtain ⟨q, hq⟩ : ∃ q, x / c = q := ⟨_, rfl⟩
      obtain ⟨r, hr⟩ : ∃ r, x % c = r := ⟨_, rfl⟩
      rw [hq, hr] at dc
      rw [hq] at HSN
      rw [hr] at HAN HNO
      clear hx he vr hi hb2 hq hr
      have hBw := Below.refl wr.heap.size wr
      go_wp2_with fail
      refine (dc _ (by repeat (first | exact Below.refl _ _ | exact hBw | refine Below.drew ?_ | refine below_drewN ?_ _ | refine bset ?_ (by simp <;> omega) _ | refine bal ?_ _))).mono ?_
      rintro e w2 ⟨⟨u, v, rfl, hu, hv⟩, hb2⟩
      have hb2' : Below wr.heap.size wr w2 := bthen (by repeat (first | exact Below.refl _ _ | exact hBw | refine Below.drew ?_ | refine below_drewN ?_ _ | refine bset ?_ (by simp <;> omega) _ | refine bal ?_ _)) hb2
      have HU := Lib.hid hu
      have sx := fun W (h : Below w2.heap.size w2 W) => sign_c v _ W (hv.keep h)
      obtain ⟨nu, au, cu, lu, rfl, -⟩ := hu
      obtain ⟨nv, av, cv, lv, rfl, -⟩ := hv
      unfold iv at *
      have hBz := Below.refl w2.heap.size w2
      clear dc
      by_cases hr0 : r = 0
      · subst hr0
        have HAN' := Lib.hid (HAN.out rfl)
        rw [Int.sign_zero] at sx
        clear HNO HAN
        go_wp2_with fail
        refine (sx _ (by repeat (first | exact Below.refl _ _ | exact hBz | refine Below.drew ?_ | refine below_drewN ?_ _ | refine bset ?_ (by simp <;> omega) _ | refine bal ?_ _))).mono ?_
        rintro e w3 ⟨rfl, hb3⟩
        have hb3' : Below w2.heap.size w2 w3 := bthen (by repeat (first | exact Below.refl _ _ | exact hBz | refine Below.drew ?_ | refine below_drewN ?_ _ | refine bset ?_ (by simp <;> omega) _ | refine bal ?_ _)) hb3
        have q0 : w3.cell? ⟨w2.heap.size, 0, none⟩ = some (.bool nu) := bkeep hb3 (cell_alloc (cell_new rfl rfl) _)
        have q1 : w3.cell? ⟨w2.heap.size, 1, none⟩ = some (.slice au lu.length cu) := bkeep hb3 (cell_alloc (cell_new rfl rfl) _)
        have zq := cell_lt q0
        have hF3 := Lib.hid (hF.out.below lims_int (bthen hb2' hb3'))
        have HU3 := Lib.hid (HU.out.keep hb3')
        clear sx
        go_wp2_with (at_builtin; refine app_num elInt (by decide) lims_int (by rfl) (by rfl) hF3.out HU3.out (by rfl) (by rfl) (by omega) ?_)
        intro v' w8 hF8 _ _
        have HF8 := Lib.hid (hF8.congr' (fun i hi => HSN.out i _ rfl hi))
        clear hF8
        go_wp2
        exact ⟨⟨j + 1, by omega, by go_num, HF8, HAN'⟩, by simp [intOf]; omega⟩
      · have HNO' := Lib.hid (HNO.out hr0)
        obtain ⟨sv, hsv, hsvE⟩ : ∃ s : Int, s ≠ 0 ∧ r.sign = s := ⟨_, (fun e => hr0 (Int.sign_eq_zero_iff_zero.1 e)), rfl⟩
        rw [hsvE] at sx
        have hsb2 : (sv != 0) = true := by simpa using hsv
        clear hsvE HNO HAN hr0 hsv
        go_wp2_with fail
        refine (sx _ (by repeat (first | exact Below.refl _ _ | exact hBz | refine Below.drew ?_ | refine below_drewN ?_ _ | refine bset ?_ (by simp <;> omega) _ | refine bal ?_ _))).mono ?_
        rintro e w3 ⟨rfl, hb3⟩
        have hb3' : Below w2.heap.size w2 w3 := bthen (by repeat (first | exact Below.refl _ _ | exact hBz | refine Below.drew ?_ | refine below_drewN ?_ _ | refine bset ?_ (by simp <;> omega) _ | refine bal ?_ _)) hb3
        clear sx
        go_wp2
        go_ret2
        exact ⟨.inl ⟨HNO'.out, rfl⟩, bthen hB (bthen hb2' hb3')⟩
    · obtain rfl : j = l.length := by omega
      go_wp2
      go_ret2
      refine ⟨.inr ⟨hA.out, _, rfl, ?_⟩, hB⟩
      refine RowO.rebase (OwnF.rowO (w0 := w1) (l := l.map fun x => x / c) ?_) hz
      rw [List.length_map]
      exact hF.out.congr' (fun k hk => (map_getD (fun x => x / c) hk).symm)
end Go.Proofs.YtdllbdfchloijaaDoor

/- exact: Trace: what its iterator tells. -/
namespace Go.Proofs.YtdllbdfchloijaaDoor
open Num
open Go.ChangeShapes Go.WideShapes Go.ChangeAt Go.RowKit
set_option linter.unusedVariables false
set_option linter.unusedSimpArgs false
attribute [local go_sem ↓] Go.wp_at_zero Go.wp_at_succ
/-- what the iterator finds -/
structure TraceIn (n0 : Nat) (X0 : Nat → Prop) (pb xb : Nat) (ins regs : Int) (ca oa : Option Addr) (cc oc : Nat) (code : List Ins) (outs : List Int) (v : Value) (l : List Int) (W : World) : Prop where
  p0 : W.cell? ⟨pb, 0, none⟩ = some (.int .i64 ins)
  p1 : W.cell? ⟨pb, 1, none⟩ = some (.int .i64 regs)
  p2 : W.cell? ⟨pb, 2, none⟩ = some (.slice ca code.length cc)
  p3 : W.cell? ⟨pb, 3, none⟩ = some (.slice oa outs.length oc)
  x0 : W.cell? ⟨xb, 0, none⟩ = some v
  hc : InsV W ca cc code
  ho : IntsV W oa oc outs
  hv : PRow 0 W v l
  lt : ∀ q, X0 q → q < n0
  le : n0 ≤ W.heap.size
  ty : ∀ q, X0 q → typOf W q = some 3
  nc : ∀ b off, ca = some ⟨b, off, none⟩ → 0 < code.length → ¬ X0 b
section
variable {n0 : Nat} {X0 : Nat → Prop} {pb xb : Nat} {ins regs : Int} {ca oa : Option Addr} {cc oc : Nat} {code : List Ins} {outs : List Int} {v : Value} {l : List Int} {W W' : World}
theorem TraceIn.keep (h : TraceIn n0 X0 pb xb ins regs ca oa cc oc code outs v l W) (k : Below W.heap.size W W') : TraceIn n0 X0 pb xb ins regs ca oa cc oc code outs v l W' :=
  ⟨bkeep k h.p0, bkeep k h.p1, bkeep k h.p2, bkeep k h.p3, bkeep k h.x0, h.hc.keep k, h.ho.keep k, h.hv.keep lims_int k, h.lt, Nat.le_trans h.le k.size, fun q hq => typ_keep (h.ty q hq) k, h.nc⟩
end
end Go.Proofs.YtdllbdfchloijaaDoor

