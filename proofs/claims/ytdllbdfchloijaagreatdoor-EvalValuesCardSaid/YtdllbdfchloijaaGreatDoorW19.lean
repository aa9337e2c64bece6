/- Texts of this seat, laid together: PtPow, RwE, ExF, RwF, VwR. Each opens with its own remark, which says what it proves, and under which conditions. -/
import Derived.Test.YtdllbdfchloijaaGreatDoorW01
import Derived.Test.YtdllbdfchloijaaGreatDoorW16
import Derived.Test.YtdllbdfchloijaaGreatDoorW06
import Derived.Test.YtdllbdfchloijaaGreatDoorW18
import Derived.Test.YtdllbdfchloijaaGreatDoorW15
import Derived.Test.YtdllbdfchloijaaGreatDoorW05
import Derived.Test.YtdllbdfchloijaaGreatDoorW10
set_option linter.unusedVariables false
set_option linter.unusedSimpArgs false
/- point: Powers. -/
namespace Go.Proofs.YtdllbdfchloijaaGreatDoor
open Pt Num
open Go.ChangeShapes Go.WideShapes Go.ChangeAt Go.RowKit
set_option linter.unusedVariables false
set_option linter.unusedSimpArgs false

/-- the powers of a point -/
def powF (a b : Int) (n : Nat) (i : Nat) : Int := a ^ i * b ^ (n - 1 - i)
def powUp (a : Int) (j i : Nat) : Int := if i < j then a ^ i else 0
def powDn (a b : Int) (n j i : Nat) : Int := if i < j then a ^ i else a ^ i * b ^ (n - 1 - i)
theorem bd_pt {a : Int} (h1 : -16 ≤ a) (h2 : a ≤ 16) : Bd 5 a := by unfold Bd; omega

theorem powUp_succ (a : Int) (j : Nat) {n : Nat} : ∀ i, i < n → (if i = j then a ^ j else powUp a j i) = powUp a (j + 1) i := fun i _ => by
  unfold powUp
  by_cases h : i = j
  · subst h; simp
  · rw [if_neg h]
    by_cases h2 : i < j
    · rw [if_pos h2, if_pos (by omega)]
    · rw [if_neg h2, if_neg (by omega)]
theorem powDn_succ (a b : Int) (n k : Nat) : ∀ i, i < n → (if i = k then a ^ k * b ^ (n - (k + 1)) else powDn a b n (k + 1) i) = powDn a b n k i := fun i _ => by
  unfold powDn
  by_cases h : i = k
  · subst h
    rw [if_pos rfl, if_neg (by omega)]
    congr 2; omega
  · rw [if_neg h]
    by_cases h2 : i < k
    · rw [if_pos h2, if_pos (by omega)]
    · rw [if_neg h2, if_neg (by omega)]
/-- a block of numbers that is free -/
structure FreeI (w : World) (g : Nat) : Prop where
  lt : g < w.heap.size
  fz : ∀ j, w.frozen? ⟨g, j, none⟩ = false
  ty : typOf w g = some 50
theorem FreeI.keep {w w' : World} {g : Nat} (h : FreeI w g) (hb : Below w.heap.size w w') : FreeI w' g :=
  ⟨(Free.keep ⟨h.1, h.2⟩ hb).1, (Free.keep ⟨h.1, h.2⟩ hb).2, typ_keep h.3 hb⟩
theorem FreeI.new {w : World} {c : Array Value} {g : Nat} (hg : g = w.heap.size) : FreeI (w.alloc (.cells c 50)) g :=
  ⟨(Free.new (t := 50) hg).1, (Free.new (t := 50) hg).2, by subst hg; unfold typOf; rw [(MapKept.heap_alloc w _).1]⟩
theorem FreeI.set {w : World} {g : Nat} (h : FreeI w g) (p : Addr) (v : Value) : FreeI (w.setCell p v) g :=
  ⟨(Free.set ⟨h.1, h.2⟩ p v).1, (Free.set ⟨h.1, h.2⟩ p v).2, by rw [typ_set]; exact h.3⟩
set_option maxRecDepth 100000 in
set_option maxHeartbeats 4000000 in
theorem ptPow_own (a b : Int) (n : Nat) (w : World) (hp : PIn a b) (hn : n ≤ 16) :
    Calls Tryz.prog 47 #[pv a b, .int .i64 (n : Int)] w fun e w' => (∃ g, e = .returned (.tuple #[.slice (some ⟨g, 0, none⟩) n n, .int .i64 0]) ∧ IntsF IsInt w' g 0 n (powF a b n) ∧ w.heap.size ≤ g ∧ typOf w' g = some 50) ∧ Below w.heap.size w w' := by
  have cc : ∀ w, Calls Tryz.prog 55 #[pv a b] w fun e w' => e = .returned (.bool true) ∧ Below w.heap.size w w' := fun w => by rw [← inB_yes hp]; exact ptIn_c a b w
  have oc := fun w => of_c 1 w (by omega) (by omega)
  have ba := bd_pt hp.1 hp.2.1
  have bb := bd_pt hp.2.2.1 hp.2.2.2
  have tca := fun v j w h hj => times_c v (a ^ j) a (j * 5 + 1) w h (ba.pow j) hj (by have := hp.1; omega) (by have := hp.2.1; omega)
  have tcb := fun v j w h hj => times_c v (b ^ j) b (j * 5 + 1) w h (bb.pow j) hj (by have := hp.2.2.1; omega) (by have := hp.2.2.2; omega)
  have mc := fun u v i j w h1 h2 hi hj => mul_c u v (a ^ i) (b ^ j) (i * 5 + 1) (j * 5 + 1) w h1 h2 (ba.pow i) (bb.pow j) hi hj
  have hmk := mkInts n (by omega)
  have hn0 : decide ((n : Int) < 0) = false := by simp
  have hn1 : decide (16 < (n : Int)) = false := by simp; omega
  go_enter Tryz.func47, Tryz.ntmps47
  go_wp2_with fail
  refine (cc _).mono ?_
  rintro e w2 ⟨rfl, hb2⟩
  have g0 : w2.cell? ⟨w.heap.size, 0, none⟩ = some (.int .i64 a) := bkc hb2
  have zg0 := cell_lt g0
  have g1 : w2.cell? ⟨w.heap.size, 1, none⟩ = some (.int .i64 b) := bkc hb2
  have hB : Below w.heap.size w w2 := bthen (by repeat (first | exact Below.refl _ _ | exact hB | refine Below.drew ?_ | refine below_drewN ?_ _ | refine bset ?_ (by simp <;> omega) _ | refine bal ?_ _)) hb2
  have hz : w.heap.size ≤ w2.heap.size := hB.size
  have hgw := zg0
  go_wp2_with fail
  refine (oc _).mono ?_
  rintro e w3 ⟨⟨v3, rfl, hi3⟩, hb3⟩
  have hI3 := IntsF.keep lims_int (zcel_ints isInt_zero w2 n 50 rfl) hb3
  have hF3 := (FreeI.new (c := zcel n) (w := w2) rfl).keep hb3
  have g0 : w3.cell? ⟨w.heap.size, 0, none⟩ = some (.int .i64 a) := bkc hb3
  have zg0 := cell_lt g0
  have g1 : w3.cell? ⟨w.heap.size, 1, none⟩ = some (.int .i64 b) := bkc hb3
  have hB : Below w.heap.size w w3 := bthen (by repeat (first | exact Below.refl _ _ | exact hB | refine Below.drew ?_ | refine below_drewN ?_ _ | refine bset ?_ (by simp <;> omega) _ | refine bal ?_ _)) hb3
  have hz : w.heap.size ≤ w3.heap.size := hB.size
  generalize w2.heap.size = g at *
  clear hmk
  have HI3 := Lib.hid hi3
  obtain ⟨n3, a3, c3, l3, rfl, -⟩ := hi3
  unfold iv at *
  go_wp2_with fail
  refine (oc _).mono ?_
  rintro e w4 ⟨⟨v4, rfl, hi4⟩, hb4⟩
  have HI3' := Lib.hid (HI3.out.keep hb4)
  have hI4 := hI3.keep lims_int hb4
  have hF4 := hF3.keep hb4
  have g0 : w4.cell? ⟨w.heap.size, 0, none⟩ = some (.int .i64 a) := bkc hb4
  have zg0 := cell_lt g0
  have g1 : w4.cell? ⟨w.heap.size, 1, none⟩ = some (.int .i64 b) := bkc hb4
  have hB : Below w.heap.size w w4 := bthen (by repeat (first | exact Below.refl _ _ | exact hB | refine Below.drew ?_ | refine below_drewN ?_ _ | refine bset ?_ (by simp <;> omega) _ | refine bal ?_ _)) hb4
  have hz : w.heap.size ≤ w4.heap.size := hB.size
  have HI4 := Lib.hid hi4
  obtain ⟨n4, a4, c4, l4, rfl, -⟩ := hi4
  unfold iv at *
  clear HI3 hI3 hF3 hb2 hb3 hb4 oc cc
  go_wp2
  refine wp_name fun w5 hW5 => ?_
  have g0 : w5.cell? ⟨w.heap.size, 0, none⟩ = some (.int .i64 a) := by rw [hW5]; exact (by first | assumption | exact cell_new (by with_reducible first | rfl | (simp; done) | (simp; omega)) rfl | (repeat (first | assumption | exact cell_new (by with_reducible first | rfl | (simp; done) | (simp; omega)) rfl | refine cell_alloc ?_ _ | refine cell_drew ?_ | refine cell_drewN ?_ _ | refine cell_far ?_ (by simp) _ | (refine cell_far ?_ (by simp <;> omega) _))) | simp [go_sem, *])
  have zg0 := cell_lt g0
  have g1 : w5.cell? ⟨w.heap.size, 1, none⟩ = some (.int .i64 b) := by rw [hW5]; exact (by first | assumption | exact cell_new (by with_reducible first | rfl | (simp; done) | (simp; omega)) rfl | (repeat (first | assumption | exact cell_new (by with_reducible first | rfl | (simp; done) | (simp; omega)) rfl | refine cell_alloc ?_ _ | refine cell_drew ?_ | refine cell_drewN ?_ _ | refine cell_far ?_ (by simp) _ | (refine cell_far ?_ (by simp <;> omega) _))) | simp [go_sem, *])
  have u0f : w5.frozen? ⟨w4.heap.size, 0, none⟩ = false := by rw [hW5]; simp [go_sem, *]
  have u0 : w5.cell? ⟨w4.heap.size, 0, none⟩ = some (.bool n3) := by rw [hW5]; exact (by first | assumption | exact cell_new (by with_reducible first | rfl | (simp; done) | (simp; omega)) rfl | (repeat (first | assumption | exact cell_new (by with_reducible first | rfl | (simp; done) | (simp; omega)) rfl | refine cell_alloc ?_ _ | refine cell_drew ?_ | refine cell_drewN ?_ _ | refine cell_far ?_ (by simp) _ | (refine cell_far ?_ (by simp <;> omega) _))) | simp [go_sem, *])
  have zu0 := cell_lt u0
  have u1f : w5.frozen? ⟨w4.heap.size, 1, none⟩ = false := by rw [hW5]; simp [go_sem, *]
  have u1 : w5.cell? ⟨w4.heap.size, 1, none⟩ = some (.slice a3 l3.length c3) := by rw [hW5]; exact (by first | assumption | exact cell_new (by with_reducible first | rfl | (simp; done) | (simp; omega)) rfl | (repeat (first | assumption | exact cell_new (by with_reducible first | rfl | (simp; done) | (simp; omega)) rfl | refine cell_alloc ?_ _ | refine cell_drew ?_ | refine cell_drewN ?_ _ | refine cell_far ?_ (by simp) _ | (refine cell_far ?_ (by simp <;> omega) _))) | simp [go_sem, *])
  have d0f : w5.frozen? ⟨w4.heap.size + 1, 0, none⟩ = false := by rw [hW5]; simp [go_sem, *]
  have d0 : w5.cell? ⟨w4.heap.size + 1, 0, none⟩ = some (.bool n4) := by rw [hW5]; exact (by first | assumption | exact cell_new (by with_reducible first | rfl | (simp; done) | (simp; omega)) rfl | (repeat (first | assumption | exact cell_new (by with_reducible first | rfl | (simp; done) | (simp; omega)) rfl | refine cell_alloc ?_ _ | refine cell_drew ?_ | refine cell_drewN ?_ _ | refine cell_far ?_ (by simp) _ | (refine cell_far ?_ (by simp <;> omega) _))) | simp [go_sem, *])
  have zd0 := cell_lt d0
  have d1f : w5.frozen? ⟨w4.heap.size + 1, 1, none⟩ = false := by rw [hW5]; simp [go_sem, *]
  have d1 : w5.cell? ⟨w4.heap.size + 1, 1, none⟩ = some (.slice a4 l4.length c4) := by rw [hW5]; exact (by first | assumption | exact cell_new (by with_reducible first | rfl | (simp; done) | (simp; omega)) rfl | (repeat (first | assumption | exact cell_new (by with_reducible first | rfl | (simp; done) | (simp; omega)) rfl | refine cell_alloc ?_ _ | refine cell_drew ?_ | refine cell_drewN ?_ _ | refine cell_far ?_ (by simp) _ | (refine cell_far ?_ (by simp <;> omega) _))) | simp [go_sem, *])
  have hB : Below w.heap.size w w5 := by rw [hW5]; repeat (first | exact Below.refl _ _ | exact hB | refine Below.drew ?_ | refine below_drewN ?_ _ | refine bset ?_ (by simp <;> omega) _ | refine bal ?_ _)
  have hb5 : Below w4.heap.size w4 w5 := by rw [hW5]; exact bal (bal (Below.refl _ _) _) _
  have hz : w.heap.size ≤ w5.heap.size := hB.size
  clear hW5
  have HU := Lib.hid (HI3'.out.keep hb5)
  have HD := Lib.hid (HI4.out.keep hb5)
  have HG := Lib.hid (hI4.keep lims_int hb5)
  have HF := Lib.hid (hF4.keep hb5)
  have hgu : g < w4.heap.size := hF4.1
  clear HI3' HI4 hI4 hF4 hb5
  generalize w4.heap.size = u at *
  have HP := Lib.hid (And.intro u0 (And.intro u1 (And.intro u0f u1f)))
  clear u0 u1 u0f u1f
  have HFX := Lib.hid (And.intro g0 (And.intro g1 (And.intro d0 (And.intro d0f (And.intro d1 (d1f))))))
  clear g0 g1 d0 d0f d1 d1f
  go_loopw [28] (fun y wr => ∃ (j : Nat) (n6 : Bool) (a6 : Option Addr) (k6 c6 : Nat), j ≤ n ∧ y = .int .i64 j ∧ IsInt wr (.agg #[.bool n6, .slice a6 k6 c6]) (a ^ j) ∧ wr.cell? ⟨u, 0, none⟩ = some (.bool n6) ∧ wr.cell? ⟨u, 1, none⟩ = some (.slice a6 k6 c6) ∧ wr.frozen? ⟨u, 0, none⟩ = false ∧ wr.frozen? ⟨u, 1, none⟩ = false ∧ Out (fun k => k = g ∨ k = u) w5 wr ∧ Lim w5 wr ∧ IntsF IsInt wr g 0 n (powUp a j) ∧ FreeI wr g) (fun y _ => n - (intOf y).toNat)
  case atStart => exact ⟨0, n3, a3, _, c3, Nat.zero_le _, rfl, by simpa using HU.out, HP.out.1, HP.out.2.1, HP.out.2.2.1, HP.out.2.2.2, Out.refl _ _, Lim.refl _, HG.out.congr (fun k _ => by simp [powUp]), HF.out⟩
  case round =>
    obtain ⟨j, n6, a6, k6, c6, hj, rfl, hi6, u0, u1, u0f, u1f, hOut, hLim, hG, hFr⟩ := hrel
    obtain ⟨g0, g1, d0, d0f, d1, d1f⟩ := HFX.out
    replace g0 := okeep hOut g0 (fun h => by first | (have h2 : _ = _ := h; omega) | (rcases (show _ ∨ _ from h) with h | h <;> omega) | (rcases (show _ ∨ _ ∨ _ from h) with h | h | h <;> omega))
    replace g1 := okeep hOut g1 (fun h => by first | (have h2 : _ = _ := h; omega) | (rcases (show _ ∨ _ from h) with h | h <;> omega) | (rcases (show _ ∨ _ ∨ _ from h) with h | h | h <;> omega))
    replace d0f := okeepf hOut d0 d0f (fun h => by first | (have h2 : _ = _ := h; omega) | (rcases (show _ ∨ _ from h) with h | h <;> omega) | (rcases (show _ ∨ _ ∨ _ from h) with h | h | h <;> omega))
    replace d0 := okeep hOut d0 (fun h => by first | (have h2 : _ = _ := h; omega) | (rcases (show _ ∨ _ from h) with h | h <;> omega) | (rcases (show _ ∨ _ ∨ _ from h) with h | h | h <;> omega))
    replace d1f := okeepf hOut d1 d1f (fun h => by first | (have h2 : _ = _ := h; omega) | (rcases (show _ ∨ _ from h) with h | h <;> omega) | (rcases (show _ ∨ _ ∨ _ from h) with h | h | h <;> omega))
    replace d1 := okeep hOut d1 (fun h => by first | (have h2 : _ = _ := h; omega) | (rcases (show _ ∨ _ from h) with h | h <;> omega) | (rcases (show _ ∨ _ ∨ _ from h) with h | h | h <;> omega))
    by_cases hjn : j < n
    · obtain ⟨nb, ax, lx, cx, e0, e1, -⟩ := hG.at0 hjn
      have e0f := hFr.2 (j * 2)
      have e1f := hFr.2 (j * 2 + 1)
      have hG2 := hG.store0 lims_int hjn hi6
      have hL2 := Lim.set2 e0 e1 (.bool n6) (.slice a6 k6 c6)
      have HI2 := Lib.hid (hi6.lim hL2)
      have hO2 := hOut.set2 (g := g) (o := j * 2) (fun _ => .inl rfl) (.bool n6) (.slice a6 k6 c6)
      have hjn' : (j : Int) < (n : Int) := by omega
      go_wp2_with fail
      refine (tca _ j _ HI2.out (by omega)).mono ?_
      rintro e w7 ⟨⟨v7, rfl, hi7⟩, hb7⟩
      have hgne : g ≠ u := by omega
      replace u0f := bkeepf hb7 (cell_far (cell_far u0 (addr_ne hgne) _) (addr_ne hgne) _) (by simpa [go_sem] using u0f)
      replace u1f := bkeepf hb7 (cell_far (cell_far u1 (addr_ne hgne) _) (addr_ne hgne) _) (by simpa [go_sem] using u1f)
      replace u0 := bkeep hb7 (cell_far (cell_far u0 (addr_ne hgne) _) (addr_ne hgne) _)
      replace u1 := bkeep hb7 (cell_far (cell_far u1 (addr_ne hgne) _) (addr_ne hgne) _)
      have hI7 := Lib.hid hi7
      obtain ⟨n7, a7, c7, l7, rfl, -⟩ := hi7
      unfold iv at *
      have hL7 := Lim.set2 u0 u1 (.bool n7) (.slice a7 l7.length c7)
      have hG7 := (hG2.keep lims_int hb7).far lims_int (Ne.symm hgne) u0 u1 (.bool n7) (.slice a7 l7.length c7)
      have hO7 := (hO2.below hb7).set2 (g := u) (o := 0) (fun _ => .inr rfl) (.bool n7) (.slice a7 l7.length c7)
      have hF7 := ((((hFr.set ⟨g, j * 2, none⟩ (.bool n6)).set ⟨g, j * 2 + 1, none⟩ (.slice a6 k6 c6)).keep hb7).set ⟨u, 0, none⟩ (.bool n7)).set ⟨u, 1, none⟩ (.slice a7 l7.length c7)
      have hLL := ((hLim.trans hL2).below hb7).trans hL7
      clear hG hG2 hL2 hO2 hOut hLim hFr e0 e1 e0f e1f d0 d1 d0f d1f g0 g1
      go_wp2
      exact ⟨⟨j + 1, n7, a7, l7.length, c7, by omega, by go_num, by rw [Int.pow_succ]; exact hI7.out.lim hL7, cell_far (cell_here u0 _) (by simp) _, cell_here (cell_far u1 (by simp) _) _, by simpa [go_sem] using u0f, by simpa [go_sem] using u1f, hO7, hLL, hG7.congr (powUp_succ a j), hF7⟩, by simp [intOf]; omega⟩
    · obtain rfl : j = n := by omega
      have hDw := Lib.hid (HD.out.lim hLim)
      have hGj := Lib.hid (hG.congr (f' := powDn a b j j) (fun k hk => by simp [powUp, powDn, hk]))
      have hOB := Lib.hid (hB.trans (hOut.to_below (B := w.heap.size) (fun k hk _ h => by rcases h with h | h <;> omega) (by omega)))
      have HFr := Lib.hid hFr
      have HDP := Lib.hid (And.intro d0 (And.intro d1 (And.intro d0f d1f)))
      clear d0 d1 d0f d1f hOut hLim hG hFr u0 u1 u0f u1f hi6
      have HF2 := Lib.hid (And.intro g0 (g1))
      clear g0 g1
      go_wp2
      go_loopw [10] (fun y wi => ∃ (k : Nat) (n6 : Bool) (a6 : Option Addr) (k6 c6 : Nat), k ≤ j ∧ y = .int .i64 ((k : Int) - 1) ∧ IsInt wi (.agg #[.bool n6, .slice a6 k6 c6]) (b ^ (j - k)) ∧ wi.cell? ⟨u + 1, 0, none⟩ = some (.bool n6) ∧ wi.cell? ⟨u + 1, 1, none⟩ = some (.slice a6 k6 c6) ∧ wi.frozen? ⟨u + 1, 0, none⟩ = false ∧ wi.frozen? ⟨u + 1, 1, none⟩ = false ∧ Out (fun i => i = g ∨ i = u + 1) wr wi ∧ IntsF IsInt wi g 0 j (powDn a b j k) ∧ FreeI wi g) (fun y _ => (intOf y + 1).toNat)
      case atStart => exact ⟨j, n4, a4, _, c4, Nat.le_refl _, rfl, by simpa using hDw.out, HDP.out.1, HDP.out.2.1, HDP.out.2.2.1, HDP.out.2.2.2, Out.refl _ _, hGj.out, HFr.out⟩
      case round =>
        rename World => wi
        obtain ⟨k, n6, a6, k6, c6, hk, rfl, hi6, d0, d1, d0f, d1f, hOut, hG, hFr⟩ := hrel
        obtain ⟨g0, g1⟩ := HF2.out
        replace g0 := okeep hOut g0 (fun h => by first | (have h2 : _ = _ := h; omega) | (rcases (show _ ∨ _ from h) with h | h <;> omega) | (rcases (show _ ∨ _ ∨ _ from h) with h | h | h <;> omega))
        replace g1 := okeep hOut g1 (fun h => by first | (have h2 : _ = _ := h; omega) | (rcases (show _ ∨ _ from h) with h | h <;> omega) | (rcases (show _ ∨ _ ∨ _ from h) with h | h | h <;> omega))
        cases k with
        | zero =>
          have hB9 : Below w.heap.size w wi := hOB.out.trans (hOut.to_below (B := w.heap.size) (fun k hk _ h => by rcases h with h | h <;> omega) (by have := hOB.out.size; omega))
          have hG9 := Lib.hid (hG.congr (f' := powF a b j) (fun i _ => by simp [powDn, powF]))
          clear hG hOut
          go_wp2
          go_ret2
          exact ⟨⟨g, rfl, hG9.out, Nat.le_of_lt hgw, hFr.ty⟩, hB9⟩
        | succ k =>
          obtain ⟨nb, ax, lx, cx, e0, e1, he⟩ := hG.at0 (show k < j by omega)
          have e0f := hFr.2 (k * 2)
          have e1f := hFr.2 (k * 2 + 1)
          have hjn' : (k : Int) < (j : Int) := by omega
          have HE := Lib.hid (show IsInt wi (.agg #[.bool nb, .slice ax lx cx]) (a ^ k) by have := he; unfold powDn at this; rwa [if_pos (by omega)] at this)
          have HI6 := Lib.hid hi6
          clear he hi6
          go_wp2
          have HB := Lib.hid (Below.refl wi.heap.size wi)
          go_region_with ((go_at_call 57; refine (mc _ _ k _ _ (HE.out.lim (Lim.refl _).drew) (HI6.out.lim (Lim.refl _).drew) (by omega) (by omega)).mono ?_; rintro e w7 ⟨⟨v7, rfl, hi7⟩, hb7⟩; replace hb7 := (show Below wi.heap.size wi w7 from HB.out.drew.trans hb7); replace e0f := bkeepf hb7 e0 e0f; replace e1f := bkeepf hb7 e1 e1f; replace e0 := bkeep hb7 e0; replace e1 := bkeep hb7 e1; have HI7 := Lib.hid hi7; obtain ⟨n7, a7, c7, l7, rfl, -⟩ := hi7; unfold iv at *))
          all_goals
            have hG7 := (hG.keep lims_int hb7).store0 lims_int (show k < j by omega) HI7.out
            have hL7 := Lim.set2 e0 e1 (.bool n7) (.slice a7 l7.length c7)
            have hO7 := (hOut.below hb7).set2 (g := g) (o := k * 2) (fun _ => .inl rfl) (.bool n7) (.slice a7 l7.length c7)
            have HI8 := Lib.hid ((HI6.out.lim (.of_below hb7)).lim hL7)
            have hF7 := ((hFr.keep hb7).set ⟨g, k * 2, none⟩ (.bool n7)).set ⟨g, k * 2 + 1, none⟩ (.slice a7 l7.length c7)
            have hgne : g ≠ u + 1 := by omega
            have hgnw : g ≠ w.heap.size := by omega
            replace g0 := cell_far (cell_far (bkeep hb7 g0) (p := ⟨g, k * 2, none⟩) (addr_ne hgnw) (.bool n7)) (p := ⟨g, k * 2 + 1, none⟩) (addr_ne hgnw) (.slice a7 l7.length c7)
            replace g1 := cell_far (cell_far (bkeep hb7 g1) (p := ⟨g, k * 2, none⟩) (addr_ne hgnw) (.bool n7)) (p := ⟨g, k * 2 + 1, none⟩) (addr_ne hgnw) (.slice a7 l7.length c7)
            replace d0f := bkeepf hb7 d0 d0f
            replace d1f := bkeepf hb7 d1 d1f
            replace d0 := cell_far (cell_far (bkeep hb7 d0) (p := ⟨g, k * 2, none⟩) (addr_ne hgne) (.bool n7)) (p := ⟨g, k * 2 + 1, none⟩) (addr_ne hgne) (.slice a7 l7.length c7)
            replace d1 := cell_far (cell_far (bkeep hb7 d1) (p := ⟨g, k * 2, none⟩) (addr_ne hgne) (.bool n7)) (p := ⟨g, k * 2 + 1, none⟩) (addr_ne hgne) (.slice a7 l7.length c7)
            clear hG hOut hFr e0 e1 e0f e1f hL7 hb7 HE HI6 HI7
            go_wp2_with fail
            refine (tcb _ (j - (k + 1)) _ HI8.out (by omega)).mono ?_
            rintro e w8 ⟨⟨v8, rfl, hi8⟩, hb8⟩
            replace d0f := bkeepf hb8 d0 (by simpa [go_sem] using d0f)
            replace d1f := bkeepf hb8 d1 (by simpa [go_sem] using d1f)
            replace d0 := bkeep hb8 d0
            replace d1 := bkeep hb8 d1
            have HI9 := Lib.hid hi8
            obtain ⟨n8, a8, c8, l8, rfl, -⟩ := hi8
            unfold iv at *
            have hL8 := Lim.set2 d0 d1 (.bool n8) (.slice a8 l8.length c8)
            have hG8 := (hG7.keep lims_int hb8).far lims_int (Ne.symm hgne) d0 d1 (.bool n8) (.slice a8 l8.length c8)
            have hO8 := (hO7.below hb8).set2 (g := u + 1) (o := 0) (fun _ => .inr rfl) (.bool n8) (.slice a8 l8.length c8)
            have hF8 := ((hF7.keep hb8).set ⟨u + 1, 0, none⟩ (.bool n8)).set ⟨u + 1, 1, none⟩ (.slice a8 l8.length c8)
            have HE := Lib.hid (show b ^ (j - (k + 1)) * b = b ^ (j - k) by rw [← Int.pow_succ]; congr 1; omega)
            clear hG7 hO7 hF7 HI8
            go_wp2
            exact ⟨⟨k, n8, a8, l8.length, c8, by omega, rfl, by rw [← HE.out]; exact HI9.out.lim hL8, cell_far (cell_here d0 _) (by simp) _, cell_here (cell_far d1 (by simp) _) _, by simpa [go_sem] using d0f, by simpa [go_sem] using d1f, hO8, hG8.congr (powDn_succ a b j k), hF8⟩, by simp [intOf] <;> omega⟩
theorem ptPow_yes (a b : Int) (n : Nat) (w : World) (hp : PIn a b) (hn : n ≤ 16) :
    Calls Tryz.prog 47 #[pv a b, .int .i64 (n : Int)] w fun e w' => (∃ g, e = .returned (.tuple #[.slice (some ⟨g, 0, none⟩) n n, .int .i64 0]) ∧ IntsF IsInt w' g 0 n (powF a b n)) ∧ Below w.heap.size w w' :=
  (ptPow_own a b n w hp hn).mono fun e w' ⟨⟨g, h1, h2, _, _⟩, hb⟩ => ⟨⟨g, h1, h2⟩, hb⟩
end Go.Proofs.YtdllbdfchloijaaGreatDoor

/- row: Over. -/
namespace Go.Proofs.YtdllbdfchloijaaGreatDoor
open Num
open Go.ChangeShapes Go.WideShapes Go.ChangeAt Go.RowKit
set_option linter.unusedVariables false
set_option linter.unusedSimpArgs false
attribute [local go_sem ↓] Go.wp_at_zero Go.wp_at_succ
/-- what Over answers where the divisor is not 0 -/
def OverPost (l : List Int) (c : Int) (w : World) (e : Ending) (w' : World) : Prop :=
  (((∃ j, j < l.length ∧ l.getD j 0 % c ≠ 0) ∧ e = .returned (.tuple #[.slice none 0 0, .int .i64 20])) ∨
   ((∀ j, j < l.length → l.getD j 0 % c = 0) ∧ ∃ u, e = .returned (.tuple #[u, .int .i64 0]) ∧ RowO IsInt 50 w.heap.size w' u (l.map fun x => x / c))) ∧ Below w.heap.size w w'
set_option maxRecDepth 100000 in
set_option maxHeartbeats 8000000 in
theorem rowOver_c (v vc : Value) (l : List Int) (c : Int) (k : Nat) (w : World) (hv : PRow 0 w v l) (hc : IsInt w vc c) (hl : l.length ≤ 1099511627775) (hb : ∀ j, Bd k (l.getD j 0)) (bc : Bd k c) (hk : k ≤ 17179869184) (h0 : c ≠ 0) :
    Calls Tryz.prog 131 #[v, vc] w (OverPost l c w) := by
  have sc := fun W (h : Below w.heap.size w W) => sign_c vc c W (hc.keep h)
  have HV := Lib.hid hv
  have HC := Lib.hid hc
  have HBD := Lib.hid (And.intro hb (And.intro bc h0))
  obtain ⟨sg, hsg, hsgE⟩ : ∃ s : Int, s ≠ 0 ∧ c.sign = s := ⟨_, (fun e => h0 (Int.sign_eq_zero_iff_zero.1 e)), rfl⟩
  rw [hsgE] at sc
  have hsb : (sg == 0) = false := by simpa using hsg
  clear hsgE hb bc h0 hsg
  obtain ⟨va, vcap, rfl, -⟩ := hv
  obtain ⟨n1, a1, cc1, l1, rfl, -⟩ := hc
  unfold iv at *
  have hB := Below.refl w.heap.size w
  go_enter Tryz.func131, Tryz.ntmps131
  go_wp2_with fail
  refine (sc _ (by repeat (first | exact Below.refl _ _ | exact hB | refine Below.drew ?_ | refine below_drewN ?_ _ | refine bset ?_ (by simp <;> omega) _ | refine bal ?_ _))).mono ?_
  rintro e w1 ⟨rfl, hb1⟩
  have c0 : w1.cell? ⟨w.heap.size, 0, none⟩ = some (.bool n1) := bkc hb1
  have zc0 := cell_lt c0
  have c1 : w1.cell? ⟨w.heap.size, 1, none⟩ = some (.slice a1 l1.length cc1) := bkc hb1
  have hB : Below w.heap.size w w1 := bthen (by repeat (first | exact Below.refl _ _ | exact hB | refine Below.drew ?_ | refine below_drewN ?_ _ | refine bset ?_ (by simp <;> omega) _ | refine bal ?_ _)) hb1
  have hz : w.heap.size ≤ w1.heap.size := hB.size
  clear sc
  have hb11 := Below.refl w1.heap.size w1
  go_wp2
  go_loopw [6, 17] (fun v x wr => ∃ j : Nat, j ≤ l.length ∧ x = .int .i64 j ∧ Hid (OwnF IsInt 50 w1 wr v j (fun i => l.getD i 0 / c)) ∧ Hid (∀ i, i < j → l.getD i 0 % c = 0)) (fun _ x _ => l.length - (intOf x).toNat)
  case atStart => exact ⟨0, Nat.zero_le _, rfl, Lib.hid (OwnF.nil _ _ _ (by repeat (first | exact Below.refl _ _ | exact hb11 | refine Below.drew ?_ | refine below_drewN ?_ _ | refine bset ?_ (by simp <;> omega) _ | refine bal ?_ _))), Lib.hid (fun i hi => by omega)⟩
  case round =>
    obtain ⟨j, hj, rfl, hF, hA⟩ := hrel
    have hbr := hF.out.bel
    obtain ⟨fa, fc, hfv⟩ : ∃ a c, _ = Value.slice a j c := by obtain ⟨a, c, h, _⟩ := hF.out.view; exact ⟨a, c, h⟩
    subst hfv
    have c0 := bkeep hbr c0
    have c1 := bkeep hbr c1
    have zcr := cell_lt c0
    have hB := bthen hB hbr
    by_cases hlt : j < l.length
    · have hltI : (j : Int) < (l.length : Int) := by omega
      obtain ⟨a', c', he, -, vr⟩ := (HV.out.keep lims_int hB).view
      obtain ⟨rfl, -, rfl⟩ := Value.slice.inj he
      obtain ⟨b, off, n2, a2, l2, cc2, rfl, d0, d1, hi⟩ := vr j hlt
      have hb2 := HBD.out.1 j
      have HSN := Lib.hid (show ∀ q z, z = l.getD j 0 / c → q < j + 1 → (fun i => if i = j then z else l.getD i 0 / c) q = l.getD q 0 / c from fun q z hz hq => by dsimp only; split; (subst_vars; rfl); rfl)
      have HAN := Lib.hid (show l.getD j 0 % c = 0 → ∀ i, i < j + 1 → l.getD i 0 % c = 0 from fun h i hi => by
        by_cases e : i = j
        · subst e; exact h
        · exact hA.out i (by omega))
      have HNO := Lib.hid (show l.getD j 0 % c ≠ 0 → ∃ j, j < l.length ∧ l.getD j 0 % c ≠ 0 from fun h => ⟨j, hlt, h⟩)
      obtain ⟨x, hx⟩ : ∃ x, l.getD j 0 = x := ⟨_, rfl⟩
      rw [hx] at hi hb2 HSN HAN HNO
      have dc := fun W (h : Below wr.heap.size wr W) => divmod_c (.agg #[.bool n2, .slice a2 l2 cc2]) (.agg #[.bool n1, .slice a1 l1.length cc1]) x c k W (hi.keep h) ((HC.out.keep hB).keep h) hb2 HBD.out.2.1 hk HBD.out.2.2
      obtain ⟨q, hq⟩ : ∃ q, x / c = q := ⟨_, rfl⟩
      obtain ⟨r, hr⟩ : ∃ r, x % c = r := ⟨_, rfl⟩
      rw [hq, hr] at dc
      rw [hq] at HSN
      rw [hr] at HAN HNO
      clear hx he vr hi hb2 hq hr
      have hBw := Below.refl wr.heap.size wr
      go_wp2_with fail
      refine (dc _ (by repeat (first | exact Below.refl _ _ | exact hBw | refine Below.drew ?_ | refine below_drewN ?_ _ | refine bset ?_ (by simp <;> omega) _ | refine bal ?_ _))).mono ?_
      rintro e w2 ⟨⟨u, v, rfl, hu, hv⟩, hb2⟩
      have hb2' : Below wr.heap.size wr w2 := bthen (by repeat (first | exact Below.refl _ _ | exact hBw | refine Below.drew ?_ | refine below_drewN ?_ _ | refine bset ?_ (by simp <;> omega) _ | refine bal ?_ _)) hb2
      have HU := Lib.hid hu
      have sx := fun W (h : Below w2.heap.size w2 W) => sign_c v _ W (hv.keep h)
      obtain ⟨nu, au, cu, lu, rfl, -⟩ := hu
      obtain ⟨nv, av, cv, lv, rfl, -⟩ := hv
      unfold iv at *
      have hBz := Below.refl w2.heap.size w2
      clear dc
      by_cases hr0 : r = 0
      · subst hr0
        have HAN' := Lib.hid (HAN.out rfl)
        rw [Int.sign_zero] at sx
        clear HNO HAN
        go_wp2_with fail
        refine (sx _ (by repeat (first | exact Below.refl _ _ | exact hBz | refine Below.drew ?_ | refine below_drewN ?_ _ | refine bset ?_ (by simp <;> omega) _ | refine bal ?_ _))).mono ?_
        rintro e w3 ⟨rfl, hb3⟩
        have hb3' : Below w2.heap.size w2 w3 := bthen (by repeat (first | exact Below.refl _ _ | exact hBz | refine Below.drew ?_ | refine below_drewN ?_ _ | refine bset ?_ (by simp <;> omega) _ | refine bal ?_ _)) hb3
        have q0 : w3.cell? ⟨w2.heap.size, 0, none⟩ = some (.bool nu) := bkeep hb3 (cell_alloc (cell_new rfl rfl) _)
        have q1 : w3.cell? ⟨w2.heap.size, 1, none⟩ = some (.slice au lu.length cu) := bkeep hb3 (cell_alloc (cell_new rfl rfl) _)
        have zq := cell_lt q0
        have hF3 := Lib.hid (hF.out.below lims_int (bthen hb2' hb3'))
        have HU3 := Lib.hid (HU.out.keep hb3')
        clear sx
        go_wp2_with (at_builtin; refine app_num elInt (by decide) lims_int (by rfl) (by rfl) hF3.out HU3.out (by rfl) (by rfl) (by omega) ?_)
        intro v' w8 hF8 _ _
        have HF8 := Lib.hid (hF8.congr' (fun i hi => HSN.out i _ rfl hi))
        clear hF8
        go_wp2
        exact ⟨⟨j + 1, by omega, by go_num, HF8, HAN'⟩, by simp [intOf]; omega⟩
      · have HNO' := Lib.hid (HNO.out hr0)
        obtain ⟨sv, hsv, hsvE⟩ : ∃ s : Int, s ≠ 0 ∧ r.sign = s := ⟨_, (fun e => hr0 (Int.sign_eq_zero_iff_zero.1 e)), rfl⟩
        rw [hsvE] at sx
        have hsb2 : (sv != 0) = true := by simpa using hsv
        clear hsvE HNO HAN hr0 hsv
        go_wp2_with fail
        refine (sx _ (by repeat (first | exact Below.refl _ _ | exact hBz | refine Below.drew ?_ | refine below_drewN ?_ _ | refine bset ?_ (by simp <;> omega) _ | refine bal ?_ _))).mono ?_
        rintro e w3 ⟨rfl, hb3⟩
        have hb3' : Below w2.heap.size w2 w3 := bthen (by repeat (first | exact Below.refl _ _ | exact hBz | refine Below.drew ?_ | refine below_drewN ?_ _ | refine bset ?_ (by simp <;> omega) _ | refine bal ?_ _)) hb3
        clear sx
        go_wp2
        go_ret2
        exact ⟨.inl ⟨HNO'.out, rfl⟩, bthen hB (bthen hb2' hb3')⟩
    · obtain rfl : j = l.length := by omega
      go_wp2
      go_ret2
      refine ⟨.inr ⟨hA.out, _, rfl, ?_⟩, hB⟩
      refine RowO.rebase (OwnF.rowO (w0 := w1) (l := l.map fun x => x / c) ?_) hz
      rw [List.length_map]
      exact hF.out.congr' (fun k hk => (map_getD (fun x => x / c) hk).symm)
end Go.Proofs.YtdllbdfchloijaaGreatDoor

/- exact: how rows are calculated with; what an instruction does to rows (do). -/
namespace Go.Proofs.YtdllbdfchloijaaGreatDoor
open Num
open Go.ChangeShapes Go.WideShapes Go.ChangeAt Go.RowKit
set_option linter.unusedVariables false
set_option linter.unusedSimpArgs false
attribute [local go_sem ↓] Go.wp_at_zero Go.wp_at_succ
theorem zip_getD {f : Int → Int → Int} {a b : List Int} {k : Nat} (h1 : k < a.length) (h2 : k < b.length) : (List.zipWith f a b).getD k 0 = f (a.getD k 0) (b.getD k 0) := by
  simp [List.getD_eq_getElem?_getD, List.getElem?_zipWith, h1, h2]
theorem stepR_map {i : Ins} {a b : List Int} (g : Int → Int) (h : ∀ k, k < a.length → opI i (a.getD k 0) (b.getD k 0) = some (g (a.getD k 0))) : stepR i a b = some (a.map g) :=
  stepR_ext (by simp) fun k hk => by rw [h k hk, map_getD g hk]
theorem stepR_zip {i : Ins} {a b : List Int} (g : Int → Int → Int) (he : a.length = b.length) (h : ∀ k, k < a.length → opI i (a.getD k 0) (b.getD k 0) = some (g (a.getD k 0) (b.getD k 0))) : stepR i a b = some (List.zipWith g a b) :=
  stepR_ext (by simp; omega) fun k hk => by rw [h k hk, zip_getD hk (by omega)]
theorem stepR_self {i : Ins} {a b : List Int} (h : ∀ k, k < a.length → opI i (a.getD k 0) (b.getD k 0) = some (a.getD k 0)) : stepR i a b = some a := stepR_ext rfl h
/-- a slice value's block -/
def rowBlk : Value → Option Nat
  | .slice (some p) _ _ => some p.block
  | _ => none
theorem rowO_blk {base q : Nat} {w : World} {v : Value} {l : List Int} (h : RowO IsInt 50 base w v l) (hq : rowBlk v = some q) : base ≤ q ∧ typOf w q = some 50 := by
  obtain ⟨xs, ⟨_, h1⟩, _⟩ := h
  rcases h1 with ⟨rfl, _⟩ | ⟨g, cap, cur, rfl, hg, hh, _⟩
  · simp [rowBlk] at hq
  · simp [rowBlk] at hq
    subst hq
    exact ⟨hg, by unfold typOf; rw [hh]⟩
/-- answers a row (that is ua, or lies in a block of its own) and true, or something and false -/
def AnsL (ua : Value) (z : Option (List Int)) (w : World) (e : Ending) (w' : World) : Prop :=
  (match z with
    | some r => ∃ v, e = .returned (.tuple #[v, .bool true]) ∧ PRow 0 w' v r ∧ (v = ua ∨ PRow w.heap.size w' v r)
    | none => ∃ a n c, e = .returned (.tuple #[.slice a n c, .bool false])) ∧ Below w.heap.size w w'
theorem ansL_some {ua : Value} {z : Option (List Int)} {x : List Int} {v : Value} {w w' : World} (h : z = some x) (hv : PRow w.heap.size w' v x) (hb : Below w.heap.size w w') : AnsL ua z w (.returned (.tuple #[v, .bool true])) w' := by
  subst h; exact ⟨⟨v, rfl, hv.rebase (Nat.zero_le _), .inr hv⟩, hb⟩
theorem ansL_self {ua : Value} {z : Option (List Int)} {x : List Int} {w w' : World} (h : z = some x) (hv : PRow 0 w' ua x) (hb : Below w.heap.size w w') : AnsL ua z w (.returned (.tuple #[ua, .bool true])) w' := by
  subst h; exact ⟨⟨ua, rfl, hv, .inl rfl⟩, hb⟩
theorem ansL_none {ua : Value} {z : Option (List Int)} {a : Option Addr} {n c : Nat} {w w' : World} (h : z = none) (hb : Below w.heap.size w w') : AnsL ua z w (.returned (.tuple #[.slice a n c, .bool false])) w' := by
  subst h; exact ⟨⟨a, n, c, rfl⟩, hb⟩
theorem ansL_b {ua : Value} {z : Option (List Int)} {x : List Int} {a : Option Addr} {n c : Nat} {b : Bool} {w w' : World} (h : (b = true → z = some x ∧ PRow w.heap.size w' (.slice a n c) x) ∧ (b = false → z = none)) (hb : Below w.heap.size w w') : AnsL ua z w (.returned (.tuple #[.slice a n c, .bool b])) w' := by
  cases b with
  | true => exact ansL_some (h.1 rfl).1 (h.1 rfl).2 hb
  | false => exact ansL_none (h.2 rfl) hb
theorem rowAdd_c' (la lb : List Int) (k : Nat) (w : World) (he : la.length = lb.length) (ba : ∀ j, Bd k (la.getD j 0)) (bb : ∀ j, Bd k (lb.getD j 0)) (hk : k ≤ 17179869184) :
    ∀ j W1 u1 u2, j < la.length → Below w.heap.size w W1 → IsInt W1 u1 (la.getD j 0) → IsInt W1 u2 (lb.getD j 0) → Calls Tryz.prog 56 (#[] ++ #[u1, u2] ++ #[]) W1 fun e w' => (∃ v, e = .returned v ∧ IsInt w' v ((List.zipWith (fun x y => x + y) la lb).getD j 0)) ∧ Below W1.heap.size W1 w' := by
  intro j W1 u1 u2 hj _ h1 h2
  have hc := addI_c u1 u2 (la.getD j 0) (lb.getD j 0) k W1 h1 h2 (ba j) (bb j) hk
  have hz : (List.zipWith (fun x y => x + y) la lb).getD j 0 = la.getD j 0 + lb.getD j 0 := zip_getD hj (by omega)
  rw [hz]
  exact hc
set_option maxRecDepth 100000 in
set_option maxHeartbeats 2000000 in
theorem rowAdd_c (va vb : Value) (la lb : List Int) (k : Nat) (w : World) (ha : PRow 0 w va la) (hb : PRow 0 w vb lb) (hl : la.length ≤ 1099511627775) (he : la.length = lb.length) (ba : ∀ j, Bd k (la.getD j 0)) (bb : ∀ j, Bd k (lb.getD j 0)) (hk : k ≤ 17179869184) :
    Calls Tryz.prog 126 #[va, vb] w fun e w' => (∃ u, e = .returned (.tuple #[u, .int .i64 0]) ∧ RowO IsInt 50 w.heap.size w' u (List.zipWith (fun x y => x + y) la lb)) ∧ Below w.heap.size w w' := by
  have eF : Enters Tryz.prog 56 := ens Tryz.func56 (by kernel_rfl) rfl
  have hz : (List.zipWith (fun x y => x + y) la lb).length = la.length := by rw [List.length_zipWith]; omega
  have bc := fun W (hB : Below w.heap.size w W) => both_yes va vb la lb (List.zipWith (fun x y => x + y) la lb) 56 #[] #[] W (ha.keep lims_int hB) (hb.keep lims_int hB) hl he hz eF (rowAdd_c' la lb k W he ba bb hk)
  have HBC := Lib.hid bc
  clear bc hz eF
  obtain ⟨aa, ca, rfl, -⟩ := ha
  obtain ⟨ab, cb, rfl, -⟩ := hb
  have hB := Below.refl w.heap.size w
  clear ba bb he
  go_enter Tryz.func126, Tryz.ntmps126
  go_wp2_with fail
  refine (HBC.out _ (by repeat (first | exact Below.refl _ _ | exact hB | refine Below.drew ?_ | refine below_drewN ?_ _ | refine bset ?_ (by simp <;> omega) _ | refine bal ?_ _))).mono ?_
  rintro e w1 ⟨⟨u, rfl, hu⟩, hb1⟩
  have HU := Lib.hid hu
  obtain ⟨ua, un, uc, rfl⟩ : ∃ a n c, u = Value.slice a n c := by obtain ⟨a, c, h⟩ := hu.ex; exact ⟨a, _, c, h⟩
  clear HBC hu
  go_wp2
  go_ret2
  exact ⟨⟨_, rfl, HU.out⟩, hb1⟩
set_option maxRecDepth 100000 in
set_option maxHeartbeats 2000000 in
theorem rowAddF_c (va vb : Value) (la lb : List Int) (k : Nat) (w : World) (ha : PRow 0 w va la) (hb : PRow 0 w vb lb) (hl : la.length ≤ 1099511627775) (he : la.length = lb.length) (ba : ∀ j, Bd k (la.getD j 0)) (bb : ∀ j, Bd k (lb.getD j 0)) (hk : k ≤ 17179869184) :
    Calls Tryz.prog 125 #[va, vb] w fun e w' => (∃ u, e = .returned u ∧ RowO IsInt 50 w.heap.size w' u (List.zipWith (fun x y => x + y) la lb)) ∧ Below w.heap.size w w' := by
  have bc := fun W (hB : Below w.heap.size w W) => rowAdd_c va vb la lb k W (ha.keep lims_int hB) (hb.keep lims_int hB) hl he ba bb hk
  obtain ⟨aa, ca, rfl, -⟩ := ha
  obtain ⟨ab, cb, rfl, -⟩ := hb
  have hB := Below.refl w.heap.size w
  clear ba bb he
  go_enter Tryz.func125, Tryz.ntmps125
  go_wp2_with fail
  refine (bc _ (by repeat (first | exact Below.refl _ _ | exact hB | refine Below.drew ?_ | refine below_drewN ?_ _ | refine bset ?_ (by simp <;> omega) _ | refine bal ?_ _))).mono ?_
  rintro e w1 ⟨⟨u, rfl, hu⟩, hb1⟩
  have HU := Lib.hid hu
  obtain ⟨ua, un, uc, rfl⟩ : ∃ a n c, u = Value.slice a n c := by obtain ⟨a, c, h⟩ := hu.ex; exact ⟨a, _, c, h⟩
  clear bc hu
  go_wp2
  go_ret
  exact ⟨⟨_, rfl, HU.out⟩, hb1⟩
theorem rowSub_c' (la lb : List Int) (k : Nat) (w : World) (he : la.length = lb.length) (ba : ∀ j, Bd k (la.getD j 0)) (bb : ∀ j, Bd k (lb.getD j 0)) (hk : k ≤ 17179869184) :
    ∀ j W1 u1 u2, j < la.length → Below w.heap.size w W1 → IsInt W1 u1 (la.getD j 0) → IsInt W1 u2 (lb.getD j 0) → Calls Tryz.prog 102 (#[] ++ #[u1, u2] ++ #[]) W1 fun e w' => (∃ v, e = .returned v ∧ IsInt w' v ((List.zipWith (fun x y => x - y) la lb).getD j 0)) ∧ Below W1.heap.size W1 w' := by
  intro j W1 u1 u2 hj _ h1 h2
  have hc := subI_c u1 u2 (la.getD j 0) (lb.getD j 0) k W1 h1 h2 (ba j) (bb j) hk
  have hz : (List.zipWith (fun x y => x - y) la lb).getD j 0 = la.getD j 0 - lb.getD j 0 := zip_getD hj (by omega)
  rw [hz]
  exact hc
set_option maxRecDepth 100000 in
set_option maxHeartbeats 2000000 in
theorem rowSub_c (va vb : Value) (la lb : List Int) (k : Nat) (w : World) (ha : PRow 0 w va la) (hb : PRow 0 w vb lb) (hl : la.length ≤ 1099511627775) (he : la.length = lb.length) (ba : ∀ j, Bd k (la.getD j 0)) (bb : ∀ j, Bd k (lb.getD j 0)) (hk : k ≤ 17179869184) :
    Calls Tryz.prog 128 #[va, vb] w fun e w' => (∃ u, e = .returned (.tuple #[u, .int .i64 0]) ∧ RowO IsInt 50 w.heap.size w' u (List.zipWith (fun x y => x - y) la lb)) ∧ Below w.heap.size w w' := by
  have eF : Enters Tryz.prog 102 := ens Tryz.func102 (by kernel_rfl) rfl
  have hz : (List.zipWith (fun x y => x - y) la lb).length = la.length := by rw [List.length_zipWith]; omega
  have bc := fun W (hB : Below w.heap.size w W) => both_yes va vb la lb (List.zipWith (fun x y => x - y) la lb) 102 #[] #[] W (ha.keep lims_int hB) (hb.keep lims_int hB) hl he hz eF (rowSub_c' la lb k W he ba bb hk)
  have HBC := Lib.hid bc
  clear bc hz eF
  obtain ⟨aa, ca, rfl, -⟩ := ha
  obtain ⟨ab, cb, rfl, -⟩ := hb
  have hB := Below.refl w.heap.size w
  clear ba bb he
  go_enter Tryz.func128, Tryz.ntmps128
  go_wp2_with fail
  refine (HBC.out _ (by repeat (first | exact Below.refl _ _ | exact hB | refine Below.drew ?_ | refine below_drewN ?_ _ | refine bset ?_ (by simp <;> omega) _ | refine bal ?_ _))).mono ?_
  rintro e w1 ⟨⟨u, rfl, hu⟩, hb1⟩
  have HU := Lib.hid hu
  obtain ⟨ua, un, uc, rfl⟩ : ∃ a n c, u = Value.slice a n c := by obtain ⟨a, c, h⟩ := hu.ex; exact ⟨a, _, c, h⟩
  clear HBC hu
  go_wp2
  go_ret2
  exact ⟨⟨_, rfl, HU.out⟩, hb1⟩
set_option maxRecDepth 100000 in
set_option maxHeartbeats 2000000 in
theorem rowSubF_c (va vb : Value) (la lb : List Int) (k : Nat) (w : World) (ha : PRow 0 w va la) (hb : PRow 0 w vb lb) (hl : la.length ≤ 1099511627775) (he : la.length = lb.length) (ba : ∀ j, Bd k (la.getD j 0)) (bb : ∀ j, Bd k (lb.getD j 0)) (hk : k ≤ 17179869184) :
    Calls Tryz.prog 127 #[va, vb] w fun e w' => (∃ u, e = .returned u ∧ RowO IsInt 50 w.heap.size w' u (List.zipWith (fun x y => x - y) la lb)) ∧ Below w.heap.size w w' := by
  have bc := fun W (hB : Below w.heap.size w W) => rowSub_c va vb la lb k W (ha.keep lims_int hB) (hb.keep lims_int hB) hl he ba bb hk
  obtain ⟨aa, ca, rfl, -⟩ := ha
  obtain ⟨ab, cb, rfl, -⟩ := hb
  have hB := Below.refl w.heap.size w
  clear ba bb he
  go_enter Tryz.func127, Tryz.ntmps127
  go_wp2_with fail
  refine (bc _ (by repeat (first | exact Below.refl _ _ | exact hB | refine Below.drew ?_ | refine below_drewN ?_ _ | refine bset ?_ (by simp <;> omega) _ | refine bal ?_ _))).mono ?_
  rintro e w1 ⟨⟨u, rfl, hu⟩, hb1⟩
  have HU := Lib.hid hu
  obtain ⟨ua, un, uc, rfl⟩ : ∃ a n c, u = Value.slice a n c := by obtain ⟨a, c, h⟩ := hu.ex; exact ⟨a, _, c, h⟩
  clear bc hu
  go_wp2
  go_ret
  exact ⟨⟨_, rfl, HU.out⟩, hb1⟩
set_option maxRecDepth 100000 in
set_option maxHeartbeats 2000000 in
theorem rowOverF_c (v vc : Value) (l : List Int) (c : Int) (k : Nat) (w : World) (hv : PRow 0 w v l) (hc : IsInt w vc c) (hl : l.length ≤ 1099511627775) (hb : ∀ j, Bd k (l.getD j 0)) (bc : Bd k c) (hk : k ≤ 17179869184) (h0 : c ≠ 0) :
    Calls Tryz.prog 130 #[v, vc] w fun e w' => (∃ a n cp b, e = .returned (.tuple #[.slice a n cp, .bool b]) ∧ Hid ((b = true → (∀ j, j < l.length → l.getD j 0 % c = 0) ∧ PRow w.heap.size w' (.slice a n cp) (l.map fun x => x / c)) ∧ (b = false → ∃ j, j < l.length ∧ l.getD j 0 % c ≠ 0))) ∧ Below w.heap.size w w' := by
  have oc := fun W (hB : Below w.heap.size w W) => rowOver_c v vc l c k W (hv.keep lims_int hB) (hc.keep hB) hl hb bc hk h0
  obtain ⟨aa, ca, rfl, -⟩ := hv
  obtain ⟨n1, a1, cc1, l1, rfl, -⟩ := hc
  unfold iv at *
  have hB := Below.refl w.heap.size w
  clear hb bc h0
  go_enter Tryz.func130, Tryz.ntmps130
  go_wp2_with fail
  refine (oc _ (by repeat (first | exact Below.refl _ _ | exact hB | refine Below.drew ?_ | refine below_drewN ?_ _ | refine bset ?_ (by simp <;> omega) _ | refine bal ?_ _))).mono ?_
  rintro e w1 ⟨h, hb1⟩
  have hB1 : Below w.heap.size w w1 := bthen (by repeat (first | exact Below.refl _ _ | exact hB | refine Below.drew ?_ | refine below_drewN ?_ _ | refine bset ?_ (by simp <;> omega) _ | refine bal ?_ _)) hb1
  clear oc
  rcases h with ⟨hno, rfl⟩ | ⟨hyes, u, rfl, hu⟩
  · have HNO := Lib.hid hno
    clear hno
    go_wp2
    go_ret2
    exact ⟨⟨_, _, _, _, rfl, Lib.hid ⟨(fun h => by cases h), fun _ => HNO.out⟩⟩, hB1⟩
  · have HY := Lib.hid (And.intro hyes (hu.row.rebase (show w.heap.size ≤ _ from (show Below w.heap.size w _ by repeat (first | exact Below.refl _ _ | exact hB | refine Below.drew ?_ | refine below_drewN ?_ _ | refine bset ?_ (by simp <;> omega) _ | refine bal ?_ _)).size)))
    obtain ⟨ua, un, uc, rfl⟩ : ∃ a n c, u = Value.slice a n c := by obtain ⟨a, c, h⟩ := hu.ex; exact ⟨a, _, c, h⟩
    clear hyes hu
    go_wp2
    go_ret2
    exact ⟨⟨_, _, _, _, rfl, Lib.hid ⟨(fun _ => HY.out), fun h => by cases h⟩⟩, hB1⟩
end Go.Proofs.YtdllbdfchloijaaGreatDoor

/- row: Widest. -/
namespace Go.Proofs.YtdllbdfchloijaaGreatDoor
open Num
open Go.ChangeShapes Go.WideShapes Go.ChangeAt Go.RowKit
set_option linter.unusedVariables false
set_option linter.unusedSimpArgs false
attribute [local go_sem ↓] Go.wp_at_zero Go.wp_at_succ
end Go.Proofs.YtdllbdfchloijaaGreatDoor

/- vm's laws: a program and rows that came in; what Run's and New's results say. -/
namespace Go.Proofs.YtdllbdfchloijaaGreatDoor
open Num
open Go.ChangeShapes Go.WideShapes Go.ChangeAt Go.RowKit
set_option linter.unusedVariables false
set_option linter.unusedSimpArgs false
/-- what Run's results say -/
def RunRes (ins regs : Int) (code : List Ins) (outs : List Int) (g : Grid) (base : Nat) (w' : World) (ov : Value) (n : Nat) (s : Int) : Prop :=
  (¬ ProgOk ins regs code outs ∧ ov = .slice none 0 0 ∧ n = 0 ∧ s = 80) ∨
  (ProgOk ins regs code outs ∧ ¬ FitsG ins g ∧ ov = .slice none 0 0 ∧ n = 0 ∧ s = 5) ∨
  (ProgOk ins regs code outs ∧ FitsG ins g ∧ n < code.length ∧ (∃ h, after code (startG g regs.toNat (g.getD 0 []).length) n = some h) ∧ after code (startG g regs.toNat (g.getD 0 []).length) (n + 1) = none ∧ ov = .slice none 0 0 ∧ s = 20) ∨
  (ProgOk ins regs code outs ∧ FitsG ins g ∧ n = code.length ∧ s = 0 ∧ ∃ h, after code (startG g regs.toNat (g.getD 0 []).length) code.length = some h ∧ IsL 43 (RowW base) base w' ov (outsG outs h))
theorem RunRes.keep {ins regs : Int} {code : List Ins} {outs : List Int} {g : Grid} {base : Nat} {w w' : World} {ov : Value} {n : Nat} {s : Int} (h : RunRes ins regs code outs g base w ov n s) (hb : Below w.heap.size w w') : RunRes ins regs code outs g base w' ov n s := by
  rcases h with h | h | h | ⟨h1, h2, h3, h4, h, h5, h6⟩
  · exact .inl h
  · exact .inr (.inl h)
  · exact .inr (.inr (.inl h))
  · exact .inr (.inr (.inr ⟨h1, h2, h3, h4, h, h5, h6.keep (prs_rowO lims_int _ _) hb⟩))
end Go.Proofs.YtdllbdfchloijaaGreatDoor

