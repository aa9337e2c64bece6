/- Texts of this seat, laid together: PtPow, Row, NumS, ScD. Each opens with its own remark, which says what it proves, and under which conditions. -/
import Derived.Test.YtkejdmdldhlkgaaGreatDoorP01
import Derived.Test.YtkejdmdldhlkgaaGreatDoorP07
import Derived.Test.YtkejdmdldhlkgaaGreatDoorP06
import Derived.Test.YtkejdmdldhlkgaaGreatDoorP04
set_option linter.unusedVariables false
set_option linter.unusedSimpArgs false
/- point: Powers. -/
namespace Go.Proofs.YtkejdmdldhlkgaaGreatDoor
open Pt Num
open Go.ChangeShapes Go.WideShapes Go.ChangeAt Go.RowKit
set_option linter.unusedVariables false
set_option linter.unusedSimpArgs false

/-- the powers of a point -/
def powF (a b : Int) (n : Nat) (i : Nat) : Int := a ^ i * b ^ (n - 1 - i)
def powUp (a : Int) (j i : Nat) : Int := if i < j then a ^ i else 0
def powDn (a b : Int) (n j i : Nat) : Int := if i < j then a ^ i else a ^ i * b ^ (n - 1 - i)
theorem bd_pt {a : Int} (h1 : -16 ≤ a) (h2 : a ≤ 16) : Bd 5 a := by unfold Bd; omega

theorem powUp_succ (a : Int) (j : Nat) {n : Nat} : ∀ i, i < n → (if i = j then a ^ j else powUp a j i) = powUp a (j + 1) i := fun i _ => by
  unfold powUp
  by_cases h : i = j
  · subst h; simp
  · rw [if_neg h]
    by_cases h2 : i < j
    · rw [if_pos h2, if_pos (by omega)]
    · rw [if_neg h2, if_neg (by omega)]
theorem powDn_succ (a b : Int) (n k : Nat) : ∀ i, i < n → (if i = k then a ^ k * b ^ (n - (k + 1)) else powDn a b n (k + 1) i) = powDn a b n k i := fun i _ => by
  unfold powDn
  by_cases h : i = k
  · subst h
    rw [if_pos rfl, if_neg (by omega)]
    congr 2; omega
  · rw [if_neg h]
    by_cases h2 : i < k
    · rw [if_pos h2, if_pos (by omega)]
    · rw [if_neg h2, if_neg (by omega)]
/-- a block of numbers that is free -/
structure FreeI (w : World) (g : Nat) : Prop where
  lt : g < w.heap.size
  fz : ∀ j, w.frozen? ⟨g, j, none⟩ = false
  ty : typOf w g = some 41
theorem FreeI.keep {w w' : World} {g : Nat} (h : FreeI w g) (hb : Below w.heap.size w w') : FreeI w' g :=
  ⟨(Free.keep ⟨h.1, h.2⟩ hb).1, (Free.keep ⟨h.1, h.2⟩ hb).2, typ_keep h.3 hb⟩
theorem FreeI.new {w : World} {c : Array Value} {g : Nat} (hg : g = w.heap.size) : FreeI (w.alloc (.cells c 41)) g :=
  ⟨(Free.new (t := 41) hg).1, (Free.new (t := 41) hg).2, by subst hg; unfold typOf; rw [(MapKept.heap_alloc w _).1]⟩
theorem FreeI.set {w : World} {g : Nat} (h : FreeI w g) (p : Addr) (v : Value) : FreeI (w.setCell p v) g :=
  ⟨(Free.set ⟨h.1, h.2⟩ p v).1, (Free.set ⟨h.1, h.2⟩ p v).2, by rw [typ_set]; exact h.3⟩
set_option maxRecDepth 100000 in
set_option maxHeartbeats 4000000 in
theorem ptPow_own (a b : Int) (n : Nat) (w : World) (hp : PIn a b) (hn : n ≤ 16) :
    Calls Tryz.prog 94 #[pv a b, .int .i64 (n : Int)] w fun e w' => (∃ g, e = .returned (.tuple #[.slice (some ⟨g, 0, none⟩) n n, .int .i64 0]) ∧ IntsF IsInt w' g 0 n (powF a b n) ∧ w.heap.size ≤ g ∧ typOf w' g = some 41) ∧ Below w.heap.size w w' := by
  have cc : ∀ w, Calls Tryz.prog 48 #[pv a b] w fun e w' => e = .returned (.bool true) ∧ Below w.heap.size w w' := fun w => by rw [← inB_yes hp]; exact ptIn_c a b w
  have oc := fun w => of_c 1 w (by omega) (by omega)
  have ba := bd_pt hp.1 hp.2.1
  have bb := bd_pt hp.2.2.1 hp.2.2.2
  have tca := fun v j w h hj => times_c v (a ^ j) a (j * 5 + 1) w h (ba.pow j) hj (by have := hp.1; omega) (by have := hp.2.1; omega)
  have tcb := fun v j w h hj => times_c v (b ^ j) b (j * 5 + 1) w h (bb.pow j) hj (by have := hp.2.2.1; omega) (by have := hp.2.2.2; omega)
  have mc := fun u v i j w h1 h2 hi hj => mul_c u v (a ^ i) (b ^ j) (i * 5 + 1) (j * 5 + 1) w h1 h2 (ba.pow i) (bb.pow j) hi hj
  have hmk := mkInts n (by omega)
  have hn0 : decide ((n : Int) < 0) = false := by simp
  have hn1 : decide (16 < (n : Int)) = false := by simp; omega
  go_enter Tryz.func94, Tryz.ntmps94
  go_wp2_with fail
  refine (cc _).mono ?_
  rintro e w2 ⟨rfl, hb2⟩
  have g0 : w2.cell? ⟨w.heap.size, 0, none⟩ = some (.int .i64 a) := bkc hb2
  have zg0 := cell_lt g0
  have g1 : w2.cell? ⟨w.heap.size, 1, none⟩ = some (.int .i64 b) := bkc hb2
  have hB : Below w.heap.size w w2 := bthen (by repeat (first | exact Below.refl _ _ | exact hB | refine Below.drew ?_ | refine below_drewN ?_ _ | refine bset ?_ (by simp <;> omega) _ | refine bal ?_ _)) hb2
  have hz : w.heap.size ≤ w2.heap.size := hB.size
  have hgw := zg0
  go_wp2_with fail
  refine (oc _).mono ?_
  rintro e w3 ⟨⟨v3, rfl, hi3⟩, hb3⟩
  have hI3 := IntsF.keep lims_int (zcel_ints isInt_zero w2 n 41 rfl) hb3
  have hF3 := (FreeI.new (c := zcel n) (w := w2) rfl).keep hb3
  have g0 : w3.cell? ⟨w.heap.size, 0, none⟩ = some (.int .i64 a) := bkc hb3
  have zg0 := cell_lt g0
  have g1 : w3.cell? ⟨w.heap.size, 1, none⟩ = some (.int .i64 b) := bkc hb3
  have hB : Below w.heap.size w w3 := bthen (by repeat (first | exact Below.refl _ _ | exact hB | refine Below.drew ?_ | refine below_drewN ?_ _ | refine bset ?_ (by simp <;> omega) _ | refine bal ?_ _)) hb3
  have hz : w.heap.size ≤ w3.heap.size := hB.size
  generalize w2.heap.size = g at *
  clear hmk
  have HI3 := Lib.hid hi3
  obtain ⟨n3, a3, c3, l3, rfl, -⟩ := hi3
  unfold iv at *
  go_wp2_with fail
  refine (oc _).mono ?_
  rintro e w4 ⟨⟨v4, rfl, hi4⟩, hb4⟩
  have HI3' := Lib.hid (HI3.out.keep hb4)
  have hI4 := hI3.keep lims_int hb4
  have hF4 := hF3.keep hb4
  have g0 : w4.cell? ⟨w.heap.size, 0, none⟩ = some (.int .i64 a) := bkc hb4
  have zg0 := cell_lt g0
  have g1 : w4.cell? ⟨w.heap.size, 1, none⟩ = some (.int .i64 b) := bkc hb4
  have hB : Below w.heap.size w w4 := bthen (by repeat (first | exact Below.refl _ _ | exact hB | refine Below.drew ?_ | refine below_drewN ?_ _ | refine bset ?_ (by simp <;> omega) _ | refine bal ?_ _)) hb4
  have hz : w.heap.size ≤ w4.heap.size := hB.size
  have HI4 := Lib.hid hi4
  obtain ⟨n4, a4, c4, l4, rfl, -⟩ := hi4
  unfold iv at *
  clear HI3 hI3 hF3 hb2 hb3 hb4 oc cc
  go_wp2
  refine wp_name fun w5 hW5 => ?_
  have g0 : w5.cell? ⟨w.heap.size, 0, none⟩ = some (.int .i64 a) := by rw [hW5]; exact (by first | assumption | exact cell_new (by with_reducible first | rfl | (simp; done) | (simp; omega)) rfl | (repeat (first | assumption | exact cell_new (by with_reducible first | rfl | (simp; done) | (simp; omega)) rfl | refine cell_alloc ?_ _ | refine cell_drew ?_ | refine cell_drewN ?_ _ | refine cell_far ?_ (by simp) _ | (refine cell_far ?_ (by simp <;> omega) _))) | simp [go_sem, *])
  have zg0 := cell_lt g0
  have g1 : w5.cell? ⟨w.heap.size, 1, none⟩ = some (.int .i64 b) := by rw [hW5]; exact (by first | assumption | exact cell_new (by with_reducible first | rfl | (simp; done) | (simp; omega)) rfl | (repeat (first | assumption | exact cell_new (by with_reducible first | rfl | (simp; done) | (simp; omega)) rfl | refine cell_alloc ?_ _ | refine cell_drew ?_ | refine cell_drewN ?_ _ | refine cell_far ?_ (by simp) _ | (refine cell_far ?_ (by simp <;> omega) _))) | simp [go_sem, *])
  have u0f : w5.frozen? ⟨w4.heap.size, 0, none⟩ = false := by rw [hW5]; simp [go_sem, *]
  have u0 : w5.cell? ⟨w4.heap.size, 0, none⟩ = some (.bool n3) := by rw [hW5]; exact (by first | assumption | exact cell_new (by with_reducible first | rfl | (simp; done) | (simp; omega)) rfl | (repeat (first | assumption | exact cell_new (by with_reducible first | rfl | (simp; done) | (simp; omega)) rfl | refine cell_alloc ?_ _ | refine cell_drew ?_ | refine cell_drewN ?_ _ | refine cell_far ?_ (by simp) _ | (refine cell_far ?_ (by simp <;> omega) _))) | simp [go_sem, *])
  have zu0 := cell_lt u0
  have u1f : w5.frozen? ⟨w4.heap.size, 1, none⟩ = false := by rw [hW5]; simp [go_sem, *]
  have u1 : w5.cell? ⟨w4.heap.size, 1, none⟩ = some (.slice a3 l3.length c3) := by rw [hW5]; exact (by first | assumption | exact cell_new (by with_reducible first | rfl | (simp; done) | (simp; omega)) rfl | (repeat (first | assumption | exact cell_new (by with_reducible first | rfl | (simp; done) | (simp; omega)) rfl | refine cell_alloc ?_ _ | refine cell_drew ?_ | refine cell_drewN ?_ _ | refine cell_far ?_ (by simp) _ | (refine cell_far ?_ (by simp <;> omega) _))) | simp [go_sem, *])
  have d0f : w5.frozen? ⟨w4.heap.size + 1, 0, none⟩ = false := by rw [hW5]; simp [go_sem, *]
  have d0 : w5.cell? ⟨w4.heap.size + 1, 0, none⟩ = some (.bool n4) := by rw [hW5]; exact (by first | assumption | exact cell_new (by with_reducible first | rfl | (simp; done) | (simp; omega)) rfl | (repeat (first | assumption | exact cell_new (by with_reducible first | rfl | (simp; done) | (simp; omega)) rfl | refine cell_alloc ?_ _ | refine cell_drew ?_ | refine cell_drewN ?_ _ | refine cell_far ?_ (by simp) _ | (refine cell_far ?_ (by simp <;> omega) _))) | simp [go_sem, *])
  have zd0 := cell_lt d0
  have d1f : w5.frozen? ⟨w4.heap.size + 1, 1, none⟩ = false := by rw [hW5]; simp [go_sem, *]
  have d1 : w5.cell? ⟨w4.heap.size + 1, 1, none⟩ = some (.slice a4 l4.length c4) := by rw [hW5]; exact (by first | assumption | exact cell_new (by with_reducible first | rfl | (simp; done) | (simp; omega)) rfl | (repeat (first | assumption | exact cell_new (by with_reducible first | rfl | (simp; done) | (simp; omega)) rfl | refine cell_alloc ?_ _ | refine cell_drew ?_ | refine cell_drewN ?_ _ | refine cell_far ?_ (by simp) _ | (refine cell_far ?_ (by simp <;> omega) _))) | simp [go_sem, *])
  have hB : Below w.heap.size w w5 := by rw [hW5]; repeat (first | exact Below.refl _ _ | exact hB | refine Below.drew ?_ | refine below_drewN ?_ _ | refine bset ?_ (by simp <;> omega) _ | refine bal ?_ _)
  have hb5 : Below w4.heap.size w4 w5 := by rw [hW5]; exact bal (bal (Below.refl _ _) _) _
  have hz : w.heap.size ≤ w5.heap.size := hB.size
  clear hW5
  have HU := Lib.hid (HI3'.out.keep hb5)
  have HD := Lib.hid (HI4.out.keep hb5)
  have HG := Lib.hid (hI4.keep lims_int hb5)
  have HF := Lib.hid (hF4.keep hb5)
  have hgu : g < w4.heap.size := hF4.1
  clear HI3' HI4 hI4 hF4 hb5
  generalize w4.heap.size = u at *
  have HP := Lib.hid (And.intro u0 (And.intro u1 (And.intro u0f u1f)))
  clear u0 u1 u0f u1f
  have HFX := Lib.hid (And.intro g0 (And.intro g1 (And.intro d0 (And.intro d0f (And.intro d1 (d1f))))))
  clear g0 g1 d0 d0f d1 d1f
  go_loopw [28] (fun y wr => ∃ (j : Nat) (n6 : Bool) (a6 : Option Addr) (k6 c6 : Nat), j ≤ n ∧ y = .int .i64 j ∧ IsInt wr (.agg #[.bool n6, .slice a6 k6 c6]) (a ^ j) ∧ wr.cell? ⟨u, 0, none⟩ = some (.bool n6) ∧ wr.cell? ⟨u, 1, none⟩ = some (.slice a6 k6 c6) ∧ wr.frozen? ⟨u, 0, none⟩ = false ∧ wr.frozen? ⟨u, 1, none⟩ = false ∧ Out (fun k => k = g ∨ k = u) w5 wr ∧ Lim w5 wr ∧ IntsF IsInt wr g 0 n (powUp a j) ∧ FreeI wr g) (fun y _ => n - (intOf y).toNat)
  case atStart => exact ⟨0, n3, a3, _, c3, Nat.zero_le _, rfl, by simpa using HU.out, HP.out.1, HP.out.2.1, HP.out.2.2.1, HP.out.2.2.2, Out.refl _ _, Lim.refl _, HG.out.congr (fun k _ => by simp [powUp]), HF.out⟩
  case round =>
    obtain ⟨j, n6, a6, k6, c6, hj, rfl, hi6, u0, u1, u0f, u1f, hOut, hLim, hG, hFr⟩ := hrel
    obtain ⟨g0, g1, d0, d0f, d1, d1f⟩ := HFX.out
    replace g0 := okeep hOut g0 (fun h => by first | (have h2 : _ = _ := h; omega) | (rcases (show _ ∨ _ from h) with h | h <;> omega) | (rcases (show _ ∨ _ ∨ _ from h) with h | h | h <;> omega))
    replace g1 := okeep hOut g1 (fun h => by first | (have h2 : _ = _ := h; omega) | (rcases (show _ ∨ _ from h) with h | h <;> omega) | (rcases (show _ ∨ _ ∨ _ from h) with h | h | h <;> omega))
    replace d0f := okeepf hOut d0 d0f (fun h => by first | (have h2 : _ = _ := h; omega) | (rcases (show _ ∨ _ from h) with h | h <;> omega) | (rcases (show _ ∨ _ ∨ _ from h) with h | h | h <;> omega))
    replace d0 := okeep hOut d0 (fun h => by first | (have h2 : _ = _ := h; omega) | (rcases (show _ ∨ _ from h) with h | h <;> omega) | (rcases (show _ ∨ _ ∨ _ from h) with h | h | h <;> omega))
    replace d1f := okeepf hOut d1 d1f (fun h => by first | (have h2 : _ = _ := h; omega) | (rcases (show _ ∨ _ from h) with h | h <;> omega) | (rcases (show _ ∨ _ ∨ _ from h) with h | h | h <;> omega))
    replace d1 := okeep hOut d1 (fun h => by first | (have h2 : _ = _ := h; omega) | (rcases (show _ ∨ _ from h) with h | h <;> omega) | (rcases (show _ ∨ _ ∨ _ from h) with h | h | h <;> omega))
    by_cases hjn : j < n
    · obtain ⟨nb, ax, lx, cx, e0, e1, -⟩ := hG.at0 hjn
      have e0f := hFr.2 (j * 2)
      have e1f := hFr.2 (j * 2 + 1)
      have hG2 := hG.store0 lims_int hjn hi6
      have hL2 := Lim.set2 e0 e1 (.bool n6) (.slice a6 k6 c6)
      have HI2 := Lib.hid (hi6.lim hL2)
      have hO2 := hOut.set2 (g := g) (o := j * 2) (fun _ => .inl rfl) (.bool n6) (.slice a6 k6 c6)
      have hjn' : (j : Int) < (n : Int) := by omega
      go_wp2_with fail
      refine (tca _ j _ HI2.out (by omega)).mono ?_
      rintro e w7 ⟨⟨v7, rfl, hi7⟩, hb7⟩
      have hgne : g ≠ u := by omega
      replace u0f := bkeepf hb7 (cell_far (cell_far u0 (addr_ne hgne) _) (addr_ne hgne) _) (by simpa [go_sem] using u0f)
      replace u1f := bkeepf hb7 (cell_far (cell_far u1 (addr_ne hgne) _) (addr_ne hgne) _) (by simpa [go_sem] using u1f)
      replace u0 := bkeep hb7 (cell_far (cell_far u0 (addr_ne hgne) _) (addr_ne hgne) _)
      replace u1 := bkeep hb7 (cell_far (cell_far u1 (addr_ne hgne) _) (addr_ne hgne) _)
      have hI7 := Lib.hid hi7
      obtain ⟨n7, a7, c7, l7, rfl, -⟩ := hi7
      unfold iv at *
      have hL7 := Lim.set2 u0 u1 (.bool n7) (.slice a7 l7.length c7)
      have hG7 := (hG2.keep lims_int hb7).far lims_int (Ne.symm hgne) u0 u1 (.bool n7) (.slice a7 l7.length c7)
      have hO7 := (hO2.below hb7).set2 (g := u) (o := 0) (fun _ => .inr rfl) (.bool n7) (.slice a7 l7.length c7)
      have hF7 := ((((hFr.set ⟨g, j * 2, none⟩ (.bool n6)).set ⟨g, j * 2 + 1, none⟩ (.slice a6 k6 c6)).keep hb7).set ⟨u, 0, none⟩ (.bool n7)).set ⟨u, 1, none⟩ (.slice a7 l7.length c7)
      have hLL := ((hLim.trans hL2).below hb7).trans hL7
      clear hG hG2 hL2 hO2 hOut hLim hFr e0 e1 e0f e1f d0 d1 d0f d1f g0 g1
      go_wp2
      exact ⟨⟨j + 1, n7, a7, l7.length, c7, by omega, by go_num, by rw [Int.pow_succ]; exact hI7.out.lim hL7, cell_far (cell_here u0 _) (by simp) _, cell_here (cell_far u1 (by simp) _) _, by simpa [go_sem] using u0f, by simpa [go_sem] using u1f, hO7, hLL, hG7.congr (powUp_succ a j), hF7⟩, by simp [intOf]; omega⟩
    · obtain rfl : j = n := by omega
      have hDw := Lib.hid (HD.out.lim hLim)
      have hGj := Lib.hid (hG.congr (f' := powDn a b j j) (fun k hk => by simp [powUp, powDn, hk]))
      have hOB := Lib.hid (hB.trans (hOut.to_below (B := w.heap.size) (fun k hk _ h => by rcases h with h | h <;> omega) (by omega)))
      have HFr := Lib.hid hFr
      have HDP := Lib.hid (And.intro d0 (And.intro d1 (And.intro d0f d1f)))
      clear d0 d1 d0f d1f hOut hLim hG hFr u0 u1 u0f u1f hi6
      have HF2 := Lib.hid (And.intro g0 (g1))
      clear g0 g1
      go_wp2
      go_loopw [10] (fun y wi => ∃ (k : Nat) (n6 : Bool) (a6 : Option Addr) (k6 c6 : Nat), k ≤ j ∧ y = .int .i64 ((k : Int) - 1) ∧ IsInt wi (.agg #[.bool n6, .slice a6 k6 c6]) (b ^ (j - k)) ∧ wi.cell? ⟨u + 1, 0, none⟩ = some (.bool n6) ∧ wi.cell? ⟨u + 1, 1, none⟩ = some (.slice a6 k6 c6) ∧ wi.frozen? ⟨u + 1, 0, none⟩ = false ∧ wi.frozen? ⟨u + 1, 1, none⟩ = false ∧ Out (fun i => i = g ∨ i = u + 1) wr wi ∧ IntsF IsInt wi g 0 j (powDn a b j k) ∧ FreeI wi g) (fun y _ => (intOf y + 1).toNat)
      case atStart => exact ⟨j, n4, a4, _, c4, Nat.le_refl _, rfl, by simpa using hDw.out, HDP.out.1, HDP.out.2.1, HDP.out.2.2.1, HDP.out.2.2.2, Out.refl _ _, hGj.out, HFr.out⟩
      case round =>
        rename World => wi
        obtain ⟨k, n6, a6, k6, c6, hk, rfl, hi6, d0, d1, d0f, d1f, hOut, hG, hFr⟩ := hrel
        obtain ⟨g0, g1⟩ := HF2.out
        replace g0 := okeep hOut g0 (fun h => by first | (have h2 : _ = _ := h; omega) | (rcases (show _ ∨ _ from h) with h | h <;> omega) | (rcases (show _ ∨ _ ∨ _ from h) with h | h | h <;> omega))
        replace g1 := okeep hOut g1 (fun h => by first | (have h2 : _ = _ := h; omega) | (rcases (show _ ∨ _ from h) with h | h <;> omega) | (rcases (show _ ∨ _ ∨ _ from h) with h | h | h <;> omega))
        cases k with
        | zero =>
          have hB9 : Below w.heap.size w wi := hOB.out.trans (hOut.to_below (B := w.heap.size) (fun k hk _ h => by rcases h with h | h <;> omega) (by have := hOB.out.size; omega))
          have hG9 := Lib.hid (hG.congr (f' := powF a b j) (fun i _ => by simp [powDn, powF]))
          clear hG hOut
          go_wp2
          go_ret2
          exact ⟨⟨g, rfl, hG9.out, Nat.le_of_lt hgw, hFr.ty⟩, hB9⟩
        | succ k =>
          obtain ⟨nb, ax, lx, cx, e0, e1, he⟩ := hG.at0 (show k < j by omega)
          have e0f := hFr.2 (k * 2)
          have e1f := hFr.2 (k * 2 + 1)
          have hjn' : (k : Int) < (j : Int) := by omega
          have HE := Lib.hid (show IsInt wi (.agg #[.bool nb, .slice ax lx cx]) (a ^ k) by have := he; unfold powDn at this; rwa [if_pos (by omega)] at this)
          have HI6 := Lib.hid hi6
          clear he hi6
          go_wp2
          have HB := Lib.hid (Below.refl wi.heap.size wi)
          go_region_with ((go_at_call 24; refine (mc _ _ k _ _ (HE.out.lim (Lim.refl _).drew) (HI6.out.lim (Lim.refl _).drew) (by omega) (by omega)).mono ?_; rintro e w7 ⟨⟨v7, rfl, hi7⟩, hb7⟩; replace hb7 := (show Below wi.heap.size wi w7 from HB.out.drew.trans hb7); replace e0f := bkeepf hb7 e0 e0f; replace e1f := bkeepf hb7 e1 e1f; replace e0 := bkeep hb7 e0; replace e1 := bkeep hb7 e1; have HI7 := Lib.hid hi7; obtain ⟨n7, a7, c7, l7, rfl, -⟩ := hi7; unfold iv at *))
          all_goals
            have hG7 := (hG.keep lims_int hb7).store0 lims_int (show k < j by omega) HI7.out
            have hL7 := Lim.set2 e0 e1 (.bool n7) (.slice a7 l7.length c7)
            have hO7 := (hOut.below hb7).set2 (g := g) (o := k * 2) (fun _ => .inl rfl) (.bool n7) (.slice a7 l7.length c7)
            have HI8 := Lib.hid ((HI6.out.lim (.of_below hb7)).lim hL7)
            have hF7 := ((hFr.keep hb7).set ⟨g, k * 2, none⟩ (.bool n7)).set ⟨g, k * 2 + 1, none⟩ (.slice a7 l7.length c7)
            have hgne : g ≠ u + 1 := by omega
            have hgnw : g ≠ w.heap.size := by omega
            replace g0 := cell_far (cell_far (bkeep hb7 g0) (p := ⟨g, k * 2, none⟩) (addr_ne hgnw) (.bool n7)) (p := ⟨g, k * 2 + 1, none⟩) (addr_ne hgnw) (.slice a7 l7.length c7)
            replace g1 := cell_far (cell_far (bkeep hb7 g1) (p := ⟨g, k * 2, none⟩) (addr_ne hgnw) (.bool n7)) (p := ⟨g, k * 2 + 1, none⟩) (addr_ne hgnw) (.slice a7 l7.length c7)
            replace d0f := bkeepf hb7 d0 d0f
            replace d1f := bkeepf hb7 d1 d1f
            replace d0 := cell_far (cell_far (bkeep hb7 d0) (p := ⟨g, k * 2, none⟩) (addr_ne hgne) (.bool n7)) (p := ⟨g, k * 2 + 1, none⟩) (addr_ne hgne) (.slice a7 l7.length c7)
            replace d1 := cell_far (cell_far (bkeep hb7 d1) (p := ⟨g, k * 2, none⟩) (addr_ne hgne) (.bool n7)) (p := ⟨g, k * 2 + 1, none⟩) (addr_ne hgne) (.slice a7 l7.length c7)
            clear hG hOut hFr e0 e1 e0f e1f hL7 hb7 HE HI6 HI7
            go_wp2_with fail
            refine (tcb _ (j - (k + 1)) _ HI8.out (by omega)).mono ?_
            rintro e w8 ⟨⟨v8, rfl, hi8⟩, hb8⟩
            replace d0f := bkeepf hb8 d0 (by simpa [go_sem] using d0f)
            replace d1f := bkeepf hb8 d1 (by simpa [go_sem] using d1f)
            replace d0 := bkeep hb8 d0
            replace d1 := bkeep hb8 d1
            have HI9 := Lib.hid hi8
            obtain ⟨n8, a8, c8, l8, rfl, -⟩ := hi8
            unfold iv at *
            have hL8 := Lim.set2 d0 d1 (.bool n8) (.slice a8 l8.length c8)
            have hG8 := (hG7.keep lims_int hb8).far lims_int (Ne.symm hgne) d0 d1 (.bool n8) (.slice a8 l8.length c8)
            have hO8 := (hO7.below hb8).set2 (g := u + 1) (o := 0) (fun _ => .inr rfl) (.bool n8) (.slice a8 l8.length c8)
            have hF8 := ((hF7.keep hb8).set ⟨u + 1, 0, none⟩ (.bool n8)).set ⟨u + 1, 1, none⟩ (.slice a8 l8.length c8)
            have HE := Lib.hid (show b ^ (j - (k + 1)) * b = b ^ (j - k) by rw [← Int.pow_succ]; congr 1; omega)
            clear hG7 hO7 hF7 HI8
            go_wp2
            exact ⟨⟨k, n8, a8, l8.length, c8, by omega, rfl, by rw [← HE.out]; exact HI9.out.lim hL8, cell_far (cell_here d0 _) (by simp) _, cell_here (cell_far d1 (by simp) _) _, by simpa [go_sem] using d0f, by simpa [go_sem] using d1f, hO8, hG8.congr (powDn_succ a b j k), hF8⟩, by simp [intOf] <;> omega⟩
end Go.Proofs.YtkejdmdldhlkgaaGreatDoor

/- Rows of numbers as values; rows of rows. 'Kp S w w'': the blocks of the types S are as they were. -/
namespace Go.Proofs.YtkejdmdldhlkgaaGreatDoor
open Num
open Go.ChangeShapes Go.WideShapes Go.ChangeAt Go.RowKit
set_option linter.unusedVariables false
set_option linter.unusedSimpArgs false
/-- the blocks of the types S are as they were -/
def Kp (S : TypeId → Prop) (w w' : World) : Prop := ∀ b t, typOf w b = some t → S t → w'.heap[b]? = w.heap[b]?
section
variable {S : TypeId → Prop} {a b c w w' : World}
theorem Kp.refl (S : TypeId → Prop) (w : World) : Kp S w w := fun _ _ _ _ => rfl
theorem Kp.trans (h : Kp S a b) (k : Kp S b c) : Kp S a c := fun q t ht hs => (k q t (by rw [typ_of_block (w := a) (h q t ht hs)]; exact ht) hs).trans (h q t ht hs)
theorem Kp.of_below (S : TypeId → Prop) (h : Below a.heap.size a b) : Kp S a b := fun q t ht _ => h.block q (typ_lt ht)
theorem Kp.below (h : Kp S a b) (k : Below b.heap.size b c) : Kp S a c := h.trans (.of_below S k)
theorem Kp.alloc (h : Kp S a b) (o : Obj) : Kp S a (b.alloc o) := h.below (bal (Below.refl _ _) o)
theorem Kp.drew (h : Kp S a b) : Kp S a b.drew := h
theorem Kp.drewN (h : Kp S a b) (n : Nat) : Kp S a (b.drewN n) := h
theorem Kp.grown {row : Option Nat} (h : Kp S a b) (hg : b.grownBy c row) (hr : ∀ g, row = some g → ∀ t, typOf b g = some t → ¬ S t) : Kp S a c :=
  h.trans fun q t ht hs => hg.block q (typ_lt ht) fun e => hr q e.symm t ht hs
theorem Kp.set (h : Kp S a b) {p : Addr} (hp : ∀ t, typOf b p.block = some t → ¬ S t) (u : Value) : Kp S a (b.setCell p u) :=
  h.trans fun q t ht hs => Below.heap_setCell _ _ _ _ fun e => hp t (by rw [← e]; exact ht) hs
theorem Kp.lim (h : Kp S a b) (hs : S 104) : Lim a b := fun q ht => by
  have e := h q _ ht hs
  exact ⟨by rw [typ_of_block (w := a) e]; exact ht, fun o n hc => by rw [World.cell?_of_block (w := a) e]; exact hc⟩
theorem Kp.typ (h : Kp S a b) {q : Nat} {t : TypeId} (ht : typOf a q = some t) (hs : S t) : typOf b q = some t := by rw [typ_of_block (w := a) (h q t ht hs)]; exact ht
theorem Kp.out {X : Nat → Prop} (h : Out X a b) (hx : ∀ q t, X q → typOf a q = some t → ¬ S t) : Kp S a b := fun q t ht hs => h.block q (typ_lt ht) fun hq => hx q t hq ht hs
end
/-- a slice value that holds the numbers l, in a block from base on -/
def IsRow (R : World → Value → Int → Prop) (E : TypeId) (base : Nat) (w : World) (v : Value) (l : List Int) : Prop :=
  ∃ a c, v = .slice a l.length c ∧ l.length ≤ c ∧ c ≤ maxLen ∧ (l = [] ∨ ∃ b off, a = some ⟨b, off, none⟩ ∧ base ≤ b ∧ typOf w b = some E ∧ IntsF R w b off l.length (fun k => l.getD k 0))
/-- the program's rows; the reference's -/
def PRow := IsRow IsInt 41
def RRow := IsRow IsRef 46
section
variable {R : World → Value → Int → Prop} {E : TypeId} {base : Nat} {w w' : World} {v : Value} {l : List Int}
theorem IsRow.kp {S : TypeId → Prop} (hR : Lims R) (h : IsRow R E base w v l) (k : Kp S w w') (hs : S 104) (hE : S E) : IsRow R E base w' v l := by
  obtain ⟨a, c, h1, h2, h3, h4⟩ := h
  refine ⟨a, c, h1, h2, h3, h4.imp id ?_⟩
  rintro ⟨b, off, e, hb, ht, hi⟩
  exact ⟨b, off, e, hb, k.typ ht hE, hi.stay hR (k b _ ht hE) (k.lim hs)⟩
theorem IsRow.keep (hR : Lims R) (h : IsRow R E base w v l) (k : Below w.heap.size w w') : IsRow R E base w' v l := by
  obtain ⟨a, c, h1, h2, h3, h4⟩ := h
  refine ⟨a, c, h1, h2, h3, h4.imp id ?_⟩
  rintro ⟨b, off, e, hb, ht, hi⟩
  exact ⟨b, off, e, hb, typ_keep ht k, hi.keep hR k⟩
theorem IsRow.rebase {base' : Nat} (h : IsRow R E base w v l) (hb : base' ≤ base) : IsRow R E base' w v l := by
  obtain ⟨a, c, h1, h2, h3, h4⟩ := h
  refine ⟨a, c, h1, h2, h3, h4.imp id ?_⟩
  rintro ⟨b, off, e, hb', r⟩
  exact ⟨b, off, e, Nat.le_trans hb hb', r⟩
theorem IsRow.nil (R : World → Value → Int → Prop) (E : TypeId) (base : Nat) (w : World) : IsRow R E base w (.slice none 0 0) [] := ⟨none, 0, rfl, Nat.le_refl _, by unfold maxLen; omega, .inl rfl⟩
theorem OwnF.row {w0 wr : World} (h : OwnF R E w0 wr v l.length (fun k => l.getD k 0)) : IsRow R E w0.heap.size wr v l := by
  obtain ⟨xs, ⟨⟨hl, h1⟩, hB⟩, h2⟩ := h
  rcases h1 with ⟨rfl, h0⟩ | ⟨g, cap, cur, rfl, hg, hh, hc, hm, hs, ht⟩
  · have : l = [] := List.length_eq_zero_iff.1 h0
    subst this
    exact IsRow.nil R E _ _
  · refine ⟨_, cap, rfl, hc, hm, .inr ⟨g, 0, rfl, hg, by unfold typOf; rw [hh], fun k hk => ?_⟩⟩
    obtain ⟨nb, a, len, c, k1, k2, k3⟩ := h2 k hk
    have cel : ∀ j u, xs[j]? = some u → wr.cell? ⟨g, j, none⟩ = some u := fun j u hj => by
      have hj2 : j < l.length * 2 := by have := (List.getElem?_eq_some_iff.1 hj).1; omega
      rw [← ht, List.getElem?_take_of_lt (by omega)] at hj
      simpa [World.cell?, hh] using hj
    exact ⟨nb, a, len, c, by rw [Nat.zero_add]; exact cel _ _ k1, by rw [Nat.zero_add]; exact cel _ _ k2, k3⟩
end
/-- a row of slice values, each of which holds a row of numbers -/
def IsGrid (R : World → Value → Int → Prop) (E T : TypeId) (base : Nat) (w : World) (v : Value) (g : List (List Int)) : Prop :=
  ∃ a c, v = .slice a g.length c ∧ g.length ≤ c ∧ c ≤ maxLen ∧ (g = [] ∨ ∃ b off, a = some ⟨b, off, none⟩ ∧ base ≤ b ∧ typOf w b = some T ∧ ∀ k, k < g.length → ∃ u, w.cell? ⟨b, off + k, none⟩ = some u ∧ IsRow R E base w u (g.getD k []))
section
variable {R : World → Value → Int → Prop} {E T : TypeId} {base : Nat} {w w' : World} {v : Value} {g : List (List Int)}
theorem IsGrid.keep (hR : Lims R) (h : IsGrid R E T base w v g) (k : Below w.heap.size w w') : IsGrid R E T base w' v g := by
  obtain ⟨a, c, h1, h2, h3, h4⟩ := h
  refine ⟨a, c, h1, h2, h3, h4.imp id ?_⟩
  rintro ⟨b, off, e, hb, ht, hi⟩
  refine ⟨b, off, e, hb, typ_keep ht k, fun j hj => ?_⟩
  obtain ⟨u, hu, hr⟩ := hi j hj
  exact ⟨u, bkeep k hu, hr.keep hR k⟩
theorem IsGrid.kp {S : TypeId → Prop} (hR : Lims R) (h : IsGrid R E T base w v g) (k : Kp S w w') (hs : S 104) (hE : S E) (hT : S T) : IsGrid R E T base w' v g := by
  obtain ⟨a, c, h1, h2, h3, h4⟩ := h
  refine ⟨a, c, h1, h2, h3, h4.imp id ?_⟩
  rintro ⟨b, off, e, hb, ht, hi⟩
  refine ⟨b, off, e, hb, k.typ ht hT, fun j hj => ?_⟩
  obtain ⟨u, hu, hr⟩ := hi j hj
  exact ⟨u, by rw [World.cell?_of_block (w := w) (k b _ ht hT)]; exact hu, hr.kp hR k hs hE⟩
theorem IsGrid.rebase {base' : Nat} (h : IsGrid R E T base w v g) (hb : base' ≤ base) : IsGrid R E T base' w v g := by
  obtain ⟨a, c, h1, h2, h3, h4⟩ := h
  refine ⟨a, c, h1, h2, h3, h4.imp id ?_⟩
  rintro ⟨b, off, e, hb', ht, hi⟩
  refine ⟨b, off, e, Nat.le_trans hb hb', ht, fun j hj => ?_⟩
  obtain ⟨u, hu, hr⟩ := hi j hj
  exact ⟨u, hu, hr.rebase hb⟩
theorem IsGrid.nil (R : World → Value → Int → Prop) (E T : TypeId) (base : Nat) (w : World) : IsGrid R E T base w (.slice none 0 0) [] := ⟨none, 0, rfl, Nat.le_refl _, by unfold maxLen; omega, .inl rfl⟩
end
/-- such a row of the call's own, built by append -/
def OwnG (R : World → Value → Int → Prop) (E T : TypeId) (base : Nat) (w0 wr : World) (v : Value) (g : List (List Int)) : Prop :=
  ∃ xs, OwnE T 1 w0 wr v g.length xs ∧ ∀ k, k < g.length → ∃ u, xs[k]? = some u ∧ IsRow R E base wr u (g.getD k [])
section
variable {R : World → Value → Int → Prop} {E T : TypeId} {base : Nat} {w0 wr w' : World} {v : Value} {g : List (List Int)}
theorem OwnG.nil (R : World → Value → Int → Prop) (E T : TypeId) (base : Nat) {w0 wr : World} (hb : Below w0.heap.size w0 wr) : OwnG R E T base w0 wr (.slice none 0 0) [] := ⟨[], OwnE.nil _ _ hb, fun k hk => absurd hk (by simp)⟩
theorem OwnG.below (hR : Lims R) (h : OwnG R E T base w0 wr v g) (hb : Below wr.heap.size wr w') : OwnG R E T base w0 w' v g := by
  obtain ⟨xs, h1, h2⟩ := h
  refine ⟨xs, h1.below hb, fun k hk => ?_⟩
  obtain ⟨u, hu, hr⟩ := h2 k hk
  exact ⟨u, hu, hr.keep hR hb⟩
theorem OwnG.bel (h : OwnG R E T base w0 wr v g) : Below w0.heap.size w0 wr := by obtain ⟨xs, h1, _⟩ := h; exact h1.2
theorem OwnG.grid (h : OwnG R E T base w0 wr v g) (hb : base ≤ w0.heap.size) : IsGrid R E T base wr v g := by
  obtain ⟨xs, ⟨⟨hl, h1⟩, _⟩, h2⟩ := h
  rcases h1 with ⟨rfl, h0⟩ | ⟨b, cap, cur, rfl, hg, hh, hc, hm, hs, ht⟩
  · have : g = [] := List.length_eq_zero_iff.1 h0
    subst this
    exact IsGrid.nil R E T _ _
  · refine ⟨_, cap, rfl, hc, hm, .inr ⟨b, 0, rfl, by omega, by unfold typOf; rw [hh], fun k hk => ?_⟩⟩
    obtain ⟨u, hu, hr⟩ := h2 k hk
    refine ⟨u, ?_, hr⟩
    rw [← ht, List.getElem?_take_of_lt (by omega)] at hu
    simpa [World.cell?, hh] using hu
theorem OwnG.ex (h : OwnG R E T base w0 wr v g) : ∃ a c, v = .slice a g.length c := by
  obtain ⟨xs, ⟨⟨_, h1⟩, _⟩, _⟩ := h
  rcases h1 with ⟨rfl, h0⟩ | ⟨b, cap, cur, rfl, _⟩
  · exact ⟨none, 0, by rw [h0]⟩
  · exact ⟨_, _, rfl⟩
end
section
variable {P : Program} {TT T E : TypeId} {base bytes : Nat} {R : World → Value → Int → Prop} {ops : Array Oper} {o : Oper} {a : Act} {Q : Exit → Act → World → Prop} {w0 wr : World} {v u : Value} {g : List (List Int)} {l : List Int} {t : TypeId} {s x : Operand} {cc : Nat}
end
end Go.Proofs.YtkejdmdldhlkgaaGreatDoor

/- Plain laws: sums, differences, small quotients, shifts of numbers as lists of limbs. -/
namespace Go.Proofs.YtkejdmdldhlkgaaGreatDoor.Num

theorem val_set0 {l : List Nat} {k : Nat} (x : Nat) (hk : k < l.length) (h0 : l.getD k 0 = 0) : val (l.set k x) = val l + x * BB ^ k := by
  have := val_set x hk
  rw [h0] at this
  omega
theorem take_over {l : List Nat} {k : Nat} (hk : l.length ≤ k) : val (l.take (k + 1)) = val (l.take k) := by
  rw [List.take_of_length_le hk, List.take_of_length_le (by omega)]
theorem getD_set_ne {l : List Nat} {i j x : Nat} (h : i ≠ j) : (l.set i x).getD j 0 = l.getD j 0 := by
  simp [List.getD_eq_getElem?_getD, List.getElem?_set_ne h]
/-- a place of a sum -/
theorem add_step {O A B : List Nat} {i c t : Nat} (hO : i < O.length) (h0 : O.getD i 0 = 0) (hA : i < A.length) (ht : t = c + A.getD i 0 + B.getD i 0)
    (h : val O + c * BB ^ i = val (A.take i) + val (B.take i)) : val (O.set i (t % BB)) + t / BB * BB ^ (i + 1) = val (A.take (i + 1)) + val (B.take (i + 1)) := by
  have hB : val (B.take (i + 1)) = val (B.take i) + B.getD i 0 * BB ^ i := by
    by_cases hb : i < B.length
    · exact val_take_succ hb
    · rw [take_over (by omega)]; simp [hb]
  rw [val_set0 _ hO h0, val_take_succ hA, hB]
  have e : t * BB ^ i = t / BB * BB ^ (i + 1) + t % BB * BB ^ i := by
    conv => lhs; rw [← Nat.div_add_mod t BB, Nat.add_mul]
    rw [Nat.pow_succ]
    congr 1
    ac_rfl
  have e2 : t * BB ^ i = c * BB ^ i + A.getD i 0 * BB ^ i + B.getD i 0 * BB ^ i := by rw [ht]; simp only [Nat.add_mul]
  omega
/-- a place of a difference: what is borrowed is 0 or 1 -/
theorem sub_step {O A B : List Nat} {i br r br' : Nat} (hO : i < O.length) (h0 : O.getD i 0 = 0) (hA : i < A.length) (hr : r + (br + B.getD i 0) = A.getD i 0 + br' * BB)
    (h : val O + val (B.take i) = val (A.take i) - 0 + br * BB ^ i) : val (O.set i r) + val (B.take (i + 1)) = val (A.take (i + 1)) - 0 + br' * BB ^ (i + 1) := by
  have hB : val (B.take (i + 1)) = val (B.take i) + B.getD i 0 * BB ^ i := by
    by_cases hb : i < B.length
    · exact val_take_succ hb
    · rw [take_over (by omega)]; simp [hb]
  rw [val_set0 _ hO h0, val_take_succ hA, hB]
  have e := congrArg (· * BB ^ i) hr
  simp only [Nat.add_mul] at e
  have e2 : br' * BB * BB ^ i = br' * BB ^ (i + 1) := by rw [Nat.pow_succ]; ac_rfl
  omega
theorem sub_end {A B : List Nat} {V br : Nat} (hA : Limbs A) (hle : val B ≤ val A) (h : V + val (B.take A.length) = val (A.take A.length) - 0 + br * BB ^ A.length) (hV : V < BB ^ A.length) : V + val B = val A := by
  rw [List.take_length] at h
  have hlt := val_lt hA
  have hsplit : val B = val (B.take A.length) + BB ^ A.length * val (B.drop A.length) := by
    by_cases hb : A.length ≤ B.length
    · conv => lhs; rw [← List.take_append_drop A.length B, val_append]
      rw [List.length_take, Nat.min_eq_left hb]
    · rw [List.take_of_length_le (by omega), List.drop_eq_nil_of_le (by omega)]; simp [val]
  have hd : val (B.drop A.length) = 0 := by
    apply Nat.eq_zero_of_not_pos
    intro hp
    have : BB ^ A.length * 1 ≤ BB ^ A.length * val (B.drop A.length) := Nat.mul_le_mul_left _ hp
    omega
  rw [hd] at hsplit
  simp at hsplit
  rw [hsplit]
  cases br with
  | zero => omega
  | succ n =>
    exfalso
    have : BB ^ A.length * 1 ≤ BB ^ A.length * (n + 1) := Nat.mul_le_mul_left _ (by omega)
    rw [Nat.mul_comm] at h
    have e : (n + 1) * BB ^ A.length = BB ^ A.length * (n + 1) := Nat.mul_comm _ _
    omega
/-- a place of a quotient by a limb -/
theorem div_step {O A : List Nat} {j c rest : Nat} (hO : j < O.length) (h0 : O.getD j 0 = 0) (hA : j < A.length)
    (h : val O * c + rest * BB ^ (j + 1) + val (A.take (j + 1)) = val A) :
    val (O.set j ((rest * BB + A.getD j 0) / c)) * c + (rest * BB + A.getD j 0) % c * BB ^ j + val (A.take j) = val A := by
  rw [val_set0 _ hO h0, ← h, val_take_succ hA, Nat.add_mul]
  have e : (rest * BB + A.getD j 0) * BB ^ j = (rest * BB + A.getD j 0) / c * BB ^ j * c + (rest * BB + A.getD j 0) % c * BB ^ j := by
    conv => lhs; rw [← Nat.div_add_mod (rest * BB + A.getD j 0) c, Nat.add_mul]
    congr 1
    ac_rfl
  have e2 : (rest * BB + A.getD j 0) * BB ^ j = rest * BB ^ (j + 1) + A.getD j 0 * BB ^ j := by rw [Nat.add_mul, Nat.pow_succ, Nat.mul_assoc, Nat.mul_comm BB (BB ^ j)]
  omega
theorem div_lt {rest x c : Nat} (hr : rest < c) (hx : x < BB) : (rest * BB + x) / c < BB := by
  apply Nat.div_lt_of_lt_mul
  have : (rest + 1) * BB ≤ c * BB := Nat.mul_le_mul_right _ hr
  rw [Nat.add_mul] at this
  omega
/-- shifting up: a place; m limbs and k bits -/
theorem shl_step {O A : List Nat} {i m p x : Nat} (hO : i + m + 1 < O.length) (h0 : O.getD (i + m + 1) 0 = 0) (hA : i < A.length) (hx : x = A.getD i 0)
    (h : val O = val (A.take i) * (p * BB ^ m)) : val ((O.set (i + m) (O.getD (i + m) 0 + x * p % BB)).set (i + m + 1) (x * p / BB)) = val (A.take (i + 1)) * (p * BB ^ m) := by
  have h1 : (O.set (i + m) (O.getD (i + m) 0 + x * p % BB)).getD (i + m + 1) 0 = 0 := by rw [getD_set_ne (by omega), h0]
  rw [val_set0 _ (by simpa using hO) h1]
  have h2 := val_set (l := O) (k := i + m) (O.getD (i + m) 0 + x * p % BB) (by omega)
  rw [Nat.add_mul (O.getD (i + m) 0)] at h2
  rw [val_take_succ hA, ← hx, Nat.add_mul, ← h]
  have e : x * p * BB ^ (i + m) = x * p / BB * BB ^ (i + m + 1) + x * p % BB * BB ^ (i + m) := by
    conv => lhs; rw [← Nat.div_add_mod (x * p) BB, Nat.add_mul]
    rw [Nat.pow_succ]
    congr 1
    ac_rfl
  have e2 : x * BB ^ i * (p * BB ^ m) = x * p * BB ^ (i + m) := by rw [Nat.pow_add]; ac_rfl
  omega
/-- the low part of a place that is shifted up meets no bit -/
theorem or_low {x k o : Nat} (ho : o < 2 ^ k) (hk : k ≤ 32) : (x * 2 ^ k % BB) ||| o = o + x * 2 ^ k % BB := by
  have e : BB = 2 ^ k * 2 ^ (32 - k) := by rw [← Nat.pow_add, Nat.add_sub_cancel' hk]; rfl
  have e2 : x * 2 ^ k % BB = 2 ^ k * (x % 2 ^ (32 - k)) := by rw [e, Nat.mul_comm x, Nat.mul_mod_mul_left]
  rw [e2, ← Nat.two_pow_add_eq_or_of_lt ho]
  omega
theorem shl_hi {x k : Nat} (hx : x < BB) : x * 2 ^ k / BB < 2 ^ k := by
  apply Nat.div_lt_of_lt_mul
  rw [Nat.mul_comm BB, Nat.mul_comm]
  exact Nat.mul_lt_mul_of_pos_left hx (Nat.pow_pos (by omega))
theorem shl_lo {x k o : Nat} (ho : o < 2 ^ k) (hk : k ≤ 32) : o + x * 2 ^ k % BB < BB := by
  have e : BB = 2 ^ k * 2 ^ (32 - k) := by rw [← Nat.pow_add, Nat.add_sub_cancel' hk]; rfl
  have e2 : x * 2 ^ k % BB = 2 ^ k * (x % 2 ^ (32 - k)) := by rw [e, Nat.mul_comm x, Nat.mul_mod_mul_left]
  rw [e2, e]
  have h1 : x % 2 ^ (32 - k) < 2 ^ (32 - k) := Nat.mod_lt _ (Nat.pow_pos (by omega))
  have h2 : 2 ^ k * (x % 2 ^ (32 - k) + 1) ≤ 2 ^ k * 2 ^ (32 - k) := Nat.mul_le_mul_left _ h1
  rw [Nat.mul_add] at h2
  omega
/-- shifting down by less than a limb -/
def shrL (k : Nat) : List Nat → List Nat
  | [] => []
  | x :: l => (x + l.getD 0 0 * BB) / 2 ^ k % BB :: shrL k l
theorem shrL_len (k : Nat) (l : List Nat) : (shrL k l).length = l.length := by
  induction l with
  | nil => rfl
  | cons x l ih => simp [shrL, ih]
theorem shrL_get (k : Nat) (l : List Nat) (i : Nat) (hi : i < l.length) : (shrL k l).getD i 0 = (l.getD i 0 + l.getD (i + 1) 0 * BB) / 2 ^ k % BB := by
  induction l generalizing i with
  | nil => simp at hi
  | cons x l ih =>
    cases i with
    | zero => rw [shrL, List.getD_cons_zero, List.getD_cons_zero, List.getD_cons_succ]
    | succ i => rw [shrL, List.getD_cons_succ, List.getD_cons_succ, List.getD_cons_succ]; exact ih i (by simpa using hi)
theorem shrL_limbs (k : Nat) (l : List Nat) : Limbs (shrL k l) := by
  induction l with
  | nil => intro x hx; cases hx
  | cons x l ih =>
    intro y hy
    rcases List.mem_cons.1 hy with rfl | h
    · exact Nat.mod_lt _ BB_pos
    · exact ih y h
theorem shr_arith {B b K x V y : Nat} (e : B = b * K) (hp : 0 < b) (hx : x < B) (hmod : V % b = y % b) : (x + y * B) / b % B + B * (V / b) = (x + B * V) / b := by
  have h1 : (x + B * V) / b = x / b + K * V := by rw [e, Nat.mul_assoc, Nat.add_mul_div_left _ _ hp]
  have h2 : (x + y * B) / b = x / b + K * y := by rw [e, show y * (b * K) = b * (K * y) from by ac_rfl, Nat.add_mul_div_left _ _ hp]
  rw [h1, h2]
  have hxb : x / b < K := Nat.div_lt_of_lt_mul (by rw [← e]; exact hx)
  have key : ∀ z, (x / b + K * z) % B = x / b + K * (z % b) := fun z => by
    have e3 : K * z = B * (z / b) + K * (z % b) := by
      conv => lhs; rw [← Nat.div_add_mod z b, Nat.mul_add]
      rw [e]
      congr 1
      ac_rfl
    rw [e3, show x / b + (B * (z / b) + K * (z % b)) = x / b + K * (z % b) + B * (z / b) from by omega, Nat.add_mul_mod_self_left]
    apply Nat.mod_eq_of_lt
    have h5 : z % b + 1 ≤ b := Nat.mod_lt _ hp
    have h6 : K * (z % b + 1) ≤ K * b := Nat.mul_le_mul_left _ h5
    rw [Nat.mul_add] at h6
    rw [e, Nat.mul_comm b K]
    omega
  rw [key, ← hmod]
  have e4 : K * V = B * (V / b) + K * (V % b) := by
    conv => lhs; rw [← Nat.div_add_mod V b, Nat.mul_add]
    rw [e]
    congr 1
    ac_rfl
  omega
theorem BB_split {k : Nat} (hk : k ≤ 32) : BB = 2 ^ k * 2 ^ (32 - k) := by rw [← Nat.pow_add, Nat.add_sub_cancel' hk]; rfl
theorem val_mod (k : Nat) (hk : k ≤ 32) (l : List Nat) : val l % 2 ^ k = l.getD 0 0 % 2 ^ k := by
  cases l with
  | nil => rfl
  | cons y l =>
    rw [val, BB_split hk, Nat.mul_assoc, Nat.add_mul_mod_self_left]
    rfl
theorem shrL_val (k : Nat) (hk : k < 32) (l : List Nat) (hl : Limbs l) : val (shrL k l) = val l / 2 ^ k := by
  induction l with
  | nil => simp [shrL, val]
  | cons x l ih =>
    have hx := hl x (by simp)
    have ih := ih (fun y hy => hl y (by simp [hy]))
    rw [shrL, val, val, ih]
    exact shr_arith (BB_split (by omega)) (Nat.pow_pos (by omega)) hx (val_mod k (by omega) l)
theorem val_drop {l : List Nat} {m : Nat} (hl : Limbs l) (hm : m ≤ l.length) : val (l.drop m) = val l / BB ^ m := by
  have h : val l = val (l.take m) + BB ^ m * val (l.drop m) := by
    conv => lhs; rw [← List.take_append_drop m l, val_append]
    rw [List.length_take, Nat.min_eq_left hm]
  have h2 := val_lt (limbs_take hl m)
  rw [List.length_take, Nat.min_eq_left hm] at h2
  rw [h, Nat.add_mul_div_left _ _ (Nat.pow_pos BB_pos), Nat.div_eq_of_lt h2, Nat.zero_add]
end Go.Proofs.YtkejdmdldhlkgaaGreatDoor.Num

/- scheme: Size. -/
namespace Go.Proofs.YtkejdmdldhlkgaaGreatDoor
open Pt
open Go.ChangeShapes Go.WideShapes Go.ChangeAt Go.RowKit
set_option linter.unusedVariables false
set_option linter.unusedSimpArgs false
attribute [local go_sem ↓] Go.wp_at_zero Go.wp_at_succ
theorem sizeS_c (b : Nat) (k1 k2 : Int) (n : Nat) (f : Nat → Int × Int) (w : World) (h : SchAt w b k1 k2 n f) : Calls Tryz.prog 28 #[.pointer (some ⟨b, 0, none⟩)] w fun e w' => e = .returned (.int .i64 n) ∧ Below w.heap.size w w' := by
  obtain ⟨-, -, pa, pc, c2, -⟩ := h
  have zc := cell_lt c2
  have hB := Below.refl w.heap.size w
  go_enter Tryz.func28, Tryz.ntmps28
  go_wp2
  go_ret
  exact ⟨rfl, by repeat (first | exact Below.refl _ _ | exact hB | refine Below.drew ?_ | refine below_drewN ?_ _ | refine bset ?_ (by simp <;> omega) _ | refine bal ?_ _)⟩
end Go.Proofs.YtkejdmdldhlkgaaGreatDoor

