/- point: Powers. -/
import Derived.Test.YtefoljempkpmgaaPtE
import Derived.Test.YtefoljempkpmgaaInts
namespace Go.Proofs.Ytefoljempkpmgaa
open Pt Num
open Go.ChangeShapes Go.WideShapes Go.ChangeAt Go.RowKit
set_option linter.unusedVariables false
set_option linter.unusedSimpArgs false

theorem ptPow_no (a b n : Int) (w : World) (h : ¬ (PIn a b ∧ 0 ≤ n ∧ n ≤ 16)) :
    Calls Try.prog 25 #[pv a b, .int .i64 n] w fun e w' => e = .returned (.tuple #[.slice none 0 0, .int .i64 2]) ∧ Below w.heap.size w w' := by
  by_cases hi : PIn a b
  · have cc : ∀ w, Calls Try.prog 10 #[pv a b] w fun e w' => e = .returned (.bool true) ∧ Below w.heap.size w w' := fun w => by rw [← inB_yes hi]; exact ptIn_c a b w
    by_cases h0 : n < 0
    · clear h hi
      go_enter Try.func25, Try.ntmps25
      go_wp2_with fail
      refine (cc _).mono ?_
      rintro e w2 ⟨rfl, hb2⟩
      have g0 : w2.cell? ⟨w.heap.size, 0, none⟩ = some (.int .i64 a) := bkeep hb2 (by first | assumption | exact cell_new (by with_reducible first | rfl | (simp; done) | (simp; omega)) rfl | (repeat (first | assumption | exact cell_new (by with_reducible first | rfl | (simp; done) | (simp; omega)) rfl | refine cell_alloc ?_ _ | refine cell_drew ?_ | refine cell_drewN ?_ _ | refine cell_far ?_ (by simp) _ | (refine cell_far ?_ (by simp <;> omega) _))) | simp [go_sem, *])
      have zg0 := cell_lt g0
      have g1 : w2.cell? ⟨w.heap.size, 1, none⟩ = some (.int .i64 b) := bkeep hb2 (by first | assumption | exact cell_new (by with_reducible first | rfl | (simp; done) | (simp; omega)) rfl | (repeat (first | assumption | exact cell_new (by with_reducible first | rfl | (simp; done) | (simp; omega)) rfl | refine cell_alloc ?_ _ | refine cell_drew ?_ | refine cell_drewN ?_ _ | refine cell_far ?_ (by simp) _ | (refine cell_far ?_ (by simp <;> omega) _))) | simp [go_sem, *])
      have hB : Below w.heap.size w w2 := bthen (by repeat (first | exact Below.refl _ _ | exact hB | refine Below.drew ?_ | refine below_drewN ?_ _ | refine bset ?_ (by simp <;> omega) _ | refine bal ?_ _)) hb2
      have hz : w.heap.size ≤ w2.heap.size := hB.size
      go_wp2
      go_ret2
      exact ⟨rfl, hB⟩
    · have h1 : 16 < n := by
        apply Int.lt_of_not_ge; intro h2; exact h ⟨hi, by omega, h2⟩
      clear h hi
      go_enter Try.func25, Try.ntmps25
      go_wp2_with fail
      refine (cc _).mono ?_
      rintro e w2 ⟨rfl, hb2⟩
      have g0 : w2.cell? ⟨w.heap.size, 0, none⟩ = some (.int .i64 a) := bkeep hb2 (by first | assumption | exact cell_new (by with_reducible first | rfl | (simp; done) | (simp; omega)) rfl | (repeat (first | assumption | exact cell_new (by with_reducible first | rfl | (simp; done) | (simp; omega)) rfl | refine cell_alloc ?_ _ | refine cell_drew ?_ | refine cell_drewN ?_ _ | refine cell_far ?_ (by simp) _ | (refine cell_far ?_ (by simp <;> omega) _))) | simp [go_sem, *])
      have zg0 := cell_lt g0
      have g1 : w2.cell? ⟨w.heap.size, 1, none⟩ = some (.int .i64 b) := bkeep hb2 (by first | assumption | exact cell_new (by with_reducible first | rfl | (simp; done) | (simp; omega)) rfl | (repeat (first | assumption | exact cell_new (by with_reducible first | rfl | (simp; done) | (simp; omega)) rfl | refine cell_alloc ?_ _ | refine cell_drew ?_ | refine cell_drewN ?_ _ | refine cell_far ?_ (by simp) _ | (refine cell_far ?_ (by simp <;> omega) _))) | simp [go_sem, *])
      have hB : Below w.heap.size w w2 := bthen (by repeat (first | exact Below.refl _ _ | exact hB | refine Below.drew ?_ | refine below_drewN ?_ _ | refine bset ?_ (by simp <;> omega) _ | refine bal ?_ _)) hb2
      have hz : w.heap.size ≤ w2.heap.size := hB.size
      go_wp2
      go_ret2
      exact ⟨rfl, hB⟩
  · have cc : ∀ w, Calls Try.prog 10 #[pv a b] w fun e w' => e = .returned (.bool false) ∧ Below w.heap.size w w' := fun w => by rw [← inB_no hi]; exact ptIn_c a b w
    clear h hi
    go_enter Try.func25, Try.ntmps25
    go_wp2_with fail
    refine (cc _).mono ?_
    rintro e w2 ⟨rfl, hb2⟩
    have g0 : w2.cell? ⟨w.heap.size, 0, none⟩ = some (.int .i64 a) := bkeep hb2 (by first | assumption | exact cell_new (by with_reducible first | rfl | (simp; done) | (simp; omega)) rfl | (repeat (first | assumption | exact cell_new (by with_reducible first | rfl | (simp; done) | (simp; omega)) rfl | refine cell_alloc ?_ _ | refine cell_drew ?_ | refine cell_drewN ?_ _ | refine cell_far ?_ (by simp) _ | (refine cell_far ?_ (by simp <;> omega) _))) | simp [go_sem, *])
    have zg0 := cell_lt g0
    have g1 : w2.cell? ⟨w.heap.size, 1, none⟩ = some (.int .i64 b) := bkeep hb2 (by first | assumption | exact cell_new (by with_reducible first | rfl | (simp; done) | (simp; omega)) rfl | (repeat (first | assumption | exact cell_new (by with_reducible first | rfl | (simp; done) | (simp; omega)) rfl | refine cell_alloc ?_ _ | refine cell_drew ?_ | refine cell_drewN ?_ _ | refine cell_far ?_ (by simp) _ | (refine cell_far ?_ (by simp <;> omega) _))) | simp [go_sem, *])
    have hB : Below w.heap.size w w2 := bthen (by repeat (first | exact Below.refl _ _ | exact hB | refine Below.drew ?_ | refine below_drewN ?_ _ | refine bset ?_ (by simp <;> omega) _ | refine bal ?_ _)) hb2
    have hz : w.heap.size ≤ w2.heap.size := hB.size
    go_wp2
    go_ret2
    exact ⟨rfl, hB⟩

/-- the powers of a point -/
def powF (a b : Int) (n : Nat) (i : Nat) : Int := a ^ i * b ^ (n - 1 - i)
def powUp (a : Int) (j i : Nat) : Int := if i < j then a ^ i else 0
def powDn (a b : Int) (n j i : Nat) : Int := if i < j then a ^ i else a ^ i * b ^ (n - 1 - i)
theorem bd_pt {a : Int} (h1 : -16 ≤ a) (h2 : a ≤ 16) : Bd 5 a := by unfold Bd; omega

theorem powUp_succ (a : Int) (j : Nat) {n : Nat} : ∀ i, i < n → (if i = j then a ^ j else powUp a j i) = powUp a (j + 1) i := fun i _ => by
  unfold powUp
  by_cases h : i = j
  · subst h; simp
  · rw [if_neg h]
    by_cases h2 : i < j
    · rw [if_pos h2, if_pos (by omega)]
    · rw [if_neg h2, if_neg (by omega)]
theorem powDn_succ (a b : Int) (n k : Nat) : ∀ i, i < n → (if i = k then a ^ k * b ^ (n - (k + 1)) else powDn a b n (k + 1) i) = powDn a b n k i := fun i _ => by
  unfold powDn
  by_cases h : i = k
  · subst h
    rw [if_pos rfl, if_neg (by omega)]
    congr 2; omega
  · rw [if_neg h]
    by_cases h2 : i < k
    · rw [if_pos h2, if_pos (by omega)]
    · rw [if_neg h2, if_neg (by omega)]
set_option maxRecDepth 100000 in
set_option maxHeartbeats 4000000 in
theorem ptPow_yes (a b : Int) (n : Nat) (w : World) (hp : PIn a b) (hn : n ≤ 16) :
    Calls Try.prog 25 #[pv a b, .int .i64 (n : Int)] w fun e w' => (∃ g, e = .returned (.tuple #[.slice (some ⟨g, 0, none⟩) n n, .int .i64 0]) ∧ IntsF IsInt w' g 0 n (powF a b n)) ∧ Below w.heap.size w w' := by
  have cc : ∀ w, Calls Try.prog 10 #[pv a b] w fun e w' => e = .returned (.bool true) ∧ Below w.heap.size w w' := fun w => by rw [← inB_yes hp]; exact ptIn_c a b w
  have oc := fun w => of_c 1 w (by omega) (by omega)
  have ba := bd_pt hp.1 hp.2.1
  have bb := bd_pt hp.2.2.1 hp.2.2.2
  have tca := fun v j w h hj => times_c v (a ^ j) a (j * 5 + 1) w h (ba.pow j) hj (by have := hp.1; omega) (by have := hp.2.1; omega)
  have tcb := fun v j w h hj => times_c v (b ^ j) b (j * 5 + 1) w h (bb.pow j) hj (by have := hp.2.2.1; omega) (by have := hp.2.2.2; omega)
  have mc := fun u v i j w h1 h2 hi hj => mul_c u v (a ^ i) (b ^ j) (i * 5 + 1) (j * 5 + 1) w h1 h2 (ba.pow i) (bb.pow j) hi hj
  have hmk := mkInts n (by omega)
  have hn0 : decide ((n : Int) < 0) = false := by simp
  have hn1 : decide (16 < (n : Int)) = false := by simp; omega
  go_enter Try.func25, Try.ntmps25
  go_wp2_with fail
  refine (cc _).mono ?_
  rintro e w2 ⟨rfl, hb2⟩
  have g0 : w2.cell? ⟨w.heap.size, 0, none⟩ = some (.int .i64 a) := bkeep hb2 (by first | assumption | exact cell_new (by with_reducible first | rfl | (simp; done) | (simp; omega)) rfl | (repeat (first | assumption | exact cell_new (by with_reducible first | rfl | (simp; done) | (simp; omega)) rfl | refine cell_alloc ?_ _ | refine cell_drew ?_ | refine cell_drewN ?_ _ | refine cell_far ?_ (by simp) _ | (refine cell_far ?_ (by simp <;> omega) _))) | simp [go_sem, *])
  have zg0 := cell_lt g0
  have g1 : w2.cell? ⟨w.heap.size, 1, none⟩ = some (.int .i64 b) := bkeep hb2 (by first | assumption | exact cell_new (by with_reducible first | rfl | (simp; done) | (simp; omega)) rfl | (repeat (first | assumption | exact cell_new (by with_reducible first | rfl | (simp; done) | (simp; omega)) rfl | refine cell_alloc ?_ _ | refine cell_drew ?_ | refine cell_drewN ?_ _ | refine cell_far ?_ (by simp) _ | (refine cell_far ?_ (by simp <;> omega) _))) | simp [go_sem, *])
  have hB : Below w.heap.size w w2 := bthen (by repeat (first | exact Below.refl _ _ | exact hB | refine Below.drew ?_ | refine below_drewN ?_ _ | refine bset ?_ (by simp <;> omega) _ | refine bal ?_ _)) hb2
  have hz : w.heap.size ≤ w2.heap.size := hB.size
  have hgw := zg0
  go_wp2_with fail
  refine (oc _).mono ?_
  rintro e w3 ⟨⟨v3, rfl, hi3⟩, hb3⟩
  have hI3 := IntsF.keep lims_int (zcel_ints isInt_zero w2 n 57 rfl) hb3
  have hF3 := (Free.new (c := zcel n) (t := 57) (w := w2) rfl).keep hb3
  have g0 : w3.cell? ⟨w.heap.size, 0, none⟩ = some (.int .i64 a) := bkeep hb3 (by first | assumption | exact cell_new (by with_reducible first | rfl | (simp; done) | (simp; omega)) rfl | (repeat (first | assumption | exact cell_new (by with_reducible first | rfl | (simp; done) | (simp; omega)) rfl | refine cell_alloc ?_ _ | refine cell_drew ?_ | refine cell_drewN ?_ _ | refine cell_far ?_ (by simp) _ | (refine cell_far ?_ (by simp <;> omega) _))) | simp [go_sem, *])
  have zg0 := cell_lt g0
  have g1 : w3.cell? ⟨w.heap.size, 1, none⟩ = some (.int .i64 b) := bkeep hb3 (by first | assumption | exact cell_new (by with_reducible first | rfl | (simp; done) | (simp; omega)) rfl | (repeat (first | assumption | exact cell_new (by with_reducible first | rfl | (simp; done) | (simp; omega)) rfl | refine cell_alloc ?_ _ | refine cell_drew ?_ | refine cell_drewN ?_ _ | refine cell_far ?_ (by simp) _ | (refine cell_far ?_ (by simp <;> omega) _))) | simp [go_sem, *])
  have hB : Below w.heap.size w w3 := bthen (by repeat (first | exact Below.refl _ _ | exact hB | refine Below.drew ?_ | refine below_drewN ?_ _ | refine bset ?_ (by simp <;> omega) _ | refine bal ?_ _)) hb3
  have hz : w.heap.size ≤ w3.heap.size := hB.size
  generalize w2.heap.size = g at *
  clear hmk
  have HI3 := Lib.hid hi3
  obtain ⟨n3, a3, c3, l3, rfl, -⟩ := hi3
  unfold iv at *
  go_wp2_with fail
  refine (oc _).mono ?_
  rintro e w4 ⟨⟨v4, rfl, hi4⟩, hb4⟩
  have HI3' := Lib.hid (HI3.out.keep hb4)
  have hI4 := hI3.keep lims_int hb4
  have hF4 := hF3.keep hb4
  have g0 : w4.cell? ⟨w.heap.size, 0, none⟩ = some (.int .i64 a) := bkeep hb4 (by first | assumption | exact cell_new (by with_reducible first | rfl | (simp; done) | (simp; omega)) rfl | (repeat (first | assumption | exact cell_new (by with_reducible first | rfl | (simp; done) | (simp; omega)) rfl | refine cell_alloc ?_ _ | refine cell_drew ?_ | refine cell_drewN ?_ _ | refine cell_far ?_ (by simp) _ | (refine cell_far ?_ (by simp <;> omega) _))) | simp [go_sem, *])
  have zg0 := cell_lt g0
  have g1 : w4.cell? ⟨w.heap.size, 1, none⟩ = some (.int .i64 b) := bkeep hb4 (by first | assumption | exact cell_new (by with_reducible first | rfl | (simp; done) | (simp; omega)) rfl | (repeat (first | assumption | exact cell_new (by with_reducible first | rfl | (simp; done) | (simp; omega)) rfl | refine cell_alloc ?_ _ | refine cell_drew ?_ | refine cell_drewN ?_ _ | refine cell_far ?_ (by simp) _ | (refine cell_far ?_ (by simp <;> omega) _))) | simp [go_sem, *])
  have hB : Below w.heap.size w w4 := bthen (by repeat (first | exact Below.refl _ _ | exact hB | refine Below.drew ?_ | refine below_drewN ?_ _ | refine bset ?_ (by simp <;> omega) _ | refine bal ?_ _)) hb4
  have hz : w.heap.size ≤ w4.heap.size := hB.size
  have HI4 := Lib.hid hi4
  obtain ⟨n4, a4, c4, l4, rfl, -⟩ := hi4
  unfold iv at *
  clear HI3 hI3 hF3 hb2 hb3 hb4 oc cc
  go_wp2
  refine wp_name fun w5 hW5 => ?_
  have g0 : w5.cell? ⟨w.heap.size, 0, none⟩ = some (.int .i64 a) := by rw [hW5]; exact (by first | assumption | exact cell_new (by with_reducible first | rfl | (simp; done) | (simp; omega)) rfl | (repeat (first | assumption | exact cell_new (by with_reducible first | rfl | (simp; done) | (simp; omega)) rfl | refine cell_alloc ?_ _ | refine cell_drew ?_ | refine cell_drewN ?_ _ | refine cell_far ?_ (by simp) _ | (refine cell_far ?_ (by simp <;> omega) _))) | simp [go_sem, *])
  have zg0 := cell_lt g0
  have g1 : w5.cell? ⟨w.heap.size, 1, none⟩ = some (.int .i64 b) := by rw [hW5]; exact (by first | assumption | exact cell_new (by with_reducible first | rfl | (simp; done) | (simp; omega)) rfl | (repeat (first | assumption | exact cell_new (by with_reducible first | rfl | (simp; done) | (simp; omega)) rfl | refine cell_alloc ?_ _ | refine cell_drew ?_ | refine cell_drewN ?_ _ | refine cell_far ?_ (by simp) _ | (refine cell_far ?_ (by simp <;> omega) _))) | simp [go_sem, *])
  have u0f : w5.frozen? ⟨w4.heap.size, 0, none⟩ = false := by rw [hW5]; simp [go_sem, *]
  have u0 : w5.cell? ⟨w4.heap.size, 0, none⟩ = some (.bool n3) := by rw [hW5]; exact (by first | assumption | exact cell_new (by with_reducible first | rfl | (simp; done) | (simp; omega)) rfl | (repeat (first | assumption | exact cell_new (by with_reducible first | rfl | (simp; done) | (simp; omega)) rfl | refine cell_alloc ?_ _ | refine cell_drew ?_ | refine cell_drewN ?_ _ | refine cell_far ?_ (by simp) _ | (refine cell_far ?_ (by simp <;> omega) _))) | simp [go_sem, *])
  have zu0 := cell_lt u0
  have u1f : w5.frozen? ⟨w4.heap.size, 1, none⟩ = false := by rw [hW5]; simp [go_sem, *]
  have u1 : w5.cell? ⟨w4.heap.size, 1, none⟩ = some (.slice a3 l3.length c3) := by rw [hW5]; exact (by first | assumption | exact cell_new (by with_reducible first | rfl | (simp; done) | (simp; omega)) rfl | (repeat (first | assumption | exact cell_new (by with_reducible first | rfl | (simp; done) | (simp; omega)) rfl | refine cell_alloc ?_ _ | refine cell_drew ?_ | refine cell_drewN ?_ _ | refine cell_far ?_ (by simp) _ | (refine cell_far ?_ (by simp <;> omega) _))) | simp [go_sem, *])
  have d0f : w5.frozen? ⟨w4.heap.size + 1, 0, none⟩ = false := by rw [hW5]; simp [go_sem, *]
  have d0 : w5.cell? ⟨w4.heap.size + 1, 0, none⟩ = some (.bool n4) := by rw [hW5]; exact (by first | assumption | exact cell_new (by with_reducible first | rfl | (simp; done) | (simp; omega)) rfl | (repeat (first | assumption | exact cell_new (by with_reducible first | rfl | (simp; done) | (simp; omega)) rfl | refine cell_alloc ?_ _ | refine cell_drew ?_ | refine cell_drewN ?_ _ | refine cell_far ?_ (by simp) _ | (refine cell_far ?_ (by simp <;> omega) _))) | simp [go_sem, *])
  have zd0 := cell_lt d0
  have d1f : w5.frozen? ⟨w4.heap.size + 1, 1, none⟩ = false := by rw [hW5]; simp [go_sem, *]
  have d1 : w5.cell? ⟨w4.heap.size + 1, 1, none⟩ = some (.slice a4 l4.length c4) := by rw [hW5]; exact (by first | assumption | exact cell_new (by with_reducible first | rfl | (simp; done) | (simp; omega)) rfl | (repeat (first | assumption | exact cell_new (by with_reducible first | rfl | (simp; done) | (simp; omega)) rfl | refine cell_alloc ?_ _ | refine cell_drew ?_ | refine cell_drewN ?_ _ | refine cell_far ?_ (by simp) _ | (refine cell_far ?_ (by simp <;> omega) _))) | simp [go_sem, *])
  have hB : Below w.heap.size w w5 := by rw [hW5]; repeat (first | exact Below.refl _ _ | exact hB | refine Below.drew ?_ | refine below_drewN ?_ _ | refine bset ?_ (by simp <;> omega) _ | refine bal ?_ _)
  have hb5 : Below w4.heap.size w4 w5 := by rw [hW5]; exact bal (bal (Below.refl _ _) _) _
  have hz : w.heap.size ≤ w5.heap.size := hB.size
  clear hW5
  have HU := Lib.hid (HI3'.out.keep hb5)
  have HD := Lib.hid (HI4.out.keep hb5)
  have HG := Lib.hid (hI4.keep lims_int hb5)
  have HF := Lib.hid (hF4.keep hb5)
  have hgu : g < w4.heap.size := hF4.1
  clear HI3' HI4 hI4 hF4 hb5
  generalize w4.heap.size = u at *
  have HP := Lib.hid (And.intro u0 (And.intro u1 (And.intro u0f u1f)))
  clear u0 u1 u0f u1f
  have HFX := Lib.hid (And.intro g0 (And.intro g1 (And.intro d0 (And.intro d0f (And.intro d1 (d1f))))))
  clear g0 g1 d0 d0f d1 d1f
  go_loopw [28] (fun y wr => ∃ (j : Nat) (n6 : Bool) (a6 : Option Addr) (k6 c6 : Nat), j ≤ n ∧ y = .int .i64 j ∧ IsInt wr (.agg #[.bool n6, .slice a6 k6 c6]) (a ^ j) ∧ wr.cell? ⟨u, 0, none⟩ = some (.bool n6) ∧ wr.cell? ⟨u, 1, none⟩ = some (.slice a6 k6 c6) ∧ wr.frozen? ⟨u, 0, none⟩ = false ∧ wr.frozen? ⟨u, 1, none⟩ = false ∧ Out (fun k => k = g ∨ k = u) w5 wr ∧ Lim w5 wr ∧ IntsF IsInt wr g 0 n (powUp a j) ∧ Free wr g) (fun y _ => n - (intOf y).toNat)
  case atStart => exact ⟨0, n3, a3, _, c3, Nat.zero_le _, rfl, by simpa using HU.out, HP.out.1, HP.out.2.1, HP.out.2.2.1, HP.out.2.2.2, Out.refl _ _, Lim.refl _, HG.out.congr (fun k _ => by simp [powUp]), HF.out⟩
  case round =>
    obtain ⟨j, n6, a6, k6, c6, hj, rfl, hi6, u0, u1, u0f, u1f, hOut, hLim, hG, hFr⟩ := hrel
    obtain ⟨g0, g1, d0, d0f, d1, d1f⟩ := HFX.out
    replace g0 := okeep hOut g0 (fun h => by first | (have h2 : _ = _ := h; omega) | (rcases (show _ ∨ _ from h) with h | h <;> omega) | (rcases (show _ ∨ _ ∨ _ from h) with h | h | h <;> omega))
    replace g1 := okeep hOut g1 (fun h => by first | (have h2 : _ = _ := h; omega) | (rcases (show _ ∨ _ from h) with h | h <;> omega) | (rcases (show _ ∨ _ ∨ _ from h) with h | h | h <;> omega))
    replace d0f := okeepf hOut d0 d0f (fun h => by first | (have h2 : _ = _ := h; omega) | (rcases (show _ ∨ _ from h) with h | h <;> omega) | (rcases (show _ ∨ _ ∨ _ from h) with h | h | h <;> omega))
    replace d0 := okeep hOut d0 (fun h => by first | (have h2 : _ = _ := h; omega) | (rcases (show _ ∨ _ from h) with h | h <;> omega) | (rcases (show _ ∨ _ ∨ _ from h) with h | h | h <;> omega))
    replace d1f := okeepf hOut d1 d1f (fun h => by first | (have h2 : _ = _ := h; omega) | (rcases (show _ ∨ _ from h) with h | h <;> omega) | (rcases (show _ ∨ _ ∨ _ from h) with h | h | h <;> omega))
    replace d1 := okeep hOut d1 (fun h => by first | (have h2 : _ = _ := h; omega) | (rcases (show _ ∨ _ from h) with h | h <;> omega) | (rcases (show _ ∨ _ ∨ _ from h) with h | h | h <;> omega))
    by_cases hjn : j < n
    · obtain ⟨nb, ax, lx, cx, e0, e1, -⟩ := hG.at0 hjn
      have e0f := hFr.2 (j * 2)
      have e1f := hFr.2 (j * 2 + 1)
      have hG2 := hG.store0 lims_int hjn hi6
      have hL2 := Lim.set2 e0 e1 (.bool n6) (.slice a6 k6 c6)
      have HI2 := Lib.hid (hi6.lim hL2)
      have hO2 := hOut.set2 (g := g) (o := j * 2) (fun _ => .inl rfl) (.bool n6) (.slice a6 k6 c6)
      have hjn' : (j : Int) < (n : Int) := by omega
      go_wp2_with fail
      refine (tca _ j _ HI2.out (by omega)).mono ?_
      rintro e w7 ⟨⟨v7, rfl, hi7⟩, hb7⟩
      have hgne : g ≠ u := by omega
      replace u0f := bkeepf hb7 (cell_far (cell_far u0 (addr_ne hgne) _) (addr_ne hgne) _) (by simpa [go_sem] using u0f)
      replace u1f := bkeepf hb7 (cell_far (cell_far u1 (addr_ne hgne) _) (addr_ne hgne) _) (by simpa [go_sem] using u1f)
      replace u0 := bkeep hb7 (cell_far (cell_far u0 (addr_ne hgne) _) (addr_ne hgne) _)
      replace u1 := bkeep hb7 (cell_far (cell_far u1 (addr_ne hgne) _) (addr_ne hgne) _)
      have hI7 := Lib.hid hi7
      obtain ⟨n7, a7, c7, l7, rfl, -⟩ := hi7
      unfold iv at *
      have hL7 := Lim.set2 u0 u1 (.bool n7) (.slice a7 l7.length c7)
      have hG7 := (hG2.keep lims_int hb7).far lims_int (Ne.symm hgne) u0 u1 (.bool n7) (.slice a7 l7.length c7)
      have hO7 := (hO2.below hb7).set2 (g := u) (o := 0) (fun _ => .inr rfl) (.bool n7) (.slice a7 l7.length c7)
      have hF7 := ((((hFr.set ⟨g, j * 2, none⟩ (.bool n6)).set ⟨g, j * 2 + 1, none⟩ (.slice a6 k6 c6)).keep hb7).set ⟨u, 0, none⟩ (.bool n7)).set ⟨u, 1, none⟩ (.slice a7 l7.length c7)
      have hLL := ((hLim.trans hL2).below hb7).trans hL7
      clear hG hG2 hL2 hO2 hOut hLim hFr e0 e1 e0f e1f d0 d1 d0f d1f g0 g1
      go_wp2
      exact ⟨⟨j + 1, n7, a7, l7.length, c7, by omega, by go_num, by rw [Int.pow_succ]; exact hI7.out.lim hL7, cell_far (cell_here u0 _) (by simp) _, cell_here (cell_far u1 (by simp) _) _, by simpa [go_sem] using u0f, by simpa [go_sem] using u1f, hO7, hLL, hG7.congr (powUp_succ a j), hF7⟩, by simp [intOf]; omega⟩
    · obtain rfl : j = n := by omega
      have hDw := Lib.hid (HD.out.lim hLim)
      have hGj := Lib.hid (hG.congr (f' := powDn a b j j) (fun k hk => by simp [powUp, powDn, hk]))
      have hOB := Lib.hid (hB.trans (hOut.to_below (B := w.heap.size) (fun k hk _ h => by rcases h with h | h <;> omega) (by omega)))
      have HFr := Lib.hid hFr
      have HDP := Lib.hid (And.intro d0 (And.intro d1 (And.intro d0f d1f)))
      clear d0 d1 d0f d1f hOut hLim hG hFr u0 u1 u0f u1f hi6
      have HF2 := Lib.hid (And.intro g0 (g1))
      clear g0 g1
      go_wp2
      go_loopw [10] (fun y wi => ∃ (k : Nat) (n6 : Bool) (a6 : Option Addr) (k6 c6 : Nat), k ≤ j ∧ y = .int .i64 ((k : Int) - 1) ∧ IsInt wi (.agg #[.bool n6, .slice a6 k6 c6]) (b ^ (j - k)) ∧ wi.cell? ⟨u + 1, 0, none⟩ = some (.bool n6) ∧ wi.cell? ⟨u + 1, 1, none⟩ = some (.slice a6 k6 c6) ∧ wi.frozen? ⟨u + 1, 0, none⟩ = false ∧ wi.frozen? ⟨u + 1, 1, none⟩ = false ∧ Out (fun i => i = g ∨ i = u + 1) wr wi ∧ IntsF IsInt wi g 0 j (powDn a b j k) ∧ Free wi g) (fun y _ => (intOf y + 1).toNat)
      case atStart => exact ⟨j, n4, a4, _, c4, Nat.le_refl _, rfl, by simpa using hDw.out, HDP.out.1, HDP.out.2.1, HDP.out.2.2.1, HDP.out.2.2.2, Out.refl _ _, hGj.out, HFr.out⟩
      case round =>
        rename World => wi
        obtain ⟨k, n6, a6, k6, c6, hk, rfl, hi6, d0, d1, d0f, d1f, hOut, hG, hFr⟩ := hrel
        obtain ⟨g0, g1⟩ := HF2.out
        replace g0 := okeep hOut g0 (fun h => by first | (have h2 : _ = _ := h; omega) | (rcases (show _ ∨ _ from h) with h | h <;> omega) | (rcases (show _ ∨ _ ∨ _ from h) with h | h | h <;> omega))
        replace g1 := okeep hOut g1 (fun h => by first | (have h2 : _ = _ := h; omega) | (rcases (show _ ∨ _ from h) with h | h <;> omega) | (rcases (show _ ∨ _ ∨ _ from h) with h | h | h <;> omega))
        cases k with
        | zero =>
          have hB9 : Below w.heap.size w wi := hOB.out.trans (hOut.to_below (B := w.heap.size) (fun k hk _ h => by rcases h with h | h <;> omega) (by have := hOB.out.size; omega))
          have hG9 := Lib.hid (hG.congr (f' := powF a b j) (fun i _ => by simp [powDn, powF]))
          clear hG hOut
          go_wp2
          go_ret2
          exact ⟨⟨g, rfl, hG9.out⟩, hB9⟩
        | succ k =>
          obtain ⟨nb, ax, lx, cx, e0, e1, he⟩ := hG.at0 (show k < j by omega)
          have e0f := hFr.2 (k * 2)
          have e1f := hFr.2 (k * 2 + 1)
          have hjn' : (k : Int) < (j : Int) := by omega
          have HE := Lib.hid (show IsInt wi (.agg #[.bool nb, .slice ax lx cx]) (a ^ k) by have := he; unfold powDn at this; rwa [if_pos (by omega)] at this)
          have HI6 := Lib.hid hi6
          clear he hi6
          go_wp2
          have HB := Lib.hid (Below.refl wi.heap.size wi)
          go_region_with ((go_at_call 31; refine (mc _ _ k _ _ (HE.out.lim (Lim.refl _).drew) (HI6.out.lim (Lim.refl _).drew) (by omega) (by omega)).mono ?_; rintro e w7 ⟨⟨v7, rfl, hi7⟩, hb7⟩; replace hb7 := (show Below wi.heap.size wi w7 from HB.out.drew.trans hb7); replace e0f := bkeepf hb7 e0 e0f; replace e1f := bkeepf hb7 e1 e1f; replace e0 := bkeep hb7 e0; replace e1 := bkeep hb7 e1; have HI7 := Lib.hid hi7; obtain ⟨n7, a7, c7, l7, rfl, -⟩ := hi7; unfold iv at *))
          all_goals
            have hG7 := (hG.keep lims_int hb7).store0 lims_int (show k < j by omega) HI7.out
            have hL7 := Lim.set2 e0 e1 (.bool n7) (.slice a7 l7.length c7)
            have hO7 := (hOut.below hb7).set2 (g := g) (o := k * 2) (fun _ => .inl rfl) (.bool n7) (.slice a7 l7.length c7)
            have HI8 := Lib.hid ((HI6.out.lim (.of_below hb7)).lim hL7)
            have hF7 := ((hFr.keep hb7).set ⟨g, k * 2, none⟩ (.bool n7)).set ⟨g, k * 2 + 1, none⟩ (.slice a7 l7.length c7)
            have hgne : g ≠ u + 1 := by omega
            have hgnw : g ≠ w.heap.size := by omega
            replace g0 := cell_far (cell_far (bkeep hb7 g0) (p := ⟨g, k * 2, none⟩) (addr_ne hgnw) (.bool n7)) (p := ⟨g, k * 2 + 1, none⟩) (addr_ne hgnw) (.slice a7 l7.length c7)
            replace g1 := cell_far (cell_far (bkeep hb7 g1) (p := ⟨g, k * 2, none⟩) (addr_ne hgnw) (.bool n7)) (p := ⟨g, k * 2 + 1, none⟩) (addr_ne hgnw) (.slice a7 l7.length c7)
            replace d0f := bkeepf hb7 d0 d0f
            replace d1f := bkeepf hb7 d1 d1f
            replace d0 := cell_far (cell_far (bkeep hb7 d0) (p := ⟨g, k * 2, none⟩) (addr_ne hgne) (.bool n7)) (p := ⟨g, k * 2 + 1, none⟩) (addr_ne hgne) (.slice a7 l7.length c7)
            replace d1 := cell_far (cell_far (bkeep hb7 d1) (p := ⟨g, k * 2, none⟩) (addr_ne hgne) (.bool n7)) (p := ⟨g, k * 2 + 1, none⟩) (addr_ne hgne) (.slice a7 l7.length c7)
            clear hG hOut hFr e0 e1 e0f e1f hL7 hb7 HE HI6 HI7
            go_wp2_with fail
            refine (tcb _ (j - (k + 1)) _ HI8.out (by omega)).mono ?_
            rintro e w8 ⟨⟨v8, rfl, hi8⟩, hb8⟩
            replace d0f := bkeepf hb8 d0 (by simpa [go_sem] using d0f)
            replace d1f := bkeepf hb8 d1 (by simpa [go_sem] using d1f)
            replace d0 := bkeep hb8 d0
            replace d1 := bkeep hb8 d1
            have HI9 := Lib.hid hi8
            obtain ⟨n8, a8, c8, l8, rfl, -⟩ := hi8
            unfold iv at *
            have hL8 := Lim.set2 d0 d1 (.bool n8) (.slice a8 l8.length c8)
            have hG8 := (hG7.keep lims_int hb8).far lims_int (Ne.symm hgne) d0 d1 (.bool n8) (.slice a8 l8.length c8)
            have hO8 := (hO7.below hb8).set2 (g := u + 1) (o := 0) (fun _ => .inr rfl) (.bool n8) (.slice a8 l8.length c8)
            have hF8 := ((hF7.keep hb8).set ⟨u + 1, 0, none⟩ (.bool n8)).set ⟨u + 1, 1, none⟩ (.slice a8 l8.length c8)
            have HE := Lib.hid (show b ^ (j - (k + 1)) * b = b ^ (j - k) by rw [← Int.pow_succ]; congr 1; omega)
            clear hG7 hO7 hF7 HI8
            go_wp2
            exact ⟨⟨k, n8, a8, l8.length, c8, by omega, rfl, by rw [← HE.out]; exact HI9.out.lim hL8, cell_far (cell_here d0 _) (by simp) _, cell_here (cell_far d1 (by simp) _) _, by simpa [go_sem] using d0f, by simpa [go_sem] using d1f, hO8, hG8.congr (powDn_succ a b j k), hF8⟩, by simp [intOf] <;> omega⟩
end Go.Proofs.Ytefoljempkpmgaa
