/- slices.Clone at limbs; integer: Limbs. -/
import Derived.Test.YtefoljempkpmgaaIntE
import Derived.Test.YtefoljempkpmgaaApp
import Derived.Laws.AppendOwn
namespace Go.Proofs.Ytefoljempkpmgaa
open Num
open Go.ChangeShapes Go.WideShapes Go.ChangeAt Go.RowKit
set_option linter.unusedVariables false
set_option linter.unusedSimpArgs false

set_option maxHeartbeats 1000000 in
theorem clone_c (a : Option Addr) (ca : Nat) (l : List Nat) (w : World) (ha : U32 w a ca l) (h1 : l.length ≤ 1099511627776) :
    Calls Try.prog 53 #[.slice a l.length ca] w fun e w' => (∃ a' c', e = .returned (.slice a' l.length c') ∧ U32 w' a' c' l) ∧ Below w.heap.size w w' := by
  have hB0 := Below.refl w.heap.size w
  obtain ⟨hc, hm, hl, hcs⟩ := ha
  have hq := fun w => Lib.run_eql_slice_nil w 55 81 a l.length ca 0 0 Try.underlying55
  cases a with
  | none =>
    obtain rfl : l = [] := by
      rcases hcs with h | ⟨b, off, h, _⟩
      · exact h
      · cases h
    have hq2 : ∀ w, (binOp .eql 55 (.slice none 0 ca) (.slice none 0 0)).run Try.prog w = .ok (.bool true) w := hq
    clear hq
    go_enter Try.func53, Try.ntmps53
    go_wp2
    go_ret
    exact ⟨⟨none, 0, rfl, Nat.le_refl _, by unfold maxLen; omega, hl, .inl rfl⟩, Below.refl _ _⟩
  | some ad =>
    obtain ⟨i0, hi, hz0, hz1, hz2⟩ := info_parts info32
    have hnews : ∀ (W : World), Below w.heap.size w W → ∀ j u, (cel l)[j]? = some u → W.cell? (ad.add j) = some u := by
      intro W hW j v hj
      have hjl : j < l.length := by have := (List.getElem?_eq_some_iff.1 hj).1; rwa [cel_len] at this
      rw [cel_get l j hjl] at hj
      cases hj
      rcases hcs with h | ⟨b, off, h, hcell⟩
      · subst h; simp at hjl
      · cases h
        have := bkeep hW (hcell j hjl)
        unfold Addr.add
        split
        · subst_vars; simpa using this
        · exact this
    clear hcs
    have ho : (w.alloc (.cells #[] 81)).ownsRow w.heap.size 81 1 (.slice (some ⟨w.heap.size, 0, none⟩) 0 0) 0 [] := ⟨rfl, .inr ⟨w.heap.size, 0, #[], rfl, Nat.le_refl _, (MapKept.heap_alloc w _).1, Nat.le_refl _, by unfold maxLen; omega, rfl, rfl⟩⟩
    go_enter Try.func53, Try.ntmps53
    go_wp2_with (at_builtin; refine wpList_append_own _ rfl _ _ 55 rfl w.heap.size 81 i0 _ 1 4 Try.underlying55 hi hz0 hz1 hz2 rfl (by decide) _ 0 [] rfl ho ad l.length ca (cel l) rfl (by rw [cel_len, Nat.mul_one]) (hnews _ (bal hB0 _)) (cel_one l) (by unfold maxLen; omega) (by omega) (by simp) ?_)
    intro v' w1 hown hgrow _
    have hbel := below_append (wr := w) (bal hB0 _) ho hgrow
    obtain ⟨a', c', rfl, hu⟩ := own_u32 hown hl
    have HU := Lib.hid hu
    clear hown hnews hq hgrow hu ho
    go_wp2
    go_ret
    exact ⟨⟨a', c', rfl, HU.out⟩, hbel⟩

set_option maxHeartbeats 1000000 in
theorem limbs_c (vx : Value) (x : Int) (k : Nat) (w : World) (hx : IsInt w vx x) (bx : Bd k x) (hk : k ≤ 17179869184) :
    Calls Try.prog 42 #[vx] w fun e w' => (∃ neg a c l, e = .returned (.tuple #[.bool neg, .slice a (List.length l) c]) ∧ U32 w' a c l ∧ x = sg neg (val l) ∧ l.length ≤ 536870913) ∧ Below w.heap.size w w' := by
  obtain ⟨n1, a1, c1, l1, rfl, u1, g1, s1, rfl⟩ := hx
  have k1 := bd_len g1 (sg_bd bx) hk
  have cc := fun w h => clone_c a1 c1 l1 w h (by omega)
  have K1 := Lib.hid k1
  clear bx g1 s1 k1
  unfold iv
  have hB0 := Below.refl w.heap.size w
  go_enter Try.func42, Try.ntmps42
  go_wp2_with fail
  go_region_held3 (fun w' => w'.cell? ⟨w.heap.size, 0, none⟩ = some (.bool n1) ∧ w'.cell? ⟨w.heap.size, 1, none⟩ = some (.slice a1 l1.length c1)) (repeat' (first | assumption | apply And.intro | exact cell_new (by simp) rfl | refine cell_alloc ?_ _ | refine cell_drew ?_ | refine cell_far ?_ (addr_ne (by omega)) _))
    (first | (go_at_call 53; refine (cc _ (u1.keep (by repeat (first | exact Below.refl _ _ | exact hB0 | refine Below.drew ?_ | refine below_drewN ?_ _ | refine bset ?_ (by simp <;> omega) _ | refine bal ?_ _)))).mono ?_; rintro e w3 ⟨⟨a3, c3, rfl, hu3⟩, hb3⟩; have x0 : w3.cell? ⟨w.heap.size, 0, none⟩ = some (.bool n1) := bkeep hb3 (by first | assumption | exact cell_new (by with_reducible first | rfl | (simp; done) | (simp; omega)) rfl | (repeat (first | assumption | exact cell_new (by with_reducible first | rfl | (simp; done) | (simp; omega)) rfl | refine cell_alloc ?_ _ | refine cell_drew ?_ | refine cell_drewN ?_ _ | refine cell_far ?_ (by simp) _ | (refine cell_far ?_ (by simp <;> omega) _))) | simp [go_sem, *]); have zx0 := cell_lt x0; have x1 : w3.cell? ⟨w.heap.size, 1, none⟩ = some (.slice a1 l1.length c1) := bkeep hb3 (by first | assumption | exact cell_new (by with_reducible first | rfl | (simp; done) | (simp; omega)) rfl | (repeat (first | assumption | exact cell_new (by with_reducible first | rfl | (simp; done) | (simp; omega)) rfl | refine cell_alloc ?_ _ | refine cell_drew ?_ | refine cell_drewN ?_ _ | refine cell_far ?_ (by simp) _ | (refine cell_far ?_ (by simp <;> omega) _))) | simp [go_sem, *]); have hB : Below w.heap.size w w3 := bthen (by repeat (first | exact Below.refl _ _ | exact hB | refine Below.drew ?_ | refine below_drewN ?_ _ | refine bset ?_ (by simp <;> omega) _ | refine bal ?_ _)) hb3; have hz : w.heap.size ≤ w3.heap.size := hB.size; have HU := Lib.hid hu3))
  go_wp2
  go_ret2
  exact ⟨⟨n1, a3, c3, l1, rfl, HU.out, rfl, K1.out⟩, hB⟩
end Go.Proofs.Ytefoljempkpmgaa
