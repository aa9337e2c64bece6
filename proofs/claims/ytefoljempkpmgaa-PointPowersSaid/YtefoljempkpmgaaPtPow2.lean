/- The reference's Powers; is. -/
import Derived.Test.YtefoljempkpmgaaPtPow
namespace Go.Proofs.Ytefoljempkpmgaa
open Pt Num
open Go.ChangeShapes Go.WideShapes Go.ChangeAt Go.RowKit
set_option linter.unusedVariables false
set_option linter.unusedSimpArgs false

theorem powF_snoc (a b : Int) (n j : Nat) : ∀ i, i < j + 1 → (if i = j then a ^ j * b ^ (n - 1 - j) else powF a b n i) = powF a b n i := fun i _ => by
  unfold powF
  by_cases h : i = j
  · subst h; simp
  · rw [if_neg h]
theorem OwnF.congr {R : World → Value → Int → Prop} {E : TypeId} {w0 wr : World} {v : Value} {n : Nat} {f f' : Nat → Int} (h : OwnF R E w0 wr v n f) (he : ∀ k, k < n → f k = f' k) : OwnF R E w0 wr v n f' := by
  obtain ⟨xs, h1, h2⟩ := h
  exact ⟨xs, h1, fun k hk => by rw [← he k hk]; exact h2 k hk⟩

theorem OwnF.rebase {R : World → Value → Int → Prop} {E : TypeId} {w w0 wr : World} {v : Value} {n : Nat} {f : Nat → Int} (h : OwnF R E w0 wr v n f) (hb : Below w.heap.size w w0) : OwnF R E w wr v n f := by
  obtain ⟨xs, ⟨⟨hl, h1⟩, hB⟩, h2⟩ := h
  refine ⟨xs, ⟨⟨hl, ?_⟩, bthen hb hB⟩, h2⟩
  rcases h1 with h1 | ⟨g, cap, cur, hv, hg, hr⟩
  · exact .inl h1
  · exact .inr ⟨g, cap, cur, hv, Nat.le_trans hb.size hg, hr⟩
set_option maxRecDepth 100000 in
set_option maxHeartbeats 8000000 in
theorem refPow_c (a b : Int) (n : Nat) (w : World) (hp : PIn a b) (hn : n ≤ 16) :
    Calls Try.prog 26 #[pv a b, .int .i64 (n : Int)] w fun e w' => ∃ v, e = .returned v ∧ OwnF IsRef 59 w w' v n (powF a b n) := by
  have ba := bd_pt hp.1 hp.2.1
  have bb := bd_pt hp.2.2.1 hp.2.2.2
  have oca := fun w => rof_c a w (by have := hp.1; omega) (by have := hp.2.1; omega)
  have ocb := fun w => rof_c b w (by have := hp.2.2.1; omega) (by have := hp.2.2.2; omega)
  have pca := fun v j w h hj => rpow_c v a 5 j w h ba hj (by omega)
  have pcb := fun v j w h hj => rpow_c v b 5 j w h bb hj (by omega)
  have mc := fun u v i j w h1 h2 hi hj => rmul_c u v (a ^ i) (b ^ j) (i * 5 + 1) (j * 5 + 1) w h1 h2 (ba.pow i) (bb.pow j) hi hj
  clear ba bb hp
  have hB := Below.refl w.heap.size w
  go_enter Try.func26, Try.ntmps26
  go_wp2
  refine wp_name fun w0 hW0 => ?_
  have g0 : w0.cell? ⟨w.heap.size, 0, none⟩ = some (.int .i64 a) := by rw [hW0]; exact (by first | assumption | exact cell_new (by with_reducible first | rfl | (simp; done) | (simp; omega)) rfl | (repeat (first | assumption | exact cell_new (by with_reducible first | rfl | (simp; done) | (simp; omega)) rfl | refine cell_alloc ?_ _ | refine cell_drew ?_ | refine cell_drewN ?_ _ | refine cell_far ?_ (by simp) _ | (refine cell_far ?_ (by simp <;> omega) _))) | simp [go_sem, *])
  have zg0 := cell_lt g0
  have g1 : w0.cell? ⟨w.heap.size, 1, none⟩ = some (.int .i64 b) := by rw [hW0]; exact (by first | assumption | exact cell_new (by with_reducible first | rfl | (simp; done) | (simp; omega)) rfl | (repeat (first | assumption | exact cell_new (by with_reducible first | rfl | (simp; done) | (simp; omega)) rfl | refine cell_alloc ?_ _ | refine cell_drew ?_ | refine cell_drewN ?_ _ | refine cell_far ?_ (by simp) _ | (refine cell_far ?_ (by simp <;> omega) _))) | simp [go_sem, *])
  have hB : Below w.heap.size w w0 := by rw [hW0]; repeat (first | exact Below.refl _ _ | exact hB | refine Below.drew ?_ | refine below_drewN ?_ _ | refine bset ?_ (by simp <;> omega) _ | refine bal ?_ _)
  have hz : w.heap.size ≤ w0.heap.size := hB.size
  clear hW0
  have HB0 := Lib.hid hB
  go_loopw [5, 6] (fun d y wr => ∃ j : Nat, j ≤ n ∧ y = .int .i64 j ∧ OwnF IsRef 59 w0 wr d j (powF a b n)) (fun _ y _ => n - (intOf y).toNat)
  case atStart => exact ⟨0, Nat.zero_le _, rfl, OwnF.nil _ _ _ (Below.refl _ _)⟩
  case round =>
    obtain ⟨j, hj, rfl, hO⟩ := hrel
    by_cases hjn : j < n
    · have e1 : IntKind.i64.wrap ((n : Int) - 1) = ((n - 1 : Nat) : Int) := by rw [IntKind.wrap_i64]; omega
      have e2 : IntKind.i64.wrap (((n - 1 : Nat) : Int) - (j : Int)) = ((n - 1 - j : Nat) : Int) := by rw [IntKind.wrap_i64]; omega
      have hm2 : n - 1 - j ≤ 16 := by omega
      have HN := Lib.hid (powF_snoc a b n j)
      generalize n - 1 - j = m2 at *
      generalize n - 1 = m1 at *
      have hBc : Below w0.heap.size w0 wr.drew := hO.bel.drew
      have g0r := bkeep hO.bel g0
      have g1r := bkeep hO.bel g1
      replace hO := hO.below lims_ref (Below.refl _ _).drew
      go_wp2
      go_region_held3 (fun w' => w'.cell? ⟨w.heap.size, 0, none⟩ = some (.int .i64 a) ∧ w'.cell? ⟨w.heap.size, 1, none⟩ = some (.int .i64 b))
        (first | exact ⟨g0r, g1r⟩ | exact ⟨bkeep hBc g0, bkeep hBc g1⟩ | exact ⟨cell_alloc (bkeep hBc g0) _, cell_alloc (bkeep hBc g1) _⟩ | exact ⟨bkeep hO2.bel g0, bkeep hO2.bel g1⟩)
        (first
          | (refine step_num0 elRef (by decide) lims_ref (by rfl) (by rfl) hO HVA.out (by rfl) (by rfl) (by omega) ?_; intro v' w8 hO2 hL2 hOut2; replace hO2 := hO2.congr HN.out)
          | (go_at_call 41; with_reducible refine (oca _).mono ?_; rintro e w7 ⟨⟨vA, rfl, hA⟩, hb7⟩; (replace hBc := bthen hBc hb7); (replace hO := hO.below lims_ref hb7); (try (replace HVB := Lib.hid (HVB.out.keep hb7))); (have HVA := Lib.hid hA); clear hA)
          | (go_at_call 41; with_reducible refine (ocb _).mono ?_; rintro e w7 ⟨⟨vB, rfl, hA⟩, hb7⟩; (replace hBc := bthen hBc hb7); (replace hO := hO.below lims_ref hb7); (try (replace HVA := Lib.hid (HVA.out.keep hb7))); (have HVB := Lib.hid hA); clear hA)
          | (go_at_call 40; with_reducible refine (pca _ j _ HVA.out (by omega) (by omega)).mono ?_; rintro e w7 ⟨⟨vA, rfl, hA⟩, hb7⟩; (replace hBc := bthen hBc hb7); (replace hO := hO.below lims_ref hb7); (try (replace HVB := Lib.hid (HVB.out.keep hb7))); (have HVA := Lib.hid hA); clear hA)
          | (go_at_call 40; with_reducible refine (pcb _ m2 _ HVB.out (by omega) (by omega)).mono ?_; rintro e w7 ⟨⟨vB, rfl, hA⟩, hb7⟩; (replace hBc := bthen hBc hb7); (replace hO := hO.below lims_ref hb7); (try (replace HVA := Lib.hid (HVA.out.keep hb7))); (have HVB := Lib.hid hA); clear hA)
          | (go_at_call 39; refine (mc _ _ j m2 _ HVA.out HVB.out (by omega) (by omega)).mono ?_; rintro e w7 ⟨⟨vA, rfl, hA⟩, hb7⟩; (replace hBc := bthen hBc hb7); (replace hO := hO.below lims_ref hb7); (have HVA := Lib.hid hA); (obtain ⟨n5, a5, c5, l5, rfl, -⟩ := hA); unfold iv at *))
      go_wp2
      exact ⟨⟨j + 1, by omega, by go_num, hO2⟩, by simp [intOf]; omega⟩
    · obtain rfl : j = n := by omega
      have HO := Lib.hid (hO.rebase HB0.out)
      go_wp2
      go_ret
      exact ⟨_, rfl, HO.out⟩

set_option maxRecDepth 100000 in
set_option maxHeartbeats 2000000 in
/-- is a number of the program that of the reference? -/
theorem is_c (vx vy : Value) (x y : Int) (k : Nat) (w : World) (hx : IsInt w vx x) (hy : IsRef w vy y) (bx : Bd k x) (hk : k ≤ 4294967296) :
    Calls Try.prog 27 #[vx, vy] w fun e w' => e = .returned (.bool (decide (x = y))) ∧ Below w.heap.size w w' := by
  have lc := fun v w h => limbs_c v x k w h bx (by omega)
  have sc := fun u v w h1 h2 => rsame_c u v x y w h1 h2
  have HX := Lib.hid hx
  have HY := Lib.hid hy
  obtain ⟨n1, a1, c1, l1, rfl, -⟩ := hx
  obtain ⟨n2, a2, c2, l2, rfl, -⟩ := hy
  clear bx
  unfold iv at *
  have hB := Below.refl w.heap.size w
  go_enter Try.func27, Try.ntmps27
  go_wp2_with fail
  refine (lc _ _ (HX.out.keep (by repeat (first | exact Below.refl _ _ | exact hB | refine Below.drew ?_ | refine below_drewN ?_ _ | refine bset ?_ (by simp <;> omega) _ | refine bal ?_ _)))).mono ?_
  rintro e w3 ⟨⟨neg, a, c, l, rfl, hu, hxv, hl⟩, hb3⟩
  have y0 : w3.cell? ⟨w.heap.size + 1, 0, none⟩ = some (.bool n2) := bkeep hb3 (by first | assumption | exact cell_new (by with_reducible first | rfl | (simp; done) | (simp; omega)) rfl | (repeat (first | assumption | exact cell_new (by with_reducible first | rfl | (simp; done) | (simp; omega)) rfl | refine cell_alloc ?_ _ | refine cell_drew ?_ | refine cell_drewN ?_ _ | refine cell_far ?_ (by simp) _ | (refine cell_far ?_ (by simp <;> omega) _))) | simp [go_sem, *])
  have zy0 := cell_lt y0
  have y1 : w3.cell? ⟨w.heap.size + 1, 1, none⟩ = some (.slice a2 l2.length c2) := bkeep hb3 (by first | assumption | exact cell_new (by with_reducible first | rfl | (simp; done) | (simp; omega)) rfl | (repeat (first | assumption | exact cell_new (by with_reducible first | rfl | (simp; done) | (simp; omega)) rfl | refine cell_alloc ?_ _ | refine cell_drew ?_ | refine cell_drewN ?_ _ | refine cell_far ?_ (by simp) _ | (refine cell_far ?_ (by simp <;> omega) _))) | simp [go_sem, *])
  have hB : Below w.heap.size w w3 := bthen (by repeat (first | exact Below.refl _ _ | exact hB | refine Below.drew ?_ | refine below_drewN ?_ _ | refine bset ?_ (by simp <;> omega) _ | refine bal ?_ _)) hb3
  have hz : w.heap.size ≤ w3.heap.size := hB.size
  have mc := fun w h => rmake_c neg a c l w h (by omega)
  rw [← hxv] at mc
  have HU := Lib.hid hu
  clear hxv hl hu lc
  go_wp2
  have hBc : Below w.heap.size w w3.drew := hB.drew
  have hBw : Below w3.heap.size w3 w3.drew := (Below.refl _ _).drew
  go_region_held3 (fun w' => w'.cell? ⟨w.heap.size + 1, 0, none⟩ = some (.bool n2) ∧ w'.cell? ⟨w.heap.size + 1, 1, none⟩ = some (.slice a2 l2.length c2))
    (first | exact ⟨y0, y1⟩ | exact ⟨bkeep hb7 y0, bkeep hb7 y1⟩)
    (first
      | (go_at_call 44; refine (mc _ (HU.out.keep hBw)).mono ?_; rintro e w7 ⟨⟨vA, rfl, hA⟩, hb7⟩; (replace hb7 := bthen hBw hb7); (replace hBc := bthen hB hb7); (have HVA := Lib.hid hA); clear hA)
      | (go_at_call 43; refine (sc _ _ _ HVA.out (HY.out.keep hBc)).mono ?_; rintro e w8 ⟨rfl, hb8⟩; (have hBd := bthen hBc hb8); (replace hb7 := bthen hb7 hb8)))
  go_wp2
  go_ret
  exact ⟨rfl, hBd⟩
end Go.Proofs.Ytefoljempkpmgaa
