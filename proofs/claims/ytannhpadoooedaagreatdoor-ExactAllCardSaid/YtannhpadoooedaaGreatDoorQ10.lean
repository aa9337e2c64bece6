/- Texts of this seat, laid together: RtA, RwB, RwC, RwD, RwE, ExF, ExG, ExL, VwC, VwF, VwG, VwR. Each opens with its own remark, which says what it proves, and under which conditions. -/
import Derived.Test.YtannhpadoooedaaGreatDoorQ07
import Derived.Test.YtannhpadoooedaaGreatDoorQ09
import Derived.Deep.DrawnRows
import Derived.Deep.RegionLaw
import Derived.Test.YtannhpadoooedaaGreatDoorQ01
import Derived.Test.YtannhpadoooedaaGreatDoorQ06
import Derived.Test.YtannhpadoooedaaGreatDoorQ05
import Derived.Test.YtannhpadoooedaaGreatDoorQ08
set_option linter.unusedVariables false
set_option linter.unusedSimpArgs false
/- The reference's rows: Combine, Add, Sub, Scale, Zero. -/
namespace Go.Proofs.YtannhpadoooedaaGreatDoor
open Num
open Go.ChangeShapes Go.WideShapes Go.ChangeAt Go.RowKit
set_option linter.unusedVariables false
set_option linter.unusedSimpArgs false
attribute [local go_sem ↓] Go.wp_at_zero Go.wp_at_succ
theorem RowO.makeRef (w : World) (n : Nat) (hn : n ≤ maxLen) : RowO IsRef 44 w.heap.size (w.alloc (.cells (zcel n) 44)) (.slice (some ⟨w.heap.size, 0, none⟩) n n) (List.replicate n 0) := by
  have hs : (zcel n).size = n * 2 := by simp [zcel, size_madeCells]
  have hl : (zcel n).toList.length = n * 2 := by rw [Array.length_toList, hs]
  refine ⟨(zcel n).toList, ⟨by rw [List.length_replicate]; exact hl, .inr ⟨w.heap.size, n, zcel n, by rw [List.length_replicate], Nat.le_refl _, (MapKept.heap_alloc w _).1, by rw [List.length_replicate]; exact Nat.le_refl _, hn, hs, ?_⟩⟩, fun k hk => ?_⟩
  · rw [List.length_replicate, ← hl, List.take_length]
  · rw [List.length_replicate] at hk
    obtain ⟨h1, h2⟩ := zcel_at hk
    refine ⟨false, none, 0, 0, by rw [Array.getElem?_toList]; exact h1, by rw [Array.getElem?_toList]; exact h2, ?_⟩
    have : (List.replicate n (0 : Int)).getD k 0 = 0 := by simp [hk]
    rw [this]; exact isRef_zero _
abbrev RowQ (base : Nat) := RowO IsRef 44 base
set_option maxRecDepth 100000 in
set_option maxHeartbeats 8000000 in
theorem rcomb_c (vc vd va vb : Value) (c d : Int) (la lb lz : List Int) (k m : Nat) (w : World) (hc : IsRef w vc c) (hd : IsRef w vd d) (ha : RRow 0 w va la) (hb : RRow 0 w vb lb) (hl : la.length ≤ 1099511627775) (hle : la.length ≤ lb.length)
    (ba : ∀ j, Bd k (la.getD j 0)) (bb : ∀ j, Bd k (lb.getD j 0)) (bc : Bd m c) (bd : Bd m d) (hk : k + m ≤ 17179869184) (hz : lz.length = la.length) (hzz : ∀ j, j < la.length → lz.getD j 0 = c * la.getD j 0 + d * lb.getD j 0) :
    Calls Tryz.prog 159 #[vc, va, vd, vb] w fun e w' => (∃ u, e = .returned u ∧ RowQ w.heap.size w' u lz) ∧ Below w.heap.size w w' := by
  have HC := Lib.hid (And.intro hc hd)
  have HA := Lib.hid ha
  have HBB := Lib.hid hb
  have HBD := Lib.hid (And.intro ba (And.intro bb (And.intro bc bd)))
  have HZ := Lib.hid (And.intro hz hzz)
  obtain ⟨aa, ca, rfl, -⟩ := ha
  obtain ⟨ab, cb, rfl, -⟩ := hb
  obtain ⟨n1, a1, c1, l1, rfl, -⟩ := hc
  obtain ⟨n2, a2, c2, l2, rfl, -⟩ := hd
  unfold iv at *
  clear ba bb bc bd hz hzz
  have hB := Below.refl w.heap.size w
  go_enter Tryz.func159, Tryz.ntmps159
  go_wp2
  refine wp_name fun w0 hW0 => ?_
  have x0 : w0.cell? ⟨w.heap.size, 0, none⟩ = some (.bool n1) := by rw [hW0]; exact (by first | assumption | exact cell_new (by with_reducible first | rfl | (simp; done) | (simp; omega)) rfl | (repeat (first | assumption | exact cell_new (by with_reducible first | rfl | (simp; done) | (simp; omega)) rfl | refine cell_alloc ?_ _ | refine cell_drew ?_ | refine cell_drewN ?_ _ | refine cell_far ?_ (by simp) _ | (refine cell_far ?_ (by simp <;> omega) _))) | simp [go_sem, *])
  have zx0 := cell_lt x0
  have x1 : w0.cell? ⟨w.heap.size, 1, none⟩ = some (.slice a1 l1.length c1) := by rw [hW0]; exact (by first | assumption | exact cell_new (by with_reducible first | rfl | (simp; done) | (simp; omega)) rfl | (repeat (first | assumption | exact cell_new (by with_reducible first | rfl | (simp; done) | (simp; omega)) rfl | refine cell_alloc ?_ _ | refine cell_drew ?_ | refine cell_drewN ?_ _ | refine cell_far ?_ (by simp) _ | (refine cell_far ?_ (by simp <;> omega) _))) | simp [go_sem, *])
  have y0 : w0.cell? ⟨w.heap.size + 1, 0, none⟩ = some (.bool n2) := by rw [hW0]; exact (by first | assumption | exact cell_new (by with_reducible first | rfl | (simp; done) | (simp; omega)) rfl | (repeat (first | assumption | exact cell_new (by with_reducible first | rfl | (simp; done) | (simp; omega)) rfl | refine cell_alloc ?_ _ | refine cell_drew ?_ | refine cell_drewN ?_ _ | refine cell_far ?_ (by simp) _ | (refine cell_far ?_ (by simp <;> omega) _))) | simp [go_sem, *])
  have zy0 := cell_lt y0
  have y1 : w0.cell? ⟨w.heap.size + 1, 1, none⟩ = some (.slice a2 l2.length c2) := by rw [hW0]; exact (by first | assumption | exact cell_new (by with_reducible first | rfl | (simp; done) | (simp; omega)) rfl | (repeat (first | assumption | exact cell_new (by with_reducible first | rfl | (simp; done) | (simp; omega)) rfl | refine cell_alloc ?_ _ | refine cell_drew ?_ | refine cell_drewN ?_ _ | refine cell_far ?_ (by simp) _ | (refine cell_far ?_ (by simp <;> omega) _))) | simp [go_sem, *])
  have hB : Below w.heap.size w w0 := by rw [hW0]; repeat (first | exact Below.refl _ _ | exact hB | refine Below.drew ?_ | refine below_drewN ?_ _ | refine bset ?_ (by simp <;> omega) _ | refine bal ?_ _)
  have hz : w.heap.size ≤ w0.heap.size := hB.size
  clear hW0
  have hz0 : w.heap.size < w0.heap.size := zx0
  have hz1 : w.heap.size + 1 < w0.heap.size := zy0
  have HP := Lib.hid (show ∀ W, Below w0.heap.size w0 W → W.cell? ⟨w.heap.size, 0, none⟩ = some (.bool n1) ∧ W.cell? ⟨w.heap.size, 1, none⟩ = some (.slice a1 l1.length c1) ∧ W.cell? ⟨w.heap.size + 1, 0, none⟩ = some (.bool n2) ∧ W.cell? ⟨w.heap.size + 1, 1, none⟩ = some (.slice a2 l2.length c2) from fun W h => ⟨bkeep h x0, bkeep h x1, bkeep h y0, bkeep h y1⟩)
  clear x0 x1 y0 y1
  go_loopw [9, 10] (fun v x wr => ∃ j : Nat, j ≤ la.length ∧ x = .int .i64 j ∧ Hid (OwnF IsRef 44 w0 wr v j (fun i => lz.getD i 0))) (fun _ x _ => la.length - (intOf x).toNat)
  case atStart => exact ⟨0, Nat.zero_le _, rfl, Lib.hid (OwnF.nil _ _ _ (Below.refl _ _))⟩
  case round =>
    obtain ⟨j, hj, rfl, hF⟩ := hrel
    have hbr := hF.out.bel
    have hBr := bthen hB hbr
    obtain ⟨fa, fc, hfv⟩ : ∃ a c, _ = Value.slice a j c := by obtain ⟨a, c, h, _⟩ := hF.out.view; exact ⟨a, c, h⟩
    subst hfv
    by_cases hlt : j < la.length
    · have hltI : (j : Int) < (la.length : Int) := by omega
      have hltJ : (j : Int) < (lb.length : Int) := by omega
      obtain ⟨a', c', he, -, vr⟩ := HA.out.view
      obtain ⟨rfl, -, rfl⟩ := Value.slice.inj he
      obtain ⟨b', d', he2, -, vs⟩ := HBB.out.view
      obtain ⟨rfl, -, rfl⟩ := Value.slice.inj he2
      obtain ⟨rb, ro, n3, a3, l3, c3, rfl, r0, r1, hi⟩ := vr j hlt
      obtain ⟨sb, so, n4, a4, l4, c4, rfl, s0, s1, hi2⟩ := vs j (by omega)
      have m1 := fun W (q : Below w0.heap.size w0 W) => rmul_c _ _ c (la.getD j 0) m k W (HC.out.1.keep (bthen hB q)) (hi.keep (bthen hB q)) HBD.out.2.2.1 (HBD.out.1 j) (by omega) (by omega)
      have m2 := fun W (q : Below w0.heap.size w0 W) => rmul_c _ _ d (lb.getD j 0) m k W (HC.out.2.keep (bthen hB q)) (hi2.keep (bthen hB q)) HBD.out.2.2.2 (HBD.out.2.1 j) (by omega) (by omega)
      have ad := fun v5 v6 W h5 h6 => radd_c v5 v6 (c * la.getD j 0) (d * lb.getD j 0) (m + k) W h5 h6 (HBD.out.2.2.1.mul (HBD.out.1 j)) (HBD.out.2.2.2.mul (HBD.out.2.1 j)) (by omega)
      rw [← HZ.out.2 j hlt] at ad
      have HAJ := Lib.hid (snoc_fun lz j (by rw [HZ.out.1]; exact hlt))
      obtain ⟨z, hz⟩ : ∃ z, lz.getD j 0 = z := ⟨_, rfl⟩
      obtain ⟨p, hp⟩ : ∃ p, c * la.getD j 0 = p := ⟨_, rfl⟩
      obtain ⟨q, hq⟩ : ∃ q, d * lb.getD j 0 = q := ⟨_, rfl⟩
      rw [hz] at ad HAJ
      rw [hp] at ad m1
      rw [hq] at ad m2
      have HS := Lib.hid (show ∀ W, Below w0.heap.size w0 W → W.cell? ⟨w.heap.size, 0, none⟩ = some (.bool n1) ∧ W.cell? ⟨w.heap.size, 1, none⟩ = some (.slice a1 l1.length c1) ∧ W.cell? ⟨w.heap.size + 1, 0, none⟩ = some (.bool n2) ∧ W.cell? ⟨w.heap.size + 1, 1, none⟩ = some (.slice a2 l2.length c2) ∧ W.cell? ⟨rb, ro + j * 2, none⟩ = some (.bool n3) ∧ W.cell? ⟨rb, ro + j * 2 + 1, none⟩ = some (.slice a3 l3 c3) ∧ W.cell? ⟨sb, so + j * 2, none⟩ = some (.bool n4) ∧ W.cell? ⟨sb, so + j * 2 + 1, none⟩ = some (.slice a4 l4 c4) from fun W h => ⟨(HP.out W h).1, (HP.out W h).2.1, (HP.out W h).2.2.1, (HP.out W h).2.2.2, bkeep (bthen hB h) r0, bkeep (bthen hB h) r1, bkeep (bthen hB h) s0, bkeep (bthen hB h) s1⟩)
      have hBc := hbr
      obtain ⟨q1, q2, q3, q4, q5, q6, q7, q8⟩ := HS.out wr hBc
      have zz1 := cell_lt q1
      have zz3 := cell_lt q3
      have zz5 := cell_lt q5
      have zz7 := cell_lt q7
      have HF0 := Lib.hid (hF.out.below lims_ref (Below.refl _ _).drew)
      clear hi hi2 r0 r1 s0 s1 vr vs he he2 hz hp hq
      go_wp2
      go_region_held3 (fun w' => w'.cell? ⟨w.heap.size, 0, none⟩ = some (.bool n1) ∧ w'.cell? ⟨w.heap.size, 1, none⟩ = some (.slice a1 l1.length c1) ∧ w'.cell? ⟨w.heap.size + 1, 0, none⟩ = some (.bool n2) ∧ w'.cell? ⟨w.heap.size + 1, 1, none⟩ = some (.slice a2 l2.length c2) ∧ w'.cell? ⟨rb, ro + j * 2, none⟩ = some (.bool n3) ∧ w'.cell? ⟨rb, ro + j * 2 + 1, none⟩ = some (.slice a3 l3 c3) ∧ w'.cell? ⟨sb, so + j * 2, none⟩ = some (.bool n4) ∧ w'.cell? ⟨sb, so + j * 2 + 1, none⟩ = some (.slice a4 l4 c4))
        (first | (refine HS.out _ ?_; (repeat (first | exact Below.refl _ _ | exact hBc | refine Below.drew ?_ | refine below_drewN ?_ _ | refine bset ?_ (by simp <;> omega) _ | refine bal ?_ _)); done) | fail)
        (first
          | (refine step_num0 elRw (by decide) lims_ref (by rfl) (by rfl) HF7.out HV7.out (by rfl) (by rfl) (by omega) ?_; intro v' w8 hF8 _ _; have HF8 := Lib.hid (hF8.congr' HAJ.out); (clear hBc; have hBc := hF8.bel); clear hF8)
          | (go_at_call 148; (with_reducible refine (m1 _ ?_).mono ?_); (repeat (first | exact Below.refl _ _ | exact hBc | refine Below.drew ?_ | refine below_drewN ?_ _ | refine bset ?_ (by simp <;> omega) _ | refine bal ?_ _)); rintro e w5 ⟨⟨v5, rfl, hv5⟩, hb5⟩; (have hBd : Below w0.heap.size w0 w5 := bthen (by repeat (first | exact Below.refl _ _ | exact hBc | refine Below.drew ?_ | refine below_drewN ?_ _ | refine bset ?_ (by simp <;> omega) _ | refine bal ?_ _)) hb5; clear hBc; have hBc := hBd; clear hBd); have HF5 := Lib.hid (HF0.out.below lims_ref hb5); have HV5 := Lib.hid hv5; have hx5 := Below.refl w5.heap.size w5; obtain ⟨n5, a5, c5, l5, rfl, -⟩ := hv5; unfold iv at *)
          | (go_at_call 148; (with_reducible refine (m2 _ ?_).mono ?_); (repeat (first | exact Below.refl _ _ | exact hBc | refine Below.drew ?_ | refine below_drewN ?_ _ | refine bset ?_ (by simp <;> omega) _ | refine bal ?_ _)); rintro e w6 ⟨⟨v6, rfl, hv6⟩, hb6⟩; (have hb56 : Below w5.heap.size w5 w6 := bthen (by repeat (first | exact Below.refl _ _ | exact hx5 | refine Below.drew ?_ | refine below_drewN ?_ _ | refine bset ?_ (by simp <;> omega) _ | refine bal ?_ _)) hb6); have HV56 := Lib.hid (HV5.out.keep hb56); have HF6 := Lib.hid (HF5.out.below lims_ref hb56); (have hBd : Below w0.heap.size w0 w6 := bthen (by repeat (first | exact Below.refl _ _ | exact hBc | refine Below.drew ?_ | refine below_drewN ?_ _ | refine bset ?_ (by simp <;> omega) _ | refine bal ?_ _)) hb6; clear hBc; have hBc := hBd; clear hBd); have HV6 := Lib.hid hv6; have hx6 := Below.refl w6.heap.size w6; obtain ⟨n6, a6, c6, l6, rfl, -⟩ := hv6; unfold iv at *)
          | (go_at_call 147; (with_reducible refine (ad _ _ _ ?_ ?_).mono ?_); (refine HV56.out.keep ?_; (repeat (first | exact Below.refl _ _ | exact hx6 | refine Below.drew ?_ | refine below_drewN ?_ _ | refine bset ?_ (by simp <;> omega) _ | refine bal ?_ _))); (refine HV6.out.keep ?_; (repeat (first | exact Below.refl _ _ | exact hx6 | refine Below.drew ?_ | refine below_drewN ?_ _ | refine bset ?_ (by simp <;> omega) _ | refine bal ?_ _))); rintro e w7 ⟨⟨v7, rfl, hv7⟩, hb7⟩; (have hb67 : Below w6.heap.size w6 w7 := bthen (by repeat (first | exact Below.refl _ _ | exact hx6 | refine Below.drew ?_ | refine below_drewN ?_ _ | refine bset ?_ (by simp <;> omega) _ | refine bal ?_ _)) hb7); (have hBd : Below w0.heap.size w0 w7 := bthen (by repeat (first | exact Below.refl _ _ | exact hBc | refine Below.drew ?_ | refine below_drewN ?_ _ | refine bset ?_ (by simp <;> omega) _ | refine bal ?_ _)) hb7; clear hBc; have hBc := hBd; clear hBd); have HV7 := Lib.hid hv7; have HF7 := Lib.hid (HF6.out.below lims_ref hb67); obtain ⟨n7, a7, c7, l7, rfl, -⟩ := hv7; unfold iv at *)
          | fail)
      go_wp2
      exact ⟨⟨j + 1, by omega, by go_num, HF8⟩, by simp [intOf]; omega⟩
    · obtain rfl : j = la.length := by omega
      have hF2 := Lib.hid (show RowQ w.heap.size wr (.slice fa la.length fc) lz from (show OwnF IsRef 44 w0 wr (.slice fa la.length fc) lz.length (fun i => lz.getD i 0) by rw [HZ.out.1]; exact hF.out).rowO.rebase hB.size)
      go_wp2
      go_ret
      exact ⟨⟨_, rfl, hF2.out⟩, hBr⟩
theorem comb_map {la : List Int} (g : Int → Int) {c d : Int} {lb : List Int} (h : ∀ j, j < la.length → g (la.getD j 0) = c * la.getD j 0 + d * lb.getD j 0) : ∀ j, j < la.length → (la.map g).getD j 0 = c * la.getD j 0 + d * lb.getD j 0 := fun j hj => by
  rw [show (la.map g).getD j 0 = g (la.getD j 0) by simp [hj]]; exact h j hj
theorem comb_zip {la lb : List Int} (g : Int → Int → Int) {c d : Int} (he : la.length = lb.length) (h : ∀ x y, g x y = c * x + d * y) : ∀ j, j < la.length → (List.zipWith g la lb).getD j 0 = c * la.getD j 0 + d * lb.getD j 0 := fun j hj => by
  have hj2 : j < lb.length := by omega
  rw [show (List.zipWith g la lb).getD j 0 = g (la.getD j 0) (lb.getD j 0) by simp [List.getD_eq_getElem?_getD, List.getElem?_zipWith, hj, hj2], h]
set_option maxRecDepth 100000 in
set_option maxHeartbeats 2000000 in
theorem rscale_c (va vc : Value) (la : List Int) (c : Int) (k m : Nat) (w : World) (ha : RRow 0 w va la) (hc : IsRef w vc c) (hl : la.length ≤ 1099511627775) (ba : ∀ j, Bd k (la.getD j 0)) (bc : Bd m c) (hk : k + m ≤ 17179869184) :
    Calls Tryz.prog 107 #[va, vc] w fun e w' => (∃ u, e = .returned u ∧ RowQ w.heap.size w' u (la.map fun x => x * c)) ∧ Below w.heap.size w w' := by
  have cx := fun W (h : Below w.heap.size w W) => rcomb_c vc (.agg #[.bool false, .slice none 0 0]) va va c 0 la la (la.map fun x => x * c) k m W (hc.keep h) (isRef_zero W) (ha.keep lims_ref h) (ha.keep lims_ref h) hl (Nat.le_refl _) ba ba bc bd_zero hk (by rw [List.length_map]) (comb_map (fun x => x * c) fun j hj => by rw [Int.zero_mul, Int.add_zero, Int.mul_comm])
  obtain ⟨aa, ca, rfl, -⟩ := ha
  obtain ⟨n1, a1, c1, l1, rfl, -⟩ := hc
  unfold iv at *
  clear ba bc
  have hB := Below.refl w.heap.size w
  go_enter Tryz.func107, Tryz.ntmps107
  go_wp2_with fail
  refine (cx _ (by repeat (first | exact Below.refl _ _ | exact hB | refine Below.drew ?_ | refine below_drewN ?_ _ | refine bset ?_ (by simp <;> omega) _ | refine bal ?_ _))).mono ?_
  rintro e w1 ⟨⟨u, rfl, hu⟩, hb1⟩
  have hB1 : Below w.heap.size w w1 := bthen (by repeat (first | exact Below.refl _ _ | exact hB | refine Below.drew ?_ | refine below_drewN ?_ _ | refine bset ?_ (by simp <;> omega) _ | refine bal ?_ _)) hb1
  have HU := Lib.hid (hu.rebase (base' := w.heap.size) (by simp))
  obtain ⟨ua, un, uc, rfl⟩ : ∃ a n c, u = Value.slice a n c := by obtain ⟨a, c, h⟩ := hu.ex; exact ⟨a, _, c, h⟩
  clear cx hu
  go_wp2
  go_ret
  exact ⟨⟨_, rfl, HU.out⟩, hB1⟩
set_option maxRecDepth 100000 in
set_option maxHeartbeats 2000000 in
theorem radd4_c (va vb : Value) (la lb : List Int) (k : Nat) (w : World) (ha : RRow 0 w va la) (hb : RRow 0 w vb lb) (hl : la.length ≤ 1099511627775) (he : la.length = lb.length) (ba : ∀ j, Bd k (la.getD j 0)) (bb : ∀ j, Bd k (lb.getD j 0)) (hk : k ≤ 17179869180) :
    Calls Tryz.prog 108 #[va, vb] w fun e w' => (∃ u, e = .returned u ∧ RowQ w.heap.size w' u (List.zipWith (fun x y => x + y) la lb)) ∧ Below w.heap.size w w' := by
  have o1 := fun W => rof_c 1 W (by omega) (by omega)
  have o2 := fun W => rof_c 1 W (by omega) (by omega)
  have cx := fun v1 v2 W (h : Below w.heap.size w W) (h1 : IsRef W v1 1) (h2 : IsRef W v2 1) => rcomb_c v1 v2 va vb 1 1 la lb (List.zipWith (fun x y => x + y) la lb) k 1 W h1 h2 (ha.keep lims_ref h) (hb.keep lims_ref h) hl (by omega) ba bb (by unfold Bd; decide) (by unfold Bd; decide) (by omega) (by rw [List.length_zipWith]; omega) (comb_zip (fun x y => x + y) he fun x y => by omega)
  have CX := Lib.hid cx
  obtain ⟨aa, ca, rfl, -⟩ := ha
  obtain ⟨ab, cb, rfl, -⟩ := hb
  have hB := Below.refl w.heap.size w
  clear ba bb he cx
  go_enter Tryz.func108, Tryz.ntmps108
  go_wp2_with fail
  refine (o1 _).mono ?_
  rintro e w1 ⟨⟨v1, rfl, h1⟩, hb1⟩
  have hB1 : Below w.heap.size w w1 := bthen (by repeat (first | exact Below.refl _ _ | exact hB | refine Below.drew ?_ | refine below_drewN ?_ _ | refine bset ?_ (by simp <;> omega) _ | refine bal ?_ _)) hb1
  have H1 := Lib.hid h1
  obtain ⟨n1, a1, c1, l1, rfl, -⟩ := h1
  unfold iv at *
  have hw1 := Below.refl w1.heap.size w1
  go_wp2_with fail
  refine (o2 _).mono ?_
  rintro e w2 ⟨⟨v2, rfl, h2⟩, hb2⟩
  have hb2' : Below w1.heap.size w1 w2 := bthen (by repeat (first | exact Below.refl _ _ | exact hw1 | refine Below.drew ?_ | refine below_drewN ?_ _ | refine bset ?_ (by simp <;> omega) _ | refine bal ?_ _)) hb2
  have H2 := Lib.hid h2
  have H12 := Lib.hid (H1.out.keep hb2')
  obtain ⟨n2, a2, c2, l2, rfl, -⟩ := h2
  unfold iv at *
  have hw2 := Below.refl w2.heap.size w2
  have hB2 := bthen hB1 hb2'
  have k1 := fun W (h : Below w2.heap.size w2 W) => CX.out _ _ W (bthen hB2 h) (H12.out.keep h) (H2.out.keep h)
  clear o1 o2 CX
  go_wp2_with fail
  refine (k1 _ (by repeat (first | exact Below.refl _ _ | exact hw2 | refine Below.drew ?_ | refine below_drewN ?_ _ | refine bset ?_ (by simp <;> omega) _ | refine bal ?_ _))).mono ?_
  rintro e w3 ⟨⟨u, rfl, hu⟩, hb3⟩
  have hB3 : Below w.heap.size w w3 := bthen hB2 (bthen (by repeat (first | exact Below.refl _ _ | exact hw2 | refine Below.drew ?_ | refine below_drewN ?_ _ | refine bset ?_ (by simp <;> omega) _ | refine bal ?_ _)) hb3)
  have HU := Lib.hid (hu.rebase (base' := w.heap.size) (by first | exact hB2.size | (simp; exact hB2.size)))
  obtain ⟨ua, un, uc, rfl⟩ : ∃ a n c, u = Value.slice a n c := by obtain ⟨a, c, h⟩ := hu.ex; exact ⟨a, _, c, h⟩
  clear k1 hu
  go_wp2
  go_ret
  exact ⟨⟨_, rfl, HU.out⟩, hB3⟩
set_option maxRecDepth 100000 in
set_option maxHeartbeats 2000000 in
theorem rsub4_c (va vb : Value) (la lb : List Int) (k : Nat) (w : World) (ha : RRow 0 w va la) (hb : RRow 0 w vb lb) (hl : la.length ≤ 1099511627775) (he : la.length = lb.length) (ba : ∀ j, Bd k (la.getD j 0)) (bb : ∀ j, Bd k (lb.getD j 0)) (hk : k ≤ 17179869180) :
    Calls Tryz.prog 109 #[va, vb] w fun e w' => (∃ u, e = .returned u ∧ RowQ w.heap.size w' u (List.zipWith (fun x y => x - y) la lb)) ∧ Below w.heap.size w w' := by
  have o1 := fun W => rof_c 1 W (by omega) (by omega)
  have o2 := fun W => rof_c (-1) W (by omega) (by omega)
  have cx := fun v1 v2 W (h : Below w.heap.size w W) (h1 : IsRef W v1 1) (h2 : IsRef W v2 (-1)) => rcomb_c v1 v2 va vb 1 (-1) la lb (List.zipWith (fun x y => x - y) la lb) k 1 W h1 h2 (ha.keep lims_ref h) (hb.keep lims_ref h) hl (by omega) ba bb (by unfold Bd; decide) (by unfold Bd; decide) (by omega) (by rw [List.length_zipWith]; omega) (comb_zip (fun x y => x - y) he fun x y => by omega)
  have CX := Lib.hid cx
  obtain ⟨aa, ca, rfl, -⟩ := ha
  obtain ⟨ab, cb, rfl, -⟩ := hb
  have hB := Below.refl w.heap.size w
  clear ba bb he cx
  go_enter Tryz.func109, Tryz.ntmps109
  go_wp2_with fail
  refine (o1 _).mono ?_
  rintro e w1 ⟨⟨v1, rfl, h1⟩, hb1⟩
  have hB1 : Below w.heap.size w w1 := bthen (by repeat (first | exact Below.refl _ _ | exact hB | refine Below.drew ?_ | refine below_drewN ?_ _ | refine bset ?_ (by simp <;> omega) _ | refine bal ?_ _)) hb1
  have H1 := Lib.hid h1
  obtain ⟨n1, a1, c1, l1, rfl, -⟩ := h1
  unfold iv at *
  have hw1 := Below.refl w1.heap.size w1
  go_wp2_with fail
  refine (o2 _).mono ?_
  rintro e w2 ⟨⟨v2, rfl, h2⟩, hb2⟩
  have hb2' : Below w1.heap.size w1 w2 := bthen (by repeat (first | exact Below.refl _ _ | exact hw1 | refine Below.drew ?_ | refine below_drewN ?_ _ | refine bset ?_ (by simp <;> omega) _ | refine bal ?_ _)) hb2
  have H2 := Lib.hid h2
  have H12 := Lib.hid (H1.out.keep hb2')
  obtain ⟨n2, a2, c2, l2, rfl, -⟩ := h2
  unfold iv at *
  have hw2 := Below.refl w2.heap.size w2
  have hB2 := bthen hB1 hb2'
  have k1 := fun W (h : Below w2.heap.size w2 W) => CX.out _ _ W (bthen hB2 h) (H12.out.keep h) (H2.out.keep h)
  clear o1 o2 CX
  go_wp2_with fail
  refine (k1 _ (by repeat (first | exact Below.refl _ _ | exact hw2 | refine Below.drew ?_ | refine below_drewN ?_ _ | refine bset ?_ (by simp <;> omega) _ | refine bal ?_ _))).mono ?_
  rintro e w3 ⟨⟨u, rfl, hu⟩, hb3⟩
  have hB3 : Below w.heap.size w w3 := bthen hB2 (bthen (by repeat (first | exact Below.refl _ _ | exact hw2 | refine Below.drew ?_ | refine below_drewN ?_ _ | refine bset ?_ (by simp <;> omega) _ | refine bal ?_ _)) hb3)
  have HU := Lib.hid (hu.rebase (base' := w.heap.size) (by first | exact hB2.size | (simp; exact hB2.size)))
  obtain ⟨ua, un, uc, rfl⟩ : ∃ a n c, u = Value.slice a n c := by obtain ⟨a, c, h⟩ := hu.ex; exact ⟨a, _, c, h⟩
  clear k1 hu
  go_wp2
  go_ret
  exact ⟨⟨_, rfl, HU.out⟩, hB3⟩
theorem mkRw (n : Nat) (hn : n ≤ 1099511627776) (w : World) : (Instr.makeSlice 31 (.int .i64 (n : Int)) (.int .i64 (n : Int))).run Tryz.prog w = .ok (.slice (some ⟨w.heap.size, 0, none⟩) n n) (w.alloc (.cells (zcel n) 44)) := by
  obtain ⟨i0, hi, hz0, hz1, hz2⟩ := info_parts infoRef
  rw [run_make w _ _ i0 _ Tryz.underlying31 hi hz0 .i64 .i64 n n (by omega) (by omega) (by rw [hz2]; omega) (by omega), hz1]
  rfl
set_option maxRecDepth 100000 in
set_option maxHeartbeats 2000000 in
theorem rzero_c (n : Nat) (w : World) (hn : n ≤ 1099511627776) :
    Calls Tryz.prog 62 #[.int .i64 (n : Int)] w fun e w' => (∃ a c, e = .returned (.slice a n c) ∧ RowQ w.heap.size w' (.slice a n c) (List.replicate n 0)) ∧ Below w.heap.size w w' := by
  have hmk := mkRw n hn
  have hB := Below.refl w.heap.size w
  have HR := Lib.hid (RowO.makeRef w n (by unfold maxLen; omega))
  go_enter Tryz.func62, Tryz.ntmps62
  go_wp2
  go_ret
  exact ⟨⟨_, _, rfl, HR.out⟩, by repeat (first | exact Below.refl _ _ | exact hB | refine Below.drew ?_ | refine below_drewN ?_ _ | refine bset ?_ (by simp <;> omega) _ | refine bal ?_ _)⟩
end Go.Proofs.YtannhpadoooedaaGreatDoor

/- row: each. -/
namespace Go.Proofs.YtannhpadoooedaaGreatDoor
open Num
open Go.ChangeShapes Go.WideShapes Go.ChangeAt Go.RowKit
set_option linter.unusedVariables false
set_option linter.unusedSimpArgs false
attribute [local go_sem ↓] Go.wp_at_zero Go.wp_at_succ
/-- what a function value does to the numbers l, one by one: P j holds ahead of the j-th; it writes ints of the blocks X alone -/
def FnE (X : Nat → Prop) (P : Nat → World → Prop) (l : List Int) (f : Nat → Int) (F : Nat) (bnd caps : Array Value) : Prop :=
  ∀ j W u, j < l.length → P j W → IsInt W u (l.getD j 0) → Calls Tryz.prog F (bnd ++ #[u] ++ caps) W fun e w' => (∃ x, e = .returned x ∧ IsInt w' x (f j)) ∧ P (j + 1) w' ∧ Kp (· ≠ 3) W w' ∧ Out X W w'
set_option maxRecDepth 100000 in
set_option maxHeartbeats 8000000 in
theorem each_c (v : Value) (l : List Int) (F : Nat) (bnd caps : Array Value) (f : Nat → Int) (P : Nat → World → Prop) (X : Nat → Prop) (w : World) (hv : PRow 0 w v l) (hl : l.length ≤ 1099511627775) (eF : Enters Tryz.prog F) (hP0 : P 0 w)
    (hPk : ∀ j W W', P j W → Kp (· ≠ 48) W W' → Out (fun k => w.heap.size ≤ k) W W' → P j W') (hX : ∀ b, X b → typOf w b = some 3) (hf : FnE X P l f F bnd caps) :
    Calls Tryz.prog 149 #[v, .func (.func F) bnd caps] w fun e w' => (∃ u, e = .returned u ∧ OwnNB w.heap.size w' u l.length f) ∧ P l.length w' ∧ Out X w w' := by
  have HV := Lib.hid hv
  have HPK := Lib.hid hPk
  have HX := Lib.hid hX
  have HF := Lib.hid hf
  have HP0 := Lib.hid hP0
  obtain ⟨va, vc, rfl, -⟩ := hv
  clear hPk hX hf hP0
  unfold Enters at eF
  have hO0 := Out.refl X w
  go_enter Tryz.func149, Tryz.ntmps149
  go_wp2
  go_loopw [5, 10] (fun v x wr => ∃ j : Nat, j ≤ l.length ∧ x = .int .i64 j ∧ Hid (OwnNB w.heap.size wr v j f) ∧ Hid (P j wr) ∧ Out X w wr) (fun _ x _ => l.length - (intOf x).toNat)
  case atStart => exact ⟨0, Nat.zero_le _, rfl, Lib.hid (OwnNB.nil _ _ _), HP0, hO0⟩
  case round =>
    obtain ⟨j, hj, rfl, hR, hP, hOr⟩ := hrel
    obtain ⟨fa, fc, hfv⟩ := hR.out.ex
    subst hfv
    by_cases hlt : j < l.length
    · have hltI : (j : Int) < (l.length : Int) := by omega
      have hkp : Kp (· ≠ 3) w wr := Kp.out hOr (fun q t hq ht k => by rw [HX.out q hq] at ht; exact k (Option.some.inj ht).symm)
      obtain ⟨a', c', he, -, vr⟩ := (HV.out.kp lims_int hkp (by decide) (by decide)).view
      obtain ⟨rfl, -, rfl⟩ := Value.slice.inj he
      obtain ⟨b, off, nx, ax, lx, cx, rfl, c0, c1, hi⟩ := vr j hlt
      have HI := Lib.hid hi
      have zb := cell_lt c0
      have hsz : w.heap.size ≤ wr.heap.size := hOr.size
      have fcl := fun W (q : Below wr.heap.size wr W) => HF.out j W (.agg #[.bool nx, .slice ax lx cx]) hlt (HPK.out j wr W hP.out (Kp.of_below _ q) (Out.of_below _ q)) (HI.out.keep q)
      have hBw := Below.refl wr.heap.size wr
      clear hi vr he
      have HSN := Lib.hid (show ∀ k, k < j + 1 → (fun i => if i = j then f j else f i) k = f k from fun k hk => by dsimp only; split; (subst_vars; rfl); rfl)
      obtain ⟨z, hz⟩ : ∃ z, f j = z := ⟨_, rfl⟩
      rw [hz] at fcl HSN
      clear hz
      go_wp2_with (first
        | (go_at_fn F; refine (fcl _ ?_).mono ?_; (repeat (first | exact Below.refl _ _ | exact hBw | refine Below.drew ?_ | refine below_drewN ?_ _ | refine bset ?_ (by simp <;> omega) _ | refine bal ?_ _)); rintro e w5 ⟨⟨x5, rfl, hx5⟩, hp5, hk5, ho5⟩; have HX5 := Lib.hid hx5; have HP5 := Lib.hid hp5; have hk5' : Kp (· ≠ 3) wr w5 := (Kp.of_below _ (by repeat (first | exact Below.refl _ _ | exact hBw | refine Below.drew ?_ | refine below_drewN ?_ _ | refine bset ?_ (by simp <;> omega) _ | refine bal ?_ _))).trans hk5; have ho5' : Out X wr w5 := (Out.of_below _ (by repeat (first | exact Below.refl _ _ | exact hBw | refine Below.drew ?_ | refine below_drewN ?_ _ | refine bset ?_ (by simp <;> omega) _ | refine bal ?_ _))).trans ho5; obtain ⟨n5, a5, c5, l5, rfl, -⟩ := hx5; unfold iv at *; have hR5 := Lib.hid (hR.out.kp hk5' (by decide) (by decide)); have hO5 : Out X w w5 := hOr.trans ho5'; have hz5 : w.heap.size ≤ w5.heap.size := hO5.size; clear fcl hp5 hk5 ho5)
        | (at_builtin; refine app_numB (by rfl) (by rfl) hR5.out hz5 HX5.out (by rfl) (by rfl) (by omega) ?_)
        | fail)
      intro v8 w8 hR8 hk8 ho8
      have HR8 := Lib.hid (hR8.congr HSN.out)
      have HP8 := Lib.hid (HPK.out _ _ _ HP5.out hk8 ho8)
      have hO8 : Out X w w8 := hO5.then ho8 (fun i h1 h2 => by omega)
      clear hR8 hk8 ho8
      go_wp2
      exact ⟨⟨j + 1, by omega, by go_num, HR8, HP8, hO8⟩, by simp [intOf]; omega⟩
    · obtain rfl : j = l.length := by omega
      go_wp2
      go_ret
      exact ⟨⟨_, rfl, hR.out⟩, hP.out, hOr⟩
theorem out_none {w w' : World} (h : Out (fun _ => False) w w') : Below w.heap.size w w' := h.to_below (fun _ _ _ h => h) (Nat.le_refl _)
theorem map_getD {l : List Int} (g : Int → Int) {k : Nat} (hk : k < l.length) : (l.map g).getD k 0 = g (l.getD k 0) := by simp [hk]
set_option maxRecDepth 100000 in
set_option maxHeartbeats 2000000 in
theorem rowNeg_c (v : Value) (l : List Int) (w : World) (hv : PRow 0 w v l) (hl : l.length ≤ 1099511627775) :
    Calls Tryz.prog 135 #[v] w fun e w' => (∃ u, e = .returned u ∧ RowO IsInt 48 w.heap.size w' u (l.map fun x => -x)) ∧ Below w.heap.size w w' := by
  have ec := fun W (h : Below w.heap.size w W) => each_c v l 101 #[] #[] (fun j => -(l.getD j 0)) (fun _ _ => True) (fun _ => False) W (hv.keep lims_int h) hl (ens Tryz.func101 (by kernel_rfl) rfl) trivial (fun _ _ _ _ _ _ => trivial) (fun _ h => h.elim) (fun j W u hj _ hu => (neg_c u _ W hu).mono fun e w' ⟨h1, h2⟩ => ⟨h1, trivial, Kp.of_below _ h2, Out.of_below _ h2⟩)
  obtain ⟨va, vc, rfl, -⟩ := hv
  have hB := Below.refl w.heap.size w
  go_enter Tryz.func135, Tryz.ntmps135
  go_wp2_with fail
  refine (ec _ (by repeat (first | exact Below.refl _ _ | exact hB | refine Below.drew ?_ | refine below_drewN ?_ _ | refine bset ?_ (by simp <;> omega) _ | refine bal ?_ _))).mono ?_
  rintro e w1 ⟨⟨u, rfl, hu⟩, -, hO⟩
  have HU := Lib.hid (show RowO IsInt 48 w.heap.size w1 u (l.map fun x => -x) from hu.rowO (by simp) (fun k hk => by rw [map_getD _ hk]))
  have hB1 := out_none hO
  obtain ⟨ua, uc, rfl⟩ := hu.ex
  clear ec hu hO
  go_wp2
  go_ret
  exact ⟨⟨_, rfl, HU.out⟩, hB1⟩
end Go.Proofs.YtannhpadoooedaaGreatDoor

/- row: Scale. -/
namespace Go.Proofs.YtannhpadoooedaaGreatDoor
open Num
open Go.ChangeShapes Go.WideShapes Go.ChangeAt Go.RowKit
set_option linter.unusedVariables false
set_option linter.unusedSimpArgs false
attribute [local go_sem ↓] Go.wp_at_zero Go.wp_at_succ
set_option maxRecDepth 100000 in
set_option maxHeartbeats 2000000 in
theorem rowScale_c (v vc : Value) (l : List Int) (c : Int) (k m : Nat) (w : World) (hv : PRow 0 w v l) (hc : IsInt w vc c) (hl : l.length ≤ 1099511627775) (hb : ∀ j, Bd k (l.getD j 0)) (bc : Bd m c) (hk : k ≤ 17179869184) (hm : m ≤ 17179869184) :
    Calls Tryz.prog 140 #[v, vc] w fun e w' => (∃ u, e = .returned u ∧ RowO IsInt 48 w.heap.size w' u (l.map fun x => x * c)) ∧ Below w.heap.size w w' := by
  have ec := fun W (h : Below w.heap.size w W) => each_c v l 96 #[vc] #[] (fun j => c * l.getD j 0) (fun _ W' => IsInt W' vc c) (fun _ => False) W (hv.keep lims_int h) hl (ens Tryz.func96 (by kernel_rfl) rfl) (hc.keep h) (fun _ _ _ hi hkp _ => hi.lim (hkp.lim (by decide))) (fun _ h => h.elim) (fun j W u hj hi hu => (mul_c vc u c _ m k W hi hu bc (hb j) hm hk).mono fun e w' ⟨h1, h2⟩ => ⟨h1, hi.keep h2, Kp.of_below _ h2, Out.of_below _ h2⟩)
  obtain ⟨va, vcp, rfl, -⟩ := hv
  obtain ⟨n1, a1, c1, l1, rfl, -⟩ := hc
  unfold iv at *
  have hB := Below.refl w.heap.size w
  go_enter Tryz.func140, Tryz.ntmps140
  go_wp2_with fail
  refine (ec _ (by repeat (first | exact Below.refl _ _ | exact hB | refine Below.drew ?_ | refine below_drewN ?_ _ | refine bset ?_ (by simp <;> omega) _ | refine bal ?_ _))).mono ?_
  rintro e w1 ⟨⟨u, rfl, hu⟩, -, hO⟩
  have hB1 : Below w.heap.size w w1 := bthen (by repeat (first | exact Below.refl _ _ | exact hB | refine Below.drew ?_ | refine below_drewN ?_ _ | refine bset ?_ (by simp <;> omega) _ | refine bal ?_ _)) (out_none hO)
  have HU := Lib.hid (show RowO IsInt 48 w.heap.size w1 u (l.map fun x => x * c) from (hu.rowO (l := l.map fun x => x * c) (by simp) (fun k hk => by rw [map_getD (fun x => x * c) hk, Int.mul_comm])).rebase (by simp))
  obtain ⟨ua, uc, rfl⟩ := hu.ex
  clear ec hu hO
  go_wp2
  go_ret
  exact ⟨⟨_, rfl, HU.out⟩, hB1⟩
end Go.Proofs.YtannhpadoooedaaGreatDoor

/- row: both, Add, Sub. -/
namespace Go.Proofs.YtannhpadoooedaaGreatDoor
open Num
open Go.ChangeShapes Go.WideShapes Go.ChangeAt Go.RowKit
set_option linter.unusedVariables false
set_option linter.unusedSimpArgs false
attribute [local go_sem ↓] Go.wp_at_zero Go.wp_at_succ
theorem typ_fresh {w : World} {c : Array Value} {t : TypeId} {q : Nat} (h : q = w.heap.size) : typOf (w.alloc (.cells c t)) q = some t := by
  subst h; unfold typOf; rw [(MapKept.heap_alloc w _).1]
set_option maxRecDepth 100000 in
set_option maxHeartbeats 4000000 in
theorem bothF_c (u vb : Value) (lb : List Int) (x z : Int) (F : Nat) (bnd caps : Array Value) (j kb fb bb : Nat) (w : World) (hx : IsInt w u x) (hrow : PRow 0 w vb lb) (hj : j < lb.length) (hl : lb.length ≤ 1099511627775)
    (c0 : w.cell? ⟨kb, 0, none⟩ = some (.int .i64 ((j : Int) - 1))) (c0f : w.frozen? ⟨kb, 0, none⟩ = false) (c1 : w.cell? ⟨fb, 0, none⟩ = some (.func (.func F) bnd caps)) (c2 : w.cell? ⟨bb, 0, none⟩ = some vb) (hT : typOf w kb = some 3) (hkf : kb ≠ fb) (hkb : kb ≠ bb)
    (eF : Enters Tryz.prog F) (hF : ∀ W u1 u2, Out (fun k => k = kb) w W → IsInt W u1 x → IsInt W u2 (lb.getD j 0) → Calls Tryz.prog F (bnd ++ #[u1, u2] ++ caps) W fun e w' => (∃ v, e = .returned v ∧ IsInt w' v z) ∧ Below W.heap.size W w') :
    Calls Tryz.prog 150 #[u, .pointer (some ⟨kb, 0, none⟩), .pointer (some ⟨fb, 0, none⟩), .pointer (some ⟨bb, 0, none⟩)] w fun e w' => (∃ v, e = .returned v ∧ IsInt w' v z) ∧ w'.cell? ⟨kb, 0, none⟩ = some (.int .i64 (j : Int)) ∧ (w'.frozen? ⟨kb, 0, none⟩ = false ∧ typOf w' kb = some 3) ∧ Out (fun k => k = kb) w w' := by
  have HF := Lib.hid hF
  have HX := Lib.hid hx
  obtain ⟨a', c', rfl, -, vr⟩ := hrow.view
  obtain ⟨b, off, n2, a2, l2, c2', rfl, d0, d1, hi⟩ := vr j hj
  have HY := Lib.hid hi
  have zk := cell_lt c0
  have hbk : b ≠ kb := fun e => by
    obtain ⟨a1, c1', he, -, -, h4⟩ := hrow
    obtain ⟨rfl, -, -⟩ := Value.slice.inj he
    rcases h4 with h4 | ⟨b', off', h1, -, h3, -⟩
    · rw [h4] at hj; simp at hj
    · cases h1; subst e; rw [hT] at h3; exact absurd (Option.some.inj h3) (by decide)
  obtain ⟨n1, a1, c1', l1, rfl, -⟩ := hx
  unfold iv at *
  unfold Enters at eF
  have hjI : (j : Int) < (lb.length : Int) := by omega
  have hkf' := Ne.symm hkf
  have hkb' := Ne.symm hkb
  clear hF vr hi
  have HZ := Lib.hid (And.intro hrow hT)
  clear hrow hT
  have hB := Below.refl w.heap.size w
  go_enter Tryz.func150, Tryz.ntmps150
  go_wp2
  refine wp_name fun w0 hW0 => ?_
  have hO : Out (fun k => k = kb) w w0 := by rw [hW0]; repeat (first | exact Out.refl _ _ | refine Out.drew ?_ | refine Out.set ?_ (fun _ => show kb = kb from rfl) _ | refine Out.alloc ?_ _)
  have x0 : w0.cell? ⟨w.heap.size, 0, none⟩ = some (.bool n1) := by rw [hW0]; simp [go_sem, *]
  have x1 : w0.cell? ⟨w.heap.size, 1, none⟩ = some (.slice a1 l1.length c1') := by rw [hW0]; simp [go_sem, *]
  have r0 : w0.cell? ⟨w.heap.size + 1, 0, none⟩ = some (.bool false) := by rw [hW0]; simp [go_sem, *]
  have r1 : w0.cell? ⟨w.heap.size + 1, 1, none⟩ = some (.slice none 0 0) := by rw [hW0]; simp [go_sem, *]
  have r0f : w0.frozen? ⟨w.heap.size + 1, 0, none⟩ = false := by rw [hW0]; simp [go_sem, *]
  have r1f : w0.frozen? ⟨w.heap.size + 1, 1, none⟩ = false := by rw [hW0]; simp [go_sem, *]
  have k0 : w0.cell? ⟨kb, 0, none⟩ = some (.int .i64 (j : Int)) := by rw [hW0]; simp [go_sem, *]
  have k0f : w0.frozen? ⟨kb, 0, none⟩ = false := by rw [hW0]; simp [go_sem, *]
  have ht0 : Hid (typOf w0 kb = some 3) := Lib.hid (by rw [hW0]; repeat (first | exact HZ.out.2 | (with_reducible rw [typ_set]) | (refine typ_keep ?_ (bal (Below.refl _ _) _))))
  have zfb := cell_lt c1
  have zbb := cell_lt c2
  have zbl := cell_lt d0
  have q1 := okeep hO c1 hkf'
  have q2 := okeep hO c2 hkb'
  have e0 := okeep hO d0 hbk
  have e1 := okeep hO d1 hbk
  clear hW0 c0 c0f c1 c2 d0 d1
  have hs := hO.size
  have zr := cell_lt r0
  have zx := cell_lt x0
  have ze := cell_lt e0
  have zq1 := cell_lt q1
  have zq2 := cell_lt q2
  have zk0 := cell_lt k0
  have hLim : Lim w w0 := (Kp.out (S := (· ≠ 3)) hO (fun q t hq ht k => by subst hq; rw [HZ.out.2] at ht; exact k (Option.some.inj ht).symm)).lim (by decide)
  have fc := fun W (h : Below w0.heap.size w0 W) => HF.out W (.agg #[.bool n1, .slice a1 l1.length c1']) (.agg #[.bool n2, .slice a2 l2 c2']) (hO.below h) ((HX.out.lim hLim).keep h) ((HY.out.lim hLim).keep h)
  simp only [Array.append_assoc] at fc
  have hBw := Below.refl w0.heap.size w0
  clear hLim
  have HS := Lib.hid (show ∀ W, Out (fun k => k = w.heap.size + 1) w0 W → W.cell? ⟨fb, 0, none⟩ = some (.func (.func F) bnd caps) ∧ W.cell? ⟨w.heap.size, 0, none⟩ = some (.bool n1) ∧ W.cell? ⟨w.heap.size, 1, none⟩ = some (.slice a1 l1.length c1') ∧ W.cell? ⟨bb, 0, none⟩ = some (.slice (some ⟨b, off, none⟩) lb.length c') ∧ W.cell? ⟨kb, 0, none⟩ = some (.int .i64 (j : Int)) ∧ W.cell? ⟨b, off + j * 2, none⟩ = some (.bool n2) ∧ W.cell? ⟨b, off + j * 2 + 1, none⟩ = some (.slice a2 l2 c2') from fun W h => ⟨okeep h q1 (by omega), okeep h x0 (by omega), okeep h x1 (by omega), okeep h q2 (by omega), okeep h k0 (by omega), okeep h e0 (by omega), okeep h e1 (by omega)⟩)
  have hOw := Out.refl (fun k => k = w.heap.size + 1) w0
  go_region_held3 (fun w' => w'.cell? ⟨fb, 0, none⟩ = some (.func (.func F) bnd caps) ∧ w'.cell? ⟨w.heap.size, 0, none⟩ = some (.bool n1) ∧ w'.cell? ⟨w.heap.size, 1, none⟩ = some (.slice a1 l1.length c1') ∧ w'.cell? ⟨bb, 0, none⟩ = some (.slice (some ⟨b, off, none⟩) lb.length c') ∧ w'.cell? ⟨kb, 0, none⟩ = some (.int .i64 (j : Int)) ∧ w'.cell? ⟨b, off + j * 2, none⟩ = some (.bool n2) ∧ w'.cell? ⟨b, off + j * 2 + 1, none⟩ = some (.slice a2 l2 c2'))
    (first | (refine HS.out _ ?_; (repeat (first | exact hOw | refine Out.drew ?_ | refine Out.drewN ?_ _ | refine Out.set ?_ (fun _ => show w.heap.size + 1 = w.heap.size + 1 from rfl) _ | refine Out.alloc ?_ _)); done) | fail)
    (first
      | (go_at_fn F; refine (fc _ ?_).mono ?_; (repeat (first | exact Below.refl _ _ | exact hBw | refine Below.drew ?_ | refine below_drewN ?_ _ | refine bset ?_ (by simp <;> omega) _ | refine bal ?_ _)); rintro e w5 ⟨⟨v5, rfl, hv5⟩, hb5⟩; have hB5 : Below w0.heap.size w0 w5 := bthen (by repeat (first | exact Below.refl _ _ | exact hBw | refine Below.drew ?_ | refine below_drewN ?_ _ | refine bset ?_ (by simp <;> omega) _ | refine bal ?_ _)) hb5; (have hBd : Out (fun k => k = w.heap.size + 1) w0 w5 := Out.of_below _ hB5; clear hOw; have hOw := hBd; clear hBd); have r05f := bkeepf hB5 r0 r0f; have r15f := bkeepf hB5 r1 r1f; have r05 := bkeep hB5 r0; have r15 := bkeep hB5 r1; have HV := Lib.hid hv5; obtain ⟨n5, a5, c5, l5, rfl, -⟩ := hv5; unfold iv at *)
      | fail)
  all_goals
    have k05 := bkeep hB5 k0
    have k05f := bkeepf hB5 k0 k0f
    have t05 := Lib.hid (typ_keep ht0.out hB5)
    have hO5 := hO.below hB5
    clear fc
    go_wp2
    refine bodyPost_ret (v := .agg #[.bool n5, .slice a5 l5.length c5]) (by simp [results, Tryz.results150, go_sem, *]) rfl ⟨⟨_, rfl, (HV.out).put2 r05 r15 _ _⟩, ?_, ⟨?_, ?_⟩, ?_⟩
    · exact cell_far (cell_far k05 (by simp <;> omega) _) (by simp <;> omega) _
    · rw [World.frozen?_setCell, World.frozen?_setCell]; exact k05f
    · rw [typ_set, typ_set]; exact t05.out
    · exact (hO5.set (fun h => absurd h (by show ¬ (w.heap.size + 1 < w.heap.size); omega)) _).set (fun h => absurd h (by show ¬ (w.heap.size + 1 < w.heap.size); omega)) _
set_option maxRecDepth 100000 in
set_option maxHeartbeats 4000000 in
/-- both, of rows that are as long -/
theorem both_yes (va vb : Value) (la lb lz : List Int) (F : Nat) (bnd caps : Array Value) (w : World) (ha : PRow 0 w va la) (hb : PRow 0 w vb lb) (hl : la.length ≤ 1099511627775) (he : la.length = lb.length) (hz : lz.length = la.length)
    (eF : Enters Tryz.prog F) (hF : ∀ j W u1 u2, j < la.length → Below w.heap.size w W → IsInt W u1 (la.getD j 0) → IsInt W u2 (lb.getD j 0) → Calls Tryz.prog F (bnd ++ #[u1, u2] ++ caps) W fun e w' => (∃ v, e = .returned v ∧ IsInt w' v (lz.getD j 0)) ∧ Below W.heap.size W w') :
    Calls Tryz.prog 95 #[va, vb, .func (.func F) bnd caps] w fun e w' => (∃ u, e = .returned (.tuple #[u, .int .i64 0]) ∧ RowO IsInt 48 w.heap.size w' u lz) ∧ Below w.heap.size w w' := by
  have HF := Lib.hid hF
  have HA := Lib.hid ha
  have HB' := Lib.hid hb
  obtain ⟨aa, ca, rfl, -⟩ := ha
  obtain ⟨ab, cb, rfl, -⟩ := hb
  have hb0 : lb.length ≤ 1099511627775 := by omega
  have HE := Lib.hid (And.intro he hz)
  have hne : (la.length != lb.length) = false := by simp [he]
  have hneI : ((la.length : Int) != (lb.length : Int)) = false := by simp [he]
  have ec := fun W (hB : Below w.heap.size w W) (k0 : W.cell? ⟨w.heap.size + 1 + 1, 0, none⟩ = some (.int .i64 (((0 : Nat) : Int) - 1))) (k0f : W.frozen? ⟨w.heap.size + 1 + 1, 0, none⟩ = false) (f0 : W.cell? ⟨w.heap.size + 1, 0, none⟩ = some (.func (.func F) bnd caps)) (b0 : W.cell? ⟨w.heap.size, 0, none⟩ = some (.slice ab lb.length cb)) (hT : typOf W (w.heap.size + 1 + 1) = some 3) =>
    each_c (.slice aa la.length ca) la 150 #[] #[.pointer (some ⟨w.heap.size + 1 + 1, 0, none⟩), .pointer (some ⟨w.heap.size + 1, 0, none⟩), .pointer (some ⟨w.heap.size, 0, none⟩)] (fun j => lz.getD j 0)
      (fun j W' => Below w.heap.size w W' ∧ W'.cell? ⟨w.heap.size + 1 + 1, 0, none⟩ = some (.int .i64 ((j : Int) - 1)) ∧ W'.frozen? ⟨w.heap.size + 1 + 1, 0, none⟩ = false ∧ W'.cell? ⟨w.heap.size + 1, 0, none⟩ = some (.func (.func F) bnd caps) ∧ W'.cell? ⟨w.heap.size, 0, none⟩ = some (.slice ab lb.length cb) ∧ typOf W' (w.heap.size + 1 + 1) = some 3)
      (fun q => q = w.heap.size + 1 + 1) W (HA.out.keep lims_int hB) hl (ens Tryz.func150 (by kernel_rfl) rfl) ⟨hB, k0, k0f, f0, b0, hT⟩
      (fun j W1 W2 h hk ho => by
        obtain ⟨h1, h2, h3, h4, h5, h6⟩ := h
        have hz := cell_lt k0
        have g : ∀ q, q ≤ w.heap.size + 2 → ¬ (W.heap.size ≤ q) := fun q hq => by omega
        have hs1 := h1.size
        exact ⟨h1.trans (ho.to_below (fun q hq _ => g q (by omega)) h1.size), okeep ho h2 (g _ (by omega)), okeepf ho h2 h3 (g _ (by omega)), okeep ho h4 (g _ (by omega)), okeep ho h5 (g _ (by omega)), by rw [typ_of_block (w := W1) (ho.block _ (cell_lt h2) (g _ (by omega)))]; exact h6⟩)
      (fun q hq => by subst hq; exact hT)
      (fun j W1 u hj h hu => by
        obtain ⟨h1, h2, h3, h4, h5, h6⟩ := h
        refine (bothF_c u (.slice ab lb.length cb) lb (la.getD j 0) (lz.getD j 0) F bnd caps j (w.heap.size + 1 + 1) (w.heap.size + 1) w.heap.size W1 hu (HB'.out.keep lims_int h1) (by have := HE.out.1; omega) hb0 h2 h3 h4 h5 h6 (by omega) (by omega) eF (fun W2 u1 u2 hO k1 k2 => HF.out j W2 u1 u2 hj (h1.trans (hO.to_below (fun q hq _ e => by omega) h1.size)) k1 k2)).mono ?_
        rintro e w' ⟨h7, h8, ⟨h8f, h8t⟩, h9⟩
        have hkp : Kp (· ≠ 3) W1 w' := Kp.out h9 (fun q t hq ht k => by subst hq; rw [h6] at ht; exact k (Option.some.inj ht).symm)
        refine ⟨h7, ⟨h1.trans (h9.to_below (fun q hq _ e => by omega) h1.size), by rw [h8]; congr 2; omega, h8f, okeep h9 h4 (by omega), okeep h9 h5 (by omega), h8t⟩, hkp, h9⟩)
  have EC := Lib.hid ec
  clear ec he hz hF
  have hB := Below.refl w.heap.size w
  go_enter Tryz.func95, Tryz.ntmps95
  go_upto_region 4 with (fail)
  refine wp_name fun w1 hW1 => ?_
  have k0f : w1.frozen? ⟨w.heap.size + 1 + 1, 0, none⟩ = false := by rw [hW1]; simp [go_sem, *]
  have k0 : w1.cell? ⟨w.heap.size + 1 + 1, 0, none⟩ = some (.int .i64 (-1)) := by rw [hW1]; exact (by first | assumption | exact cell_new (by with_reducible first | rfl | (simp; done) | (simp; omega)) rfl | (repeat (first | assumption | exact cell_new (by with_reducible first | rfl | (simp; done) | (simp; omega)) rfl | refine cell_alloc ?_ _ | refine cell_drew ?_ | refine cell_drewN ?_ _ | refine cell_far ?_ (by simp) _ | (refine cell_far ?_ (by simp <;> omega) _))) | simp [go_sem, *])
  have zk0 := cell_lt k0
  have f0 : w1.cell? ⟨w.heap.size + 1, 0, none⟩ = some (.func (.func F) bnd caps) := by rw [hW1]; exact (by first | assumption | exact cell_new (by with_reducible first | rfl | (simp; done) | (simp; omega)) rfl | (repeat (first | assumption | exact cell_new (by with_reducible first | rfl | (simp; done) | (simp; omega)) rfl | refine cell_alloc ?_ _ | refine cell_drew ?_ | refine cell_drewN ?_ _ | refine cell_far ?_ (by simp) _ | (refine cell_far ?_ (by simp <;> omega) _))) | simp [go_sem, *])
  have zf0 := cell_lt f0
  have b0 : w1.cell? ⟨w.heap.size, 0, none⟩ = some (.slice ab lb.length cb) := by rw [hW1]; exact (by first | assumption | exact cell_new (by with_reducible first | rfl | (simp; done) | (simp; omega)) rfl | (repeat (first | assumption | exact cell_new (by with_reducible first | rfl | (simp; done) | (simp; omega)) rfl | refine cell_alloc ?_ _ | refine cell_drew ?_ | refine cell_drewN ?_ _ | refine cell_far ?_ (by simp) _ | (refine cell_far ?_ (by simp <;> omega) _))) | simp [go_sem, *])
  have zb0 := cell_lt b0
  have hB : Below w.heap.size w w1 := by rw [hW1]; repeat (first | exact Below.refl _ _ | exact hB | refine Below.drew ?_ | refine below_drewN ?_ _ | refine bset ?_ (by simp <;> omega) _ | refine bal ?_ _)
  have hT : Hid (typOf w1 (w.heap.size + 1 + 1) = some 3) := Lib.hid (by rw [hW1]; exact typ_fresh (by simp))
  have hz : w.heap.size ≤ w1.heap.size := hB.size
  clear hW1

  have hb11 := Below.refl w1.heap.size w1
  go_wp2_with fail
  refine (EC.out _ (by repeat (first | exact Below.refl _ _ | exact hB | refine Below.drew ?_ | refine below_drewN ?_ _ | refine bset ?_ (by simp <;> omega) _ | refine bal ?_ _)) ?_ ?_ ?_ ?_ ?_).mono ?_
  · simpa using k0
  · exact k0f
  · exact f0
  · exact b0
  · exact hT.out
  rintro e w2 ⟨⟨u, rfl, hu⟩, hp, hO⟩
  have HU := Lib.hid (show RowO IsInt 48 w.heap.size w2 u lz from (hu.rowO HE.out.2 (fun k hk => rfl)).rebase hz)
  have HP := Lib.hid hp.1
  obtain ⟨ua, uc, rfl⟩ := hu.ex
  clear hu hp hO
  go_wp2
  go_ret2
  exact ⟨⟨_, rfl, HU.out⟩, HP.out⟩
end Go.Proofs.YtannhpadoooedaaGreatDoor

/- row: Over. -/
namespace Go.Proofs.YtannhpadoooedaaGreatDoor
open Num
open Go.ChangeShapes Go.WideShapes Go.ChangeAt Go.RowKit
set_option linter.unusedVariables false
set_option linter.unusedSimpArgs false
attribute [local go_sem ↓] Go.wp_at_zero Go.wp_at_succ
/-- what Over answers where the divisor is not 0 -/
def OverPost (l : List Int) (c : Int) (w : World) (e : Ending) (w' : World) : Prop :=
  (((∃ j, j < l.length ∧ l.getD j 0 % c ≠ 0) ∧ e = .returned (.tuple #[.slice none 0 0, .int .i64 20])) ∨
   ((∀ j, j < l.length → l.getD j 0 % c = 0) ∧ ∃ u, e = .returned (.tuple #[u, .int .i64 0]) ∧ RowO IsInt 48 w.heap.size w' u (l.map fun x => x / c))) ∧ Below w.heap.size w w'
set_option maxRecDepth 100000 in
set_option maxHeartbeats 8000000 in
theorem rowOver_c (v vc : Value) (l : List Int) (c : Int) (k : Nat) (w : World) (hv : PRow 0 w v l) (hc : IsInt w vc c) (hl : l.length ≤ 1099511627775) (hb : ∀ j, Bd k (l.getD j 0)) (bc : Bd k c) (hk : k ≤ 17179869184) (h0 : c ≠ 0) :
    Calls Tryz.prog 142 #[v, vc] w (OverPost l c w) := by
  have sc := fun W (h : Below w.heap.size w W) => sign_c vc c W (hc.keep h)
  have HV := Lib.hid hv
  have HC := Lib.hid hc
  have HBD := Lib.hid (And.intro hb (And.intro bc h0))
  obtain ⟨sg, hsg, hsgE⟩ : ∃ s : Int, s ≠ 0 ∧ c.sign = s := ⟨_, (fun e => h0 (Int.sign_eq_zero_iff_zero.1 e)), rfl⟩
  rw [hsgE] at sc
  have hsb : (sg == 0) = false := by simpa using hsg
  clear hsgE hb bc h0 hsg
  obtain ⟨va, vcap, rfl, -⟩ := hv
  obtain ⟨n1, a1, cc1, l1, rfl, -⟩ := hc
  unfold iv at *
  have hB := Below.refl w.heap.size w
  go_enter Tryz.func142, Tryz.ntmps142
  go_wp2_with fail
  refine (sc _ (by repeat (first | exact Below.refl _ _ | exact hB | refine Below.drew ?_ | refine below_drewN ?_ _ | refine bset ?_ (by simp <;> omega) _ | refine bal ?_ _))).mono ?_
  rintro e w1 ⟨rfl, hb1⟩
  have c0 : w1.cell? ⟨w.heap.size, 0, none⟩ = some (.bool n1) := bkc hb1
  have zc0 := cell_lt c0
  have c1 : w1.cell? ⟨w.heap.size, 1, none⟩ = some (.slice a1 l1.length cc1) := bkc hb1
  have hB : Below w.heap.size w w1 := bthen (by repeat (first | exact Below.refl _ _ | exact hB | refine Below.drew ?_ | refine below_drewN ?_ _ | refine bset ?_ (by simp <;> omega) _ | refine bal ?_ _)) hb1
  have hz : w.heap.size ≤ w1.heap.size := hB.size
  clear sc
  have hb11 := Below.refl w1.heap.size w1
  go_wp2
  go_loopw [6, 17] (fun v x wr => ∃ j : Nat, j ≤ l.length ∧ x = .int .i64 j ∧ Hid (OwnF IsInt 48 w1 wr v j (fun i => l.getD i 0 / c)) ∧ Hid (∀ i, i < j → l.getD i 0 % c = 0)) (fun _ x _ => l.length - (intOf x).toNat)
  case atStart => exact ⟨0, Nat.zero_le _, rfl, Lib.hid (OwnF.nil _ _ _ (by repeat (first | exact Below.refl _ _ | exact hb11 | refine Below.drew ?_ | refine below_drewN ?_ _ | refine bset ?_ (by simp <;> omega) _ | refine bal ?_ _))), Lib.hid (fun i hi => by omega)⟩
  case round =>
    obtain ⟨j, hj, rfl, hF, hA⟩ := hrel
    have hbr := hF.out.bel
    obtain ⟨fa, fc, hfv⟩ : ∃ a c, _ = Value.slice a j c := by obtain ⟨a, c, h, _⟩ := hF.out.view; exact ⟨a, c, h⟩
    subst hfv
    have c0 := bkeep hbr c0
    have c1 := bkeep hbr c1
    have zcr := cell_lt c0
    have hB := bthen hB hbr
    by_cases hlt : j < l.length
    · have hltI : (j : Int) < (l.length : Int) := by omega
      obtain ⟨a', c', he, -, vr⟩ := (HV.out.keep lims_int hB).view
      obtain ⟨rfl, -, rfl⟩ := Value.slice.inj he
      obtain ⟨b, off, n2, a2, l2, cc2, rfl, d0, d1, hi⟩ := vr j hlt
      have hb2 := HBD.out.1 j
      have HSN := Lib.hid (show ∀ q z, z = l.getD j 0 / c → q < j + 1 → (fun i => if i = j then z else l.getD i 0 / c) q = l.getD q 0 / c from fun q z hz hq => by dsimp only; split; (subst_vars; rfl); rfl)
      have HAN := Lib.hid (show l.getD j 0 % c = 0 → ∀ i, i < j + 1 → l.getD i 0 % c = 0 from fun h i hi => by
        by_cases e : i = j
        · subst e; exact h
        · exact hA.out i (by omega))
      have HNO := Lib.hid (show l.getD j 0 % c ≠ 0 → ∃ j, j < l.length ∧ l.getD j 0 % c ≠ 0 from fun h => ⟨j, hlt, h⟩)
      obtain ⟨x, hx⟩ : ∃ x, l.getD j 0 = x := ⟨_, rfl⟩
      rw [hx] at hi hb2 HSN HAN HNO
      have dc := fun W (h : Below wr.heap.size wr W) => divmod_c (.agg #[.bool n2, .slice a2 l2 cc2]) (.agg #[.bool n1, .slice a1 l1.length cc1]) x c k W (hi.keep h) ((HC.out.keep hB).keep h) hb2 HBD.out.2.1 hk HBD.out.2.2
      obtain ⟨q, hq⟩ : ∃ q, x / c = q := ⟨_, rfl⟩
      obtain ⟨r, hr⟩ : ∃ r, x % c = r := ⟨_, rfl⟩
      rw [hq, hr] at dc
      rw [hq] at HSN
      rw [hr] at HAN HNO
      clear hx he vr hi hb2 hq hr
      have hBw := Below.refl wr.heap.size wr
      go_wp2_with fail
      refine (dc _ (by repeat (first | exact Below.refl _ _ | exact hBw | refine Below.drew ?_ | refine below_drewN ?_ _ | refine bset ?_ (by simp <;> omega) _ | refine bal ?_ _))).mono ?_
      rintro e w2 ⟨⟨u, v, rfl, hu, hv⟩, hb2⟩
      have hb2' : Below wr.heap.size wr w2 := bthen (by repeat (first | exact Below.refl _ _ | exact hBw | refine Below.drew ?_ | refine below_drewN ?_ _ | refine bset ?_ (by simp <;> omega) _ | refine bal ?_ _)) hb2
      have HU := Lib.hid hu
      have sx := fun W (h : Below w2.heap.size w2 W) => sign_c v _ W (hv.keep h)
      obtain ⟨nu, au, cu, lu, rfl, -⟩ := hu
      obtain ⟨nv, av, cv, lv, rfl, -⟩ := hv
      unfold iv at *
      have hBz := Below.refl w2.heap.size w2
      clear dc
      by_cases hr0 : r = 0
      · subst hr0
        have HAN' := Lib.hid (HAN.out rfl)
        rw [Int.sign_zero] at sx
        clear HNO HAN
        go_wp2_with fail
        refine (sx _ (by repeat (first | exact Below.refl _ _ | exact hBz | refine Below.drew ?_ | refine below_drewN ?_ _ | refine bset ?_ (by simp <;> omega) _ | refine bal ?_ _))).mono ?_
        rintro e w3 ⟨rfl, hb3⟩
        have hb3' : Below w2.heap.size w2 w3 := bthen (by repeat (first | exact Below.refl _ _ | exact hBz | refine Below.drew ?_ | refine below_drewN ?_ _ | refine bset ?_ (by simp <;> omega) _ | refine bal ?_ _)) hb3
        have q0 : w3.cell? ⟨w2.heap.size, 0, none⟩ = some (.bool nu) := bkeep hb3 (cell_alloc (cell_new rfl rfl) _)
        have q1 : w3.cell? ⟨w2.heap.size, 1, none⟩ = some (.slice au lu.length cu) := bkeep hb3 (cell_alloc (cell_new rfl rfl) _)
        have zq := cell_lt q0
        have hF3 := Lib.hid (hF.out.below lims_int (bthen hb2' hb3'))
        have HU3 := Lib.hid (HU.out.keep hb3')
        clear sx
        go_wp2_with (at_builtin; refine app_num elInt (by decide) lims_int (by rfl) (by rfl) hF3.out HU3.out (by rfl) (by rfl) (by omega) ?_)
        intro v' w8 hF8 _ _
        have HF8 := Lib.hid (hF8.congr' (fun i hi => HSN.out i _ rfl hi))
        clear hF8
        go_wp2
        exact ⟨⟨j + 1, by omega, by go_num, HF8, HAN'⟩, by simp [intOf]; omega⟩
      · have HNO' := Lib.hid (HNO.out hr0)
        obtain ⟨sv, hsv, hsvE⟩ : ∃ s : Int, s ≠ 0 ∧ r.sign = s := ⟨_, (fun e => hr0 (Int.sign_eq_zero_iff_zero.1 e)), rfl⟩
        rw [hsvE] at sx
        have hsb2 : (sv != 0) = true := by simpa using hsv
        clear hsvE HNO HAN hr0 hsv
        go_wp2_with fail
        refine (sx _ (by repeat (first | exact Below.refl _ _ | exact hBz | refine Below.drew ?_ | refine below_drewN ?_ _ | refine bset ?_ (by simp <;> omega) _ | refine bal ?_ _))).mono ?_
        rintro e w3 ⟨rfl, hb3⟩
        have hb3' : Below w2.heap.size w2 w3 := bthen (by repeat (first | exact Below.refl _ _ | exact hBz | refine Below.drew ?_ | refine below_drewN ?_ _ | refine bset ?_ (by simp <;> omega) _ | refine bal ?_ _)) hb3
        clear sx
        go_wp2
        go_ret2
        exact ⟨.inl ⟨HNO'.out, rfl⟩, bthen hB (bthen hb2' hb3')⟩
    · obtain rfl : j = l.length := by omega
      go_wp2
      go_ret2
      refine ⟨.inr ⟨hA.out, _, rfl, ?_⟩, hB⟩
      refine RowO.rebase (OwnF.rowO (w0 := w1) (l := l.map fun x => x / c) ?_) hz
      rw [List.length_map]
      exact hF.out.congr' (fun k hk => (map_getD (fun x => x / c) hk).symm)
end Go.Proofs.YtannhpadoooedaaGreatDoor

/- exact: how rows are calculated with; what an instruction does to rows (do). -/
namespace Go.Proofs.YtannhpadoooedaaGreatDoor
open Num
open Go.ChangeShapes Go.WideShapes Go.ChangeAt Go.RowKit
set_option linter.unusedVariables false
set_option linter.unusedSimpArgs false
attribute [local go_sem ↓] Go.wp_at_zero Go.wp_at_succ
theorem zip_getD {f : Int → Int → Int} {a b : List Int} {k : Nat} (h1 : k < a.length) (h2 : k < b.length) : (List.zipWith f a b).getD k 0 = f (a.getD k 0) (b.getD k 0) := by
  simp [List.getD_eq_getElem?_getD, List.getElem?_zipWith, h1, h2]
theorem stepR_map {i : Ins} {a b : List Int} (g : Int → Int) (h : ∀ k, k < a.length → opI i (a.getD k 0) (b.getD k 0) = some (g (a.getD k 0))) : stepR i a b = some (a.map g) :=
  stepR_ext (by simp) fun k hk => by rw [h k hk, map_getD g hk]
theorem stepR_zip {i : Ins} {a b : List Int} (g : Int → Int → Int) (he : a.length = b.length) (h : ∀ k, k < a.length → opI i (a.getD k 0) (b.getD k 0) = some (g (a.getD k 0) (b.getD k 0))) : stepR i a b = some (List.zipWith g a b) :=
  stepR_ext (by simp; omega) fun k hk => by rw [h k hk, zip_getD hk (by omega)]
theorem stepR_self {i : Ins} {a b : List Int} (h : ∀ k, k < a.length → opI i (a.getD k 0) (b.getD k 0) = some (a.getD k 0)) : stepR i a b = some a := stepR_ext rfl h
/-- a slice value's block -/
def rowBlk : Value → Option Nat
  | .slice (some p) _ _ => some p.block
  | _ => none
theorem rowBlk_len (a : Option Addr) (n c n' c' : Nat) : rowBlk (.slice a n c) = rowBlk (.slice a n' c') := by cases a <;> rfl
theorem rowO_blk {base q : Nat} {w : World} {v : Value} {l : List Int} (h : RowO IsInt 48 base w v l) (hq : rowBlk v = some q) : base ≤ q ∧ typOf w q = some 48 := by
  obtain ⟨xs, ⟨_, h1⟩, _⟩ := h
  rcases h1 with ⟨rfl, _⟩ | ⟨g, cap, cur, rfl, hg, hh, _⟩
  · simp [rowBlk] at hq
  · simp [rowBlk] at hq
    subst hq
    exact ⟨hg, by unfold typOf; rw [hh]⟩
/-- answers a row (that is ua, or lies in a block of its own) and true, or something and false -/
def AnsL (ua : Value) (z : Option (List Int)) (w : World) (e : Ending) (w' : World) : Prop :=
  (match z with
    | some r => ∃ v, e = .returned (.tuple #[v, .bool true]) ∧ PRow 0 w' v r ∧ (v = ua ∨ PRow w.heap.size w' v r)
    | none => ∃ a n c, e = .returned (.tuple #[.slice a n c, .bool false])) ∧ Below w.heap.size w w'
theorem ansL_some {ua : Value} {z : Option (List Int)} {x : List Int} {v : Value} {w w' : World} (h : z = some x) (hv : PRow w.heap.size w' v x) (hb : Below w.heap.size w w') : AnsL ua z w (.returned (.tuple #[v, .bool true])) w' := by
  subst h; exact ⟨⟨v, rfl, hv.rebase (Nat.zero_le _), .inr hv⟩, hb⟩
theorem ansL_self {ua : Value} {z : Option (List Int)} {x : List Int} {w w' : World} (h : z = some x) (hv : PRow 0 w' ua x) (hb : Below w.heap.size w w') : AnsL ua z w (.returned (.tuple #[ua, .bool true])) w' := by
  subst h; exact ⟨⟨ua, rfl, hv, .inl rfl⟩, hb⟩
theorem ansL_none {ua : Value} {z : Option (List Int)} {a : Option Addr} {n c : Nat} {w w' : World} (h : z = none) (hb : Below w.heap.size w w') : AnsL ua z w (.returned (.tuple #[.slice a n c, .bool false])) w' := by
  subst h; exact ⟨⟨a, n, c, rfl⟩, hb⟩
theorem ansL_b {ua : Value} {z : Option (List Int)} {x : List Int} {a : Option Addr} {n c : Nat} {b : Bool} {w w' : World} (h : (b = true → z = some x ∧ PRow w.heap.size w' (.slice a n c) x) ∧ (b = false → z = none)) (hb : Below w.heap.size w w') : AnsL ua z w (.returned (.tuple #[.slice a n c, .bool b])) w' := by
  cases b with
  | true => exact ansL_some (h.1 rfl).1 (h.1 rfl).2 hb
  | false => exact ansL_none (h.2 rfl) hb
theorem rowAdd_c' (la lb : List Int) (k : Nat) (w : World) (he : la.length = lb.length) (ba : ∀ j, Bd k (la.getD j 0)) (bb : ∀ j, Bd k (lb.getD j 0)) (hk : k ≤ 17179869184) :
    ∀ j W1 u1 u2, j < la.length → Below w.heap.size w W1 → IsInt W1 u1 (la.getD j 0) → IsInt W1 u2 (lb.getD j 0) → Calls Tryz.prog 102 (#[] ++ #[u1, u2] ++ #[]) W1 fun e w' => (∃ v, e = .returned v ∧ IsInt w' v ((List.zipWith (fun x y => x + y) la lb).getD j 0)) ∧ Below W1.heap.size W1 w' := by
  intro j W1 u1 u2 hj _ h1 h2
  have hc := addI_c u1 u2 (la.getD j 0) (lb.getD j 0) k W1 h1 h2 (ba j) (bb j) hk
  have hz : (List.zipWith (fun x y => x + y) la lb).getD j 0 = la.getD j 0 + lb.getD j 0 := zip_getD hj (by omega)
  rw [hz]
  exact hc
set_option maxRecDepth 100000 in
set_option maxHeartbeats 2000000 in
theorem rowAdd_c (va vb : Value) (la lb : List Int) (k : Nat) (w : World) (ha : PRow 0 w va la) (hb : PRow 0 w vb lb) (hl : la.length ≤ 1099511627775) (he : la.length = lb.length) (ba : ∀ j, Bd k (la.getD j 0)) (bb : ∀ j, Bd k (lb.getD j 0)) (hk : k ≤ 17179869184) :
    Calls Tryz.prog 137 #[va, vb] w fun e w' => (∃ u, e = .returned (.tuple #[u, .int .i64 0]) ∧ RowO IsInt 48 w.heap.size w' u (List.zipWith (fun x y => x + y) la lb)) ∧ Below w.heap.size w w' := by
  have eF : Enters Tryz.prog 102 := ens Tryz.func102 (by kernel_rfl) rfl
  have hz : (List.zipWith (fun x y => x + y) la lb).length = la.length := by rw [List.length_zipWith]; omega
  have bc := fun W (hB : Below w.heap.size w W) => both_yes va vb la lb (List.zipWith (fun x y => x + y) la lb) 102 #[] #[] W (ha.keep lims_int hB) (hb.keep lims_int hB) hl he hz eF (rowAdd_c' la lb k W he ba bb hk)
  have HBC := Lib.hid bc
  clear bc hz eF
  obtain ⟨aa, ca, rfl, -⟩ := ha
  obtain ⟨ab, cb, rfl, -⟩ := hb
  have hB := Below.refl w.heap.size w
  clear ba bb he
  go_enter Tryz.func137, Tryz.ntmps137
  go_wp2_with fail
  refine (HBC.out _ (by repeat (first | exact Below.refl _ _ | exact hB | refine Below.drew ?_ | refine below_drewN ?_ _ | refine bset ?_ (by simp <;> omega) _ | refine bal ?_ _))).mono ?_
  rintro e w1 ⟨⟨u, rfl, hu⟩, hb1⟩
  have HU := Lib.hid hu
  obtain ⟨ua, un, uc, rfl⟩ : ∃ a n c, u = Value.slice a n c := by obtain ⟨a, c, h⟩ := hu.ex; exact ⟨a, _, c, h⟩
  clear HBC hu
  go_wp2
  go_ret2
  exact ⟨⟨_, rfl, HU.out⟩, hb1⟩
set_option maxRecDepth 100000 in
set_option maxHeartbeats 2000000 in
theorem rowAddF_c (va vb : Value) (la lb : List Int) (k : Nat) (w : World) (ha : PRow 0 w va la) (hb : PRow 0 w vb lb) (hl : la.length ≤ 1099511627775) (he : la.length = lb.length) (ba : ∀ j, Bd k (la.getD j 0)) (bb : ∀ j, Bd k (lb.getD j 0)) (hk : k ≤ 17179869184) :
    Calls Tryz.prog 136 #[va, vb] w fun e w' => (∃ u, e = .returned u ∧ RowO IsInt 48 w.heap.size w' u (List.zipWith (fun x y => x + y) la lb)) ∧ Below w.heap.size w w' := by
  have bc := fun W (hB : Below w.heap.size w W) => rowAdd_c va vb la lb k W (ha.keep lims_int hB) (hb.keep lims_int hB) hl he ba bb hk
  obtain ⟨aa, ca, rfl, -⟩ := ha
  obtain ⟨ab, cb, rfl, -⟩ := hb
  have hB := Below.refl w.heap.size w
  clear ba bb he
  go_enter Tryz.func136, Tryz.ntmps136
  go_wp2_with fail
  refine (bc _ (by repeat (first | exact Below.refl _ _ | exact hB | refine Below.drew ?_ | refine below_drewN ?_ _ | refine bset ?_ (by simp <;> omega) _ | refine bal ?_ _))).mono ?_
  rintro e w1 ⟨⟨u, rfl, hu⟩, hb1⟩
  have HU := Lib.hid hu
  obtain ⟨ua, un, uc, rfl⟩ : ∃ a n c, u = Value.slice a n c := by obtain ⟨a, c, h⟩ := hu.ex; exact ⟨a, _, c, h⟩
  clear bc hu
  go_wp2
  go_ret
  exact ⟨⟨_, rfl, HU.out⟩, hb1⟩
theorem rowSub_c' (la lb : List Int) (k : Nat) (w : World) (he : la.length = lb.length) (ba : ∀ j, Bd k (la.getD j 0)) (bb : ∀ j, Bd k (lb.getD j 0)) (hk : k ≤ 17179869184) :
    ∀ j W1 u1 u2, j < la.length → Below w.heap.size w W1 → IsInt W1 u1 (la.getD j 0) → IsInt W1 u2 (lb.getD j 0) → Calls Tryz.prog 103 (#[] ++ #[u1, u2] ++ #[]) W1 fun e w' => (∃ v, e = .returned v ∧ IsInt w' v ((List.zipWith (fun x y => x - y) la lb).getD j 0)) ∧ Below W1.heap.size W1 w' := by
  intro j W1 u1 u2 hj _ h1 h2
  have hc := subI_c u1 u2 (la.getD j 0) (lb.getD j 0) k W1 h1 h2 (ba j) (bb j) hk
  have hz : (List.zipWith (fun x y => x - y) la lb).getD j 0 = la.getD j 0 - lb.getD j 0 := zip_getD hj (by omega)
  rw [hz]
  exact hc
set_option maxRecDepth 100000 in
set_option maxHeartbeats 2000000 in
theorem rowSub_c (va vb : Value) (la lb : List Int) (k : Nat) (w : World) (ha : PRow 0 w va la) (hb : PRow 0 w vb lb) (hl : la.length ≤ 1099511627775) (he : la.length = lb.length) (ba : ∀ j, Bd k (la.getD j 0)) (bb : ∀ j, Bd k (lb.getD j 0)) (hk : k ≤ 17179869184) :
    Calls Tryz.prog 139 #[va, vb] w fun e w' => (∃ u, e = .returned (.tuple #[u, .int .i64 0]) ∧ RowO IsInt 48 w.heap.size w' u (List.zipWith (fun x y => x - y) la lb)) ∧ Below w.heap.size w w' := by
  have eF : Enters Tryz.prog 103 := ens Tryz.func103 (by kernel_rfl) rfl
  have hz : (List.zipWith (fun x y => x - y) la lb).length = la.length := by rw [List.length_zipWith]; omega
  have bc := fun W (hB : Below w.heap.size w W) => both_yes va vb la lb (List.zipWith (fun x y => x - y) la lb) 103 #[] #[] W (ha.keep lims_int hB) (hb.keep lims_int hB) hl he hz eF (rowSub_c' la lb k W he ba bb hk)
  have HBC := Lib.hid bc
  clear bc hz eF
  obtain ⟨aa, ca, rfl, -⟩ := ha
  obtain ⟨ab, cb, rfl, -⟩ := hb
  have hB := Below.refl w.heap.size w
  clear ba bb he
  go_enter Tryz.func139, Tryz.ntmps139
  go_wp2_with fail
  refine (HBC.out _ (by repeat (first | exact Below.refl _ _ | exact hB | refine Below.drew ?_ | refine below_drewN ?_ _ | refine bset ?_ (by simp <;> omega) _ | refine bal ?_ _))).mono ?_
  rintro e w1 ⟨⟨u, rfl, hu⟩, hb1⟩
  have HU := Lib.hid hu
  obtain ⟨ua, un, uc, rfl⟩ : ∃ a n c, u = Value.slice a n c := by obtain ⟨a, c, h⟩ := hu.ex; exact ⟨a, _, c, h⟩
  clear HBC hu
  go_wp2
  go_ret2
  exact ⟨⟨_, rfl, HU.out⟩, hb1⟩
set_option maxRecDepth 100000 in
set_option maxHeartbeats 2000000 in
theorem rowSubF_c (va vb : Value) (la lb : List Int) (k : Nat) (w : World) (ha : PRow 0 w va la) (hb : PRow 0 w vb lb) (hl : la.length ≤ 1099511627775) (he : la.length = lb.length) (ba : ∀ j, Bd k (la.getD j 0)) (bb : ∀ j, Bd k (lb.getD j 0)) (hk : k ≤ 17179869184) :
    Calls Tryz.prog 138 #[va, vb] w fun e w' => (∃ u, e = .returned u ∧ RowO IsInt 48 w.heap.size w' u (List.zipWith (fun x y => x - y) la lb)) ∧ Below w.heap.size w w' := by
  have bc := fun W (hB : Below w.heap.size w W) => rowSub_c va vb la lb k W (ha.keep lims_int hB) (hb.keep lims_int hB) hl he ba bb hk
  obtain ⟨aa, ca, rfl, -⟩ := ha
  obtain ⟨ab, cb, rfl, -⟩ := hb
  have hB := Below.refl w.heap.size w
  clear ba bb he
  go_enter Tryz.func138, Tryz.ntmps138
  go_wp2_with fail
  refine (bc _ (by repeat (first | exact Below.refl _ _ | exact hB | refine Below.drew ?_ | refine below_drewN ?_ _ | refine bset ?_ (by simp <;> omega) _ | refine bal ?_ _))).mono ?_
  rintro e w1 ⟨⟨u, rfl, hu⟩, hb1⟩
  have HU := Lib.hid hu
  obtain ⟨ua, un, uc, rfl⟩ : ∃ a n c, u = Value.slice a n c := by obtain ⟨a, c, h⟩ := hu.ex; exact ⟨a, _, c, h⟩
  clear bc hu
  go_wp2
  go_ret
  exact ⟨⟨_, rfl, HU.out⟩, hb1⟩
set_option maxRecDepth 100000 in
set_option maxHeartbeats 2000000 in
theorem rowOverF_c (v vc : Value) (l : List Int) (c : Int) (k : Nat) (w : World) (hv : PRow 0 w v l) (hc : IsInt w vc c) (hl : l.length ≤ 1099511627775) (hb : ∀ j, Bd k (l.getD j 0)) (bc : Bd k c) (hk : k ≤ 17179869184) (h0 : c ≠ 0) :
    Calls Tryz.prog 141 #[v, vc] w fun e w' => (∃ a n cp b, e = .returned (.tuple #[.slice a n cp, .bool b]) ∧ Hid ((b = true → (∀ j, j < l.length → l.getD j 0 % c = 0) ∧ PRow w.heap.size w' (.slice a n cp) (l.map fun x => x / c)) ∧ (b = false → ∃ j, j < l.length ∧ l.getD j 0 % c ≠ 0))) ∧ Below w.heap.size w w' := by
  have oc := fun W (hB : Below w.heap.size w W) => rowOver_c v vc l c k W (hv.keep lims_int hB) (hc.keep hB) hl hb bc hk h0
  obtain ⟨aa, ca, rfl, -⟩ := hv
  obtain ⟨n1, a1, cc1, l1, rfl, -⟩ := hc
  unfold iv at *
  have hB := Below.refl w.heap.size w
  clear hb bc h0
  go_enter Tryz.func141, Tryz.ntmps141
  go_wp2_with fail
  refine (oc _ (by repeat (first | exact Below.refl _ _ | exact hB | refine Below.drew ?_ | refine below_drewN ?_ _ | refine bset ?_ (by simp <;> omega) _ | refine bal ?_ _))).mono ?_
  rintro e w1 ⟨h, hb1⟩
  have hB1 : Below w.heap.size w w1 := bthen (by repeat (first | exact Below.refl _ _ | exact hB | refine Below.drew ?_ | refine below_drewN ?_ _ | refine bset ?_ (by simp <;> omega) _ | refine bal ?_ _)) hb1
  clear oc
  rcases h with ⟨hno, rfl⟩ | ⟨hyes, u, rfl, hu⟩
  · have HNO := Lib.hid hno
    clear hno
    go_wp2
    go_ret2
    exact ⟨⟨_, _, _, _, rfl, Lib.hid ⟨(fun h => by cases h), fun _ => HNO.out⟩⟩, hB1⟩
  · have HY := Lib.hid (And.intro hyes (hu.row.rebase (show w.heap.size ≤ _ from (show Below w.heap.size w _ by repeat (first | exact Below.refl _ _ | exact hB | refine Below.drew ?_ | refine below_drewN ?_ _ | refine bset ?_ (by simp <;> omega) _ | refine bal ?_ _)).size)))
    obtain ⟨ua, un, uc, rfl⟩ : ∃ a n c, u = Value.slice a n c := by obtain ⟨a, c, h⟩ := hu.ex; exact ⟨a, _, c, h⟩
    clear hyes hu
    go_wp2
    go_ret2
    exact ⟨⟨_, _, _, _, rfl, Lib.hid ⟨(fun _ => HY.out), fun h => by cases h⟩⟩, hB1⟩
end Go.Proofs.YtannhpadoooedaaGreatDoor

/- exact: what an instruction does to rows (do at []integer.Int). -/
namespace Go.Proofs.YtannhpadoooedaaGreatDoor
open Num
open Go.ChangeShapes Go.WideShapes Go.ChangeAt Go.RowKit
set_option linter.unusedVariables false
set_option linter.unusedSimpArgs false
attribute [local go_sem ↓] Go.wp_at_zero Go.wp_at_succ
theorem opI_div (t a b c x y : Int) : opI ⟨6, t, a, b, c⟩ x y = if x % c = 0 then some (x / c) else none := by simp [opI]
theorem opI_shr (t a b x y : Int) (m : Nat) : opI ⟨8, t, a, b, (m : Int)⟩ x y = if x % 2 ^ m = 0 then some (x / 2 ^ m) else none := by simp [opI]
/-- the registers in a block that may be written -/
structure RegsP (base : Nat) (w : World) (rb : Nat) (g : Grid) : Prop where
  free : Free w rb
  ty : typOf w rb = some 29
  cell : ∀ k, k < g.length → ∃ u, w.cell? ⟨rb, k, none⟩ = some u ∧ PRow base w u (g.getD k [])
theorem RegsP.rebase {base base' rb : Nat} {w : World} {g : Grid} (h : RegsP base w rb g) (hb : base' ≤ base) : RegsP base' w rb g := ⟨h.free, h.ty, fun j hj => by obtain ⟨u, hu, hr⟩ := h.cell j hj; exact ⟨u, hu, hr.rebase hb⟩⟩
theorem RegsP.keep {base rb : Nat} {w w' : World} {g : Grid} (h : RegsP base w rb g) (k : Below w.heap.size w w') : RegsP base w' rb g :=
  ⟨h.free.keep k, typ_keep h.ty k, fun j hj => by obtain ⟨u, hu, hr⟩ := h.cell j hj; exact ⟨u, bkeep k hu, hr.keep lims_int k⟩⟩
/-- one of them is set -/
theorem RegsP.step {base rb nt : Nat} {w : World} {g : Grid} {v : Value} {r : List Int} (h : RegsP base w rb g) (hv : PRow base w v r) (ht : nt < g.length) : RegsP base (w.setCell ⟨rb, nt, none⟩ v) rb (g.set nt r) := by
  have hk : Kp (· ≠ 29) w (w.setCell ⟨rb, nt, none⟩ v) := (Kp.refl _ w).set (fun t ht => by rw [h.ty] at ht; cases ht; exact fun k => k rfl) _
  refine ⟨h.free.set _ _, by rw [typ_set]; exact h.ty, fun k hk' => ?_⟩
  rw [List.length_set] at hk'
  by_cases e : nt = k
  · subst e
    obtain ⟨u, hu, _⟩ := h.cell nt hk'
    refine ⟨v, cell_here hu _, ?_⟩
    have : (g.set nt r).getD nt [] = r := by simp [hk']
    rw [this]
    exact hv.kp lims_int hk (by decide) (by decide)
  · obtain ⟨u, hu, hr⟩ := h.cell k hk'
    refine ⟨u, cell_far hu (fun e2 => e (by cases e2; rfl)) _, ?_⟩
    have : (g.set nt r).getD k [] = g.getD k [] := by simp [List.getElem?_set_ne e]
    rw [this]
    exact hr.kp lims_int hk (by decide) (by decide)
/-- how rows are calculated with -/
def rowsV : Value := .agg #[.func (.func 135) #[] #[], .func (.func 136) #[] #[], .func (.func 138) #[] #[], .func (.func 140) #[] #[], .func (.func 141) #[] #[]]
theorem rowsV_c (w : World) : Calls Tryz.prog 86 #[] w fun e w' => e = .returned rowsV ∧ Below w.heap.size w w' := by
  have hB := Below.refl w.heap.size w
  go_enter Tryz.func86, Tryz.ntmps86
  go_wp2
  refine bodyPost_ret (v := rowsV) (by simp [rowsV, results, Tryz.results86, go_sem, *]) rfl ⟨rfl, ?_⟩
  repeat (first | exact Below.refl _ _ | exact hB | refine Below.drew ?_ | refine below_drewN ?_ _ | refine bset ?_ (by simp <;> omega) _ | refine bal ?_ _)
set_option maxRecDepth 100000 in
set_option maxHeartbeats 16000000 in
theorem doR_c (i : Ins) (k rb m : Nat) (g : Grid) (uz : Value) (w : World) {b0 : Nat} (hr : RegsP b0 w rb g) (hz : w.cell? ⟨rb, i.a.toNat, none⟩ = some uz) (hi : InsOk i g.length) (hR : Rect m g) (hm : m ≤ 1099511627775) (hb : BdG k g) (hk : k ≤ 4294967296) (hn : g.length ≤ 128) :
    Calls Tryz.prog 134 #[rowsV, .slice (some ⟨rb, 0, none⟩) g.length g.length, i.v] w (AnsL uz (stepR i (g.getD i.a.toNat []) (g.getD i.b.toNat [])) w) := by
  obtain ⟨o1, o2, t0, t1, a0, a1, b0, b1, hc⟩ := hi
  obtain ⟨op, it, ia, ib, ic⟩ := i
  dsimp only at o1 o2 t0 t1 a0 a1 b0 b1 hc ⊢
  obtain ⟨na, rfl⟩ : ∃ x : Nat, ia = x := ⟨ia.toNat, by omega⟩
  obtain ⟨nb, rfl⟩ : ∃ x : Nat, ib = x := ⟨ib.toNat, by omega⟩
  have a1' : na < g.length := by omega
  have b1' : nb < g.length := by omega
  rw [Int.toNat_natCast, Int.toNat_natCast]
  rw [Int.toNat_natCast] at hz
  obtain ⟨ua, x0, hx⟩ := hr.cell na a1'
  obtain rfl : ua = uz := Option.some.inj (x0.symm.trans hz)
  clear hz
  obtain ⟨ub, y0, hy⟩ := hr.cell nb b1'
  have HL := Lib.hid (And.intro (hR na a1') (hR nb b1'))
  have HBD := Lib.hid (And.intro (fun j => hb na j) (fun j => hb nb j))
  obtain ⟨A, hA⟩ : ∃ A, g.getD na [] = A := ⟨_, rfl⟩
  obtain ⟨B, hB'⟩ : ∃ B, g.getD nb [] = B := ⟨_, rfl⟩
  rw [hA] at HL HBD hx ⊢
  rw [hB'] at HL HBD hy ⊢
  obtain ⟨n, hnE⟩ : ∃ n, g.length = n := ⟨_, rfl⟩
  rw [hnE] at a1' b1' hn ⊢
  clear hA hB' hb hr hR t0 t1 a0 a1 b0 b1 hnE
  have HX := Lib.hid (hx.rebase (Nat.zero_le _))
  have HY := Lib.hid (hy.rebase (Nat.zero_le _))
  have HC := Lib.hid hc
  have hLA : A.length ≤ 1099511627775 := by rw [HL.out.1]; exact hm
  have HLA := Lib.hid hLA
  have HEQ := Lib.hid (show A.length = B.length by rw [HL.out.1, HL.out.2])
  have hga : (na : Int) < (n : Int) := by omega
  have hgb : (nb : Int) < (n : Int) := by omega
  obtain ⟨xa, xc, rfl, -⟩ := hx
  obtain ⟨ya, yc, rfl, -⟩ := hy
  clear hc hLA
  have zrb := cell_lt x0
  have hB := Below.refl w.heap.size w
  have hBw := Below.refl w.heap.size w
  unfold Ins.v rowsV
  dsimp only
  go_enter Tryz.func134, Tryz.ntmps134
  go_wp2
  refine wp_name fun w0 hW0 => ?_
  have f0 : w0.cell? ⟨w.heap.size, 0, none⟩ = some (.func (.func 135) #[] #[]) := by rw [hW0]; exact (by first | assumption | exact cell_new (by with_reducible first | rfl | (simp; done) | (simp; omega)) rfl | (repeat (first | assumption | exact cell_new (by with_reducible first | rfl | (simp; done) | (simp; omega)) rfl | refine cell_alloc ?_ _ | refine cell_drew ?_ | refine cell_drewN ?_ _ | refine cell_far ?_ (by simp) _ | (refine cell_far ?_ (by simp <;> omega) _))) | simp [go_sem, *])
  have zf0 := cell_lt f0
  have f1 : w0.cell? ⟨w.heap.size, 1, none⟩ = some (.func (.func 136) #[] #[]) := by rw [hW0]; exact (by first | assumption | exact cell_new (by with_reducible first | rfl | (simp; done) | (simp; omega)) rfl | (repeat (first | assumption | exact cell_new (by with_reducible first | rfl | (simp; done) | (simp; omega)) rfl | refine cell_alloc ?_ _ | refine cell_drew ?_ | refine cell_drewN ?_ _ | refine cell_far ?_ (by simp) _ | (refine cell_far ?_ (by simp <;> omega) _))) | simp [go_sem, *])
  have f2 : w0.cell? ⟨w.heap.size, 2, none⟩ = some (.func (.func 138) #[] #[]) := by rw [hW0]; exact (by first | assumption | exact cell_new (by with_reducible first | rfl | (simp; done) | (simp; omega)) rfl | (repeat (first | assumption | exact cell_new (by with_reducible first | rfl | (simp; done) | (simp; omega)) rfl | refine cell_alloc ?_ _ | refine cell_drew ?_ | refine cell_drewN ?_ _ | refine cell_far ?_ (by simp) _ | (refine cell_far ?_ (by simp <;> omega) _))) | simp [go_sem, *])
  have f3 : w0.cell? ⟨w.heap.size, 3, none⟩ = some (.func (.func 140) #[] #[]) := by rw [hW0]; exact (by first | assumption | exact cell_new (by with_reducible first | rfl | (simp; done) | (simp; omega)) rfl | (repeat (first | assumption | exact cell_new (by with_reducible first | rfl | (simp; done) | (simp; omega)) rfl | refine cell_alloc ?_ _ | refine cell_drew ?_ | refine cell_drewN ?_ _ | refine cell_far ?_ (by simp) _ | (refine cell_far ?_ (by simp <;> omega) _))) | simp [go_sem, *])
  have f4 : w0.cell? ⟨w.heap.size, 4, none⟩ = some (.func (.func 141) #[] #[]) := by rw [hW0]; exact (by first | assumption | exact cell_new (by with_reducible first | rfl | (simp; done) | (simp; omega)) rfl | (repeat (first | assumption | exact cell_new (by with_reducible first | rfl | (simp; done) | (simp; omega)) rfl | refine cell_alloc ?_ _ | refine cell_drew ?_ | refine cell_drewN ?_ _ | refine cell_far ?_ (by simp) _ | (refine cell_far ?_ (by simp <;> omega) _))) | simp [go_sem, *])
  have i0 : w0.cell? ⟨w.heap.size + 1, 0, none⟩ = some (.int .i64 op) := by rw [hW0]; exact (by first | assumption | exact cell_new (by with_reducible first | rfl | (simp; done) | (simp; omega)) rfl | (repeat (first | assumption | exact cell_new (by with_reducible first | rfl | (simp; done) | (simp; omega)) rfl | refine cell_alloc ?_ _ | refine cell_drew ?_ | refine cell_drewN ?_ _ | refine cell_far ?_ (by simp) _ | (refine cell_far ?_ (by simp <;> omega) _))) | simp [go_sem, *])
  have zi0 := cell_lt i0
  have i2 : w0.cell? ⟨w.heap.size + 1, 2, none⟩ = some (.int .i64 na) := by rw [hW0]; exact (by first | assumption | exact cell_new (by with_reducible first | rfl | (simp; done) | (simp; omega)) rfl | (repeat (first | assumption | exact cell_new (by with_reducible first | rfl | (simp; done) | (simp; omega)) rfl | refine cell_alloc ?_ _ | refine cell_drew ?_ | refine cell_drewN ?_ _ | refine cell_far ?_ (by simp) _ | (refine cell_far ?_ (by simp <;> omega) _))) | simp [go_sem, *])
  have i3 : w0.cell? ⟨w.heap.size + 1, 3, none⟩ = some (.int .i64 nb) := by rw [hW0]; exact (by first | assumption | exact cell_new (by with_reducible first | rfl | (simp; done) | (simp; omega)) rfl | (repeat (first | assumption | exact cell_new (by with_reducible first | rfl | (simp; done) | (simp; omega)) rfl | refine cell_alloc ?_ _ | refine cell_drew ?_ | refine cell_drewN ?_ _ | refine cell_far ?_ (by simp) _ | (refine cell_far ?_ (by simp <;> omega) _))) | simp [go_sem, *])
  have i4 : w0.cell? ⟨w.heap.size + 1, 4, none⟩ = some (.int .i64 ic) := by rw [hW0]; exact (by first | assumption | exact cell_new (by with_reducible first | rfl | (simp; done) | (simp; omega)) rfl | (repeat (first | assumption | exact cell_new (by with_reducible first | rfl | (simp; done) | (simp; omega)) rfl | refine cell_alloc ?_ _ | refine cell_drew ?_ | refine cell_drewN ?_ _ | refine cell_far ?_ (by simp) _ | (refine cell_far ?_ (by simp <;> omega) _))) | simp [go_sem, *])
  have hB : Below w.heap.size w w0 := by rw [hW0]; repeat (first | exact Below.refl _ _ | exact hB | refine Below.drew ?_ | refine below_drewN ?_ _ | refine bset ?_ (by simp <;> omega) _ | refine bal ?_ _)
  have hz : w.heap.size ≤ w0.heap.size := hB.size
  clear hW0
  have x0 := bkeep hB x0
  have y0 := bkeep hB y0
  have HS3 := Lib.hid (show ∀ W, Below w0.heap.size w0 W → W.cell? ⟨w.heap.size, 3, none⟩ = some (.func (.func 140) #[] #[]) ∧ W.cell? ⟨w.heap.size + 1, 4, none⟩ = some (.int .i64 ic) from fun W h => ⟨bkeep h f3, bkeep h i4⟩)
  have HS4 := Lib.hid (show ∀ W, Below w0.heap.size w0 W → W.cell? ⟨w.heap.size, 4, none⟩ = some (.func (.func 141) #[] #[]) ∧ W.cell? ⟨w.heap.size + 1, 4, none⟩ = some (.int .i64 ic) from fun W h => ⟨bkeep h f4, bkeep h i4⟩)
  have hBw := Below.refl w0.heap.size w0
  go_quiet (fail)
  have nx := fun W (h : Below w0.heap.size w0 W) => rowNeg_c _ A W (HX.out.keep lims_int (bthen hB h)) HLA.out
  have ax := fun W (h : Below w0.heap.size w0 W) => rowAddF_c _ _ A B k W (HX.out.keep lims_int (bthen hB h)) (HY.out.keep lims_int (bthen hB h)) HLA.out HEQ.out HBD.out.1 HBD.out.2 (by omega)
  have sx := fun W (h : Below w0.heap.size w0 W) => rowSubF_c _ _ A B k W (HX.out.keep lims_int (bthen hB h)) (HY.out.keep lims_int (bthen hB h)) HLA.out HEQ.out HBD.out.1 HBD.out.2 (by omega)
  have hop : op = 1 ∨ op = 2 ∨ op = 3 ∨ op = 4 ∨ op = 5 ∨ op = 6 ∨ op = 7 ∨ op = 8 := by omega
  clear o1 o2 x0 y0
  rcases hop with rfl | rfl | rfl | rfl | rfl | rfl | rfl | rfl
  · go_wp2
    go_ret2
    exact ansL_self (stepR_self fun j hj => by simp [opI]) (HX.out.keep lims_int (by repeat (first | exact Below.refl _ _ | exact hB | refine Below.drew ?_ | refine below_drewN ?_ _ | refine bset ?_ (by simp <;> omega) _ | refine bal ?_ _))) (by repeat (first | exact Below.refl _ _ | exact hB | refine Below.drew ?_ | refine below_drewN ?_ _ | refine bset ?_ (by simp <;> omega) _ | refine bal ?_ _))
  ·
    go_wp2_with fail
    refine (nx _ (by repeat (first | exact Below.refl _ _ | exact hBw | refine Below.drew ?_ | refine below_drewN ?_ _ | refine bset ?_ (by simp <;> omega) _ | refine bal ?_ _))).mono ?_
    rintro e w9 ⟨⟨u, rfl, hu⟩, hb9⟩
    have hB9 : Below w0.heap.size w0 w9 := bthen (by repeat (first | exact Below.refl _ _ | exact hBw | refine Below.drew ?_ | refine below_drewN ?_ _ | refine bset ?_ (by simp <;> omega) _ | refine bal ?_ _)) hb9
    have HU := Lib.hid (hu.row.rebase (show w.heap.size ≤ _ from (bthen hB (show Below w0.heap.size w0 _ by repeat (first | exact Below.refl _ _ | exact hBw | refine Below.drew ?_ | refine below_drewN ?_ _ | refine bset ?_ (by simp <;> omega) _ | refine bal ?_ _))).size))
    obtain ⟨ua, un, uc, rfl⟩ : ∃ a n c, u = Value.slice a n c := by obtain ⟨a, c, h⟩ := hu.ex; exact ⟨a, _, c, h⟩
    clear hu
    go_wp2
    go_ret2
    exact ansL_some (stepR_map (fun x => -x) fun j hj => by simp [opI]) HU.out (bthen hB hB9)
  ·
    go_wp2_with fail
    refine (ax _ (by repeat (first | exact Below.refl _ _ | exact hBw | refine Below.drew ?_ | refine below_drewN ?_ _ | refine bset ?_ (by simp <;> omega) _ | refine bal ?_ _))).mono ?_
    rintro e w9 ⟨⟨u, rfl, hu⟩, hb9⟩
    have hB9 : Below w0.heap.size w0 w9 := bthen (by repeat (first | exact Below.refl _ _ | exact hBw | refine Below.drew ?_ | refine below_drewN ?_ _ | refine bset ?_ (by simp <;> omega) _ | refine bal ?_ _)) hb9
    have HU := Lib.hid (hu.row.rebase (show w.heap.size ≤ _ from (bthen hB (show Below w0.heap.size w0 _ by repeat (first | exact Below.refl _ _ | exact hBw | refine Below.drew ?_ | refine below_drewN ?_ _ | refine bset ?_ (by simp <;> omega) _ | refine bal ?_ _))).size))
    obtain ⟨ua, un, uc, rfl⟩ : ∃ a n c, u = Value.slice a n c := by obtain ⟨a, c, h⟩ := hu.ex; exact ⟨a, _, c, h⟩
    clear hu
    go_wp2
    go_ret2
    exact ansL_some (stepR_zip (· + ·) HEQ.out fun j hj => by simp [opI]) HU.out (bthen hB hB9)
  ·
    go_wp2_with fail
    refine (sx _ (by repeat (first | exact Below.refl _ _ | exact hBw | refine Below.drew ?_ | refine below_drewN ?_ _ | refine bset ?_ (by simp <;> omega) _ | refine bal ?_ _))).mono ?_
    rintro e w9 ⟨⟨u, rfl, hu⟩, hb9⟩
    have hB9 : Below w0.heap.size w0 w9 := bthen (by repeat (first | exact Below.refl _ _ | exact hBw | refine Below.drew ?_ | refine below_drewN ?_ _ | refine bset ?_ (by simp <;> omega) _ | refine bal ?_ _)) hb9
    have HU := Lib.hid (hu.row.rebase (show w.heap.size ≤ _ from (bthen hB (show Below w0.heap.size w0 _ by repeat (first | exact Below.refl _ _ | exact hBw | refine Below.drew ?_ | refine below_drewN ?_ _ | refine bset ?_ (by simp <;> omega) _ | refine bal ?_ _))).size))
    obtain ⟨ua, un, uc, rfl⟩ : ∃ a n c, u = Value.slice a n c := by obtain ⟨a, c, h⟩ := hu.ex; exact ⟨a, _, c, h⟩
    clear hu
    go_wp2
    go_ret2
    exact ansL_some (stepR_zip (· - ·) HEQ.out fun j hj => by simp [opI]) HU.out (bthen hB hB9)
  · rw [constB_mul (.inl rfl)] at HC
    have hc := of_decide_eq_true HC.out
    have oc := fun W => of_c ic W (by omega) (by omega)
    have mc := fun vz W (q : Below w0.heap.size w0 W) (hz : IsInt W vz ic) => rowScale_c _ vz A ic k 10 W (HX.out.keep lims_int (bthen hB q)) hz HLA.out HBD.out.1 (const_bd hc.2.1 hc.2.2 (Nat.le_refl _)) (by omega) (by omega)
    clear nx ax sx
    go_wp2
    go_region_held3 (fun w' => w'.cell? ⟨w.heap.size, 3, none⟩ = some (.func (.func 140) #[] #[]) ∧ w'.cell? ⟨w.heap.size + 1, 4, none⟩ = some (.int .i64 ic))
      (first | (refine HS3.out _ ?_; (repeat (first | exact Below.refl _ _ | exact hBw | refine Below.drew ?_ | refine below_drewN ?_ _ | refine bset ?_ (by simp <;> omega) _ | refine bal ?_ _)); done) | fail)
      (first
        | (go_at_call 27; refine (oc _).mono ?_; rintro e w5 ⟨⟨v5, rfl, hi5⟩, hb5⟩; (have hBd : Below w0.heap.size w0 w5 := bthen (by repeat (first | exact Below.refl _ _ | exact hBw | refine Below.drew ?_ | refine below_drewN ?_ _ | refine bset ?_ (by simp <;> omega) _ | refine bal ?_ _)) hb5; clear hBw; have hBw := hBd; clear hBd); have HI5 := Lib.hid hi5; obtain ⟨n5, a5, c5, l5, rfl, -⟩ := hi5; unfold iv at *)
        | (go_at_call 140; refine (mc _ _ ?_ ?_).mono ?_; (repeat (first | exact Below.refl _ _ | exact hBw | refine Below.drew ?_ | refine below_drewN ?_ _ | refine bset ?_ (by simp <;> omega) _ | refine bal ?_ _)); (refine HI5.out.keep ?_; have hBz := Below.refl w5.heap.size w5; (repeat (first | exact Below.refl _ _ | exact hBz | refine Below.drew ?_ | refine below_drewN ?_ _ | refine bset ?_ (by simp <;> omega) _ | refine bal ?_ _))); rintro e w9 ⟨⟨u, rfl, hu⟩, hb9⟩; have hB9 : Below w0.heap.size w0 w9 := bthen (by repeat (first | exact Below.refl _ _ | exact hBw | refine Below.drew ?_ | refine below_drewN ?_ _ | refine bset ?_ (by simp <;> omega) _ | refine bal ?_ _)) hb9; have HSZ := Lib.hid (show w.heap.size ≤ w5.heap.size from (bthen hB (show Below w0.heap.size w0 w5 by repeat (first | exact Below.refl _ _ | exact hBw | refine Below.drew ?_ | refine below_drewN ?_ _ | refine bset ?_ (by simp <;> omega) _ | refine bal ?_ _))).size); (clear hBw; have hBw := hB9); have HU := Lib.hid hu)
        | fail)
    all_goals
      obtain ⟨ua, un, uc, rfl⟩ : ∃ a n c, u = Value.slice a n c := by obtain ⟨a, c, h⟩ := hu.ex; exact ⟨a, _, c, h⟩
      go_wp2
      go_ret2
      exact ansL_some (stepR_map (fun x => x * ic) fun j hj => by simp [opI]) (HU.out.row.rebase HSZ.out) (bthen hB hB9)
  · rw [constB_mul (.inr rfl)] at HC
    have hc := of_decide_eq_true HC.out
    have oc := fun W => of_c ic W (by omega) (by omega)
    have mc := fun vz W (q : Below w0.heap.size w0 W) (hz : IsInt W vz ic) => rowOverF_c _ vz A ic (k + 65) W (HX.out.keep lims_int (bthen hB q)) hz HLA.out (fun j => (HBD.out.1 j).mono (by omega)) (const_bd hc.2.1 hc.2.2 (by omega)) (by omega) hc.1
    clear nx ax sx
    go_wp2
    go_region_held3 (fun w' => w'.cell? ⟨w.heap.size, 4, none⟩ = some (.func (.func 141) #[] #[]) ∧ w'.cell? ⟨w.heap.size + 1, 4, none⟩ = some (.int .i64 ic))
      (first | (refine HS4.out _ ?_; (repeat (first | exact Below.refl _ _ | exact hBw | refine Below.drew ?_ | refine below_drewN ?_ _ | refine bset ?_ (by simp <;> omega) _ | refine bal ?_ _)); done) | fail)
      (first
        | (go_at_call 27; refine (oc _).mono ?_; rintro e w5 ⟨⟨v5, rfl, hi5⟩, hb5⟩; (have hBd : Below w0.heap.size w0 w5 := bthen (by repeat (first | exact Below.refl _ _ | exact hBw | refine Below.drew ?_ | refine below_drewN ?_ _ | refine bset ?_ (by simp <;> omega) _ | refine bal ?_ _)) hb5; clear hBw; have hBw := hBd; clear hBd); have HI5 := Lib.hid hi5; obtain ⟨n5, a5, c5, l5, rfl, -⟩ := hi5; unfold iv at *)
        | (go_at_call 141; refine (mc _ _ ?_ ?_).mono ?_; (repeat (first | exact Below.refl _ _ | exact hBw | refine Below.drew ?_ | refine below_drewN ?_ _ | refine bset ?_ (by simp <;> omega) _ | refine bal ?_ _)); (refine HI5.out.keep ?_; have hBz := Below.refl w5.heap.size w5; (repeat (first | exact Below.refl _ _ | exact hBz | refine Below.drew ?_ | refine below_drewN ?_ _ | refine bset ?_ (by simp <;> omega) _ | refine bal ?_ _))); rintro e w9 ⟨⟨a9, n9, c9, b9, rfl, hu⟩, hb9⟩; have hB9 : Below w0.heap.size w0 w9 := bthen (by repeat (first | exact Below.refl _ _ | exact hBw | refine Below.drew ?_ | refine below_drewN ?_ _ | refine bset ?_ (by simp <;> omega) _ | refine bal ?_ _)) hb9; have HSZ := Lib.hid (show w.heap.size ≤ w5.heap.size from (bthen hB (show Below w0.heap.size w0 w5 by repeat (first | exact Below.refl _ _ | exact hBw | refine Below.drew ?_ | refine below_drewN ?_ _ | refine bset ?_ (by simp <;> omega) _ | refine bal ?_ _))).size); (clear hBw; have hBw := hB9); have HU := Lib.hid hu)
        | fail)
    all_goals
      go_wp2
      go_ret2
      refine ansL_b (x := A.map fun x => x / ic) ⟨fun h => ⟨stepR_map (fun x => x / ic) fun j hj => ?_, (HU.out.out.1 h).2.rebase HSZ.out⟩, fun h => ?_⟩ (bthen hB hB9)
      · rw [opI_div, if_pos ((HU.out.out.1 h).1 j hj)]
      · obtain ⟨j, hj, hne⟩ := HU.out.out.2 h
        exact stepR_fail hj (by rw [opI_div, if_neg hne])
  · rw [constB_shift (.inl rfl)] at HC
    have hc := of_decide_eq_true HC.out
    obtain ⟨m', rfl⟩ : ∃ m : Nat, ic = m := ⟨ic.toNat, by omega⟩
    have oc := fun W => power_c m' W (by omega)
    have mc := fun vz W (q : Below w0.heap.size w0 W) (hz : IsInt W vz (2 ^ m')) => rowScale_c _ vz A (2 ^ m') k 65 W (HX.out.keep lims_int (bthen hB q)) hz HLA.out HBD.out.1 (pow2_bd (by omega)) (by omega) (by omega)
    clear nx ax sx
    go_wp2
    go_region_held3 (fun w' => w'.cell? ⟨w.heap.size, 3, none⟩ = some (.func (.func 140) #[] #[]) ∧ w'.cell? ⟨w.heap.size + 1, 4, none⟩ = some (.int .i64 (m' : Int)))
      (first | (refine HS3.out _ ?_; (repeat (first | exact Below.refl _ _ | exact hBw | refine Below.drew ?_ | refine below_drewN ?_ _ | refine bset ?_ (by simp <;> omega) _ | refine bal ?_ _)); done) | fail)
      (first
        | (go_at_call 155; refine (oc _).mono ?_; rintro e w5 ⟨⟨v5, rfl, hi5⟩, hb5⟩; (have hBd : Below w0.heap.size w0 w5 := bthen (by repeat (first | exact Below.refl _ _ | exact hBw | refine Below.drew ?_ | refine below_drewN ?_ _ | refine bset ?_ (by simp <;> omega) _ | refine bal ?_ _)) hb5; clear hBw; have hBw := hBd; clear hBd); have HI5 := Lib.hid hi5; obtain ⟨n5, a5, c5, l5, rfl, -⟩ := hi5; unfold iv at *)
        | (go_at_call 140; refine (mc _ _ ?_ ?_).mono ?_; (repeat (first | exact Below.refl _ _ | exact hBw | refine Below.drew ?_ | refine below_drewN ?_ _ | refine bset ?_ (by simp <;> omega) _ | refine bal ?_ _)); (refine HI5.out.keep ?_; have hBz := Below.refl w5.heap.size w5; (repeat (first | exact Below.refl _ _ | exact hBz | refine Below.drew ?_ | refine below_drewN ?_ _ | refine bset ?_ (by simp <;> omega) _ | refine bal ?_ _))); rintro e w9 ⟨⟨u, rfl, hu⟩, hb9⟩; have hB9 : Below w0.heap.size w0 w9 := bthen (by repeat (first | exact Below.refl _ _ | exact hBw | refine Below.drew ?_ | refine below_drewN ?_ _ | refine bset ?_ (by simp <;> omega) _ | refine bal ?_ _)) hb9; have HSZ := Lib.hid (show w.heap.size ≤ w5.heap.size from (bthen hB (show Below w0.heap.size w0 w5 by repeat (first | exact Below.refl _ _ | exact hBw | refine Below.drew ?_ | refine below_drewN ?_ _ | refine bset ?_ (by simp <;> omega) _ | refine bal ?_ _))).size); (clear hBw; have hBw := hB9); have HU := Lib.hid hu)
        | fail)
    all_goals
      obtain ⟨ua, un, uc, rfl⟩ : ∃ a n c, u = Value.slice a n c := by obtain ⟨a, c, h⟩ := hu.ex; exact ⟨a, _, c, h⟩
      go_wp2
      go_ret2
      exact ansL_some (stepR_map (fun x => x * 2 ^ m') fun j hj => by simp [opI]) (HU.out.row.rebase HSZ.out) (bthen hB hB9)
  · rw [constB_shift (.inr rfl)] at HC
    have hc := of_decide_eq_true HC.out
    obtain ⟨m', rfl⟩ : ∃ m : Nat, ic = m := ⟨ic.toNat, by omega⟩
    have oc := fun W => power_c m' W (by omega)
    have mc := fun vz W (q : Below w0.heap.size w0 W) (hz : IsInt W vz (2 ^ m')) => rowOverF_c _ vz A (2 ^ m') (k + 65) W (HX.out.keep lims_int (bthen hB q)) hz HLA.out (fun j => (HBD.out.1 j).mono (by omega)) (pow2_bd (by omega)) (by omega) (p2_ne m')
    clear nx ax sx
    go_wp2
    go_region_held3 (fun w' => w'.cell? ⟨w.heap.size, 4, none⟩ = some (.func (.func 141) #[] #[]) ∧ w'.cell? ⟨w.heap.size + 1, 4, none⟩ = some (.int .i64 (m' : Int)))
      (first | (refine HS4.out _ ?_; (repeat (first | exact Below.refl _ _ | exact hBw | refine Below.drew ?_ | refine below_drewN ?_ _ | refine bset ?_ (by simp <;> omega) _ | refine bal ?_ _)); done) | fail)
      (first
        | (go_at_call 155; refine (oc _).mono ?_; rintro e w5 ⟨⟨v5, rfl, hi5⟩, hb5⟩; (have hBd : Below w0.heap.size w0 w5 := bthen (by repeat (first | exact Below.refl _ _ | exact hBw | refine Below.drew ?_ | refine below_drewN ?_ _ | refine bset ?_ (by simp <;> omega) _ | refine bal ?_ _)) hb5; clear hBw; have hBw := hBd; clear hBd); have HI5 := Lib.hid hi5; obtain ⟨n5, a5, c5, l5, rfl, -⟩ := hi5; unfold iv at *)
        | (go_at_call 141; refine (mc _ _ ?_ ?_).mono ?_; (repeat (first | exact Below.refl _ _ | exact hBw | refine Below.drew ?_ | refine below_drewN ?_ _ | refine bset ?_ (by simp <;> omega) _ | refine bal ?_ _)); (refine HI5.out.keep ?_; have hBz := Below.refl w5.heap.size w5; (repeat (first | exact Below.refl _ _ | exact hBz | refine Below.drew ?_ | refine below_drewN ?_ _ | refine bset ?_ (by simp <;> omega) _ | refine bal ?_ _))); rintro e w9 ⟨⟨a9, n9, c9, b9, rfl, hu⟩, hb9⟩; have hB9 : Below w0.heap.size w0 w9 := bthen (by repeat (first | exact Below.refl _ _ | exact hBw | refine Below.drew ?_ | refine below_drewN ?_ _ | refine bset ?_ (by simp <;> omega) _ | refine bal ?_ _)) hb9; have HSZ := Lib.hid (show w.heap.size ≤ w5.heap.size from (bthen hB (show Below w0.heap.size w0 w5 by repeat (first | exact Below.refl _ _ | exact hBw | refine Below.drew ?_ | refine below_drewN ?_ _ | refine bset ?_ (by simp <;> omega) _ | refine bal ?_ _))).size); (clear hBw; have hBw := hB9); have HU := Lib.hid hu)
        | fail)
    all_goals
      go_wp2
      go_ret2
      refine ansL_b (x := A.map fun x => x / 2 ^ m') ⟨fun h => ⟨stepR_map (fun x => x / 2 ^ m') fun j hj => ?_, (HU.out.out.1 h).2.rebase HSZ.out⟩, fun h => ?_⟩ (bthen hB hB9)
      · rw [opI_shr, if_pos ((HU.out.out.1 h).1 j hj)]
      · obtain ⟨j, hj, hne⟩ := HU.out.out.2 h
        exact stepR_fail hj (by rw [opI_shr, if_neg hne])
end Go.Proofs.YtannhpadoooedaaGreatDoor

/- exact: Trace: what its iterator tells. -/
namespace Go.Proofs.YtannhpadoooedaaGreatDoor
open Num
open Go.ChangeShapes Go.WideShapes Go.ChangeAt Go.RowKit
set_option linter.unusedVariables false
set_option linter.unusedSimpArgs false
attribute [local go_sem ↓] Go.wp_at_zero Go.wp_at_succ
/-- what the iterator finds -/
structure TraceIn (n0 : Nat) (X0 : Nat → Prop) (pb xb : Nat) (ins regs : Int) (ca oa : Option Addr) (cc oc : Nat) (code : List Ins) (outs : List Int) (v : Value) (l : List Int) (W : World) : Prop where
  p0 : W.cell? ⟨pb, 0, none⟩ = some (.int .i64 ins)
  p1 : W.cell? ⟨pb, 1, none⟩ = some (.int .i64 regs)
  p2 : W.cell? ⟨pb, 2, none⟩ = some (.slice ca code.length cc)
  p3 : W.cell? ⟨pb, 3, none⟩ = some (.slice oa outs.length oc)
  x0 : W.cell? ⟨xb, 0, none⟩ = some v
  hc : InsV W ca cc code
  ho : IntsV W oa oc outs
  hv : PRow 0 W v l
  lt : ∀ q, X0 q → q < n0
  le : n0 ≤ W.heap.size
  ty : ∀ q, X0 q → typOf W q = some 3
  nc : ∀ b off, ca = some ⟨b, off, none⟩ → 0 < code.length → ¬ X0 b
section
variable {n0 : Nat} {X0 : Nat → Prop} {pb xb : Nat} {ins regs : Int} {ca oa : Option Addr} {cc oc : Nat} {code : List Ins} {outs : List Int} {v : Value} {l : List Int} {W W' : World}
theorem TraceIn.keep (h : TraceIn n0 X0 pb xb ins regs ca oa cc oc code outs v l W) (k : Below W.heap.size W W') : TraceIn n0 X0 pb xb ins regs ca oa cc oc code outs v l W' :=
  ⟨bkeep k h.p0, bkeep k h.p1, bkeep k h.p2, bkeep k h.p3, bkeep k h.x0, h.hc.keep k, h.ho.keep k, h.hv.keep lims_int k, h.lt, Nat.le_trans h.le k.size, fun q hq => typ_keep (h.ty q hq) k, h.nc⟩
theorem others_of_below (h : Below W.heap.size W W') : KeepsOthers W W' := out_others (Out.of_below (fun _ => False) h) fun _ h => h.elim
end
end Go.Proofs.YtannhpadoooedaaGreatDoor

/- vm's laws: are blocks of the program those of the reference? -/
namespace Go.Proofs.YtannhpadoooedaaGreatDoor
open Num
open Go.ChangeShapes Go.WideShapes Go.ChangeAt Go.RowKit
set_option linter.unusedVariables false
set_option linter.unusedSimpArgs false
attribute [local go_sem ↓] Go.wp_at_zero Go.wp_at_succ
end Go.Proofs.YtannhpadoooedaaGreatDoor

/- vm's laws: works. -/
namespace Go.Proofs.YtannhpadoooedaaGreatDoor
open Num
open Go.ChangeShapes Go.WideShapes Go.ChangeAt Go.RowKit
set_option linter.unusedVariables false
set_option linter.unusedSimpArgs false
theorem bdG_i64 {g : Grid} (h : ∀ k, k < g.length → ∀ j, j < (g.getD k []).length → I64 ((g.getD k []).getD j 0)) : BdG 64 g := by
  intro i j
  by_cases hi : i < g.length
  · by_cases hj : j < (g.getD i []).length
    · have := h i hi j hj
      unfold I64 at this; unfold Bd; omega
    · rw [List.getD_eq_getElem?_getD (l := g.getD i []), List.getElem?_eq_none (by omega)]; exact bd_zero
  · rw [List.getD_eq_getElem?_getD (l := g), List.getElem?_eq_none (by omega)]
    simp [bd_zero]
end Go.Proofs.YtannhpadoooedaaGreatDoor

/- vm's laws: works answers true. -/
namespace Go.Proofs.YtannhpadoooedaaGreatDoor
open Num
open Go.ChangeShapes Go.WideShapes Go.ChangeAt Go.RowKit
set_option linter.unusedVariables false
set_option linter.unusedSimpArgs false
end Go.Proofs.YtannhpadoooedaaGreatDoor

/- vm's laws: a program and rows that came in; what Run's and New's results say. -/
namespace Go.Proofs.YtannhpadoooedaaGreatDoor
open Num
open Go.ChangeShapes Go.WideShapes Go.ChangeAt Go.RowKit
set_option linter.unusedVariables false
set_option linter.unusedSimpArgs false
theorem GridI.bd {w : World} {v : Value} {g : Grid} (h : GridI w v g) : BdG 64 g := by
  obtain ⟨a, c, _, h2⟩ := h
  refine bdG_i64 fun k hk j hj => ?_
  obtain ⟨b, off, u, _, _, hr⟩ := h2 k hk
  obtain ⟨a', c', _, h3⟩ := hr
  obtain ⟨_, _, _, _, h4⟩ := h3 j hj
  exact h4
theorem outsG_bd {k : Nat} {h : Grid} (hb : BdG k h) (outs : List Int) : BdG k (outsG outs h) := by
  intro i j
  unfold outsG
  rw [List.getD_eq_getElem?_getD (l := List.map _ _), List.getElem?_map]
  cases outs[i]? with
  | none => simp [bd_zero]
  | some o => exact hb _ j
theorem outsG_len {m : Nat} {h : Grid} (hr : Rect m h) {outs : List Int} (ho : ∀ k, k < outs.length → 0 ≤ outs.getD k 0 ∧ outs.getD k 0 < h.length) : ∀ j (hj : j < (outsG outs h).length), (outsG outs h)[j].length = m := by
  intro j hj
  have hj2 : j < outs.length := by simpa [outsG] using hj
  obtain ⟨h1, h2⟩ := ho j hj2
  have h3 := hr (outs.getD j 0).toNat (by omega)
  have e : outs.getD j 0 = outs[j] := by simp [hj2]
  rw [e] at h3
  simpa [outsG] using h3
/-- what Run's results say -/
def RunRes (ins regs : Int) (code : List Ins) (outs : List Int) (g : Grid) (base : Nat) (w' : World) (ov : Value) (n : Nat) (s : Int) : Prop :=
  (¬ ProgOk ins regs code outs ∧ ov = .slice none 0 0 ∧ n = 0 ∧ s = 80) ∨
  (ProgOk ins regs code outs ∧ ¬ FitsG ins g ∧ ov = .slice none 0 0 ∧ n = 0 ∧ s = 5) ∨
  (ProgOk ins regs code outs ∧ FitsG ins g ∧ n < code.length ∧ (∃ h, after code (startG g regs.toNat (g.getD 0 []).length) n = some h) ∧ after code (startG g regs.toNat (g.getD 0 []).length) (n + 1) = none ∧ ov = .slice none 0 0 ∧ s = 20) ∨
  (ProgOk ins regs code outs ∧ FitsG ins g ∧ n = code.length ∧ s = 0 ∧ ∃ h, after code (startG g regs.toNat (g.getD 0 []).length) code.length = some h ∧ IsL 29 (RowW base) base w' ov (outsG outs h))
theorem RunRes.keep {ins regs : Int} {code : List Ins} {outs : List Int} {g : Grid} {base : Nat} {w w' : World} {ov : Value} {n : Nat} {s : Int} (h : RunRes ins regs code outs g base w ov n s) (hb : Below w.heap.size w w') : RunRes ins regs code outs g base w' ov n s := by
  rcases h with h | h | h | ⟨h1, h2, h3, h4, h, h5, h6⟩
  · exact .inl h
  · exact .inr (.inl h)
  · exact .inr (.inr (.inl h))
  · exact .inr (.inr (.inr ⟨h1, h2, h3, h4, h, h5, h6.keep (prs_rowO lims_int _ _) hb⟩))
end Go.Proofs.YtannhpadoooedaaGreatDoor

