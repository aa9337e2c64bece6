/- Texts of this seat, laid together: RtA, RtB, Wo, Wi, Wp. Each opens with its own remark, which says what it proves, and under which conditions. -/
import Derived.Test.YtdllbdfchloijaaGreatDoorE16
import Derived.Test.YtdllbdfchloijaaGreatDoorE24
import Derived.Deep.DrawnRows
import Derived.Deep.RegionLaw
import Derived.Test.YtdllbdfchloijaaGreatDoorE23
import Derived.Test.YtdllbdfchloijaaGreatDoorE17
import Derived.SizedLaws
import Derived.Test.YtdllbdfchloijaaGreatDoorE01
set_option linter.unusedVariables false
set_option linter.unusedSimpArgs false
/- The reference's rows: Combine, Add, Sub, Scale, Zero. -/
namespace Go.Proofs.YtdllbdfchloijaaGreatDoor
open Num
open Go.ChangeShapes Go.WideShapes Go.ChangeAt Go.RowKit
set_option linter.unusedVariables false
set_option linter.unusedSimpArgs false
attribute [local go_sem ↓] Go.wp_at_zero Go.wp_at_succ
theorem RowO.makeRef (w : World) (n : Nat) (hn : n ≤ maxLen) : RowO IsRef 54 w.heap.size (w.alloc (.cells (zcel n) 54)) (.slice (some ⟨w.heap.size, 0, none⟩) n n) (List.replicate n 0) := by
  have hs : (zcel n).size = n * 2 := by simp [zcel, size_madeCells]
  have hl : (zcel n).toList.length = n * 2 := by rw [Array.length_toList, hs]
  refine ⟨(zcel n).toList, ⟨by rw [List.length_replicate]; exact hl, .inr ⟨w.heap.size, n, zcel n, by rw [List.length_replicate], Nat.le_refl _, (MapKept.heap_alloc w _).1, by rw [List.length_replicate]; exact Nat.le_refl _, hn, hs, ?_⟩⟩, fun k hk => ?_⟩
  · rw [List.length_replicate, ← hl, List.take_length]
  · rw [List.length_replicate] at hk
    obtain ⟨h1, h2⟩ := zcel_at hk
    refine ⟨false, none, 0, 0, by rw [Array.getElem?_toList]; exact h1, by rw [Array.getElem?_toList]; exact h2, ?_⟩
    have : (List.replicate n (0 : Int)).getD k 0 = 0 := by simp [hk]
    rw [this]; exact isRef_zero _
abbrev RowQ (base : Nat) := RowO IsRef 54 base
set_option maxRecDepth 100000 in
set_option maxHeartbeats 8000000 in
theorem rcomb_c (vc vd va vb : Value) (c d : Int) (la lb lz : List Int) (k m : Nat) (w : World) (hc : IsRef w vc c) (hd : IsRef w vd d) (ha : RRow 0 w va la) (hb : RRow 0 w vb lb) (hl : la.length ≤ 1099511627775) (hle : la.length ≤ lb.length)
    (ba : ∀ j, Bd k (la.getD j 0)) (bb : ∀ j, Bd k (lb.getD j 0)) (bc : Bd m c) (bd : Bd m d) (hk : k + m ≤ 17179869184) (hz : lz.length = la.length) (hzz : ∀ j, j < la.length → lz.getD j 0 = c * la.getD j 0 + d * lb.getD j 0) :
    Calls Tryz.prog 144 #[vc, va, vd, vb] w fun e w' => (∃ u, e = .returned u ∧ RowQ w.heap.size w' u lz) ∧ Below w.heap.size w w' := by
  have HC := Lib.hid (And.intro hc hd)
  have HA := Lib.hid ha
  have HBB := Lib.hid hb
  have HBD := Lib.hid (And.intro ba (And.intro bb (And.intro bc bd)))
  have HZ := Lib.hid (And.intro hz hzz)
  obtain ⟨aa, ca, rfl, -⟩ := ha
  obtain ⟨ab, cb, rfl, -⟩ := hb
  obtain ⟨n1, a1, c1, l1, rfl, -⟩ := hc
  obtain ⟨n2, a2, c2, l2, rfl, -⟩ := hd
  unfold iv at *
  clear ba bb bc bd hz hzz
  have hB := Below.refl w.heap.size w
  go_enter Tryz.func144, Tryz.ntmps144
  go_wp2
  refine wp_name fun w0 hW0 => ?_
  have x0 : w0.cell? ⟨w.heap.size, 0, none⟩ = some (.bool n1) := by rw [hW0]; exact (by first | assumption | exact cell_new (by with_reducible first | rfl | (simp; done) | (simp; omega)) rfl | (repeat (first | assumption | exact cell_new (by with_reducible first | rfl | (simp; done) | (simp; omega)) rfl | refine cell_alloc ?_ _ | refine cell_drew ?_ | refine cell_drewN ?_ _ | refine cell_far ?_ (by simp) _ | (refine cell_far ?_ (by simp <;> omega) _))) | simp [go_sem, *])
  have zx0 := cell_lt x0
  have x1 : w0.cell? ⟨w.heap.size, 1, none⟩ = some (.slice a1 l1.length c1) := by rw [hW0]; exact (by first | assumption | exact cell_new (by with_reducible first | rfl | (simp; done) | (simp; omega)) rfl | (repeat (first | assumption | exact cell_new (by with_reducible first | rfl | (simp; done) | (simp; omega)) rfl | refine cell_alloc ?_ _ | refine cell_drew ?_ | refine cell_drewN ?_ _ | refine cell_far ?_ (by simp) _ | (refine cell_far ?_ (by simp <;> omega) _))) | simp [go_sem, *])
  have y0 : w0.cell? ⟨w.heap.size + 1, 0, none⟩ = some (.bool n2) := by rw [hW0]; exact (by first | assumption | exact cell_new (by with_reducible first | rfl | (simp; done) | (simp; omega)) rfl | (repeat (first | assumption | exact cell_new (by with_reducible first | rfl | (simp; done) | (simp; omega)) rfl | refine cell_alloc ?_ _ | refine cell_drew ?_ | refine cell_drewN ?_ _ | refine cell_far ?_ (by simp) _ | (refine cell_far ?_ (by simp <;> omega) _))) | simp [go_sem, *])
  have zy0 := cell_lt y0
  have y1 : w0.cell? ⟨w.heap.size + 1, 1, none⟩ = some (.slice a2 l2.length c2) := by rw [hW0]; exact (by first | assumption | exact cell_new (by with_reducible first | rfl | (simp; done) | (simp; omega)) rfl | (repeat (first | assumption | exact cell_new (by with_reducible first | rfl | (simp; done) | (simp; omega)) rfl | refine cell_alloc ?_ _ | refine cell_drew ?_ | refine cell_drewN ?_ _ | refine cell_far ?_ (by simp) _ | (refine cell_far ?_ (by simp <;> omega) _))) | simp [go_sem, *])
  have hB : Below w.heap.size w w0 := by rw [hW0]; repeat (first | exact Below.refl _ _ | exact hB | refine Below.drew ?_ | refine below_drewN ?_ _ | refine bset ?_ (by simp <;> omega) _ | refine bal ?_ _)
  have hz : w.heap.size ≤ w0.heap.size := hB.size
  clear hW0
  have hz0 : w.heap.size < w0.heap.size := zx0
  have hz1 : w.heap.size + 1 < w0.heap.size := zy0
  have HP := Lib.hid (show ∀ W, Below w0.heap.size w0 W → W.cell? ⟨w.heap.size, 0, none⟩ = some (.bool n1) ∧ W.cell? ⟨w.heap.size, 1, none⟩ = some (.slice a1 l1.length c1) ∧ W.cell? ⟨w.heap.size + 1, 0, none⟩ = some (.bool n2) ∧ W.cell? ⟨w.heap.size + 1, 1, none⟩ = some (.slice a2 l2.length c2) from fun W h => ⟨bkeep h x0, bkeep h x1, bkeep h y0, bkeep h y1⟩)
  clear x0 x1 y0 y1
  go_loopw [9, 10] (fun v x wr => ∃ j : Nat, j ≤ la.length ∧ x = .int .i64 j ∧ Hid (OwnF IsRef 54 w0 wr v j (fun i => lz.getD i 0))) (fun _ x _ => la.length - (intOf x).toNat)
  case atStart => exact ⟨0, Nat.zero_le _, rfl, Lib.hid (OwnF.nil _ _ _ (Below.refl _ _))⟩
  case round =>
    obtain ⟨j, hj, rfl, hF⟩ := hrel
    have hbr := hF.out.bel
    have hBr := bthen hB hbr
    obtain ⟨fa, fc, hfv⟩ : ∃ a c, _ = Value.slice a j c := by obtain ⟨a, c, h, _⟩ := hF.out.view; exact ⟨a, c, h⟩
    subst hfv
    by_cases hlt : j < la.length
    · have hltI : (j : Int) < (la.length : Int) := by omega
      have hltJ : (j : Int) < (lb.length : Int) := by omega
      obtain ⟨a', c', he, -, vr⟩ := HA.out.view
      obtain ⟨rfl, -, rfl⟩ := Value.slice.inj he
      obtain ⟨b', d', he2, -, vs⟩ := HBB.out.view
      obtain ⟨rfl, -, rfl⟩ := Value.slice.inj he2
      obtain ⟨rb, ro, n3, a3, l3, c3, rfl, r0, r1, hi⟩ := vr j hlt
      obtain ⟨sb, so, n4, a4, l4, c4, rfl, s0, s1, hi2⟩ := vs j (by omega)
      have m1 := fun W (q : Below w0.heap.size w0 W) => rmul_c _ _ c (la.getD j 0) m k W (HC.out.1.keep (bthen hB q)) (hi.keep (bthen hB q)) HBD.out.2.2.1 (HBD.out.1 j) (by omega) (by omega)
      have m2 := fun W (q : Below w0.heap.size w0 W) => rmul_c _ _ d (lb.getD j 0) m k W (HC.out.2.keep (bthen hB q)) (hi2.keep (bthen hB q)) HBD.out.2.2.2 (HBD.out.2.1 j) (by omega) (by omega)
      have ad := fun v5 v6 W h5 h6 => radd_c v5 v6 (c * la.getD j 0) (d * lb.getD j 0) (m + k) W h5 h6 (HBD.out.2.2.1.mul (HBD.out.1 j)) (HBD.out.2.2.2.mul (HBD.out.2.1 j)) (by omega)
      rw [← HZ.out.2 j hlt] at ad
      have HAJ := Lib.hid (snoc_fun lz j (by rw [HZ.out.1]; exact hlt))
      obtain ⟨z, hz⟩ : ∃ z, lz.getD j 0 = z := ⟨_, rfl⟩
      obtain ⟨p, hp⟩ : ∃ p, c * la.getD j 0 = p := ⟨_, rfl⟩
      obtain ⟨q, hq⟩ : ∃ q, d * lb.getD j 0 = q := ⟨_, rfl⟩
      rw [hz] at ad HAJ
      rw [hp] at ad m1
      rw [hq] at ad m2
      have HS := Lib.hid (show ∀ W, Below w0.heap.size w0 W → W.cell? ⟨w.heap.size, 0, none⟩ = some (.bool n1) ∧ W.cell? ⟨w.heap.size, 1, none⟩ = some (.slice a1 l1.length c1) ∧ W.cell? ⟨w.heap.size + 1, 0, none⟩ = some (.bool n2) ∧ W.cell? ⟨w.heap.size + 1, 1, none⟩ = some (.slice a2 l2.length c2) ∧ W.cell? ⟨rb, ro + j * 2, none⟩ = some (.bool n3) ∧ W.cell? ⟨rb, ro + j * 2 + 1, none⟩ = some (.slice a3 l3 c3) ∧ W.cell? ⟨sb, so + j * 2, none⟩ = some (.bool n4) ∧ W.cell? ⟨sb, so + j * 2 + 1, none⟩ = some (.slice a4 l4 c4) from fun W h => ⟨(HP.out W h).1, (HP.out W h).2.1, (HP.out W h).2.2.1, (HP.out W h).2.2.2, bkeep (bthen hB h) r0, bkeep (bthen hB h) r1, bkeep (bthen hB h) s0, bkeep (bthen hB h) s1⟩)
      have hBc := hbr
      obtain ⟨q1, q2, q3, q4, q5, q6, q7, q8⟩ := HS.out wr hBc
      have zz1 := cell_lt q1
      have zz3 := cell_lt q3
      have zz5 := cell_lt q5
      have zz7 := cell_lt q7
      have HF0 := Lib.hid (hF.out.below lims_ref (Below.refl _ _).drew)
      clear hi hi2 r0 r1 s0 s1 vr vs he he2 hz hp hq
      go_wp2
      go_region_held3 (fun w' => w'.cell? ⟨w.heap.size, 0, none⟩ = some (.bool n1) ∧ w'.cell? ⟨w.heap.size, 1, none⟩ = some (.slice a1 l1.length c1) ∧ w'.cell? ⟨w.heap.size + 1, 0, none⟩ = some (.bool n2) ∧ w'.cell? ⟨w.heap.size + 1, 1, none⟩ = some (.slice a2 l2.length c2) ∧ w'.cell? ⟨rb, ro + j * 2, none⟩ = some (.bool n3) ∧ w'.cell? ⟨rb, ro + j * 2 + 1, none⟩ = some (.slice a3 l3 c3) ∧ w'.cell? ⟨sb, so + j * 2, none⟩ = some (.bool n4) ∧ w'.cell? ⟨sb, so + j * 2 + 1, none⟩ = some (.slice a4 l4 c4))
        (first | (refine HS.out _ ?_; (repeat (first | exact Below.refl _ _ | exact hBc | refine Below.drew ?_ | refine below_drewN ?_ _ | refine bset ?_ (by simp <;> omega) _ | refine bal ?_ _)); done) | fail)
        (first
          | (refine step_num0 elRw (by decide) lims_ref (by rfl) (by rfl) HF7.out HV7.out (by rfl) (by rfl) (by omega) ?_; intro v' w8 hF8 _ _; have HF8 := Lib.hid (hF8.congr' HAJ.out); (clear hBc; have hBc := hF8.bel); clear hF8)
          | (go_at_call 53; (with_reducible refine (m1 _ ?_).mono ?_); (repeat (first | exact Below.refl _ _ | exact hBc | refine Below.drew ?_ | refine below_drewN ?_ _ | refine bset ?_ (by simp <;> omega) _ | refine bal ?_ _)); rintro e w5 ⟨⟨v5, rfl, hv5⟩, hb5⟩; (have hBd : Below w0.heap.size w0 w5 := bthen (by repeat (first | exact Below.refl _ _ | exact hBc | refine Below.drew ?_ | refine below_drewN ?_ _ | refine bset ?_ (by simp <;> omega) _ | refine bal ?_ _)) hb5; clear hBc; have hBc := hBd; clear hBd); have HF5 := Lib.hid (HF0.out.below lims_ref hb5); have HV5 := Lib.hid hv5; have hx5 := Below.refl w5.heap.size w5; obtain ⟨n5, a5, c5, l5, rfl, -⟩ := hv5; unfold iv at *)
          | (go_at_call 53; (with_reducible refine (m2 _ ?_).mono ?_); (repeat (first | exact Below.refl _ _ | exact hBc | refine Below.drew ?_ | refine below_drewN ?_ _ | refine bset ?_ (by simp <;> omega) _ | refine bal ?_ _)); rintro e w6 ⟨⟨v6, rfl, hv6⟩, hb6⟩; (have hb56 : Below w5.heap.size w5 w6 := bthen (by repeat (first | exact Below.refl _ _ | exact hx5 | refine Below.drew ?_ | refine below_drewN ?_ _ | refine bset ?_ (by simp <;> omega) _ | refine bal ?_ _)) hb6); have HV56 := Lib.hid (HV5.out.keep hb56); have HF6 := Lib.hid (HF5.out.below lims_ref hb56); (have hBd : Below w0.heap.size w0 w6 := bthen (by repeat (first | exact Below.refl _ _ | exact hBc | refine Below.drew ?_ | refine below_drewN ?_ _ | refine bset ?_ (by simp <;> omega) _ | refine bal ?_ _)) hb6; clear hBc; have hBc := hBd; clear hBd); have HV6 := Lib.hid hv6; have hx6 := Below.refl w6.heap.size w6; obtain ⟨n6, a6, c6, l6, rfl, -⟩ := hv6; unfold iv at *)
          | (go_at_call 52; (with_reducible refine (ad _ _ _ ?_ ?_).mono ?_); (refine HV56.out.keep ?_; (repeat (first | exact Below.refl _ _ | exact hx6 | refine Below.drew ?_ | refine below_drewN ?_ _ | refine bset ?_ (by simp <;> omega) _ | refine bal ?_ _))); (refine HV6.out.keep ?_; (repeat (first | exact Below.refl _ _ | exact hx6 | refine Below.drew ?_ | refine below_drewN ?_ _ | refine bset ?_ (by simp <;> omega) _ | refine bal ?_ _))); rintro e w7 ⟨⟨v7, rfl, hv7⟩, hb7⟩; (have hb67 : Below w6.heap.size w6 w7 := bthen (by repeat (first | exact Below.refl _ _ | exact hx6 | refine Below.drew ?_ | refine below_drewN ?_ _ | refine bset ?_ (by simp <;> omega) _ | refine bal ?_ _)) hb7); (have hBd : Below w0.heap.size w0 w7 := bthen (by repeat (first | exact Below.refl _ _ | exact hBc | refine Below.drew ?_ | refine below_drewN ?_ _ | refine bset ?_ (by simp <;> omega) _ | refine bal ?_ _)) hb7; clear hBc; have hBc := hBd; clear hBd); have HV7 := Lib.hid hv7; have HF7 := Lib.hid (HF6.out.below lims_ref hb67); obtain ⟨n7, a7, c7, l7, rfl, -⟩ := hv7; unfold iv at *)
          | fail)
      go_wp2
      exact ⟨⟨j + 1, by omega, by go_num, HF8⟩, by simp [intOf]; omega⟩
    · obtain rfl : j = la.length := by omega
      have hF2 := Lib.hid (show RowQ w.heap.size wr (.slice fa la.length fc) lz from (show OwnF IsRef 54 w0 wr (.slice fa la.length fc) lz.length (fun i => lz.getD i 0) by rw [HZ.out.1]; exact hF.out).rowO.rebase hB.size)
      go_wp2
      go_ret
      exact ⟨⟨_, rfl, hF2.out⟩, hBr⟩
theorem comb_map {la : List Int} (g : Int → Int) {c d : Int} {lb : List Int} (h : ∀ j, j < la.length → g (la.getD j 0) = c * la.getD j 0 + d * lb.getD j 0) : ∀ j, j < la.length → (la.map g).getD j 0 = c * la.getD j 0 + d * lb.getD j 0 := fun j hj => by
  rw [show (la.map g).getD j 0 = g (la.getD j 0) by simp [hj]]; exact h j hj
theorem comb_zip {la lb : List Int} (g : Int → Int → Int) {c d : Int} (he : la.length = lb.length) (h : ∀ x y, g x y = c * x + d * y) : ∀ j, j < la.length → (List.zipWith g la lb).getD j 0 = c * la.getD j 0 + d * lb.getD j 0 := fun j hj => by
  have hj2 : j < lb.length := by omega
  rw [show (List.zipWith g la lb).getD j 0 = g (la.getD j 0) (lb.getD j 0) by simp [List.getD_eq_getElem?_getD, List.getElem?_zipWith, hj, hj2], h]
set_option maxRecDepth 100000 in
set_option maxHeartbeats 2000000 in
theorem rscale_c (va vc : Value) (la : List Int) (c : Int) (k m : Nat) (w : World) (ha : RRow 0 w va la) (hc : IsRef w vc c) (hl : la.length ≤ 1099511627775) (ba : ∀ j, Bd k (la.getD j 0)) (bc : Bd m c) (hk : k + m ≤ 17179869184) :
    Calls Tryz.prog 114 #[va, vc] w fun e w' => (∃ u, e = .returned u ∧ RowQ w.heap.size w' u (la.map fun x => x * c)) ∧ Below w.heap.size w w' := by
  have cx := fun W (h : Below w.heap.size w W) => rcomb_c vc (.agg #[.bool false, .slice none 0 0]) va va c 0 la la (la.map fun x => x * c) k m W (hc.keep h) (isRef_zero W) (ha.keep lims_ref h) (ha.keep lims_ref h) hl (Nat.le_refl _) ba ba bc bd_zero hk (by rw [List.length_map]) (comb_map (fun x => x * c) fun j hj => by rw [Int.zero_mul, Int.add_zero, Int.mul_comm])
  obtain ⟨aa, ca, rfl, -⟩ := ha
  obtain ⟨n1, a1, c1, l1, rfl, -⟩ := hc
  unfold iv at *
  clear ba bc
  have hB := Below.refl w.heap.size w
  go_enter Tryz.func114, Tryz.ntmps114
  go_wp2_with fail
  refine (cx _ (by repeat (first | exact Below.refl _ _ | exact hB | refine Below.drew ?_ | refine below_drewN ?_ _ | refine bset ?_ (by simp <;> omega) _ | refine bal ?_ _))).mono ?_
  rintro e w1 ⟨⟨u, rfl, hu⟩, hb1⟩
  have hB1 : Below w.heap.size w w1 := bthen (by repeat (first | exact Below.refl _ _ | exact hB | refine Below.drew ?_ | refine below_drewN ?_ _ | refine bset ?_ (by simp <;> omega) _ | refine bal ?_ _)) hb1
  have HU := Lib.hid (hu.rebase (base' := w.heap.size) (by simp))
  obtain ⟨ua, un, uc, rfl⟩ : ∃ a n c, u = Value.slice a n c := by obtain ⟨a, c, h⟩ := hu.ex; exact ⟨a, _, c, h⟩
  clear cx hu
  go_wp2
  go_ret
  exact ⟨⟨_, rfl, HU.out⟩, hB1⟩
set_option maxRecDepth 100000 in
set_option maxHeartbeats 2000000 in
theorem radd4_c (va vb : Value) (la lb : List Int) (k : Nat) (w : World) (ha : RRow 0 w va la) (hb : RRow 0 w vb lb) (hl : la.length ≤ 1099511627775) (he : la.length = lb.length) (ba : ∀ j, Bd k (la.getD j 0)) (bb : ∀ j, Bd k (lb.getD j 0)) (hk : k ≤ 17179869180) :
    Calls Tryz.prog 115 #[va, vb] w fun e w' => (∃ u, e = .returned u ∧ RowQ w.heap.size w' u (List.zipWith (fun x y => x + y) la lb)) ∧ Below w.heap.size w w' := by
  have o1 := fun W => rof_c 1 W (by omega) (by omega)
  have o2 := fun W => rof_c 1 W (by omega) (by omega)
  have cx := fun v1 v2 W (h : Below w.heap.size w W) (h1 : IsRef W v1 1) (h2 : IsRef W v2 1) => rcomb_c v1 v2 va vb 1 1 la lb (List.zipWith (fun x y => x + y) la lb) k 1 W h1 h2 (ha.keep lims_ref h) (hb.keep lims_ref h) hl (by omega) ba bb (by unfold Bd; decide) (by unfold Bd; decide) (by omega) (by rw [List.length_zipWith]; omega) (comb_zip (fun x y => x + y) he fun x y => by omega)
  have CX := Lib.hid cx
  obtain ⟨aa, ca, rfl, -⟩ := ha
  obtain ⟨ab, cb, rfl, -⟩ := hb
  have hB := Below.refl w.heap.size w
  clear ba bb he cx
  go_enter Tryz.func115, Tryz.ntmps115
  go_wp2_with fail
  refine (o1 _).mono ?_
  rintro e w1 ⟨⟨v1, rfl, h1⟩, hb1⟩
  have hB1 : Below w.heap.size w w1 := bthen (by repeat (first | exact Below.refl _ _ | exact hB | refine Below.drew ?_ | refine below_drewN ?_ _ | refine bset ?_ (by simp <;> omega) _ | refine bal ?_ _)) hb1
  have H1 := Lib.hid h1
  obtain ⟨n1, a1, c1, l1, rfl, -⟩ := h1
  unfold iv at *
  have hw1 := Below.refl w1.heap.size w1
  go_wp2_with fail
  refine (o2 _).mono ?_
  rintro e w2 ⟨⟨v2, rfl, h2⟩, hb2⟩
  have hb2' : Below w1.heap.size w1 w2 := bthen (by repeat (first | exact Below.refl _ _ | exact hw1 | refine Below.drew ?_ | refine below_drewN ?_ _ | refine bset ?_ (by simp <;> omega) _ | refine bal ?_ _)) hb2
  have H2 := Lib.hid h2
  have H12 := Lib.hid (H1.out.keep hb2')
  obtain ⟨n2, a2, c2, l2, rfl, -⟩ := h2
  unfold iv at *
  have hw2 := Below.refl w2.heap.size w2
  have hB2 := bthen hB1 hb2'
  have k1 := fun W (h : Below w2.heap.size w2 W) => CX.out _ _ W (bthen hB2 h) (H12.out.keep h) (H2.out.keep h)
  clear o1 o2 CX
  go_wp2_with fail
  refine (k1 _ (by repeat (first | exact Below.refl _ _ | exact hw2 | refine Below.drew ?_ | refine below_drewN ?_ _ | refine bset ?_ (by simp <;> omega) _ | refine bal ?_ _))).mono ?_
  rintro e w3 ⟨⟨u, rfl, hu⟩, hb3⟩
  have hB3 : Below w.heap.size w w3 := bthen hB2 (bthen (by repeat (first | exact Below.refl _ _ | exact hw2 | refine Below.drew ?_ | refine below_drewN ?_ _ | refine bset ?_ (by simp <;> omega) _ | refine bal ?_ _)) hb3)
  have HU := Lib.hid (hu.rebase (base' := w.heap.size) (by first | exact hB2.size | (simp; exact hB2.size)))
  obtain ⟨ua, un, uc, rfl⟩ : ∃ a n c, u = Value.slice a n c := by obtain ⟨a, c, h⟩ := hu.ex; exact ⟨a, _, c, h⟩
  clear k1 hu
  go_wp2
  go_ret
  exact ⟨⟨_, rfl, HU.out⟩, hB3⟩
set_option maxRecDepth 100000 in
set_option maxHeartbeats 2000000 in
theorem rsub4_c (va vb : Value) (la lb : List Int) (k : Nat) (w : World) (ha : RRow 0 w va la) (hb : RRow 0 w vb lb) (hl : la.length ≤ 1099511627775) (he : la.length = lb.length) (ba : ∀ j, Bd k (la.getD j 0)) (bb : ∀ j, Bd k (lb.getD j 0)) (hk : k ≤ 17179869180) :
    Calls Tryz.prog 116 #[va, vb] w fun e w' => (∃ u, e = .returned u ∧ RowQ w.heap.size w' u (List.zipWith (fun x y => x - y) la lb)) ∧ Below w.heap.size w w' := by
  have o1 := fun W => rof_c 1 W (by omega) (by omega)
  have o2 := fun W => rof_c (-1) W (by omega) (by omega)
  have cx := fun v1 v2 W (h : Below w.heap.size w W) (h1 : IsRef W v1 1) (h2 : IsRef W v2 (-1)) => rcomb_c v1 v2 va vb 1 (-1) la lb (List.zipWith (fun x y => x - y) la lb) k 1 W h1 h2 (ha.keep lims_ref h) (hb.keep lims_ref h) hl (by omega) ba bb (by unfold Bd; decide) (by unfold Bd; decide) (by omega) (by rw [List.length_zipWith]; omega) (comb_zip (fun x y => x - y) he fun x y => by omega)
  have CX := Lib.hid cx
  obtain ⟨aa, ca, rfl, -⟩ := ha
  obtain ⟨ab, cb, rfl, -⟩ := hb
  have hB := Below.refl w.heap.size w
  clear ba bb he cx
  go_enter Tryz.func116, Tryz.ntmps116
  go_wp2_with fail
  refine (o1 _).mono ?_
  rintro e w1 ⟨⟨v1, rfl, h1⟩, hb1⟩
  have hB1 : Below w.heap.size w w1 := bthen (by repeat (first | exact Below.refl _ _ | exact hB | refine Below.drew ?_ | refine below_drewN ?_ _ | refine bset ?_ (by simp <;> omega) _ | refine bal ?_ _)) hb1
  have H1 := Lib.hid h1
  obtain ⟨n1, a1, c1, l1, rfl, -⟩ := h1
  unfold iv at *
  have hw1 := Below.refl w1.heap.size w1
  go_wp2_with fail
  refine (o2 _).mono ?_
  rintro e w2 ⟨⟨v2, rfl, h2⟩, hb2⟩
  have hb2' : Below w1.heap.size w1 w2 := bthen (by repeat (first | exact Below.refl _ _ | exact hw1 | refine Below.drew ?_ | refine below_drewN ?_ _ | refine bset ?_ (by simp <;> omega) _ | refine bal ?_ _)) hb2
  have H2 := Lib.hid h2
  have H12 := Lib.hid (H1.out.keep hb2')
  obtain ⟨n2, a2, c2, l2, rfl, -⟩ := h2
  unfold iv at *
  have hw2 := Below.refl w2.heap.size w2
  have hB2 := bthen hB1 hb2'
  have k1 := fun W (h : Below w2.heap.size w2 W) => CX.out _ _ W (bthen hB2 h) (H12.out.keep h) (H2.out.keep h)
  clear o1 o2 CX
  go_wp2_with fail
  refine (k1 _ (by repeat (first | exact Below.refl _ _ | exact hw2 | refine Below.drew ?_ | refine below_drewN ?_ _ | refine bset ?_ (by simp <;> omega) _ | refine bal ?_ _))).mono ?_
  rintro e w3 ⟨⟨u, rfl, hu⟩, hb3⟩
  have hB3 : Below w.heap.size w w3 := bthen hB2 (bthen (by repeat (first | exact Below.refl _ _ | exact hw2 | refine Below.drew ?_ | refine below_drewN ?_ _ | refine bset ?_ (by simp <;> omega) _ | refine bal ?_ _)) hb3)
  have HU := Lib.hid (hu.rebase (base' := w.heap.size) (by first | exact hB2.size | (simp; exact hB2.size)))
  obtain ⟨ua, un, uc, rfl⟩ : ∃ a n c, u = Value.slice a n c := by obtain ⟨a, c, h⟩ := hu.ex; exact ⟨a, _, c, h⟩
  clear k1 hu
  go_wp2
  go_ret
  exact ⟨⟨_, rfl, HU.out⟩, hB3⟩
theorem mkRw (n : Nat) (hn : n ≤ 1099511627776) (w : World) : (Instr.makeSlice 91 (.int .i64 (n : Int)) (.int .i64 (n : Int))).run Tryz.prog w = .ok (.slice (some ⟨w.heap.size, 0, none⟩) n n) (w.alloc (.cells (zcel n) 54)) := by
  obtain ⟨i0, hi, hz0, hz1, hz2⟩ := info_parts infoRef
  rw [run_make w _ _ i0 _ Tryz.underlying91 hi hz0 .i64 .i64 n n (by omega) (by omega) (by rw [hz2]; omega) (by omega), hz1]
  rfl
set_option maxRecDepth 100000 in
set_option maxHeartbeats 2000000 in
theorem rzero_c (n : Nat) (w : World) (hn : n ≤ 1099511627776) :
    Calls Tryz.prog 74 #[.int .i64 (n : Int)] w fun e w' => (∃ a c, e = .returned (.slice a n c) ∧ RowQ w.heap.size w' (.slice a n c) (List.replicate n 0)) ∧ Below w.heap.size w w' := by
  have hmk := mkRw n hn
  have hB := Below.refl w.heap.size w
  have HR := Lib.hid (RowO.makeRef w n (by unfold maxLen; omega))
  go_enter Tryz.func74, Tryz.ntmps74
  go_wp2
  go_ret
  exact ⟨⟨_, _, rfl, HR.out⟩, by repeat (first | exact Below.refl _ _ | exact hB | refine Below.drew ?_ | refine below_drewN ?_ _ | refine bset ?_ (by simp <;> omega) _ | refine bal ?_ _)⟩
end Go.Proofs.YtdllbdfchloijaaGreatDoor

/- The reference's rows: Over; what an instruction makes of rows (do). -/
namespace Go.Proofs.YtdllbdfchloijaaGreatDoor
open Num
open Go.ChangeShapes Go.WideShapes Go.ChangeAt Go.RowKit
set_option linter.unusedVariables false
set_option linter.unusedSimpArgs false
attribute [local go_sem ↓] Go.wp_at_zero Go.wp_at_succ
/-- what the reference's Over answers -/
def ROverQ (l : List Int) (c : Int) (w : World) (e : Ending) (w' : World) : Prop :=
  (((∃ j, j < l.length ∧ l.getD j 0 % c ≠ 0) ∧ e = .returned (.tuple #[.slice none 0 0, .bool false])) ∨
   ((∀ j, j < l.length → l.getD j 0 % c = 0) ∧ ∃ u, e = .returned (.tuple #[u, .bool true]) ∧ RowQ w.heap.size w' u (l.map fun x => x / c))) ∧ Below w.heap.size w w'
set_option maxRecDepth 100000 in
set_option maxHeartbeats 8000000 in
theorem rowOverQ_c (v vc : Value) (l : List Int) (c : Int) (k : Nat) (w : World) (hv : RRow 0 w v l) (hc : IsRef w vc c) (hl : l.length ≤ 1099511627775) (hb : ∀ j, Bd k (l.getD j 0)) (bc : Bd k c) (hk : k ≤ 17179869184) (h0 : c ≠ 0) :
    Calls Tryz.prog 118 #[v, vc] w (ROverQ l c w) := by
  have HV := Lib.hid hv
  have HC := Lib.hid hc
  have HBD := Lib.hid (And.intro hb (And.intro bc h0))
  clear hb bc h0
  obtain ⟨va, vcap, rfl, -⟩ := hv
  obtain ⟨n1, a1, cc1, l1, rfl, -⟩ := hc
  unfold iv at *
  have hB := Below.refl w.heap.size w
  go_enter Tryz.func118, Tryz.ntmps118
  go_wp2
  refine wp_name fun w0 hW0 => ?_
  have c0 : w0.cell? ⟨w.heap.size, 0, none⟩ = some (.bool n1) := by rw [hW0]; exact (by first | assumption | exact cell_new (by with_reducible first | rfl | (simp; done) | (simp; omega)) rfl | (repeat (first | assumption | exact cell_new (by with_reducible first | rfl | (simp; done) | (simp; omega)) rfl | refine cell_alloc ?_ _ | refine cell_drew ?_ | refine cell_drewN ?_ _ | refine cell_far ?_ (by simp) _ | (refine cell_far ?_ (by simp <;> omega) _))) | simp [go_sem, *])
  have zc0 := cell_lt c0
  have c1 : w0.cell? ⟨w.heap.size, 1, none⟩ = some (.slice a1 l1.length cc1) := by rw [hW0]; exact (by first | assumption | exact cell_new (by with_reducible first | rfl | (simp; done) | (simp; omega)) rfl | (repeat (first | assumption | exact cell_new (by with_reducible first | rfl | (simp; done) | (simp; omega)) rfl | refine cell_alloc ?_ _ | refine cell_drew ?_ | refine cell_drewN ?_ _ | refine cell_far ?_ (by simp) _ | (refine cell_far ?_ (by simp <;> omega) _))) | simp [go_sem, *])
  have hB : Below w.heap.size w w0 := by rw [hW0]; repeat (first | exact Below.refl _ _ | exact hB | refine Below.drew ?_ | refine below_drewN ?_ _ | refine bset ?_ (by simp <;> omega) _ | refine bal ?_ _)
  have hz : w.heap.size ≤ w0.heap.size := hB.size
  clear hW0
  have zc0' : w.heap.size < w0.heap.size := zc0
  have HP := Lib.hid (show ∀ W, Below w0.heap.size w0 W → W.cell? ⟨w.heap.size, 0, none⟩ = some (.bool n1) ∧ W.cell? ⟨w.heap.size, 1, none⟩ = some (.slice a1 l1.length cc1) from fun W h => ⟨bkeep h c0, bkeep h c1⟩)
  clear c0 c1
  go_loopw [6, 7] (fun v x wr => ∃ j : Nat, j ≤ l.length ∧ x = .int .i64 j ∧ Hid (OwnF IsRef 54 w0 wr v j (fun i => l.getD i 0 / c)) ∧ Hid (∀ i, i < j → l.getD i 0 % c = 0)) (fun _ x _ => l.length - (intOf x).toNat)
  case atStart => exact ⟨0, Nat.zero_le _, rfl, Lib.hid (OwnF.nil _ _ _ (Below.refl _ _)), Lib.hid (fun i hi => by omega)⟩
  case round =>
    obtain ⟨j, hj, rfl, hF, hA⟩ := hrel
    have hbr := hF.out.bel
    have hBr := bthen hB hbr
    obtain ⟨fa, fc, hfv⟩ : ∃ a c, _ = Value.slice a j c := by obtain ⟨a, c, h, _⟩ := hF.out.view; exact ⟨a, c, h⟩
    subst hfv
    by_cases hlt : j < l.length
    · have hltI : (j : Int) < (l.length : Int) := by omega
      obtain ⟨a', c', he, -, vr⟩ := HV.out.view
      obtain ⟨rfl, -, rfl⟩ := Value.slice.inj he
      obtain ⟨b, off, n2, a2, l2, cc2, rfl, d0, d1, hi⟩ := vr j hlt
      have hb2 := HBD.out.1 j
      have HSN := Lib.hid (show ∀ q, q < j + 1 → (fun i => if i = j then l.getD j 0 / c else l.getD i 0 / c) q = l.getD q 0 / c from fun q hq => by dsimp only; split; (subst_vars; rfl); rfl)
      have HAN' := Lib.hid (show l.getD j 0 % c = 0 → ∀ i, i < j + 1 → l.getD i 0 % c = 0 from fun h i hi => by
        by_cases e : i = j
        · subst e; exact h
        · exact hA.out i (by omega))
      have HNO := Lib.hid (show l.getD j 0 % c ≠ 0 → ∃ j, j < l.length ∧ l.getD j 0 % c ≠ 0 from fun h => ⟨j, hlt, h⟩)
      obtain ⟨x, hx⟩ : ∃ x, l.getD j 0 = x := ⟨_, rfl⟩
      rw [hx] at hi hb2 HSN HAN' HNO
      have dy := fun (h0 : x % c = 0) W (h : Below wr.heap.size wr W) => rover_yes (.agg #[.bool n2, .slice a2 l2 cc2]) (.agg #[.bool n1, .slice a1 l1.length cc1]) x c k W (hi.keep (bthen hBr h)) (HC.out.keep (bthen hBr h)) hb2 HBD.out.2.1 hk HBD.out.2.2 h0
      have dn := fun (h0 : x % c ≠ 0) W (h : Below wr.heap.size wr W) => rover_no (.agg #[.bool n2, .slice a2 l2 cc2]) (.agg #[.bool n1, .slice a1 l1.length cc1]) x c k W (hi.keep (bthen hBr h)) (HC.out.keep (bthen hBr h)) hb2 HBD.out.2.1 hk HBD.out.2.2 h0
      obtain ⟨q, hq⟩ : ∃ q, x / c = q := ⟨_, rfl⟩
      rw [hq] at dy HSN
      have HS := Lib.hid (show ∀ W, Below wr.heap.size wr W → W.cell? ⟨w.heap.size, 0, none⟩ = some (.bool n1) ∧ W.cell? ⟨w.heap.size, 1, none⟩ = some (.slice a1 l1.length cc1) ∧ W.cell? ⟨b, off + j * 2, none⟩ = some (.bool n2) ∧ W.cell? ⟨b, off + j * 2 + 1, none⟩ = some (.slice a2 l2 cc2) from fun W h => ⟨(HP.out W (bthen hbr h)).1, (HP.out W (bthen hbr h)).2, bkeep (bthen hBr h) d0, bkeep (bthen hBr h) d1⟩)
      have hBw := Below.refl wr.heap.size wr
      obtain ⟨y0, y1, y2, y3⟩ := HS.out wr hBw
      have zy0 := cell_lt y0
      have zy2 := cell_lt y2
      clear hx he vr hi hb2 hq d0 d1
      by_cases hr0 : x % c = 0
      · have HAN := Lib.hid (HAN'.out hr0)
        have dc := dy hr0
        clear dy dn HNO HAN' hr0
        go_wp2
        go_region_held3 (fun w' => w'.cell? ⟨w.heap.size, 0, none⟩ = some (.bool n1) ∧ w'.cell? ⟨w.heap.size, 1, none⟩ = some (.slice a1 l1.length cc1) ∧ w'.cell? ⟨b, off + j * 2, none⟩ = some (.bool n2) ∧ w'.cell? ⟨b, off + j * 2 + 1, none⟩ = some (.slice a2 l2 cc2))
          (first | (refine HS.out _ ?_; (repeat (first | exact Below.refl _ _ | exact hBw | refine Below.drew ?_ | refine below_drewN ?_ _ | refine bset ?_ (by simp <;> omega) _ | refine bal ?_ _)); done) | (refine HS.out _ ?_; (repeat (first | exact Below.refl _ _ | exact hB5 | refine Below.drew ?_ | refine below_drewN ?_ _ | refine bset ?_ (by simp <;> omega) _ | refine bal ?_ _)); done) | fail)
          (first
            | (go_at_call 146; (with_reducible show Calls _ _ _ (World.drew (World.alloc _ _)) _); refine (dc _ ?_).mono ?_; (repeat (first | exact Below.refl _ _ | exact hBw | refine Below.drew ?_ | refine below_drewN ?_ _ | refine bset ?_ (by simp <;> omega) _ | refine bal ?_ _)); rintro e w5 ⟨⟨v, rfl, hv⟩, hb5⟩; have hB5 : Below wr.heap.size wr w5 := bthen (by repeat (first | exact Below.refl _ _ | exact hBw | refine Below.drew ?_ | refine below_drewN ?_ _ | refine bset ?_ (by simp <;> omega) _ | refine bal ?_ _)) hb5; have HVV := Lib.hid hv; obtain ⟨n5, a5, c5, l5, rfl, -⟩ := hv; obtain ⟨r0, r1, r0f, r1f⟩ := box2 hb5; unfold iv at *)
            | (go_at_call 146; refine (dc _ ?_).mono ?_; (repeat (first | exact Below.refl _ _ | exact hBw | refine Below.drew ?_ | refine below_drewN ?_ _ | refine bset ?_ (by simp <;> omega) _ | refine bal ?_ _)); rintro e w5 ⟨⟨v, rfl, hv⟩, hb5⟩; have hB5 : Below wr.heap.size wr w5 := bthen (by repeat (first | exact Below.refl _ _ | exact hBw | refine Below.drew ?_ | refine below_drewN ?_ _ | refine bset ?_ (by simp <;> omega) _ | refine bal ?_ _)) hb5; have HVV := Lib.hid hv; obtain ⟨n5, a5, c5, l5, rfl, -⟩ := hv; unfold iv at *)
            | fail)
        · go_upto_region 6 with (fail)
          refine wp_name fun w6 hW6 => ?_
          have hb6 : Below wr.heap.size wr w6 := by rw [hW6]; exact bal hB5 _
          have p0 : w6.cell? ⟨w5.heap.size, 0, none⟩ = some (.bool n5) := by rw [hW6]; exact cell_new rfl rfl
          have p1 : w6.cell? ⟨w5.heap.size, 1, none⟩ = some (.slice a5 l5.length c5) := by rw [hW6]; exact cell_new rfl rfl
          have HV6 : Hid (IsRef w6 (.agg #[.bool n5, .slice a5 l5.length c5]) q) := Lib.hid (by rw [hW6]; exact HVV.out.keep (bal (Below.refl _ _) _))
          clear hW6 dc y0 y1 y2 y3
          have HF6 := Lib.hid (hF.out.below lims_ref hb6)
          have hB6 : Below w.heap.size w w6 := bthen hBr hb6
          have zp6 := cell_lt p0
          go_wp2_with (at_builtin; refine app_num elRw (by decide) lims_ref (by rfl) (by rfl) HF6.out HV6.out (by rfl) (by rfl) (by omega) ?_)
          intro v' w8 hF8 _ _
          have HF8 := Lib.hid (hF8.congr' (fun i hi => HSN.out i hi))
          clear hF8
          go_wp2
          exact ⟨⟨j + 1, by omega, by go_num, HF8, HAN⟩, by simp [intOf]; omega⟩
        · go_upto_region 6 with (fail)
          refine wp_name fun w6 hW6 => ?_
          have hb6 : Below wr.heap.size wr w6 := by rw [hW6]; exact bset (bset hB5 (Nat.le_refl _) _) (Nat.le_refl _) _
          have p0 : w6.cell? ⟨wr.heap.size, 0, none⟩ = some (.bool n5) := by rw [hW6]; exact cell_far (cell_here r0 _) (by simp) _
          have p1 : w6.cell? ⟨wr.heap.size, 1, none⟩ = some (.slice a5 l5.length c5) := by rw [hW6]; exact cell_here (cell_far r1 (by simp) _) _
          have HV6 : Hid (IsRef w6 (.agg #[.bool n5, .slice a5 l5.length c5]) q) := Lib.hid (by rw [hW6]; exact HVV.out.put2 r0 r1 _ _)
          clear hW6 dc y0 y1 y2 y3
          have HF6 := Lib.hid (hF.out.below lims_ref hb6)
          have hB6 : Below w.heap.size w w6 := bthen hBr hb6
          have zp6 := cell_lt p0
          go_wp2_with (at_builtin; refine app_num elRw (by decide) lims_ref (by rfl) (by rfl) HF6.out HV6.out (by rfl) (by rfl) (by omega) ?_)
          intro v' w8 hF8 _ _
          have HF8 := Lib.hid (hF8.congr' (fun i hi => HSN.out i hi))
          clear hF8
          go_wp2
          exact ⟨⟨j + 1, by omega, by go_num, HF8, HAN⟩, by simp [intOf]; omega⟩
      · have HNO' := Lib.hid (HNO.out hr0)
        have dc := dn hr0
        clear dy dn HNO HAN' hr0
        go_wp2
        go_region_held3 (fun w' => w'.cell? ⟨w.heap.size, 0, none⟩ = some (.bool n1) ∧ w'.cell? ⟨w.heap.size, 1, none⟩ = some (.slice a1 l1.length cc1) ∧ w'.cell? ⟨b, off + j * 2, none⟩ = some (.bool n2) ∧ w'.cell? ⟨b, off + j * 2 + 1, none⟩ = some (.slice a2 l2 cc2))
          (first | (refine HS.out _ ?_; (repeat (first | exact Below.refl _ _ | exact hBw | refine Below.drew ?_ | refine below_drewN ?_ _ | refine bset ?_ (by simp <;> omega) _ | refine bal ?_ _)); done) | (refine HS.out _ ?_; (repeat (first | exact Below.refl _ _ | exact hB5 | refine Below.drew ?_ | refine below_drewN ?_ _ | refine bset ?_ (by simp <;> omega) _ | refine bal ?_ _)); done) | fail)
          (first
            | (go_at_call 146; (with_reducible show Calls _ _ _ (World.drew (World.alloc _ _)) _); refine (dc _ ?_).mono ?_; (repeat (first | exact Below.refl _ _ | exact hBw | refine Below.drew ?_ | refine below_drewN ?_ _ | refine bset ?_ (by simp <;> omega) _ | refine bal ?_ _)); rintro e w5 ⟨rfl, hb5⟩; have hB5 : Below wr.heap.size wr w5 := bthen (by repeat (first | exact Below.refl _ _ | exact hBw | refine Below.drew ?_ | refine below_drewN ?_ _ | refine bset ?_ (by simp <;> omega) _ | refine bal ?_ _)) hb5; obtain ⟨r0, r1, r0f, r1f⟩ := box2 hb5)
            | (go_at_call 146; refine (dc _ ?_).mono ?_; (repeat (first | exact Below.refl _ _ | exact hBw | refine Below.drew ?_ | refine below_drewN ?_ _ | refine bset ?_ (by simp <;> omega) _ | refine bal ?_ _)); rintro e w5 ⟨rfl, hb5⟩; have hB5 : Below wr.heap.size wr w5 := bthen (by repeat (first | exact Below.refl _ _ | exact hBw | refine Below.drew ?_ | refine below_drewN ?_ _ | refine bset ?_ (by simp <;> omega) _ | refine bal ?_ _)) hb5)
            | fail)
        all_goals
          go_wp2
          go_ret2
          refine ⟨.inl ⟨HNO'.out, rfl⟩, bthen hBr ?_⟩
          repeat (first | exact hB5 | refine bset ?_ (Nat.le_refl _) _ | refine bal ?_ _)
    · obtain rfl : j = l.length := by omega
      have hF2 := Lib.hid (show RowQ w.heap.size wr (.slice fa l.length fc) (l.map fun x => x / c) from (OwnF.rowO (w0 := w0) (l := l.map fun x => x / c) (by rw [List.length_map]; exact hF.out.congr' (fun k hk => (map_getD (fun x => x / c) hk).symm))).rebase hB.size)
      go_wp2
      go_ret2
      exact ⟨.inr ⟨hA.out, _, rfl, hF2.out⟩, hBr⟩
end Go.Proofs.YtdllbdfchloijaaGreatDoor

/- Arguments as they come in, whatever their bulk: rows of int64, each of which lies in memory. -/
namespace Go.Proofs.YtdllbdfchloijaaGreatDoor
open Go.ChangeShapes Go.WideShapes Go.ChangeAt Go.RowKit Go.Joins Go.Deep
set_option linter.unusedVariables false
set_option linter.unusedSimpArgs false
section
variable {H : Type} {enc : TypeId × Value → H} {W : World} {b0 : Nat} {r : Reach} {v : Value} {d : DataW H} {p : List MemPlace}
end
end Go.Proofs.YtdllbdfchloijaaGreatDoor

/- An int that came in. -/
namespace Go.Proofs.YtdllbdfchloijaaGreatDoor
open Go.ChangeShapes Go.WideShapes Go.ChangeAt Go.RowKit Go.Joins Go.Deep
set_option maxRecDepth 100000
theorem open_i64 {H : Type} {enc : TypeId × Value → H} {W : World} {base b0 : Nat} {r : Reach} {spare : Nat → Bool} {held : Bool} {v : Value} {d : DataW H} {p : List MemPlace}
    (hv : Value.okWide Tryz.prog W r b0 3 v) (h : DataW.Trod enc Tryz.prog W base spare held 3 v d p) :
    ∃ a : Int, v = .int .i64 a ∧ (Lit.int .i64 a).wf = true := by
  obtain ⟨x, rfl, rfl, rfl, wx⟩ := open_int Tryz.underlying3 hv h
  exact ⟨x, rfl, wx⟩
end Go.Proofs.YtdllbdfchloijaaGreatDoor

/- A list of points that came in, no slice past what can be reached. -/
namespace Go.Proofs.YtdllbdfchloijaaGreatDoor
open Go.ChangeShapes Go.WideShapes Go.ChangeAt Go.RowKit Go.Joins Go.Deep
set_option maxRecDepth 100000
theorem cells_pt : Tryz.prog.cellsOf 33 = 2 := by kernel_rfl
theorem bytes_pt : Tryz.prog.bytesOf 33 = 16 := by kernel_rfl
theorem open_pts_w {H : Type} {enc : TypeId × Value → H} {W : World} {b0 : Nat} {r : Reach} {v : Value} {d : DataW H} {p : List MemPlace}
    (hv : Value.okWide Tryz.prog W r b0 22 v) (h : DataW.Trod enc Tryz.prog W 0 (fun _ => true) true 22 v d p) (hw : ∀ n ∈ d.weights Tryz.prog 22, n ≤ reachBytes) :
    ∃ a n cap f, v = .slice a n cap ∧ n * 16 ≤ 140737488355328 ∧ PtsV W a n cap f ∧ ∀ k, k < n → I64 (f k).1 ∧ I64 (f k).2 := by
  obtain ⟨a, n, cap, rfl⟩ := okWide_slice Tryz.underlying22 hv
  obtain ⟨fuel, hf⟩ := h
  rcases open_slice_fields Tryz.underlying22 Tryz.underlying33 (by kernel_rfl) cells_pt hf with ⟨hcs, _⟩ | ⟨x, l, c, m, D, Pl, hcs, _, hl, hm, hmm, hx, hcell⟩
  · simp [Value.cells] at hcs
    obtain ⟨rfl, rfl, rfl⟩ := hcs
    exact ⟨_, _, _, fun _ => (0, 0), rfl, by simp, .inl rfl, fun k hk => by omega⟩
  · simp [Value.cells] at hcs
    obtain ⟨rfl, rfl, rfl⟩ := hcs
    simp only [if_true] at hmm
    subst hmm
    have hwt : n * 16 ≤ 140737488355328 := by
      simp only [Prod.mk.injEq] at hx
      have hmem : (((List.range n).map D).length + ((List.range (m - n)).map fun j => D (n + j)).length) * Tryz.prog.bytesOf 33 ∈ d.weights Tryz.prog 22 := by
        rw [hx.1]
        simp only [DataW.weights, Tryz.underlying22]
        exact List.mem_cons.2 (.inl rfl)
      have h8 := hw _ hmem
      have h9 := reachBytes_lt
      rw [bytes_pt] at h8
      simp only [List.length_map, List.length_range] at h8
      omega
    by_cases h0 : n = 0
    · exact ⟨_, _, _, fun _ => (0, 0), rfl, hwt, .inl h0, fun k hk => by omega⟩
    have hall : ∀ i, i < m → ∃ q : Int × Int, W.cell? (x.add (i * 2)) = some (.int .i64 q.1) ∧ W.cell? (x.add (i * 2 + 1)) = some (.int .i64 q.2) ∧ I64 q.1 ∧ I64 q.2 := by
      intro i hi
      obtain ⟨ys, k, _, _, _, hf⟩ := hcell i hi
      obtain ⟨u, y, c0, _, t0⟩ := hf 0 _ rfl
      obtain ⟨u', y', c1, _, t1⟩ := hf 1 _ rfl
      obtain ⟨a0, e0, _, i0⟩ := DataW.trod_int Tryz.underlying3 t0
      obtain ⟨a1, e1, _, i1⟩ := DataW.trod_int Tryz.underlying3 t1
      simp at e0 e1
      subst e0 e1
      exact ⟨(a0, a1), c0, c1, i64_of i0, i64_of i1⟩
    have hf : ∃ f : Nat → Int × Int, ∀ i, i < m → W.cell? (x.add (i * 2)) = some (.int .i64 (f i).1) ∧ W.cell? (x.add (i * 2 + 1)) = some (.int .i64 (f i).2) ∧ I64 (f i).1 ∧ I64 (f i).2 := by
      refine ⟨fun i => if hi : i < m then (hall i hi).choose else (0, 0), fun i hi => ?_⟩
      simp only [dif_pos hi]
      exact (hall i hi).choose_spec
    obtain ⟨f, hf⟩ := hf
    obtain ⟨b, o, rfl⟩ := plain_at (by have := (hf 0 (by omega)).1; simpa using this)
    refine ⟨_, _, _, f, rfl, hwt, .inr ⟨b, o, rfl, by omega, fun k hk => ?_⟩, fun k hk => (hf k (by omega)).2.2⟩
    obtain ⟨c0, c1, _⟩ := hf k (by omega)
    rw [add_plain] at c0 c1
    exact ⟨c0, by rw [Nat.add_assoc]; exact c1⟩
end Go.Proofs.YtdllbdfchloijaaGreatDoor

