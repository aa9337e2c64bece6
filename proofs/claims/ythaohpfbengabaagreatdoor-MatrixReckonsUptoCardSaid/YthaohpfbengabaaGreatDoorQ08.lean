/- Texts of this seat, laid together: VwB, EwA, EwB, RefN, RefS, RefO, RefQ, RtA, RtB, RtC, ExD, VmF. Each opens with its own remark, which says what it proves, and under which conditions. -/
import Derived.Test.YthaohpfbengabaaGreatDoorQ06
import Derived.Test.YthaohpfbengabaaGreatDoorQ07
import Derived.Test.YthaohpfbengabaaGreatDoorQ02
import Derived.Deep.DeepFit
import Derived.Deep.RegionLaw
import Derived.Deep.DrawnRows
import Derived.Deep.DeepCutAuto
import Derived.Test.YthaohpfbengabaaGreatDoorQ03
import Derived.Test.YthaohpfbengabaaGreatDoorQ05
import Derived.Laws.CopyRow
import Derived.Laws.Rows
import Derived.Laws.Tables
import Derived.Deep.Cut
set_option linter.unusedVariables false
set_option linter.unusedSimpArgs false
/- vm's laws: the numbers that come in, as the reference's blocks. -/
namespace Go.Proofs.YthaohpfbengabaaGreatDoor
open Num
open Go.ChangeShapes Go.WideShapes Go.ChangeAt Go.RowKit
set_option linter.unusedVariables false
set_option linter.unusedSimpArgs false
end Go.Proofs.YthaohpfbengabaaGreatDoor

/- exact's laws: long; numbers that come in as rows of both. -/
namespace Go.Proofs.YthaohpfbengabaaGreatDoor
open Num
open Go.ChangeShapes Go.WideShapes Go.ChangeAt Go.RowKit
set_option linter.unusedVariables false
set_option linter.unusedSimpArgs false
end Go.Proofs.YthaohpfbengabaaGreatDoor

/- exact's laws: numbers that come in, as rows of both; grids of both. -/
namespace Go.Proofs.YthaohpfbengabaaGreatDoor
open Num
open Go.ChangeShapes Go.WideShapes Go.ChangeAt Go.RowKit
set_option linter.unusedVariables false
set_option linter.unusedSimpArgs false
attribute [local go_sem ↓] Go.wp_at_zero Go.wp_at_succ
theorem elRw : Elt Tryz.prog 33 43 2 32 := Elt.mk' Tryz.underlying33 infoRef rfl (by decide) (by decide)
theorem OwnF.kp {R : World → Value → Int → Prop} {E : TypeId} {w0 wr w' : World} {v : Value} {n : Nat} {f : Nat → Int} {S : TypeId → Prop} (hR : Lims R) (h : OwnF R E w0 wr v n f) (k : Kp S wr w') (hs : S 133) (hE : S E) (hb : Below w0.heap.size w0 w') : OwnF R E w0 w' v n f := by
  obtain ⟨xs, ⟨h1, _⟩, h2⟩ := h
  refine ⟨xs, ⟨owns_kp h1 k hE, hb⟩, fun j hj => ?_⟩
  obtain ⟨nb, a, len, c, k1, k2, k3⟩ := h2 j hj
  exact ⟨nb, a, len, c, k1, k2, hR _ _ _ _ k3 (k.lim hs)⟩
theorem OwnF.grown {R : World → Value → Int → Prop} {E : TypeId} {w0 wr w' : World} {v : Value} {n : Nat} {f : Nat → Int} (h : OwnF R E w0 wr v n f) (ho : Out (fun k => v.ownBlock = some k) wr w') : Kp (· ≠ E) wr w' :=
  Kp.out ho (fun q t hq ht hne => by
    obtain ⟨xs, h1, _⟩ := h
    rw [own_typ h1 hq] at ht
    exact hne (Option.some.inj ht).symm)
theorem OwnL.kp {α : Type} {S S' : TypeId → Prop} {T : TypeId} {Pr : World → Value → α → Prop} {w0 wr w' : World} {v : Value} {g : List α} (hP : Prs S Pr) (h : OwnL T Pr w0 wr v g) (k : Kp S' wr w') (hs : ∀ t, S t → S' t) (hT : S' T) (hb : Below w0.heap.size w0 w') : OwnL T Pr w0 w' v g := by
  obtain ⟨xs, ⟨h1, _⟩, h2⟩ := h
  refine ⟨xs, ⟨owns_kp h1 k hT, hb⟩, fun j hj => ?_⟩
  obtain ⟨u, hu, hr⟩ := h2 j hj
  exact ⟨u, hu, hP.kp hr (k.weak hs)⟩
end Go.Proofs.YthaohpfbengabaaGreatDoor

/- The reference's numbers: norm, with the world that it leaves. -/
namespace Go.Proofs.YthaohpfbengabaaGreatDoor
open Num
open Go.ChangeShapes Go.WideShapes Go.ChangeAt Go.RowKit
set_option linter.unusedVariables false
set_option linter.unusedSimpArgs false
end Go.Proofs.YthaohpfbengabaaGreatDoor

/- The reference's numbers: Sub; Add and Sub of numbers no greater than one of so many digits. -/
namespace Go.Proofs.YthaohpfbengabaaGreatDoor
open Num
open Go.ChangeShapes Go.WideShapes Go.ChangeAt Go.RowKit
set_option linter.unusedVariables false
set_option linter.unusedSimpArgs false
end Go.Proofs.YthaohpfbengabaaGreatDoor

/- The reference's numbers: DivMod. -/
namespace Go.Proofs.YthaohpfbengabaaGreatDoor
open Num
open Go.ChangeShapes Go.WideShapes Go.ChangeAt Go.RowKit
set_option linter.unusedVariables false
set_option linter.unusedSimpArgs false
theorem Free.al {w : World} {g : Nat} (h : Free w g) (o : Obj) : Free (w.alloc o) g := h.keep (bal (Below.refl _ _) _)
theorem Free.dr {w : World} {g : Nat} (h : Free w g) : Free w.drew g := h
end Go.Proofs.YthaohpfbengabaaGreatDoor

/- The reference's numbers: DivMod, by values; Over. -/
namespace Go.Proofs.YthaohpfbengabaaGreatDoor
open Num
open Go.ChangeShapes Go.WideShapes Go.ChangeAt Go.RowKit
set_option linter.unusedVariables false
set_option linter.unusedSimpArgs false
end Go.Proofs.YthaohpfbengabaaGreatDoor

/- The reference's rows: Combine, Add, Sub, Scale, Zero. -/
namespace Go.Proofs.YthaohpfbengabaaGreatDoor
open Num
open Go.ChangeShapes Go.WideShapes Go.ChangeAt Go.RowKit
set_option linter.unusedVariables false
set_option linter.unusedSimpArgs false
attribute [local go_sem ↓] Go.wp_at_zero Go.wp_at_succ
abbrev RowQ (base : Nat) := RowO IsRef 43 base
set_option maxRecDepth 100000 in
set_option maxHeartbeats 8000000 in
theorem rcomb_c (vc vd va vb : Value) (c d : Int) (la lb lz : List Int) (k m : Nat) (w : World) (hc : IsRef w vc c) (hd : IsRef w vd d) (ha : RRow 0 w va la) (hb : RRow 0 w vb lb) (hl : la.length ≤ 1099511627775) (hle : la.length ≤ lb.length)
    (ba : ∀ j, Bd k (la.getD j 0)) (bb : ∀ j, Bd k (lb.getD j 0)) (bc : Bd m c) (bd : Bd m d) (hk : k + m ≤ 17179869184) (hz : lz.length = la.length) (hzz : ∀ j, j < la.length → lz.getD j 0 = c * la.getD j 0 + d * lb.getD j 0) :
    Calls Tryz.prog 141 #[vc, va, vd, vb] w fun e w' => (∃ u, e = .returned u ∧ RowQ w.heap.size w' u lz) ∧ Below w.heap.size w w' := by
  have HC := Lib.hid (And.intro hc hd)
  have HA := Lib.hid ha
  have HBB := Lib.hid hb
  have HBD := Lib.hid (And.intro ba (And.intro bb (And.intro bc bd)))
  have HZ := Lib.hid (And.intro hz hzz)
  obtain ⟨aa, ca, rfl, -⟩ := ha
  obtain ⟨ab, cb, rfl, -⟩ := hb
  obtain ⟨n1, a1, c1, l1, rfl, -⟩ := hc
  obtain ⟨n2, a2, c2, l2, rfl, -⟩ := hd
  unfold iv at *
  clear ba bb bc bd hz hzz
  have hB := Below.refl w.heap.size w
  go_enter Tryz.func141, Tryz.ntmps141
  go_wp2
  refine wp_name fun w0 hW0 => ?_
  have x0 : w0.cell? ⟨w.heap.size, 0, none⟩ = some (.bool n1) := by rw [hW0]; exact (by first | assumption | exact cell_new (by with_reducible first | rfl | (simp; done) | (simp; omega)) rfl | (repeat (first | assumption | exact cell_new (by with_reducible first | rfl | (simp; done) | (simp; omega)) rfl | refine cell_alloc ?_ _ | refine cell_drew ?_ | refine cell_drewN ?_ _ | refine cell_far ?_ (by simp) _ | (refine cell_far ?_ (by simp <;> omega) _))) | simp [go_sem, *])
  have zx0 := cell_lt x0
  have x1 : w0.cell? ⟨w.heap.size, 1, none⟩ = some (.slice a1 l1.length c1) := by rw [hW0]; exact (by first | assumption | exact cell_new (by with_reducible first | rfl | (simp; done) | (simp; omega)) rfl | (repeat (first | assumption | exact cell_new (by with_reducible first | rfl | (simp; done) | (simp; omega)) rfl | refine cell_alloc ?_ _ | refine cell_drew ?_ | refine cell_drewN ?_ _ | refine cell_far ?_ (by simp) _ | (refine cell_far ?_ (by simp <;> omega) _))) | simp [go_sem, *])
  have y0 : w0.cell? ⟨w.heap.size + 1, 0, none⟩ = some (.bool n2) := by rw [hW0]; exact (by first | assumption | exact cell_new (by with_reducible first | rfl | (simp; done) | (simp; omega)) rfl | (repeat (first | assumption | exact cell_new (by with_reducible first | rfl | (simp; done) | (simp; omega)) rfl | refine cell_alloc ?_ _ | refine cell_drew ?_ | refine cell_drewN ?_ _ | refine cell_far ?_ (by simp) _ | (refine cell_far ?_ (by simp <;> omega) _))) | simp [go_sem, *])
  have zy0 := cell_lt y0
  have y1 : w0.cell? ⟨w.heap.size + 1, 1, none⟩ = some (.slice a2 l2.length c2) := by rw [hW0]; exact (by first | assumption | exact cell_new (by with_reducible first | rfl | (simp; done) | (simp; omega)) rfl | (repeat (first | assumption | exact cell_new (by with_reducible first | rfl | (simp; done) | (simp; omega)) rfl | refine cell_alloc ?_ _ | refine cell_drew ?_ | refine cell_drewN ?_ _ | refine cell_far ?_ (by simp) _ | (refine cell_far ?_ (by simp <;> omega) _))) | simp [go_sem, *])
  have hB : Below w.heap.size w w0 := by rw [hW0]; repeat (first | exact Below.refl _ _ | exact hB | refine Below.drew ?_ | refine below_drewN ?_ _ | refine bset ?_ (by simp <;> omega) _ | refine bal ?_ _)
  have hz : w.heap.size ≤ w0.heap.size := hB.size
  clear hW0
  have hz0 : w.heap.size < w0.heap.size := zx0
  have hz1 : w.heap.size + 1 < w0.heap.size := zy0
  have HP := Lib.hid (show ∀ W, Below w0.heap.size w0 W → W.cell? ⟨w.heap.size, 0, none⟩ = some (.bool n1) ∧ W.cell? ⟨w.heap.size, 1, none⟩ = some (.slice a1 l1.length c1) ∧ W.cell? ⟨w.heap.size + 1, 0, none⟩ = some (.bool n2) ∧ W.cell? ⟨w.heap.size + 1, 1, none⟩ = some (.slice a2 l2.length c2) from fun W h => ⟨bkeep h x0, bkeep h x1, bkeep h y0, bkeep h y1⟩)
  clear x0 x1 y0 y1
  go_loopw [9, 10] (fun v x wr => ∃ j : Nat, j ≤ la.length ∧ x = .int .i64 j ∧ Hid (OwnF IsRef 43 w0 wr v j (fun i => lz.getD i 0))) (fun _ x _ => la.length - (intOf x).toNat)
  case atStart => exact ⟨0, Nat.zero_le _, rfl, Lib.hid (OwnF.nil _ _ _ (Below.refl _ _))⟩
  case round =>
    obtain ⟨j, hj, rfl, hF⟩ := hrel
    have hbr := hF.out.bel
    have hBr := bthen hB hbr
    obtain ⟨fa, fc, hfv⟩ : ∃ a c, _ = Value.slice a j c := by obtain ⟨a, c, h, _⟩ := hF.out.view; exact ⟨a, c, h⟩
    subst hfv
    by_cases hlt : j < la.length
    · have hltI : (j : Int) < (la.length : Int) := by omega
      have hltJ : (j : Int) < (lb.length : Int) := by omega
      obtain ⟨a', c', he, -, vr⟩ := HA.out.view
      obtain ⟨rfl, -, rfl⟩ := Value.slice.inj he
      obtain ⟨b', d', he2, -, vs⟩ := HBB.out.view
      obtain ⟨rfl, -, rfl⟩ := Value.slice.inj he2
      obtain ⟨rb, ro, n3, a3, l3, c3, rfl, r0, r1, hi⟩ := vr j hlt
      obtain ⟨sb, so, n4, a4, l4, c4, rfl, s0, s1, hi2⟩ := vs j (by omega)
      have m1 := fun W (q : Below w0.heap.size w0 W) => rmul_c _ _ c (la.getD j 0) m k W (HC.out.1.keep (bthen hB q)) (hi.keep (bthen hB q)) HBD.out.2.2.1 (HBD.out.1 j) (by omega) (by omega)
      have m2 := fun W (q : Below w0.heap.size w0 W) => rmul_c _ _ d (lb.getD j 0) m k W (HC.out.2.keep (bthen hB q)) (hi2.keep (bthen hB q)) HBD.out.2.2.2 (HBD.out.2.1 j) (by omega) (by omega)
      have ad := fun v5 v6 W h5 h6 => radd_c v5 v6 (c * la.getD j 0) (d * lb.getD j 0) (m + k) W h5 h6 (HBD.out.2.2.1.mul (HBD.out.1 j)) (HBD.out.2.2.2.mul (HBD.out.2.1 j)) (by omega)
      rw [← HZ.out.2 j hlt] at ad
      have HAJ := Lib.hid (snoc_fun lz j (by rw [HZ.out.1]; exact hlt))
      obtain ⟨z, hz⟩ : ∃ z, lz.getD j 0 = z := ⟨_, rfl⟩
      obtain ⟨p, hp⟩ : ∃ p, c * la.getD j 0 = p := ⟨_, rfl⟩
      obtain ⟨q, hq⟩ : ∃ q, d * lb.getD j 0 = q := ⟨_, rfl⟩
      rw [hz] at ad HAJ
      rw [hp] at ad m1
      rw [hq] at ad m2
      have HS := Lib.hid (show ∀ W, Below w0.heap.size w0 W → W.cell? ⟨w.heap.size, 0, none⟩ = some (.bool n1) ∧ W.cell? ⟨w.heap.size, 1, none⟩ = some (.slice a1 l1.length c1) ∧ W.cell? ⟨w.heap.size + 1, 0, none⟩ = some (.bool n2) ∧ W.cell? ⟨w.heap.size + 1, 1, none⟩ = some (.slice a2 l2.length c2) ∧ W.cell? ⟨rb, ro + j * 2, none⟩ = some (.bool n3) ∧ W.cell? ⟨rb, ro + j * 2 + 1, none⟩ = some (.slice a3 l3 c3) ∧ W.cell? ⟨sb, so + j * 2, none⟩ = some (.bool n4) ∧ W.cell? ⟨sb, so + j * 2 + 1, none⟩ = some (.slice a4 l4 c4) from fun W h => ⟨(HP.out W h).1, (HP.out W h).2.1, (HP.out W h).2.2.1, (HP.out W h).2.2.2, bkeep (bthen hB h) r0, bkeep (bthen hB h) r1, bkeep (bthen hB h) s0, bkeep (bthen hB h) s1⟩)
      have hBc := hbr
      obtain ⟨q1, q2, q3, q4, q5, q6, q7, q8⟩ := HS.out wr hBc
      have zz1 := cell_lt q1
      have zz3 := cell_lt q3
      have zz5 := cell_lt q5
      have zz7 := cell_lt q7
      have HF0 := Lib.hid (hF.out.below lims_ref (Below.refl _ _).drew)
      clear hi hi2 r0 r1 s0 s1 vr vs he he2 hz hp hq
      go_wp2
      go_region_held3 (fun w' => w'.cell? ⟨w.heap.size, 0, none⟩ = some (.bool n1) ∧ w'.cell? ⟨w.heap.size, 1, none⟩ = some (.slice a1 l1.length c1) ∧ w'.cell? ⟨w.heap.size + 1, 0, none⟩ = some (.bool n2) ∧ w'.cell? ⟨w.heap.size + 1, 1, none⟩ = some (.slice a2 l2.length c2) ∧ w'.cell? ⟨rb, ro + j * 2, none⟩ = some (.bool n3) ∧ w'.cell? ⟨rb, ro + j * 2 + 1, none⟩ = some (.slice a3 l3 c3) ∧ w'.cell? ⟨sb, so + j * 2, none⟩ = some (.bool n4) ∧ w'.cell? ⟨sb, so + j * 2 + 1, none⟩ = some (.slice a4 l4 c4))
        (first | (refine HS.out _ ?_; (repeat (first | exact Below.refl _ _ | exact hBc | refine Below.drew ?_ | refine below_drewN ?_ _ | refine bset ?_ (by simp <;> omega) _ | refine bal ?_ _)); done) | fail)
        (first
          | (refine step_num0 elRw (by decide) lims_ref (by rfl) (by rfl) HF7.out HV7.out (by rfl) (by rfl) (by omega) ?_; intro v' w8 hF8 _ _; have HF8 := Lib.hid (hF8.congr' HAJ.out); (clear hBc; have hBc := hF8.bel); clear hF8)
          | (go_at_call 128; (with_reducible refine (m1 _ ?_).mono ?_); (repeat (first | exact Below.refl _ _ | exact hBc | refine Below.drew ?_ | refine below_drewN ?_ _ | refine bset ?_ (by simp <;> omega) _ | refine bal ?_ _)); rintro e w5 ⟨⟨v5, rfl, hv5⟩, hb5⟩; (have hBd : Below w0.heap.size w0 w5 := bthen (by repeat (first | exact Below.refl _ _ | exact hBc | refine Below.drew ?_ | refine below_drewN ?_ _ | refine bset ?_ (by simp <;> omega) _ | refine bal ?_ _)) hb5; clear hBc; have hBc := hBd; clear hBd); have HF5 := Lib.hid (HF0.out.below lims_ref hb5); have HV5 := Lib.hid hv5; have hx5 := Below.refl w5.heap.size w5; obtain ⟨n5, a5, c5, l5, rfl, -⟩ := hv5; unfold iv at *)
          | (go_at_call 128; (with_reducible refine (m2 _ ?_).mono ?_); (repeat (first | exact Below.refl _ _ | exact hBc | refine Below.drew ?_ | refine below_drewN ?_ _ | refine bset ?_ (by simp <;> omega) _ | refine bal ?_ _)); rintro e w6 ⟨⟨v6, rfl, hv6⟩, hb6⟩; (have hb56 : Below w5.heap.size w5 w6 := bthen (by repeat (first | exact Below.refl _ _ | exact hx5 | refine Below.drew ?_ | refine below_drewN ?_ _ | refine bset ?_ (by simp <;> omega) _ | refine bal ?_ _)) hb6); have HV56 := Lib.hid (HV5.out.keep hb56); have HF6 := Lib.hid (HF5.out.below lims_ref hb56); (have hBd : Below w0.heap.size w0 w6 := bthen (by repeat (first | exact Below.refl _ _ | exact hBc | refine Below.drew ?_ | refine below_drewN ?_ _ | refine bset ?_ (by simp <;> omega) _ | refine bal ?_ _)) hb6; clear hBc; have hBc := hBd; clear hBd); have HV6 := Lib.hid hv6; have hx6 := Below.refl w6.heap.size w6; obtain ⟨n6, a6, c6, l6, rfl, -⟩ := hv6; unfold iv at *)
          | (go_at_call 144; (with_reducible refine (ad _ _ _ ?_ ?_).mono ?_); (refine HV56.out.keep ?_; (repeat (first | exact Below.refl _ _ | exact hx6 | refine Below.drew ?_ | refine below_drewN ?_ _ | refine bset ?_ (by simp <;> omega) _ | refine bal ?_ _))); (refine HV6.out.keep ?_; (repeat (first | exact Below.refl _ _ | exact hx6 | refine Below.drew ?_ | refine below_drewN ?_ _ | refine bset ?_ (by simp <;> omega) _ | refine bal ?_ _))); rintro e w7 ⟨⟨v7, rfl, hv7⟩, hb7⟩; (have hb67 : Below w6.heap.size w6 w7 := bthen (by repeat (first | exact Below.refl _ _ | exact hx6 | refine Below.drew ?_ | refine below_drewN ?_ _ | refine bset ?_ (by simp <;> omega) _ | refine bal ?_ _)) hb7); (have hBd : Below w0.heap.size w0 w7 := bthen (by repeat (first | exact Below.refl _ _ | exact hBc | refine Below.drew ?_ | refine below_drewN ?_ _ | refine bset ?_ (by simp <;> omega) _ | refine bal ?_ _)) hb7; clear hBc; have hBc := hBd; clear hBd); have HV7 := Lib.hid hv7; have HF7 := Lib.hid (HF6.out.below lims_ref hb67); obtain ⟨n7, a7, c7, l7, rfl, -⟩ := hv7; unfold iv at *)
          | fail)
      go_wp2
      exact ⟨⟨j + 1, by omega, by go_num, HF8⟩, by simp [intOf]; omega⟩
    · obtain rfl : j = la.length := by omega
      have hF2 := Lib.hid (show RowQ w.heap.size wr (.slice fa la.length fc) lz from (show OwnF IsRef 43 w0 wr (.slice fa la.length fc) lz.length (fun i => lz.getD i 0) by rw [HZ.out.1]; exact hF.out).rowO.rebase hB.size)
      go_wp2
      go_ret
      exact ⟨⟨_, rfl, hF2.out⟩, hBr⟩
theorem comb_map {la : List Int} (g : Int → Int) {c d : Int} {lb : List Int} (h : ∀ j, j < la.length → g (la.getD j 0) = c * la.getD j 0 + d * lb.getD j 0) : ∀ j, j < la.length → (la.map g).getD j 0 = c * la.getD j 0 + d * lb.getD j 0 := fun j hj => by
  rw [show (la.map g).getD j 0 = g (la.getD j 0) by simp [hj]]; exact h j hj
theorem comb_zip {la lb : List Int} (g : Int → Int → Int) {c d : Int} (he : la.length = lb.length) (h : ∀ x y, g x y = c * x + d * y) : ∀ j, j < la.length → (List.zipWith g la lb).getD j 0 = c * la.getD j 0 + d * lb.getD j 0 := fun j hj => by
  have hj2 : j < lb.length := by omega
  rw [show (List.zipWith g la lb).getD j 0 = g (la.getD j 0) (lb.getD j 0) by simp [List.getD_eq_getElem?_getD, List.getElem?_zipWith, hj, hj2], h]
set_option maxRecDepth 100000 in
set_option maxHeartbeats 2000000 in
theorem rscale_c (va vc : Value) (la : List Int) (c : Int) (k m : Nat) (w : World) (ha : RRow 0 w va la) (hc : IsRef w vc c) (hl : la.length ≤ 1099511627775) (ba : ∀ j, Bd k (la.getD j 0)) (bc : Bd m c) (hk : k + m ≤ 17179869184) :
    Calls Tryz.prog 99 #[va, vc] w fun e w' => (∃ u, e = .returned u ∧ RowQ w.heap.size w' u (la.map fun x => x * c)) ∧ Below w.heap.size w w' := by
  have cx := fun W (h : Below w.heap.size w W) => rcomb_c vc (.agg #[.bool false, .slice none 0 0]) va va c 0 la la (la.map fun x => x * c) k m W (hc.keep h) (isRef_zero W) (ha.keep lims_ref h) (ha.keep lims_ref h) hl (Nat.le_refl _) ba ba bc bd_zero hk (by rw [List.length_map]) (comb_map (fun x => x * c) fun j hj => by rw [Int.zero_mul, Int.add_zero, Int.mul_comm])
  obtain ⟨aa, ca, rfl, -⟩ := ha
  obtain ⟨n1, a1, c1, l1, rfl, -⟩ := hc
  unfold iv at *
  clear ba bc
  have hB := Below.refl w.heap.size w
  go_enter Tryz.func99, Tryz.ntmps99
  go_wp2_with fail
  refine (cx _ (by repeat (first | exact Below.refl _ _ | exact hB | refine Below.drew ?_ | refine below_drewN ?_ _ | refine bset ?_ (by simp <;> omega) _ | refine bal ?_ _))).mono ?_
  rintro e w1 ⟨⟨u, rfl, hu⟩, hb1⟩
  have hB1 : Below w.heap.size w w1 := bthen (by repeat (first | exact Below.refl _ _ | exact hB | refine Below.drew ?_ | refine below_drewN ?_ _ | refine bset ?_ (by simp <;> omega) _ | refine bal ?_ _)) hb1
  have HU := Lib.hid (hu.rebase (base' := w.heap.size) (by simp))
  obtain ⟨ua, un, uc, rfl⟩ : ∃ a n c, u = Value.slice a n c := by obtain ⟨a, c, h⟩ := hu.ex; exact ⟨a, _, c, h⟩
  clear cx hu
  go_wp2
  go_ret
  exact ⟨⟨_, rfl, HU.out⟩, hB1⟩
set_option maxRecDepth 100000 in
set_option maxHeartbeats 2000000 in
theorem radd4_c (va vb : Value) (la lb : List Int) (k : Nat) (w : World) (ha : RRow 0 w va la) (hb : RRow 0 w vb lb) (hl : la.length ≤ 1099511627775) (he : la.length = lb.length) (ba : ∀ j, Bd k (la.getD j 0)) (bb : ∀ j, Bd k (lb.getD j 0)) (hk : k ≤ 17179869180) :
    Calls Tryz.prog 92 #[va, vb] w fun e w' => (∃ u, e = .returned u ∧ RowQ w.heap.size w' u (List.zipWith (fun x y => x + y) la lb)) ∧ Below w.heap.size w w' := by
  have o1 := fun W => rof_c 1 W (by omega) (by omega)
  have o2 := fun W => rof_c 1 W (by omega) (by omega)
  have cx := fun v1 v2 W (h : Below w.heap.size w W) (h1 : IsRef W v1 1) (h2 : IsRef W v2 1) => rcomb_c v1 v2 va vb 1 1 la lb (List.zipWith (fun x y => x + y) la lb) k 1 W h1 h2 (ha.keep lims_ref h) (hb.keep lims_ref h) hl (by omega) ba bb (by unfold Bd; decide) (by unfold Bd; decide) (by omega) (by rw [List.length_zipWith]; omega) (comb_zip (fun x y => x + y) he fun x y => by omega)
  have CX := Lib.hid cx
  obtain ⟨aa, ca, rfl, -⟩ := ha
  obtain ⟨ab, cb, rfl, -⟩ := hb
  have hB := Below.refl w.heap.size w
  clear ba bb he cx
  go_enter Tryz.func92, Tryz.ntmps92
  go_wp2_with fail
  refine (o1 _).mono ?_
  rintro e w1 ⟨⟨v1, rfl, h1⟩, hb1⟩
  have hB1 : Below w.heap.size w w1 := bthen (by repeat (first | exact Below.refl _ _ | exact hB | refine Below.drew ?_ | refine below_drewN ?_ _ | refine bset ?_ (by simp <;> omega) _ | refine bal ?_ _)) hb1
  have H1 := Lib.hid h1
  obtain ⟨n1, a1, c1, l1, rfl, -⟩ := h1
  unfold iv at *
  have hw1 := Below.refl w1.heap.size w1
  go_wp2_with fail
  refine (o2 _).mono ?_
  rintro e w2 ⟨⟨v2, rfl, h2⟩, hb2⟩
  have hb2' : Below w1.heap.size w1 w2 := bthen (by repeat (first | exact Below.refl _ _ | exact hw1 | refine Below.drew ?_ | refine below_drewN ?_ _ | refine bset ?_ (by simp <;> omega) _ | refine bal ?_ _)) hb2
  have H2 := Lib.hid h2
  have H12 := Lib.hid (H1.out.keep hb2')
  obtain ⟨n2, a2, c2, l2, rfl, -⟩ := h2
  unfold iv at *
  have hw2 := Below.refl w2.heap.size w2
  have hB2 := bthen hB1 hb2'
  have k1 := fun W (h : Below w2.heap.size w2 W) => CX.out _ _ W (bthen hB2 h) (H12.out.keep h) (H2.out.keep h)
  clear o1 o2 CX
  go_wp2_with fail
  refine (k1 _ (by repeat (first | exact Below.refl _ _ | exact hw2 | refine Below.drew ?_ | refine below_drewN ?_ _ | refine bset ?_ (by simp <;> omega) _ | refine bal ?_ _))).mono ?_
  rintro e w3 ⟨⟨u, rfl, hu⟩, hb3⟩
  have hB3 : Below w.heap.size w w3 := bthen hB2 (bthen (by repeat (first | exact Below.refl _ _ | exact hw2 | refine Below.drew ?_ | refine below_drewN ?_ _ | refine bset ?_ (by simp <;> omega) _ | refine bal ?_ _)) hb3)
  have HU := Lib.hid (hu.rebase (base' := w.heap.size) (by first | exact hB2.size | (simp; exact hB2.size)))
  obtain ⟨ua, un, uc, rfl⟩ : ∃ a n c, u = Value.slice a n c := by obtain ⟨a, c, h⟩ := hu.ex; exact ⟨a, _, c, h⟩
  clear k1 hu
  go_wp2
  go_ret
  exact ⟨⟨_, rfl, HU.out⟩, hB3⟩
end Go.Proofs.YthaohpfbengabaaGreatDoor

/- The reference's rows: Over; what an instruction makes of rows (do). -/
namespace Go.Proofs.YthaohpfbengabaaGreatDoor
open Num
open Go.ChangeShapes Go.WideShapes Go.ChangeAt Go.RowKit
set_option linter.unusedVariables false
set_option linter.unusedSimpArgs false
attribute [local go_sem ↓] Go.wp_at_zero Go.wp_at_succ
end Go.Proofs.YthaohpfbengabaaGreatDoor

/- The reference's rows: constant; what an instruction makes of rows (do). -/
namespace Go.Proofs.YthaohpfbengabaaGreatDoor
open Num
open Go.ChangeShapes Go.WideShapes Go.ChangeAt Go.RowKit
set_option linter.unusedVariables false
set_option linter.unusedSimpArgs false
attribute [local go_sem ↓] Go.wp_at_zero Go.wp_at_succ
/-- the reference's registers in a block that may be written -/
structure RegsQ (w : World) (rb : Nat) (g : Grid) : Prop where
  free : Free w rb
  ty : typOf w rb = some 33
  cell : ∀ k, k < g.length → ∃ u, w.cell? ⟨rb, k, none⟩ = some u ∧ RRow 0 w u (g.getD k [])
theorem RegsQ.keep {rb : Nat} {w w' : World} {g : Grid} (h : RegsQ w rb g) (k : Below w.heap.size w w') : RegsQ w' rb g :=
  ⟨h.free.keep k, typ_keep h.ty k, fun j hj => by obtain ⟨u, hu, hr⟩ := h.cell j hj; exact ⟨u, bkeep k hu, hr.keep lims_ref k⟩⟩
theorem RegsQ.step {rb nt : Nat} {w : World} {g : Grid} {v : Value} {r : List Int} (h : RegsQ w rb g) (hv : RRow 0 w v r) (ht : nt < g.length) : RegsQ (w.setCell ⟨rb, nt, none⟩ v) rb (g.set nt r) := by
  have hk : Kp (· ≠ 33) w (w.setCell ⟨rb, nt, none⟩ v) := (Kp.refl _ w).set (fun t ht => by rw [h.ty] at ht; cases ht; exact fun k => k rfl) _
  refine ⟨h.free.set _ _, by rw [typ_set]; exact h.ty, fun k hk' => ?_⟩
  rw [List.length_set] at hk'
  by_cases e : nt = k
  · subst e
    obtain ⟨u, hu, _⟩ := h.cell nt hk'
    refine ⟨v, cell_here hu _, ?_⟩
    have : (g.set nt r).getD nt [] = r := by simp [hk']
    rw [this]
    exact hv.kp lims_ref hk (by decide) (by decide)
  · obtain ⟨u, hu, hr⟩ := h.cell k hk'
    refine ⟨u, cell_far hu (fun e2 => e (by cases e2; rfl)) _, ?_⟩
    have : (g.set nt r).getD k [] = g.getD k [] := by simp [List.getElem?_set_ne e]
    rw [this]
    exact hr.kp lims_ref hk (by decide) (by decide)
end Go.Proofs.YthaohpfbengabaaGreatDoor

/- exact: a new row of noughts, into which a row of numbers is copied. -/
namespace Go.Proofs.YthaohpfbengabaaGreatDoor
open Num
open Go.ChangeShapes Go.WideShapes Go.ChangeAt Go.RowKit
set_option linter.unusedVariables false
set_option linter.unusedSimpArgs false
section
variable {ops : Array Oper} {o : Oper} {a : Act} {Q : Exit → Act → World → Prop} {w : World} {d x : Operand}
end
end Go.Proofs.YthaohpfbengabaaGreatDoor

/- vm: New. -/
namespace Go.Proofs.YthaohpfbengabaaGreatDoor
open Num
open Go.ChangeShapes Go.WideShapes Go.ChangeAt Go.RowKit
set_option linter.unusedVariables false
set_option linter.unusedSimpArgs false
attribute [local go_sem ↓] Go.wp_at_zero Go.wp_at_succ
/-- blocks fit a program -/
structure FitsG (ins : Int) (g : Grid) : Prop where
  len : (g.length : Int) = ins
  rect : Rect (g.getD 0 []).length g
  m : (g.getD 0 []).length ≤ 4096
abbrev GridV (w : World) (v : Value) (g : Grid) : Prop := IsL 59 (PRow 0) 0 w v g
end Go.Proofs.YthaohpfbengabaaGreatDoor

