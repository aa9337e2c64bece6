/- Texts of this seat, laid together: RefH, RefI, RefJ, RefK, RefL, VwA, RwA, RwB, RwC, RwD, RefM, RefP. Each opens with its own remark, which says what it proves, and under which conditions. -/
import Derived.Test.YthaohpfbengabaaGreatDoorQ05
import Derived.Test.YthaohpfbengabaaGreatDoorQ02
import Derived.Test.YthaohpfbengabaaGreatDoorQ04
import Derived.Test.YthaohpfbengabaaGreatDoorQ03
import Derived.RegionTactic
import Derived.ChangeAlike
import Derived.Laws.OwnMore
import Derived.Deep.Onto
import Derived.Deep.DrawnRows
import Derived.Test.YthaohpfbengabaaGreatDoorQ01
import Derived.Deep.RegionLaw
set_option linter.unusedVariables false
set_option linter.unusedSimpArgs false
/- The reference's numbers: Neg, Abs, Add, Sub. -/
namespace Go.Proofs.YthaohpfbengabaaGreatDoor
open Num
open Go.ChangeShapes Go.WideShapes Go.ChangeAt Go.RowKit
set_option linter.unusedVariables false
set_option linter.unusedSimpArgs false


/-- plus, minus: what is answered, as a list of digits -/
def NewR (w' : World) (u : Value) (v : Nat) : Prop := ∃ a c L, u = .slice a (List.length L) c ∧ U32 w' a c L ∧ NumR.Limbs L ∧ NumR.val L = v
theorem rplusU (a b : Option Addr) (ca cb : Nat) (A B : List Nat) (w : World) (ha : U32 w a ca A) (hb : U32 w b cb B) (hA : NumR.Limbs A) (hB : NumR.Limbs B) (h1 : A.length ≤ 2147483650) (h2 : B.length ≤ 2147483650) :
    Calls Tryz.prog 166 #[.slice a A.length ca, .slice b B.length cb] w fun e w' => (∃ u, e = .returned u ∧ NewR w' u (NumR.val A + NumR.val B)) ∧ Below w.heap.size w w' :=
  (rplus_c a b ca cb A B w ha hb hA hB h1 h2).mono fun e w' ⟨v, he, O, hO, hL, hl, hv⟩ => by
    obtain ⟨a', c', e2, hu⟩ := hO.u32 (limbs_of_r hL)
    exact ⟨⟨v, he, a', c', O, e2, hu, hL, hv⟩, hO.2⟩
theorem rminusU (a b : Option Addr) (ca cb : Nat) (A B : List Nat) (w : World) (ha : U32 w a ca A) (hb : U32 w b cb B) (hA : NumR.Limbs A) (hB : NumR.Limbs B) (nb : Nrm B) (h1 : A.length ≤ 2147483650) (hle : NumR.val B ≤ NumR.val A) :
    Calls Tryz.prog 162 #[.slice a A.length ca, .slice b B.length cb] w fun e w' => (∃ u, e = .returned u ∧ NewR w' u (NumR.val A - NumR.val B)) ∧ Below w.heap.size w w' := by
  have h2 : B.length ≤ A.length := by
    apply Nat.le_of_not_lt; intro h
    have := NumR.val_lt_of_len hA nb h
    omega
  refine (rminus_c a b ca cb A B w ha hb hA hB h1 h2 hle).mono fun e w' ⟨v, he, O, hO, hL, hl, hv⟩ => ?_
  obtain ⟨a', c', e2, hu⟩ := hO.u32 (limbs_of_r hL)
  exact ⟨⟨v, he, a', c', O, e2, hu, hL, by omega⟩, hO.2⟩


set_option maxRecDepth 100000 in
set_option maxHeartbeats 4000000 in
theorem raddV_c (n1 n2 : Bool) (a1 a2 : Option Addr) (c1 c2 : Nat) (l1 l2 : List Nat) (w : World) (u1 : U32 w a1 c1 l1) (u2 : U32 w a2 c2 l2) (q1 : NumR.Limbs l1) (q2 : NumR.Limbs l2) (g1 : Nrm l1) (g2 : Nrm l2) (k1 : l1.length ≤ 2147483650) (k2 : l2.length ≤ 2147483650) :
    Calls Tryz.prog 144 #[.agg #[.bool n1, .slice a1 l1.length c1], .agg #[.bool n2, .slice a2 l2.length c2]] w fun e w' => (∃ v, e = .returned v ∧ IsRef w' v (sg n1 (NumR.val l1) + sg n2 (NumR.val l2))) ∧ Below w.heap.size w w' := by
  have hB := Below.refl w.heap.size w
  by_cases hn : n1 = n2
  · have he : ∀ w', (binOp .eql 4 (.bool n1) (.bool n2)).run Tryz.prog w' = .ok (.bool true) w' := fun w' => by subst hn; cases n1 <;> rfl
    have HS := Lib.hid (show sg n1 (NumR.val l1 + NumR.val l2) = sg n1 (NumR.val l1) + sg n2 (NumR.val l2) by subst hn; exact sg_add _ _ _)
    have pc := fun w h1 h2 => rplusU a1 a2 c1 c2 l1 l2 w h1 h2 q1 q2 k1 k2
    clear hn
    go_enter Tryz.func144, Tryz.ntmps144
    go_wp2
    refine wp_name fun w0 hW0 => ?_
    have x0 : w0.cell? ⟨w.heap.size, 0, none⟩ = some (.bool n1) := by rw [hW0]; exact (by first | assumption | exact cell_new (by with_reducible first | rfl | (simp; done) | (simp; omega)) rfl | (repeat (first | assumption | exact cell_new (by with_reducible first | rfl | (simp; done) | (simp; omega)) rfl | refine cell_alloc ?_ _ | refine cell_drew ?_ | refine cell_drewN ?_ _ | refine cell_far ?_ (by simp) _ | (refine cell_far ?_ (by simp <;> omega) _))) | simp [go_sem, *])
    have zx0 := cell_lt x0
    have x1 : w0.cell? ⟨w.heap.size, 1, none⟩ = some (.slice a1 l1.length c1) := by rw [hW0]; exact (by first | assumption | exact cell_new (by with_reducible first | rfl | (simp; done) | (simp; omega)) rfl | (repeat (first | assumption | exact cell_new (by with_reducible first | rfl | (simp; done) | (simp; omega)) rfl | refine cell_alloc ?_ _ | refine cell_drew ?_ | refine cell_drewN ?_ _ | refine cell_far ?_ (by simp) _ | (refine cell_far ?_ (by simp <;> omega) _))) | simp [go_sem, *])
    have y0 : w0.cell? ⟨w.heap.size + 1, 0, none⟩ = some (.bool n2) := by rw [hW0]; exact (by first | assumption | exact cell_new (by with_reducible first | rfl | (simp; done) | (simp; omega)) rfl | (repeat (first | assumption | exact cell_new (by with_reducible first | rfl | (simp; done) | (simp; omega)) rfl | refine cell_alloc ?_ _ | refine cell_drew ?_ | refine cell_drewN ?_ _ | refine cell_far ?_ (by simp) _ | (refine cell_far ?_ (by simp <;> omega) _))) | simp [go_sem, *])
    have zy0 := cell_lt y0
    have y1 : w0.cell? ⟨w.heap.size + 1, 1, none⟩ = some (.slice a2 l2.length c2) := by rw [hW0]; exact (by first | assumption | exact cell_new (by with_reducible first | rfl | (simp; done) | (simp; omega)) rfl | (repeat (first | assumption | exact cell_new (by with_reducible first | rfl | (simp; done) | (simp; omega)) rfl | refine cell_alloc ?_ _ | refine cell_drew ?_ | refine cell_drewN ?_ _ | refine cell_far ?_ (by simp) _ | (refine cell_far ?_ (by simp <;> omega) _))) | simp [go_sem, *])
    have r0f : w0.frozen? ⟨w.heap.size + 2, 0, none⟩ = false := by rw [hW0]; simp [go_sem, *]
    have r0 : w0.cell? ⟨w.heap.size + 2, 0, none⟩ = some (.bool false) := by rw [hW0]; exact (by first | assumption | exact cell_new (by with_reducible first | rfl | (simp; done) | (simp; omega)) rfl | (repeat (first | assumption | exact cell_new (by with_reducible first | rfl | (simp; done) | (simp; omega)) rfl | refine cell_alloc ?_ _ | refine cell_drew ?_ | refine cell_drewN ?_ _ | refine cell_far ?_ (by simp) _ | (refine cell_far ?_ (by simp <;> omega) _))) | simp [go_sem, *])
    have zr0 := cell_lt r0
    have r1f : w0.frozen? ⟨w.heap.size + 2, 1, none⟩ = false := by rw [hW0]; simp [go_sem, *]
    have r1 : w0.cell? ⟨w.heap.size + 2, 1, none⟩ = some (.slice none 0 0) := by rw [hW0]; exact (by first | assumption | exact cell_new (by with_reducible first | rfl | (simp; done) | (simp; omega)) rfl | (repeat (first | assumption | exact cell_new (by with_reducible first | rfl | (simp; done) | (simp; omega)) rfl | refine cell_alloc ?_ _ | refine cell_drew ?_ | refine cell_drewN ?_ _ | refine cell_far ?_ (by simp) _ | (refine cell_far ?_ (by simp <;> omega) _))) | simp [go_sem, *])
    have hB : Below w.heap.size w w0 := by rw [hW0]; repeat (first | exact Below.refl _ _ | exact hB | refine Below.drew ?_ | refine below_drewN ?_ _ | refine bset ?_ (by simp <;> omega) _ | refine bal ?_ _)
    have hz : w.heap.size ≤ w0.heap.size := hB.size
    clear hW0
    have hBc : Below w0.heap.size w0 w0.drew := (Below.refl _ _).drew
    have HB0 := Lib.hid hB
    go_region_held3 (fun w' => w'.cell? ⟨w.heap.size, 0, none⟩ = some (.bool n1) ∧ w'.cell? ⟨w.heap.size, 1, none⟩ = some (.slice a1 l1.length c1) ∧ w'.cell? ⟨w.heap.size + 1, 0, none⟩ = some (.bool n2) ∧ w'.cell? ⟨w.heap.size + 1, 1, none⟩ = some (.slice a2 l2.length c2))
      (first | exact ⟨x0, x1, y0, y1⟩ | exact ⟨bkeep hBc x0, bkeep hBc x1, bkeep hBc y0, bkeep hBc y1⟩ | exact ⟨cell_far (cell_far (bkeep hBc x0) (addr_ne (by omega)) _) (addr_ne (by omega)) _, cell_far (cell_far (bkeep hBc x1) (addr_ne (by omega)) _) (addr_ne (by omega)) _, cell_far (cell_far (bkeep hBc y0) (addr_ne (by omega)) _) (addr_ne (by omega)) _, cell_far (cell_far (bkeep hBc y1) (addr_ne (by omega)) _) (addr_ne (by omega)) _⟩)
      (first
        | (go_at_call 166; refine (pc _ (u1.keep (bthen HB0.out hBc)) (u2.keep (bthen HB0.out hBc))).mono ?_; rintro e w3 ⟨⟨u3, rfl, a3, k3, L, rfl, hu, hr, hv⟩, hb3⟩; (replace hBc := bthen hBc hb3))
        | (go_at_call 100; refine (rnorm_c n1 _ _ _ _ hu hr).mono ?_; rintro e w4 ⟨⟨v, rfl, hi⟩, hb4⟩; (replace hBc := bthen hBc hb4); (replace r0f := bkeepf hBc r0 r0f); (replace r1f := bkeepf hBc r1 r1f); (replace r0 := bkeep hBc r0); (replace r1 := bkeep hBc r1); (rw [hv, HS.out] at hi); (have HI2 := Lib.hid (hi.put2 r0 r1)); (obtain ⟨n4, a4, c4, l4, rfl, _, _, _, _⟩ := hi); unfold iv at *))
    have hB9 := bthen HB0.out hBc
    clear x0 x1 y0 y1
    go_wp2
    refine bodyPost_ret (v := .agg #[.bool n4, .slice a4 l4.length c4]) (by simp [results, Tryz.results144, go_sem, *]) rfl ⟨⟨_, rfl, HI2.out _ _⟩, ?_⟩
    repeat (first | exact Below.refl _ _ | exact hB9 | refine Below.drew ?_ | refine below_drewN ?_ _ | refine bset ?_ (by simp <;> omega) _ | refine bal ?_ _)
  · have he : ∀ w', (binOp .eql 4 (.bool n1) (.bool n2)).run Tryz.prog w' = .ok (.bool false) w' := fun w' => by cases n1 <;> cases n2 <;> first | exact absurd rfl hn | rfl
    have hnn : n2 = !n1 := by cases n1 <;> cases n2 <;> first | exact absurd rfl hn | rfl
    have zc := fun w h1 h2 => rsize_c a1 a2 c1 c2 l1 l2 w h1 h2 q1 q2 g1 g2
    by_cases hlt : NumR.val l1 < NumR.val l2
    · have hz : ¬ (0 : Int) ≤ cmpN (NumR.val l1) (NumR.val l2) := by have := (cmpN_neg (x := NumR.val l1) (y := NumR.val l2)); rw [decide_eq_true hlt] at this; have := of_decide_eq_true this; omega
      have HS := Lib.hid (show sg n2 (NumR.val l2 - NumR.val l1) = sg n1 (NumR.val l1) + sg n2 (NumR.val l2) by rw [hnn]; exact sg_sub_lt _ _ _ (Nat.le_of_lt hlt))
      have pc := fun w h1 h2 => rminusU a2 a1 c2 c1 l2 l1 w h1 h2 q2 q1 g1 k2 (Nat.le_of_lt hlt)
      generalize cmpN (NumR.val l1) (NumR.val l2) = z at *
      clear hn hnn hlt
      go_enter Tryz.func144, Tryz.ntmps144
      go_wp2_with fail
      refine (zc _ (u1.keep (by repeat (first | exact Below.refl _ _ | exact hB | refine Below.drew ?_ | refine below_drewN ?_ _ | refine bset ?_ (by simp <;> omega) _ | refine bal ?_ _))) (u2.keep (by repeat (first | exact Below.refl _ _ | exact hB | refine Below.drew ?_ | refine below_drewN ?_ _ | refine bset ?_ (by simp <;> omega) _ | refine bal ?_ _)))).mono ?_
      rintro e w1 ⟨rfl, hb1⟩
      have x0 : w1.cell? ⟨w.heap.size, 0, none⟩ = some (.bool n1) := bkc hb1
      have zx0 := cell_lt x0
      have x1 : w1.cell? ⟨w.heap.size, 1, none⟩ = some (.slice a1 l1.length c1) := bkc hb1
      have y0 : w1.cell? ⟨w.heap.size + 1, 0, none⟩ = some (.bool n2) := bkc hb1
      have zy0 := cell_lt y0
      have y1 : w1.cell? ⟨w.heap.size + 1, 1, none⟩ = some (.slice a2 l2.length c2) := bkc hb1
      have r0 : w1.cell? ⟨w.heap.size + 2, 0, none⟩ = some (.bool false) := bkc hb1
      have zr0 := cell_lt r0
      have r0f : w1.frozen? ⟨w.heap.size + 2, 0, none⟩ = false := bkcf (v := .bool false) hb1
      have r1 : w1.cell? ⟨w.heap.size + 2, 1, none⟩ = some (.slice none 0 0) := bkc hb1
      have r1f : w1.frozen? ⟨w.heap.size + 2, 1, none⟩ = false := bkcf (v := .slice none 0 0) hb1
      have hB : Below w.heap.size w w1 := bthen (by repeat (first | exact Below.refl _ _ | exact hB | refine Below.drew ?_ | refine below_drewN ?_ _ | refine bset ?_ (by simp <;> omega) _ | refine bal ?_ _)) hb1
      have hz : w.heap.size ≤ w1.heap.size := hB.size
      clear zc
      go_wp2
      have hBc : Below w1.heap.size w1 w1.drew := (Below.refl _ _).drew
      have HB0 := Lib.hid hB
      go_region_held3 (fun w' => w'.cell? ⟨w.heap.size, 0, none⟩ = some (.bool n1) ∧ w'.cell? ⟨w.heap.size, 1, none⟩ = some (.slice a1 l1.length c1) ∧ w'.cell? ⟨w.heap.size + 1, 0, none⟩ = some (.bool n2) ∧ w'.cell? ⟨w.heap.size + 1, 1, none⟩ = some (.slice a2 l2.length c2))
        (first | exact ⟨x0, x1, y0, y1⟩ | exact ⟨bkeep hBc x0, bkeep hBc x1, bkeep hBc y0, bkeep hBc y1⟩ | exact ⟨cell_far (cell_far (bkeep hBc x0) (addr_ne (by omega)) _) (addr_ne (by omega)) _, cell_far (cell_far (bkeep hBc x1) (addr_ne (by omega)) _) (addr_ne (by omega)) _, cell_far (cell_far (bkeep hBc y0) (addr_ne (by omega)) _) (addr_ne (by omega)) _, cell_far (cell_far (bkeep hBc y1) (addr_ne (by omega)) _) (addr_ne (by omega)) _⟩)
        (first
          | (go_at_call 162; refine (pc _ (u2.keep (bthen HB0.out hBc)) (u1.keep (bthen HB0.out hBc))).mono ?_; rintro e w3 ⟨⟨u3, rfl, a3, k3, L, rfl, hu, hr, hv⟩, hb3⟩; (replace hBc := bthen hBc hb3))
          | (go_at_call 100; refine (rnorm_c n2 _ _ _ _ hu hr).mono ?_; rintro e w4 ⟨⟨v, rfl, hi⟩, hb4⟩; (replace hBc := bthen hBc hb4); (replace r0f := bkeepf hBc r0 r0f); (replace r1f := bkeepf hBc r1 r1f); (replace r0 := bkeep hBc r0); (replace r1 := bkeep hBc r1); (rw [hv, HS.out] at hi); (have HI2 := Lib.hid (hi.put2 r0 r1)); (obtain ⟨n4, a4, c4, l4, rfl, _, _, _, _⟩ := hi); unfold iv at *))
      have hB9 := bthen HB0.out hBc
      clear x0 x1 y0 y1
      go_wp2
      refine bodyPost_ret (v := .agg #[.bool n4, .slice a4 l4.length c4]) (by simp [results, Tryz.results144, go_sem, *]) rfl ⟨⟨_, rfl, HI2.out _ _⟩, ?_⟩
      repeat (first | exact Below.refl _ _ | exact hB9 | refine Below.drew ?_ | refine below_drewN ?_ _ | refine bset ?_ (by simp <;> omega) _ | refine bal ?_ _)
    · have hz : (0 : Int) ≤ cmpN (NumR.val l1) (NumR.val l2) := by have := (cmpN_neg (x := NumR.val l1) (y := NumR.val l2)); rw [decide_eq_false hlt] at this; have := of_decide_eq_false this; omega
      have HS := Lib.hid (show sg n1 (NumR.val l1 - NumR.val l2) = sg n1 (NumR.val l1) + sg n2 (NumR.val l2) by rw [hnn]; exact sg_sub_ge _ _ _ (by omega))
      have pc := fun w h1 h2 => rminusU a1 a2 c1 c2 l1 l2 w h1 h2 q1 q2 g2 k1 (by omega)
      generalize cmpN (NumR.val l1) (NumR.val l2) = z at *
      clear hn hnn hlt
      go_enter Tryz.func144, Tryz.ntmps144
      go_wp2_with fail
      refine (zc _ (u1.keep (by repeat (first | exact Below.refl _ _ | exact hB | refine Below.drew ?_ | refine below_drewN ?_ _ | refine bset ?_ (by simp <;> omega) _ | refine bal ?_ _))) (u2.keep (by repeat (first | exact Below.refl _ _ | exact hB | refine Below.drew ?_ | refine below_drewN ?_ _ | refine bset ?_ (by simp <;> omega) _ | refine bal ?_ _)))).mono ?_
      rintro e w1 ⟨rfl, hb1⟩
      have x0 : w1.cell? ⟨w.heap.size, 0, none⟩ = some (.bool n1) := bkc hb1
      have zx0 := cell_lt x0
      have x1 : w1.cell? ⟨w.heap.size, 1, none⟩ = some (.slice a1 l1.length c1) := bkc hb1
      have y0 : w1.cell? ⟨w.heap.size + 1, 0, none⟩ = some (.bool n2) := bkc hb1
      have zy0 := cell_lt y0
      have y1 : w1.cell? ⟨w.heap.size + 1, 1, none⟩ = some (.slice a2 l2.length c2) := bkc hb1
      have r0 : w1.cell? ⟨w.heap.size + 2, 0, none⟩ = some (.bool false) := bkc hb1
      have zr0 := cell_lt r0
      have r0f : w1.frozen? ⟨w.heap.size + 2, 0, none⟩ = false := bkcf (v := .bool false) hb1
      have r1 : w1.cell? ⟨w.heap.size + 2, 1, none⟩ = some (.slice none 0 0) := bkc hb1
      have r1f : w1.frozen? ⟨w.heap.size + 2, 1, none⟩ = false := bkcf (v := .slice none 0 0) hb1
      have hB : Below w.heap.size w w1 := bthen (by repeat (first | exact Below.refl _ _ | exact hB | refine Below.drew ?_ | refine below_drewN ?_ _ | refine bset ?_ (by simp <;> omega) _ | refine bal ?_ _)) hb1
      have hz : w.heap.size ≤ w1.heap.size := hB.size
      clear zc
      go_wp2
      have hBc : Below w1.heap.size w1 w1.drew := (Below.refl _ _).drew
      have HB0 := Lib.hid hB
      go_region_held3 (fun w' => w'.cell? ⟨w.heap.size, 0, none⟩ = some (.bool n1) ∧ w'.cell? ⟨w.heap.size, 1, none⟩ = some (.slice a1 l1.length c1) ∧ w'.cell? ⟨w.heap.size + 1, 0, none⟩ = some (.bool n2) ∧ w'.cell? ⟨w.heap.size + 1, 1, none⟩ = some (.slice a2 l2.length c2))
        (first | exact ⟨x0, x1, y0, y1⟩ | exact ⟨bkeep hBc x0, bkeep hBc x1, bkeep hBc y0, bkeep hBc y1⟩ | exact ⟨cell_far (cell_far (bkeep hBc x0) (addr_ne (by omega)) _) (addr_ne (by omega)) _, cell_far (cell_far (bkeep hBc x1) (addr_ne (by omega)) _) (addr_ne (by omega)) _, cell_far (cell_far (bkeep hBc y0) (addr_ne (by omega)) _) (addr_ne (by omega)) _, cell_far (cell_far (bkeep hBc y1) (addr_ne (by omega)) _) (addr_ne (by omega)) _⟩)
        (first
          | (go_at_call 162; refine (pc _ (u1.keep (bthen HB0.out hBc)) (u2.keep (bthen HB0.out hBc))).mono ?_; rintro e w3 ⟨⟨u3, rfl, a3, k3, L, rfl, hu, hr, hv⟩, hb3⟩; (replace hBc := bthen hBc hb3))
          | (go_at_call 100; refine (rnorm_c n1 _ _ _ _ hu hr).mono ?_; rintro e w4 ⟨⟨v, rfl, hi⟩, hb4⟩; (replace hBc := bthen hBc hb4); (replace r0f := bkeepf hBc r0 r0f); (replace r1f := bkeepf hBc r1 r1f); (replace r0 := bkeep hBc r0); (replace r1 := bkeep hBc r1); (rw [hv, HS.out] at hi); (have HI2 := Lib.hid (hi.put2 r0 r1)); (obtain ⟨n4, a4, c4, l4, rfl, _, _, _, _⟩ := hi); unfold iv at *))
      have hB9 := bthen HB0.out hBc
      clear x0 x1 y0 y1
      go_wp2
      refine bodyPost_ret (v := .agg #[.bool n4, .slice a4 l4.length c4]) (by simp [results, Tryz.results144, go_sem, *]) rfl ⟨⟨_, rfl, HI2.out _ _⟩, ?_⟩
      repeat (first | exact Below.refl _ _ | exact hB9 | refine Below.drew ?_ | refine below_drewN ?_ _ | refine bset ?_ (by simp <;> omega) _ | refine bal ?_ _)
theorem radd_c (vx vy : Value) (x y : Int) (k : Nat) (w : World) (hx : IsRef w vx x) (hy : IsRef w vy y) (bx : Bd k x) (by' : Bd k y) (hk : k ≤ 17179869184) :
    Calls Tryz.prog 144 #[vx, vy] w fun e w' => (∃ v, e = .returned v ∧ IsRef w' v (x + y)) ∧ Below w.heap.size w w' := by
  obtain ⟨n1, a1, c1, l1, rfl, u1, q1, g1, s1, rfl⟩ := hx
  obtain ⟨n2, a2, c2, l2, rfl, u2, q2, g2, s2, rfl⟩ := hy
  exact raddV_c n1 n2 a1 a2 c1 c2 l1 l2 w u1 u2 q1 q2 g1 g2 (Nat.le_trans (rbd_len g1 (rsg_bd bx) hk) (by omega)) (Nat.le_trans (rbd_len g2 (rsg_bd by') hk) (by omega))
end Go.Proofs.YthaohpfbengabaaGreatDoor

/- The reference's numbers: bits, bit. -/
namespace Go.Proofs.YthaohpfbengabaaGreatDoor
open Num
open Go.ChangeShapes Go.WideShapes Go.ChangeAt Go.RowKit
set_option linter.unusedVariables false
set_option linter.unusedSimpArgs false

set_option maxRecDepth 100000 in
set_option maxHeartbeats 1000000 in
theorem rbits_c (a : Option Addr) (ca : Nat) (l : List Nat) (w : World) (ha : U32 w a ca l) (hl : NumR.Limbs l) (hn : Nrm l) (h1 : l.length ≤ 2147483650) :
    Calls Tryz.prog 159 #[.slice a l.length ca] w fun e w' => e = .returned (.int .i64 (bitN (NumR.val l))) ∧ w = w' := by
  cases hk : l.length with
  | zero =>
    obtain rfl : l = [] := List.length_eq_zero_iff.1 hk
    go_enter Tryz.func159, Tryz.ntmps159
    go_wp2
    go_ret
    exact ⟨rfl, rfl⟩
  | succ k =>
    rcases ha.2.2.2 with h0 | ⟨ba, oa, rfl, hca⟩
    · subst h0; simp at hk
    have c0 := hca k (by omega)
    have hv := NumR.bitN_nrm hl hn hk
    have hx := NumR.limb_get hl k
    have HV := Lib.hid hv
    clear hv
    generalize l.getD k 0 = x at *
    have hkz : (((k + 1 : Nat) : Int) == 0) = false := by rw [beq_eq_false_iff_ne]; omega
    have hx' : x < 65536 := hx
    have hbx : bitN x ≤ 16 := NumR.bitN_le (n := 16) hx
    go_enter Tryz.func159, Tryz.ntmps159
    go_wp2
    go_loop [3, 4] (fun n t => ∃ j y : Nat, n = .int .i64 (16 * (k : Int) + (j : Int)) ∧ t = .int .u32 y ∧ y ≤ x ∧ Hid (j + bitN y = bitN x)) (fun _ t => (intOf t).toNat)
    case atStart => exact ⟨0, x, by simp, rfl, Nat.le_refl _, Lib.hid (by omega)⟩
    case round =>
      obtain ⟨j, y, rfl, rfl, hy, hj⟩ := hrel
      have hj16 : j ≤ 16 := by have := hj.out; omega
      by_cases hy0 : 0 < y
      · have HH := Lib.hid (show j + 1 + bitN (y / 2) = bitN x by have := bitN_half (Nat.ne_of_gt hy0); have := hj.out; omega)
        obtain ⟨z, hz⟩ : ∃ z, z = y / 2 := ⟨_, rfl⟩
        rw [← hz] at HH
        have e1 : (y : Int) / 2 = (z : Int) := by omega
        have e2 : (y : Int).tdiv 2 = (z : Int) := by rw [Int.tdiv_eq_ediv_of_nonneg (by omega)]; exact e1
        have hzy : z < y := by omega
        clear hz
        go_wp2
        exact ⟨⟨j + 1, z, by first | rfl | (congr 1; omega) | (congr 1), rfl, by omega, HH⟩, by simp [intOf] <;> omega⟩
      · obtain rfl : y = 0 := by omega
        have HE := Lib.hid (show 16 * (k : Int) + (j : Int) = (bitN (NumR.val l) : Int) by have := hj.out; have := HV.out; rw [show bitN 0 = 0 from rfl] at *; omega)
        go_wp2
        go_ret
        exact ⟨ret_int HE.out, rfl⟩

set_option maxRecDepth 100000 in
set_option maxHeartbeats 1000000 in
theorem rbit_c (a : Option Addr) (ca : Nat) (l : List Nat) (k : Nat) (w : World) (ha : U32 w a ca l) (hl : NumR.Limbs l) (hk : k / 16 < l.length) (h1 : l.length ≤ 2147483650) :
    Calls Tryz.prog 160 #[.slice a l.length ca, .int .i64 (k : Int)] w fun e w' => e = .returned (.int .u32 ((NumR.val l / 2 ^ k % 2 : Nat) : Int)) ∧ w = w' := by
  rcases ha.2.2.2 with h0 | ⟨ba, oa, rfl, hca⟩
  · subst h0; simp at hk
  have c0 := hca (k / 16) hk
  have hx := NumR.limb_get hl (k / 16)
  have HV := Lib.hid (NumR.bit_val hl k)
  have hkb : k ≤ 34359738416 := by omega
  generalize l.getD (k / 16) 0 = x at *
  obtain ⟨q, hq⟩ : ∃ q, q = k / 16 := ⟨_, rfl⟩
  obtain ⟨m, hm⟩ : ∃ m, m = k % 16 := ⟨_, rfl⟩
  rw [← hq] at c0 hk
  rw [← hm] at HV
  have e1 : (k : Int) / 16 = (q : Int) := by omega
  have e1' : (k : Int).tdiv 16 = (q : Int) := by rw [Int.tdiv_eq_ediv_of_nonneg (by omega)]; exact e1
  have e2 : (k : Int) % 16 = (m : Int) := by omega
  have e2' : (k : Int).tmod 16 = (m : Int) := by rw [Int.tmod_eq_emod_of_nonneg (by omega)]; exact e2
  have hm16 : m < 16 := by omega
  have hqz : (q : Int) < (l.length : Int) := by omega
  have hx' : x < 65536 := hx
  obtain ⟨y, hy⟩ : ∃ y, y = x / 2 ^ m := ⟨_, rfl⟩
  rw [← hy] at HV
  have hyx : y ≤ x := by rw [hy]; exact Nat.div_le_self _ _
  have e3 : (x : Int) / 2 ^ m = (y : Int) := by rw [hy, Int.natCast_ediv, Int.natCast_pow]; rfl
  have e4 : bits .and .u32 (y : Int) 1 = ((y % 2 : Nat) : Int) := by
    have := bits_and_u32_nat y 1 (by omega) (by omega)
    rw [Nat.and_one_is_mod] at this
    exact this
  obtain ⟨r, hr⟩ : ∃ r, r = y % 2 := ⟨_, rfl⟩
  rw [← hr] at e4 HV
  clear hq hm hy hr ha hca
  go_enter Tryz.func160, Tryz.ntmps160
  go_wp2
  go_ret
  exact ⟨by rw [← HV.out]; rfl, rfl⟩
end Go.Proofs.YthaohpfbengabaaGreatDoor

/- The reference's numbers: divide. -/
namespace Go.Proofs.YthaohpfbengabaaGreatDoor
open Num
open Go.ChangeShapes Go.WideShapes Go.ChangeAt Go.RowKit
set_option linter.unusedVariables false
set_option linter.unusedSimpArgs false
/-- a slice of digits without high noughts -/
def NewN (w' : World) (u : Value) (v : Nat) : Prop := ∃ a c L, u = .slice a (List.length L) c ∧ U32 w' a c L ∧ NumR.Limbs L ∧ Nrm L ∧ NumR.val L = v
theorem NewN.keep {w w' : World} {u : Value} {v : Nat} (h : NewN w u v) (hb : Below w.heap.size w w') : NewN w' u v := by
  obtain ⟨a, c, L, h1, h2, h3⟩ := h
  exact ⟨a, c, L, h1, h2.keep hb, h3⟩
theorem rnormU (a : Option Addr) (ca : Nat) (l : List Nat) (w : World) (ha : U32 w a ca l) (hr : NumR.Limbs l) :
    Calls Tryz.prog 100 #[.bool false, .slice a l.length ca] w fun e w' => (∃ u, e = .returned (.agg #[.bool false, u]) ∧ NewN w' u (NumR.val l)) ∧ Below w.heap.size w w' :=
  (rnormK_c false a ca l w ha).mono fun e w' ⟨he, hb⟩ => ⟨⟨_, by rw [he]; rfl, a, ca, trimL l, rfl, (ha.cap (trim_prefix l)).keep hb, NumR.trim_limbs hr, trim_nrm l, NumR.val_trim l⟩, hb⟩
/-- digits in a row of the call's own, in a block from B on -/
def OwnB (B : Nat) (wr : World) (v : Value) (L : List Nat) : Prop := wr.ownsRow B 133 1 v L.length (cel L)
theorem OwnB.below {B : Nat} {wr w' : World} {v : Value} {L : List Nat} (h : OwnB B wr v L) (hb : Below wr.heap.size wr w') : OwnB B w' v L := own_below (w0 := wr) h hb
theorem OwnB.u32 {B : Nat} {w : World} {v : Value} {L : List Nat} (h : OwnB B w v L) (hL : Limbs L) : ∃ a c, v = .slice a L.length c ∧ U32 w a c L := own_u32 h hL
theorem OwnB.nil (B : Nat) (w : World) : OwnB B w (.slice none 0 0) [] := World.ownsRow_nil _ _ _ _
theorem OwnB.of {B : Nat} {w0 wr : World} {v : Value} {L : List Nat} (h : Own32 w0 wr v L) (hB : B ≤ w0.heap.size) : OwnB B wr v L := World.ownsRow.mono h.1 hB
theorem OwnB.ex {B : Nat} {wr : World} {v : Value} {L : List Nat} (h : OwnB B wr v L) : (v = .slice none 0 0 ∧ L = []) ∨ ∃ g cap, v = .slice (some ⟨g, 0, none⟩) L.length cap ∧ B ≤ g ∧ L.length ≤ cap := by
  obtain ⟨h0, h⟩ := h
  rcases h with ⟨rfl, h1⟩ | ⟨g, cap, cur, rfl, hg, _, hc, _⟩
  · exact .inl ⟨rfl, List.length_eq_zero_iff.1 h1⟩
  · exact .inr ⟨g, cap, rfl, hg, hc⟩
theorem OwnB.cell {B g cap : Nat} {wr : World} {L : List Nat} (h : OwnB B wr (.slice (some ⟨g, 0, none⟩) L.length cap) L) (k : Nat) (hk : k < L.length) : wr.cell? ⟨g, k, none⟩ = some (.int .u32 (L.getD k 0 : Nat)) := by
  rw [World.ownsRow.cellAt h k (by omega), cel_get L k hk]
theorem OwnB.frozen {B g cap : Nat} {wr : World} {L : List Nat} (h : OwnB B wr (.slice (some ⟨g, 0, none⟩) L.length cap) L) (k : Nat) : wr.frozen? ⟨g, k, none⟩ = false := World.ownsRow.frozenAt h k
theorem OwnB.set {B g cap : Nat} {wr : World} {L : List Nat} (h : OwnB B wr (.slice (some ⟨g, 0, none⟩) L.length cap) L) (k x : Nat) (hk : k < L.length) : OwnB B (wr.setCell ⟨g, k, none⟩ (.int .u32 (x : Int))) (.slice (some ⟨g, 0, none⟩) (L.set k x).length cap) (L.set k x) := by
  obtain ⟨hl, h1⟩ := h
  rcases h1 with ⟨h2, _⟩ | ⟨g', cap', cur, h2, hg, hh, hc, hm, hs, ht⟩
  · cases h2
  · cases h2
    refine ⟨by simp [cel_len], .inr ⟨g, cap, cur.setIfInBounds k (.int .u32 (x : Int)), rfl, hg, ?_, by simpa using hc, hm, by simpa using hs, ?_⟩⟩
    · unfold World.setCell
      simp only [Array.getElem?_modify, if_true]
      rw [hh]; rfl
    · rw [Array.toList_setIfInBounds, List.length_set, List.take_set, ht]
      simp [cel, List.map_set]
theorem OwnB.far {B : Nat} {wr : World} {v : Value} {L : List Nat} (h : OwnB B wr v L) {p : Addr} (hp : p.block < B) (u : Value) : OwnB B (wr.setCell p u) v L := ownsRow_setCell_below h hp u
theorem OwnB.cut {B g cap : Nat} {wr : World} {L M : List Nat} (h : OwnB B wr (.slice (some ⟨g, 0, none⟩) L.length cap) L) (hp : M <+: L) : OwnB B wr (.slice (some ⟨g, 0, none⟩) M.length cap) M := by
  obtain ⟨hl, h1⟩ := h
  have hml := hp.length_le
  rcases h1 with ⟨h2, _⟩ | ⟨g', cap', cur, h2, hg, hh, hc, hm, hs, ht⟩
  · cases h2
  · cases h2
    refine ⟨by simp [cel_len], .inr ⟨g, cap, cur, rfl, hg, hh, by omega, hm, hs, ?_⟩⟩
    obtain ⟨t, rfl⟩ := hp
    rw [Nat.mul_one] at *
    have : cur.toList.take M.length = (cur.toList.take (M ++ t).length).take M.length := by rw [List.take_take, Nat.min_eq_left (by simp)]
    rw [this, ht, cel_app]
    rw [List.take_left' (cel_len M)]
theorem OwnB.cut' {B : Nat} {wr : World} {a : Option Addr} {cap : Nat} {L M : List Nat} (h : OwnB B wr (.slice a L.length cap) L) (hp : M <+: L) : OwnB B wr (.slice a M.length cap) M := by
  rcases h.ex with ⟨h1, h2⟩ | ⟨g, c, h1, _⟩
  · subst h2
    obtain rfl : M = [] := List.prefix_nil.1 hp
    exact h
  · cases h1
    exact h.cut hp
theorem appB32 {ops : Array Oper} {rest : List Oper} {o : Oper} {a : Act} {Q : Exit → Act → World → Prop} {B : Nat} {wr : World} {v : Value} {L X : List Nat} {t : TypeId} (hgd : o.guard = none) {s x : Operand}
    (ho : o.op = .call { callee := .builtin .append, args := #[s, x], argTypes := #[34, 34] }) (hO : OwnB B wr v L) (hB : B ≤ wr.heap.size) (hs : a.eval s = v)
    {c : Nat} (hx : a.eval x = .slice (some ⟨wr.heap.size, 0, none⟩) X.length c) (hn : L.length + X.length ≤ 1099511627776)
    (h : ∀ v' w', OwnB B w' v' (L ++ X) → Out (fun k => v.ownBlock = some k) wr w' → wpList Tryz.prog ops Q rest (a.put o.dst v') w') : wpList Tryz.prog ops Q (o :: rest) a (wr.alloc (.cells (cel X).toArray t)) := by
  obtain ⟨i0, hi, hz0, hz1, hz2⟩ := info_parts info32
  refine wpList_append_own _ hgd s x 34 ho B 133 i0 (.int .u32 0) 1 4 Tryz.underlying34 hi hz0 hz1 hz2 rfl (by decide) v L.length (cel L) hs (World.ownsRow.alloc hO _) ⟨wr.heap.size, 0, none⟩ X.length c (cel X) hx (by rw [cel_len, Nat.mul_one]) (cells_new wr (cel X) t) (cel_one X) (by unfold maxLen; omega) (by omega) (by simp; omega) ?_
  intro v' w' hown hg _
  refine h v' w' (by unfold OwnB; rw [cel_app, List.length_append]; exact hown) (((Out.refl _ wr).alloc _).grown hg fun k hk _ => hk)

theorem fieldD (b : Bool) (a : Option Addr) (n c : Nat) (W : World) : (Instr.field 43 (.agg #[.bool b, .slice a n c]) 1).run Tryz.prog W = .ok (.slice a n c) W := by kernel_rfl

set_option maxRecDepth 100000 in
set_option maxHeartbeats 4000000 in
theorem rdiv1_c (a b : Option Addr) (ca cb : Nat) (A : List Nat) (c : Nat) (w : World) (ha : U32 w a ca A) (hb : U32 w b cb [c]) (hA : NumR.Limbs A) (hcB : c < NumR.BB) (hc : 0 < c) (h1 : A.length ≤ 2147483650) :
    Calls Tryz.prog 125 #[.slice a A.length ca, .slice b 1 cb] w fun e w' => (∃ u v, e = .returned (.tuple #[u, v]) ∧ NewN w' u (NumR.val A / c) ∧ NewN w' v (NumR.val A % c)) ∧ Below w.heap.size w w' := by
  rcases hb.2.2.2 with hn | ⟨bb, ob, rfl, hcell⟩
  · cases hn
  have c0 := hcell 0 (by simp)
  simp only [List.getD_cons_zero, Nat.add_zero] at c0
  have hmk := mk32 A.length (by omega)
  have hbz := cell_lt c0
  have hbne : bb ≠ w.heap.size := by omega
  have hbne' : w.heap.size ≠ bb := by omega
  have hcz : ((c : Int) == 0) = false := by simp; omega
  have hc' : c < 65536 := hcB
  clear hcell
  go_enter Tryz.func125, Tryz.ntmps125
  go_wp2
  clear hmk
  go_loopw [7, 8] (fun rx x wr => ∃ (k r : Nat) (O : List Nat), k ≤ A.length ∧ x = .int .i64 ((k : Int) - 1) ∧ rx = .int .u64 r ∧ r < c ∧ Blk wr w.heap.size O ∧ Hid (O.length = A.length) ∧ NumR.Limbs O ∧ Hid (∀ j, j < k → O.getD j 0 = 0) ∧ Hid (NumR.val O * c + r * NumR.BB ^ k + NumR.val (A.take k) = NumR.val A) ∧ Below w.heap.size w wr) (fun _ x _ => (intOf x + 1).toNat)
  case atStart => exact ⟨A.length, 0, List.replicate A.length 0, Nat.le_refl _, rfl, rfl, hc, blk_new w _, Lib.hid (by simp), (fun y hy => by simp at hy; rw [hy.2]; exact NumR.BB_pos), Lib.hid (fun j hj => by simp [List.getElem?_replicate, hj]), Lib.hid (by rw [NumR.val_zeros]; simp), bal (Below.refl _ _) _⟩
  case round =>
    obtain ⟨k, r, O, hk, rfl, rfl, hr, hO, hOl, hOL, hO0, hV, hB⟩ := hrel
    have d0 := bkeep hB c0
    cases k with
    | zero =>
      have HD := Lib.hid (kn_done (N := NumR.val A) (D := c) (g := NumR.val O) (W := r) hc (by
        have h := hV.out
        simp [NumR.val] at h
        rw [← h, Nat.add_comm, Nat.add_mul_div_right _ _ hc, Nat.div_eq_of_lt hr, Nat.zero_add]; exact Nat.le_refl _) (by have h := hV.out; simp [NumR.val] at h; rw [Nat.mul_comm]; omega))
      have hu := hO.u32 (limbs_of_r hOL) (by have := hOl.out; unfold maxLen; omega)
      have nc := fun W (h : Below wr.heap.size wr W) => rnormU (some ⟨w.heap.size, 0, none⟩) O.length O W (hu.keep h) hOL
      rw [hOl.out] at nc
      have nd := fun (g : Nat) (W : World) (hg : g = W.heap.size) => rnormU (some ⟨g, 0, none⟩) 1 [r] (W.alloc (.cells (cel [r]).toArray 133)) ((blk_at hg).u32 (fun x hx => by simp at hx; subst hx; unfold NumR.BB at hcB; unfold BB; omega) (by simp [maxLen])) (fun x hx => by simp at hx; subst hx; omega)
      have hr32 : (r : Int) % 4294967296 = (r : Int) := by omega
      clear hu hV hO hOL hOl
      have hfd := fieldD
      go_wp2_with fail
      (with_reducible refine (nc _ (Below.refl _ _)).mono ?_)
      rintro e w1 ⟨⟨u, rfl, hq⟩, hb1⟩
      have HQ := Lib.hid hq
      obtain ⟨a1, n1, L1, rfl, -⟩ := hq
      clear nc
      go_wp2_with fail
      refine (nd _ _ rfl).mono ?_
      rintro e w2 ⟨⟨u2, rfl, hq⟩, hb2⟩
      have HR := Lib.hid hq
      obtain ⟨a2, n2, L2, rfl, -⟩ := hq
      go_wp2
      go_ret2
      exact ⟨⟨_, _, rfl, by rw [HD.out.1]; exact HQ.out.keep (bthen (bal (Below.refl _ _) _) hb2), by rw [HD.out.2]; have := HR.out; simpa [NumR.val] using this⟩, bthen (bal (bthen hB hb1) _) hb2⟩
    | succ j =>
      rcases ha.2.2.2 with hl0 | ⟨ba, oa, rfl, hca⟩
      · subst hl0; simp at hk
      have c1 := bkeep hB (hca j (by omega))
      have hx := NumR.limb_get hA j
      have q0 := hO.cell j (by have := hOl.out; omega)
      have qf := hO.frozen j
      have HS := Lib.hid (NumR.short_step (O := O) (A := A) (j := j) (c := c) (rest := r) hc (by have := hOl.out; omega) (hO0.out j (by omega)) (by omega) hV.out)
      have hql := NumR.short_lt hr hx
      have hrl := Nat.mod_lt (r * NumR.BB + A.getD j 0) hc
      generalize A.getD j 0 = x at *
      generalize O.getD j 0 = o at *
      have hx' : x < 65536 := hx
      obtain ⟨t, ht⟩ : ∃ t, t = r * NumR.BB + x := ⟨_, rfl⟩
      rw [← ht] at HS hql hrl
      have et : (r : Int) * 65536 + (x : Int) = (t : Int) := by unfold NumR.BB at ht; omega
      have htB : t < 4294967296 := by unfold NumR.BB at ht; omega
      have e3 : (t : Int) / (c : Int) = ((t / c : Nat) : Int) := rfl
      have e4 : (t : Int) % (c : Int) = ((t % c : Nat) : Int) := rfl
      have e3' : (t : Int).tdiv (c : Int) = ((t / c : Nat) : Int) := rfl
      have e4' : (t : Int).tmod (c : Int) = ((t % c : Nat) : Int) := rfl
      generalize t / c = q at *
      generalize t % c = r2 at *
      have hq' : q < 65536 := hql
      have e6 : (q : Int) % 4294967296 = (q : Int) := by omega
      have qb := hO.set j q
      have ql := NumR.limbs_set hOL (k := j) hql
      have bs := bset hB (p := ⟨w.heap.size, j, none⟩) (Nat.le_refl _) (.int .u32 (q : Int))
      clear ht
      go_wp2
      refine ⟨⟨j, r2, O.set j q, by omega, by go_num, rfl, hrl, qb, Lib.hid (by simpa using hOl.out), ql, Lib.hid ?_, HS, bs⟩, by simp [intOf] <;> omega⟩
      intro i hi
      rw [Num.getD_set_ne (by omega)]
      exact hO0.out i (by omega)
end Go.Proofs.YthaohpfbengabaaGreatDoor

/- The reference's numbers: divide by more than one digit; divide. -/
namespace Go.Proofs.YthaohpfbengabaaGreatDoor
open Num
open Go.ChangeShapes Go.WideShapes Go.ChangeAt Go.RowKit
set_option linter.unusedVariables false
set_option linter.unusedSimpArgs false

set_option maxRecDepth 100000 in
set_option maxHeartbeats 8000000 in
theorem rdivL_c (a b : Option Addr) (ca cb : Nat) (A B : List Nat) (w : World) (ha : U32 w a ca A) (hb : U32 w b cb B) (hA : NumR.Limbs A) (hB : NumR.Limbs B) (hAn : Nrm A) (hBn : Nrm B) (hB1 : B.length ≠ 1) (hD0 : 0 < NumR.val B) (h1 : A.length ≤ 1073741826) (h2 : B.length ≤ 1073741826) :
    Calls Tryz.prog 125 #[.slice a A.length ca, .slice b B.length cb] w fun e w' => (∃ u v, e = .returned (.tuple #[u, v]) ∧ NewN w' u (NumR.val A / NumR.val B) ∧ NewN w' v (NumR.val A % NumR.val B)) ∧ Below w.heap.size w w' := by
  have hbz : ((B.length : Int) == 1) = false := by rw [beq_eq_false_iff_ne]; omega
  have hmk := mk32 A.length (by omega)
  have bc := fun W (h : Below w.heap.size w W) => rbits_c a ca A W (ha.keep h) hA hAn (by omega)
  have hbits : bitN (NumR.val A) ≤ 16 * A.length := NumR.bitN_le (by have := NumR.val_lt hA; rwa [NumR.BB_pow] at this)
  have HA2 := Lib.hid (show NumR.val A / 2 ^ bitN (NumR.val A) = 0 from Nat.div_eq_of_lt (NumR.lt_bitN _))
  generalize bitN (NumR.val A) = n at *
  have hfd := fieldD
  have HD0 := Lib.hid hD0
  have hB00 := Below.refl w.heap.size w
  clear hB1 hD0
  go_enter Tryz.func125, Tryz.ntmps125
  go_wp2_with fail
  (with_reducible refine (bc _ (by repeat (first | exact Below.refl _ _ | exact hB00 | refine Below.drew ?_ | refine below_drewN ?_ _ | refine bset ?_ (by simp <;> omega) _ | refine bal ?_ _))).mono ?_)
  rintro e w1 ⟨rfl, rfl⟩
  clear bc hmk
  go_wp2
  go_loopw [10, 11] (fun rv x wr => ∃ (k : Nat) (Q R : List Nat), k ≤ n ∧ x = .int .i64 ((k : Int) - 1) ∧ Blk wr w.heap.size Q ∧ OwnB (w.heap.size + 1) wr rv R ∧ Hid (Q.length = A.length) ∧ NumR.Limbs Q ∧ NumR.Limbs R ∧ Hid (Nrm R) ∧ Hid (∃ q, NumR.val Q = q * 2 ^ k ∧ NumR.val A / 2 ^ k = q * NumR.val B + NumR.val R) ∧ Hid (NumR.val R < NumR.val B) ∧ Below w.heap.size w wr) (fun _ x _ => (intOf x + 1).toNat)
  case atStart => exact ⟨n, List.replicate A.length 0, [], Nat.le_refl _, rfl, blk_new w _, OwnB.nil _ _, Lib.hid (by simp), (fun y hy => by simp at hy; rw [hy.2]; exact NumR.BB_pos), (fun _ h => by cases h), Lib.hid (fun h => absurd rfl h), Lib.hid ⟨0, by rw [NumR.val_zeros]; simp, by rw [HA2.out]; simp [NumR.val]⟩, Lib.hid HD0.out, bal (Below.refl _ _) _⟩
  case round =>
    obtain ⟨k, Q, R, hk, rfl, hQ, hR, hQl, hQL, hRL, hRn, hV, hlt, hBw⟩ := hrel
    cases k with
    | zero =>
      obtain ⟨a9, c9, rfl, hRu⟩ := hR.u32 (limbs_of_r hRL)
      have hu := hQ.u32 (limbs_of_r hQL) (by have := hQl.out; unfold maxLen; omega)
      have nc := fun W (h : Below wr.heap.size wr W) => rnormU (some ⟨w.heap.size, 0, none⟩) Q.length Q W (hu.keep h) hQL
      rw [hQl.out] at nc
      have HD := Lib.hid (show NumR.val A / NumR.val B = NumR.val Q ∧ NumR.val A % NumR.val B = NumR.val R by
        obtain ⟨q, h1, h2⟩ := hV.out
        simp at h1 h2
        have h3 := hlt.out
        rw [h1]
        constructor
        · rw [h2, Nat.add_comm, Nat.add_mul_div_right _ _ HD0.out, Nat.div_eq_of_lt h3, Nat.zero_add]
        · rw [h2, Nat.add_comm, Nat.add_mul_mod_self_right, Nat.mod_eq_of_lt h3])
      clear hu hV hQ hR hQl hlt
      go_wp2_with fail
      (with_reducible refine (nc _ (Below.refl _ _)).mono ?_)
      rintro e w1 ⟨⟨u, rfl, hq⟩, hb1⟩
      have HQ := Lib.hid hq
      obtain ⟨a1, n1, L1, rfl, -⟩ := hq
      clear nc
      go_wp2
      go_ret2
      exact ⟨⟨_, _, rfl, by rw [HD.out.1]; exact HQ.out, ⟨a9, c9, R, rfl, hRu.keep hb1, hRL, hRn.out, HD.out.2.symm⟩⟩, bthen hBw hb1⟩
    | succ j =>
      have tc := fun W (h : Below w.heap.size w W) => rbit_c a ca A j W (ha.keep h) hA (by omega) (by omega)
      have hbt : NumR.val A / 2 ^ j % 2 ≤ 1 := by omega
      obtain ⟨bt, hbte⟩ : ∃ bt, bt = NumR.val A / 2 ^ j % 2 := ⟨_, rfl⟩
      rw [← hbte] at tc hbt
      have HBIT := Lib.hid hbte
      clear hbte
      have HRL := Lib.hid (show R.length ≤ B.length from by
        apply Nat.le_of_not_lt; intro h
        have := NumR.val_lt_of_len hB hRn.out h
        have := hlt.out
        omega)
      have HJ := Lib.hid (show j / 16 < A.length by omega)
      go_wp2_with fail
      (with_reducible refine (tc _ hBw).mono ?_)
      rintro e w2 ⟨rfl, rfl⟩
      clear tc
      obtain ⟨a9, c9, rfl, -⟩ := hR.u32 (limbs_of_r hRL)
      have hbt' : bt < 65536 := by omega
      have hRm : R.length ≤ 1073741826 := by have := HRL.out; omega
      go_wp2
      go_loopw [12, 13] (fun cx x wi => ∃ (i c : Nat) (T : List Nat), i ≤ R.length ∧ x = .int .i64 i ∧ cx = .int .u32 c ∧ c ≤ 1 ∧ Blk wi w.heap.size Q ∧ OwnB (w.heap.size + 1) wi (.slice a9 R.length c9) T ∧ Hid (T.length = R.length) ∧ NumR.Limbs T ∧ Hid (∀ m, i ≤ m → T.getD m 0 = R.getD m 0) ∧ Hid (NumR.val T + c * NumR.BB ^ i = (NumR.val R + bt) + NumR.val (R.take i)) ∧ Below w.heap.size w wi) (fun _ x _ => R.length - (intOf x).toNat)
      case atStart => exact ⟨0, bt, R, Nat.zero_le _, rfl, rfl, hbt, hQ, hR, Lib.hid rfl, hRL, Lib.hid (fun _ _ => rfl), Lib.hid (by simp [NumR.val]), hBw⟩
      case round =>
        rename World => wi
        obtain ⟨i, c, T, hi, rfl, rfl, hc1, hQ2, hR2, hTl, hR2L, hT0, hTV, hBw⟩ := hrel
        by_cases hir : i < R.length
        · have hirz : (i : Int) < (R.length : Int) := by omega
          have hR2' := hR2
          rw [← hTl.out] at hR2'
          rcases hR2'.ex with ⟨h0, hT⟩ | ⟨g, cap, hv, hg, hcap⟩
          · exfalso; have := hTl.out; rw [hT] at this; simp at this; omega
          cases hv
          have q0 := hR2'.cell i (by have := hTl.out; omega)
          have qf := hR2'.frozen i
          have hx := NumR.limb_get hR2L i
          have HS := Lib.hid (fun t ht => NumR.twice_step (R := T) (R0 := R) (i := i) (c := c) (t := t) (V := NumR.val R + bt) (by have := hTl.out; omega) (hT0.out i (Nat.le_refl _)) ht hTV.out)
          rw [← hT0.out i (Nat.le_refl _)] at HS
          generalize T.getD i 0 = x at *
          have hx' : x < 65536 := hx
          have e1 : IntKind.u32.wrap (2 * (x : Int)) = 2 * (x : Int) := by rw [show 2 * (x : Int) = ((2 * x : Nat) : Int) by omega]; exact w32 (by unfold BB; omega)
          have e2 : IntKind.u32.wrap ((c : Int) + 2 * (x : Int)) = (c : Int) + 2 * (x : Int) := by rw [show (c : Int) + 2 * (x : Int) = ((c + 2 * x : Nat) : Int) by omega]; exact w32 (by unfold BB; omega)
          have HS2 := Lib.hid (HS.out (c + 2 * x) rfl)
          have hmB : (c + 2 * x) % NumR.BB < NumR.BB := Nat.mod_lt _ NumR.BB_pos
          have hdB : (c + 2 * x) / NumR.BB ≤ 1 := by unfold NumR.BB; omega
          obtain ⟨lo, hlo⟩ : ∃ lo, lo = (c + 2 * x) % NumR.BB := ⟨_, rfl⟩
          obtain ⟨up, hup⟩ : ∃ up, up = (c + 2 * x) / NumR.BB := ⟨_, rfl⟩
          rw [← hlo] at HS2 hmB
          rw [← hup] at HS2 hdB
          have g1 : ((c : Int) + 2 * (x : Int)) % 65536 = (lo : Int) := by unfold NumR.BB at hlo; omega
          have g2 : ((c : Int) + 2 * (x : Int)) / 65536 = (up : Int) := by unfold NumR.BB at hup; omega
          have g3 : ((c : Int) + 2 * (x : Int)).tmod 65536 = (lo : Int) := by rw [Int.tmod_eq_emod_of_nonneg (by omega)]; exact g1
          have g4 : ((c : Int) + 2 * (x : Int)).tdiv 65536 = (up : Int) := by rw [Int.tdiv_eq_ediv_of_nonneg (by omega)]; exact g2
          have qb := hR2'.set i lo (by have := hTl.out; omega)
          have qq := hQ2.far ⟨g, i, none⟩ (.int .u32 (lo : Int)) (by show w.heap.size ≠ g; omega)
          have ql := NumR.limbs_set hR2L (k := i) hmB
          have bs := bset hBw (p := ⟨g, i, none⟩) (by show w.heap.size ≤ g; omega) (.int .u32 (lo : Int))
          rw [List.length_set, hTl.out] at qb
          clear hlo hup HS hR2 hR2' hQ2
          go_wp2
          refine ⟨⟨i + 1, up, T.set i lo, by omega, by go_num, rfl, hdB, qq, qb, Lib.hid (by simpa using hTl.out), ql, Lib.hid ?_, HS2, bs⟩, by simp [intOf] <;> omega⟩
          intro m hm
          rw [Num.getD_set_ne (by omega)]
          exact hT0.out m (by omega)
        · obtain rfl : i = R.length := by omega
          have HV2 := Lib.hid (show NumR.val T + c * NumR.BB ^ T.length = bt + 2 * NumR.val R by
            have := hTV.out
            rw [List.take_length] at this
            rw [hTl.out]; omega)
          have HLEN := hTl
          clear hTV hT0
          -- behind the doubling: c is what is carried out of T
          rcases (show c = 0 ∨ c = 1 by omega) with rfl | rfl
          · have HV3 := Lib.hid (show NumR.val (T) = bt + 2 * NumR.val R by have := HV2.out; simpa using this)
            have HN3 := Lib.hid (show Nrm (T) from NumR.nrm_of_val hR2L fun hne => by
              have h1 := HLEN.out
              have h2 := NumR.nrm_val_pos hRn.out (by intro e; apply hne; apply List.length_eq_zero_iff.1; rw [h1, e]; rfl)
              rw [HV3.out, h1]; omega)
            have hR3 := hR2
            have hQ3 := hQ2
            have hR3L := hR2L
            clear hR2 hQ2 HV2
            -- the rest, twice and a digit more, lies in .slice a9 R.length c9
            obtain ⟨a3, k3, hv3, hU3⟩ := hR3.u32 (limbs_of_r hR3L)
            have zc := fun W h1 h2 => rsize_c a3 b k3 cb (T) B W h1 h2 hR3L hB HN3.out hBn
            have HV3s := Lib.hid hv3
            rw [← hv3] at zc
            clear hv3
            by_cases hge : NumR.val B ≤ NumR.val (T)
            · have hnl : ¬ NumR.val (T) < NumR.val B := by omega
              have hz : (0 : Int) ≤ cmpN (NumR.val (T)) (NumR.val B) := by have := (cmpN_neg (x := NumR.val (T)) (y := NumR.val B)); rw [decide_eq_false hnl] at this; have := of_decide_eq_false this; omega
              have HMIN := Lib.hid (fun W (h1 : U32 W a3 k3 (T)) h2 => rminus_c a3 b k3 cb (T) B W h1 h2 hR3L hB (by
                apply Nat.le_of_lt_succ
                have := HLEN.out
                have := HRL.out
                simp <;> omega) (by
                apply Nat.le_of_not_lt; intro h
                have := NumR.val_lt_of_len hR3L hBn h
                omega) hge)
              have HSUB := Lib.hid (show ∀ O : List Nat, NumR.val O + NumR.val B = NumR.val (T) → NumR.val (trimL O) = NumR.val (T) - NumR.val B from fun O h => by rw [NumR.val_trim]; omega)
              have HSTEP := Lib.hid (show ∃ q, NumR.val Q = q * 2 ^ (j + 1) ∧ (∃ q', NumR.val Q + 2 ^ j = q' * 2 ^ j ∧ NumR.val A / 2 ^ j = q' * NumR.val B + (NumR.val (T) - NumR.val B)) by
                obtain ⟨q, h1, h2⟩ := hV.out
                obtain ⟨h3, h4⟩ := NumR.bit_take h2 HBIT.out h1
                rw [← HV3.out] at h3
                obtain ⟨h5, h6⟩ := NumR.bit_more h3 hge h4
                exact ⟨q, h1, 2 * q + 1, h6, h5⟩)
              have HLT := Lib.hid (show NumR.val (T) - NumR.val B < NumR.val B by
                have := HV3.out
                have := hlt.out
                omega)
              have HOR := Lib.hid (by
                obtain ⟨q, h1, h2⟩ := hV.out
                exact NumR.or_val (l := Q) (k := j) (Q := q) hQL h1)
              have HMORE := Lib.hid (NumR.set_bit (l := Q) (k := j) (by have := hQl.out; have := HJ.out; omega))
              generalize cmpN (NumR.val (T)) (NumR.val B) = z at *
              clear hge hnl
              go_wp2_with fail
              (with_reducible refine (zc _ hU3 (hb.keep hBw)).mono ?_)
              rintro e w5 ⟨rfl, hb5⟩
              have hR5 := hR3.below hb5
              have hU5 := hU3.keep hb5
              have hQ5 := hQ3.keep hb5
              have hB5 := bthen hBw hb5
              have mc := HMIN.out
              rw [← HV3s.out] at mc
              clear zc hR3 hQ3 hU3
              go_wp2_with fail
              (with_reducible refine (mc _ hU5 (hb.keep hB5)).mono ?_)
              rintro e w6 ⟨v6, rfl, O, hO, hOL, hOl, hOv⟩
              have HOv := Lib.hid hOv
              clear hOv hOl
              obtain ⟨aO, cO, rfl, hOu⟩ := hO.u32 (limbs_of_r hOL)
              have hB6 := bthen hB5 hO.2
              have hQ6 := hQ5.keep hO.2
              have hOB := OwnB.of hO (B := w.heap.size + 1) hQ5.lt
              clear mc hU5 hR5 hQ5 hO
              go_wp2_with fail
              (with_reducible refine (rnormK_c false aO cO O _ hOu).mono ?_)
              rintro e w7 ⟨rfl, hb7⟩
              unfold iv
              have hQ4 := hQ6.keep hb7
              have hB7 := bthen hB6 hb7
              have hRT := (hOB.below hb7).cut' (trim_prefix O)
              have HRT := Lib.hid (And.intro (NumR.trim_limbs hOL) (And.intro (trim_nrm O) (HSUB.out O HOv.out)))
              generalize trimL O = T4 at *
              clear hOB hOu hQ6 HOv hOL
              go_wp2
              -- a binary digit of the quotient is set, in the world w7; the rest is T4
              have q0 := hQ4.cell (j / 16) (by have := hQl.out; have := HJ.out; omega)
              have qf := hQ4.frozen (j / 16)
              have ho := HOR.out
              obtain ⟨jq, hjq⟩ : ∃ jq, jq = j / 16 := ⟨_, rfl⟩
              obtain ⟨jm, hjm⟩ : ∃ jm, jm = j % 16 := ⟨_, rfl⟩
              have g1 : (j : Int) / 16 = (jq : Int) := by omega
              have g1' : (j : Int).tdiv 16 = (jq : Int) := by rw [Int.tdiv_eq_ediv_of_nonneg (by omega)]; exact g1
              have g2 : (j : Int) % 16 = (jm : Int) := by omega
              have g2' : (j : Int).tmod 16 = (jm : Int) := by rw [Int.tmod_eq_emod_of_nonneg (by omega)]; exact g2
              have hjm16 : jm < 16 := by omega
              have hjqz : (jq : Int) < (A.length : Int) := by have := HJ.out; omega
              have qb := hQ4.set (j / 16) (Q.getD (j / 16) 0 + 2 ^ (j % 16))
              have ql := NumR.limbs_set hQL (k := j / 16) ho.2
              rw [← hjq] at q0 qf
              rw [← hjq, ← hjm] at qb ho
              have hpw : 2 ^ jm < 65536 := Nat.lt_of_lt_of_le (Nat.pow_lt_pow_right (by omega) hjm16) (by decide)
              have hvv := HMORE.out
              rw [← hjq, ← hjm] at hvv ql
              have hoB := NumR.limb_get hQL jq
              generalize Q.getD jq 0 = od at *
              obtain ⟨pw, hpw2⟩ : ∃ pw, pw = 2 ^ jm := ⟨_, rfl⟩
              have g3 : (2 : Int) ^ jm = (pw : Int) := by rw [hpw2, Int.natCast_pow]; rfl
              rw [← hpw2] at qb ho hpw hvv ql
              have g4 : bits .or .u32 (od : Int) (pw : Int) = ((od + pw : Nat) : Int) := by rw [u32_or_nat _ _ (by unfold NumR.BB at hoB; omega) (by omega), ho.1]
              have g5 : (pw : Int) % 4294967296 = (pw : Int) := by omega
              have g6 : IntKind.u32.wrap (1 * 2 ^ jm) = (pw : Int) := by rw [Int.one_mul, g3]; exact w32 (by unfold BB; omega)
              generalize od + pw = nd at *
              have HQL2 := Lib.hid ql
              have HVV := Lib.hid hvv
              clear ql hvv
              have HJQ := Lib.hid (And.intro hjq (And.intro hjm hpw2))
              clear hjq hjm hpw2 ho hoB HOR HMORE
              go_region
              have HSQ := Lib.hid (show ∃ q, NumR.val (Q.set jq nd) = q * 2 ^ j ∧ NumR.val A / 2 ^ j = q * NumR.val B + NumR.val T4 by
                obtain ⟨q, h1, q', h2, h3⟩ := HSTEP.out
                exact ⟨q', by rw [HVV.out]; exact h2, by rw [h3, HRT.out.2.2]⟩)
              have hRf := hRT.far (p := ⟨w.heap.size, jq, none⟩) (Nat.lt_succ_self _) (.int .u32 (nd : Int))
              have hBf := bset hB7 (p := ⟨w.heap.size, jq, none⟩) (Nat.le_refl _) (.int .u32 (nd : Int))
              clear q0 qf
              go_wp2
              exact ⟨⟨j, Q.set jq nd, T4, by omega, rfl, qb, hRf, Lib.hid (by simpa using hQl.out), HQL2.out, HRT.out.1, Lib.hid HRT.out.2.1, HSQ, Lib.hid (by rw [HRT.out.2.2]; exact HLT.out), hBf.drew⟩, by simp [intOf] <;> omega⟩
            · have hnl : NumR.val (T) < NumR.val B := by omega
              have hz : ¬ (0 : Int) ≤ cmpN (NumR.val (T)) (NumR.val B) := by have := (cmpN_neg (x := NumR.val (T)) (y := NumR.val B)); rw [decide_eq_true hnl] at this; have := of_decide_eq_true this; omega
              have HLT := Lib.hid (show NumR.val (T) < NumR.val B by omega)
              have HEQ := Lib.hid (show ∃ q, NumR.val Q = q * 2 ^ j ∧ NumR.val A / 2 ^ j = q * NumR.val B + NumR.val (T) by
                obtain ⟨q, h1, h2⟩ := hV.out
                obtain ⟨h3, h4⟩ := NumR.bit_take h2 HBIT.out h1
                exact ⟨2 * q, h4, by rw [h3, HV3.out]⟩)
              generalize cmpN (NumR.val (T)) (NumR.val B) = z at *
              clear hge
              go_wp2_with fail
              (with_reducible refine (zc _ hU3 (hb.keep hBw)).mono ?_)
              rintro e w5 ⟨rfl, hb5⟩
              have hR5 := hR3.below hb5
              have hQ5 := hQ3.keep hb5
              have hB5 := bthen hBw hb5
              clear zc hR3 hQ3 hU3
              go_wp2
              exact ⟨⟨j, Q, T, by omega, rfl, hQ5, hR5, hQl, hQL, hR3L, HN3, HEQ, HLT, hB5⟩, by simp [intOf] <;> omega⟩
          · have HV3 := Lib.hid (show NumR.val (T ++ [1]) = bt + 2 * NumR.val R by rw [NumR.val_snoc]; exact HV2.out)
            have hR3L := NumR.limbs_snoc hR2L (x := 1) (by unfold NumR.BB; omega)
            have HN3 := Lib.hid (show Nrm (T ++ [1]) from fun _ => by simp)
            have hlm : (T).length ≤ 2147483652 := by have := HLEN.out; have := HRL.out; omega
            have hBs : w.heap.size + 1 ≤ (wi).heap.size := hQ2.lt
            have HO2 := Lib.hid hR2.ex
            go_wp2_with (at_builtin; refine appB32 (X := [1]) rfl rfl hR2 hBs rfl rfl ?_ ?_; (simp; omega); intro v3 w3 hR3 ho3; (have hQ3 : Blk w3 w.heap.size Q := ho3.blk hQ2 (fun h => by rcases HO2.out with ⟨h1, _⟩ | ⟨g, cp, h1, h2, _⟩ <;> (rw [show Value.slice a9 R.length c9 = _ from h1] at h; simp [Value.ownBlock] at h) <;> omega)); (have hBw3 : Below w.heap.size w w3 := hBw.trans (ho3.to_below (fun k hk _ h => by rcases HO2.out with ⟨h1, _⟩ | ⟨g, cp, h1, h2, _⟩ <;> (rw [show Value.slice a9 R.length c9 = _ from h1] at h; simp [Value.ownBlock] at h) <;> omega) (by omega))); clear hR2 hQ2 ho3 HV2)
            have hBw := hBw3
            clear hBw3
            -- the rest, twice and a digit more, lies in v3
            obtain ⟨a3, k3, hv3, hU3⟩ := hR3.u32 (limbs_of_r hR3L)
            have zc := fun W h1 h2 => rsize_c a3 b k3 cb (T ++ [1]) B W h1 h2 hR3L hB HN3.out hBn
            have HV3s := Lib.hid hv3
            rw [← hv3] at zc
            clear hv3
            by_cases hge : NumR.val B ≤ NumR.val (T ++ [1])
            · have hnl : ¬ NumR.val (T ++ [1]) < NumR.val B := by omega
              have hz : (0 : Int) ≤ cmpN (NumR.val (T ++ [1])) (NumR.val B) := by have := (cmpN_neg (x := NumR.val (T ++ [1])) (y := NumR.val B)); rw [decide_eq_false hnl] at this; have := of_decide_eq_false this; omega
              have HMIN := Lib.hid (fun W (h1 : U32 W a3 k3 (T ++ [1])) h2 => rminus_c a3 b k3 cb (T ++ [1]) B W h1 h2 hR3L hB (by
                apply Nat.le_of_lt_succ
                have := HLEN.out
                have := HRL.out
                simp <;> omega) (by
                apply Nat.le_of_not_lt; intro h
                have := NumR.val_lt_of_len hR3L hBn h
                omega) hge)
              have HSUB := Lib.hid (show ∀ O : List Nat, NumR.val O + NumR.val B = NumR.val (T ++ [1]) → NumR.val (trimL O) = NumR.val (T ++ [1]) - NumR.val B from fun O h => by rw [NumR.val_trim]; omega)
              have HSTEP := Lib.hid (show ∃ q, NumR.val Q = q * 2 ^ (j + 1) ∧ (∃ q', NumR.val Q + 2 ^ j = q' * 2 ^ j ∧ NumR.val A / 2 ^ j = q' * NumR.val B + (NumR.val (T ++ [1]) - NumR.val B)) by
                obtain ⟨q, h1, h2⟩ := hV.out
                obtain ⟨h3, h4⟩ := NumR.bit_take h2 HBIT.out h1
                rw [← HV3.out] at h3
                obtain ⟨h5, h6⟩ := NumR.bit_more h3 hge h4
                exact ⟨q, h1, 2 * q + 1, h6, h5⟩)
              have HLT := Lib.hid (show NumR.val (T ++ [1]) - NumR.val B < NumR.val B by
                have := HV3.out
                have := hlt.out
                omega)
              have HOR := Lib.hid (by
                obtain ⟨q, h1, h2⟩ := hV.out
                exact NumR.or_val (l := Q) (k := j) (Q := q) hQL h1)
              have HMORE := Lib.hid (NumR.set_bit (l := Q) (k := j) (by have := hQl.out; have := HJ.out; omega))
              generalize cmpN (NumR.val (T ++ [1])) (NumR.val B) = z at *
              clear hge hnl
              go_wp2_with fail
              (with_reducible refine (zc _ hU3 (hb.keep hBw)).mono ?_)
              rintro e w5 ⟨rfl, hb5⟩
              have hR5 := hR3.below hb5
              have hU5 := hU3.keep hb5
              have hQ5 := hQ3.keep hb5
              have hB5 := bthen hBw hb5
              have mc := HMIN.out
              rw [← HV3s.out] at mc
              clear zc hR3 hQ3 hU3
              go_wp2_with fail
              (with_reducible refine (mc _ hU5 (hb.keep hB5)).mono ?_)
              rintro e w6 ⟨v6, rfl, O, hO, hOL, hOl, hOv⟩
              have HOv := Lib.hid hOv
              clear hOv hOl
              obtain ⟨aO, cO, rfl, hOu⟩ := hO.u32 (limbs_of_r hOL)
              have hB6 := bthen hB5 hO.2
              have hQ6 := hQ5.keep hO.2
              have hOB := OwnB.of hO (B := w.heap.size + 1) hQ5.lt
              clear mc hU5 hR5 hQ5 hO
              go_wp2_with fail
              (with_reducible refine (rnormK_c false aO cO O _ hOu).mono ?_)
              rintro e w7 ⟨rfl, hb7⟩
              unfold iv
              have hQ4 := hQ6.keep hb7
              have hB7 := bthen hB6 hb7
              have hRT := (hOB.below hb7).cut' (trim_prefix O)
              have HRT := Lib.hid (And.intro (NumR.trim_limbs hOL) (And.intro (trim_nrm O) (HSUB.out O HOv.out)))
              generalize trimL O = T4 at *
              clear hOB hOu hQ6 HOv hOL
              go_wp2
              -- a binary digit of the quotient is set, in the world w7; the rest is T4
              have q0 := hQ4.cell (j / 16) (by have := hQl.out; have := HJ.out; omega)
              have qf := hQ4.frozen (j / 16)
              have ho := HOR.out
              obtain ⟨jq, hjq⟩ : ∃ jq, jq = j / 16 := ⟨_, rfl⟩
              obtain ⟨jm, hjm⟩ : ∃ jm, jm = j % 16 := ⟨_, rfl⟩
              have g1 : (j : Int) / 16 = (jq : Int) := by omega
              have g1' : (j : Int).tdiv 16 = (jq : Int) := by rw [Int.tdiv_eq_ediv_of_nonneg (by omega)]; exact g1
              have g2 : (j : Int) % 16 = (jm : Int) := by omega
              have g2' : (j : Int).tmod 16 = (jm : Int) := by rw [Int.tmod_eq_emod_of_nonneg (by omega)]; exact g2
              have hjm16 : jm < 16 := by omega
              have hjqz : (jq : Int) < (A.length : Int) := by have := HJ.out; omega
              have qb := hQ4.set (j / 16) (Q.getD (j / 16) 0 + 2 ^ (j % 16))
              have ql := NumR.limbs_set hQL (k := j / 16) ho.2
              rw [← hjq] at q0 qf
              rw [← hjq, ← hjm] at qb ho
              have hpw : 2 ^ jm < 65536 := Nat.lt_of_lt_of_le (Nat.pow_lt_pow_right (by omega) hjm16) (by decide)
              have hvv := HMORE.out
              rw [← hjq, ← hjm] at hvv ql
              have hoB := NumR.limb_get hQL jq
              generalize Q.getD jq 0 = od at *
              obtain ⟨pw, hpw2⟩ : ∃ pw, pw = 2 ^ jm := ⟨_, rfl⟩
              have g3 : (2 : Int) ^ jm = (pw : Int) := by rw [hpw2, Int.natCast_pow]; rfl
              rw [← hpw2] at qb ho hpw hvv ql
              have g4 : bits .or .u32 (od : Int) (pw : Int) = ((od + pw : Nat) : Int) := by rw [u32_or_nat _ _ (by unfold NumR.BB at hoB; omega) (by omega), ho.1]
              have g5 : (pw : Int) % 4294967296 = (pw : Int) := by omega
              have g6 : IntKind.u32.wrap (1 * 2 ^ jm) = (pw : Int) := by rw [Int.one_mul, g3]; exact w32 (by unfold BB; omega)
              generalize od + pw = nd at *
              have HQL2 := Lib.hid ql
              have HVV := Lib.hid hvv
              clear ql hvv
              have HJQ := Lib.hid (And.intro hjq (And.intro hjm hpw2))
              clear hjq hjm hpw2 ho hoB HOR HMORE
              go_region
              have HSQ := Lib.hid (show ∃ q, NumR.val (Q.set jq nd) = q * 2 ^ j ∧ NumR.val A / 2 ^ j = q * NumR.val B + NumR.val T4 by
                obtain ⟨q, h1, q', h2, h3⟩ := HSTEP.out
                exact ⟨q', by rw [HVV.out]; exact h2, by rw [h3, HRT.out.2.2]⟩)
              have hRf := hRT.far (p := ⟨w.heap.size, jq, none⟩) (Nat.lt_succ_self _) (.int .u32 (nd : Int))
              have hBf := bset hB7 (p := ⟨w.heap.size, jq, none⟩) (Nat.le_refl _) (.int .u32 (nd : Int))
              clear q0 qf
              go_wp2
              exact ⟨⟨j, Q.set jq nd, T4, by omega, rfl, qb, hRf, Lib.hid (by simpa using hQl.out), HQL2.out, HRT.out.1, Lib.hid HRT.out.2.1, HSQ, Lib.hid (by rw [HRT.out.2.2]; exact HLT.out), hBf.drew⟩, by simp [intOf] <;> omega⟩
            · have hnl : NumR.val (T ++ [1]) < NumR.val B := by omega
              have hz : ¬ (0 : Int) ≤ cmpN (NumR.val (T ++ [1])) (NumR.val B) := by have := (cmpN_neg (x := NumR.val (T ++ [1])) (y := NumR.val B)); rw [decide_eq_true hnl] at this; have := of_decide_eq_true this; omega
              have HLT := Lib.hid (show NumR.val (T ++ [1]) < NumR.val B by omega)
              have HEQ := Lib.hid (show ∃ q, NumR.val Q = q * 2 ^ j ∧ NumR.val A / 2 ^ j = q * NumR.val B + NumR.val (T ++ [1]) by
                obtain ⟨q, h1, h2⟩ := hV.out
                obtain ⟨h3, h4⟩ := NumR.bit_take h2 HBIT.out h1
                exact ⟨2 * q, h4, by rw [h3, HV3.out]⟩)
              generalize cmpN (NumR.val (T ++ [1])) (NumR.val B) = z at *
              clear hge
              go_wp2_with fail
              (with_reducible refine (zc _ hU3 (hb.keep hBw)).mono ?_)
              rintro e w5 ⟨rfl, hb5⟩
              have hR5 := hR3.below hb5
              have hQ5 := hQ3.keep hb5
              have hB5 := bthen hBw hb5
              clear zc hR3 hQ3 hU3
              go_wp2
              exact ⟨⟨j, Q, T ++ [1], by omega, rfl, hQ5, hR5, hQl, hQL, hR3L, HN3, HEQ, HLT, hB5⟩, by simp [intOf] <;> omega⟩
end Go.Proofs.YthaohpfbengabaaGreatDoor

/- The reference's numbers: divide. -/
namespace Go.Proofs.YthaohpfbengabaaGreatDoor
open Num
open Go.ChangeShapes Go.WideShapes Go.ChangeAt Go.RowKit
set_option linter.unusedVariables false
set_option linter.unusedSimpArgs false
theorem rdivide_c (a b : Option Addr) (ca cb : Nat) (A B : List Nat) (w : World) (ha : U32 w a ca A) (hb : U32 w b cb B) (hA : NumR.Limbs A) (hB : NumR.Limbs B) (hAn : Nrm A) (hBn : Nrm B) (hD0 : 0 < NumR.val B) (h1 : A.length ≤ 1073741826) (h2 : B.length ≤ 1073741826) :
    Calls Tryz.prog 125 #[.slice a A.length ca, .slice b B.length cb] w fun e w' => (∃ u v, e = .returned (.tuple #[u, v]) ∧ NewN w' u (NumR.val A / NumR.val B) ∧ NewN w' v (NumR.val A % NumR.val B)) ∧ Below w.heap.size w w' := by
  by_cases h : B.length = 1
  · obtain ⟨c, rfl⟩ := List.length_eq_one_iff.1 h
    have e : NumR.val [c] = c := by simp [NumR.val]
    rw [e] at *
    exact rdiv1_c a b ca cb A c w ha hb hA (hB c (by simp)) hD0 (by omega)
  · exact rdivL_c a b ca cb A B w ha hb hA hB hAn hBn h hD0 h1 h2

end Go.Proofs.YthaohpfbengabaaGreatDoor

/- vm's laws: the numbers that come in, as the program's blocks and as the reference's. -/
namespace Go.Proofs.YthaohpfbengabaaGreatDoor
open Num
open Go.ChangeShapes Go.WideShapes Go.ChangeAt Go.RowKit
set_option linter.unusedVariables false
set_option linter.unusedSimpArgs false
/-- fits in an int64 -/
def I64 (x : Int) : Prop := -9223372036854775808 ≤ x ∧ x ≤ 9223372036854775807
/-- a list of ints that came in -/
def RowI (w : World) (v : Value) (l : List Int) : Prop := ∃ a c, v = .slice a l.length c ∧ ∀ k, k < l.length → ∃ b off, a = some ⟨b, off, none⟩ ∧ w.cell? ⟨b, off + k, none⟩ = some (.int .i64 (l.getD k 0)) ∧ I64 (l.getD k 0)
theorem RowI.keep {w w' : World} {v : Value} {l : List Int} (h : RowI w v l) (hb : Below w.heap.size w w') : RowI w' v l := by
  obtain ⟨a, c, h1, h2⟩ := h
  exact ⟨a, c, h1, fun k hk => by obtain ⟨b, off, h3, h4, h5⟩ := h2 k hk; exact ⟨b, off, h3, bkeep hb h4, h5⟩⟩
/-- a list of such lists -/
def GridI (w : World) (v : Value) (g : Grid) : Prop := ∃ a c, v = .slice a g.length c ∧ ∀ k, k < g.length → ∃ b off u, a = some ⟨b, off, none⟩ ∧ w.cell? ⟨b, off + k, none⟩ = some u ∧ RowI w u (g.getD k [])
theorem GridI.keep {w w' : World} {v : Value} {g : Grid} (h : GridI w v g) (hb : Below w.heap.size w w') : GridI w' v g := by
  obtain ⟨a, c, h1, h2⟩ := h
  exact ⟨a, c, h1, fun k hk => by obtain ⟨b, off, u, h3, h4, h5⟩ := h2 k hk; exact ⟨b, off, u, h3, bkeep hb h4, h5.keep hb⟩⟩
/-- how many numbers there are in a grid -/
def sumG (g : Grid) : Nat := (g.map List.length).sum
theorem sumG_le {g : Grid} {k : Nat} (hk : k < g.length) : (g.getD k []).length ≤ sumG g := by
  induction g generalizing k with
  | nil => simp at hk
  | cons a g ih =>
    cases k with
    | zero => simp [sumG]
    | succ k => have := ih (k := k) (by simpa using hk); simp [sumG] at this ⊢; omega
theorem take_getD {α : Type} {l : List α} {k : Nat} (d : α) (h : k < l.length) : l.take (k + 1) = l.take k ++ [l.getD k d] := by
  rw [List.take_succ_eq_append_getElem h]; simp [h]
theorem mkCap (n : Nat) (hn : n ≤ 1099511627776) (w : World) : (Instr.makeSlice 59 (.int .i64 0) (.int .i64 (n : Int))).run Tryz.prog w = .ok (.slice (some ⟨w.heap.size, 0, none⟩) 0 n) (w.alloc (.cells (zcel n) 36)) := by
  obtain ⟨i0, hi, hz0, hz1, hz2⟩ := info_parts infoInt
  have h := run_make (P := Tryz.prog) w _ _ i0 _ Tryz.underlying59 hi hz0 .i64 .i64 0 n (by omega) (by omega) (by rw [hz2]; omega) (by omega)
  rw [hz1] at h
  exact h
theorem ownF_cap (w : World) (n : Nat) (hn : n ≤ maxLen) (f : Nat → Int) : OwnF IsInt 36 w (w.alloc (.cells (zcel n) 36)) (.slice (some ⟨w.heap.size, 0, none⟩) 0 n) 0 f :=
  ⟨[], ⟨⟨rfl, .inr ⟨w.heap.size, n, zcel n, rfl, Nat.le_refl _, (MapKept.heap_alloc w _).1, Nat.zero_le _, hn, by simp [zcel, size_madeCells], by simp⟩⟩, bal (Below.refl _ _) _⟩, fun k hk => absurd hk (by omega)⟩
theorem OwnF.congr' {R : World → Value → Int → Prop} {E : TypeId} {w0 wr : World} {v : Value} {n : Nat} {f f' : Nat → Int} (h : OwnF R E w0 wr v n f) (he : ∀ k, k < n → f k = f' k) : OwnF R E w0 wr v n f' := by
  obtain ⟨xs, h1, h2⟩ := h
  exact ⟨xs, h1, fun k hk => by rw [← he k hk]; exact h2 k hk⟩
theorem snoc_fun (l : List Int) (j : Nat) (hj : j < l.length) : ∀ k, k < j + 1 → (fun i => if i = j then l.getD j 0 else l.getD i 0) k = l.getD k 0 := by
  intro k hk; dsimp only; split
  · subst_vars; rfl
  · rfl
end Go.Proofs.YthaohpfbengabaaGreatDoor

/- row: each. -/
namespace Go.Proofs.YthaohpfbengabaaGreatDoor
open Num
open Go.ChangeShapes Go.WideShapes Go.ChangeAt Go.RowKit
set_option linter.unusedVariables false
set_option linter.unusedSimpArgs false

/-- a row of the call's own (from base on), by a function -/
def OwnNB (base : Nat) (w : World) (v : Value) (n : Nat) (f : Nat → Int) : Prop :=
  ∃ xs, w.ownsRow base 36 2 v n xs ∧ ∀ k, k < n → ∃ nb a len c, xs[k * 2]? = some (.bool nb) ∧ xs[k * 2 + 1]? = some (.slice a len c) ∧ IsInt w (.agg #[.bool nb, .slice a len c]) (f k)
section
variable {base : Nat} {w w' : World} {v : Value} {n : Nat} {f : Nat → Int}
theorem OwnNB.nil (base : Nat) (w : World) (f : Nat → Int) : OwnNB base w (.slice none 0 0) 0 f := ⟨[], World.ownsRow_nil _ _ _ _, fun k hk => absurd hk (by omega)⟩
theorem OwnNB.kp {S : TypeId → Prop} (h : OwnNB base w v n f) (k : Kp S w w') (h1 : S 36) (h2 : S 133) : OwnNB base w' v n f := by
  obtain ⟨xs, hO, h⟩ := h
  refine ⟨xs, owns_kp hO k h1, fun j hj => ?_⟩
  obtain ⟨nb, a, len, c, k1, k2, k3⟩ := h j hj
  exact ⟨nb, a, len, c, k1, k2, k3.lim (k.lim h2)⟩
theorem OwnNB.keep (h : OwnNB base w v n f) (k : Below w.heap.size w w') : OwnNB base w' v n f := h.kp (S := fun _ => True) (Kp.of_below _ k) trivial trivial
theorem OwnNB.ex (h : OwnNB base w v n f) : ∃ a c, v = .slice a n c := by
  obtain ⟨xs, ⟨_, h1⟩, _⟩ := h
  rcases h1 with ⟨rfl, rfl⟩ | ⟨g, cap, cur, rfl, _⟩
  · exact ⟨none, 0, rfl⟩
  · exact ⟨_, _, rfl⟩
theorem OwnNB.congr {f' : Nat → Int} (h : OwnNB base w v n f) (he : ∀ k, k < n → f k = f' k) : OwnNB base w v n f' := by
  obtain ⟨xs, h1, h2⟩ := h
  exact ⟨xs, h1, fun k hk => by rw [← he k hk]; exact h2 k hk⟩
theorem OwnNB.rowO {l : List Int} (h : OwnNB base w v n f) (hl : l.length = n) (he : ∀ k, k < n → f k = l.getD k 0) : RowO IsInt 36 base w v l := by
  subst hl
  obtain ⟨xs, h1, h2⟩ := h
  exact ⟨xs, h1, fun k hk => by rw [← he k hk]; exact h2 k hk⟩
end
section
variable {P : Program} {ops : Array Oper} {o : Oper} {a : Act} {Q : Exit → Act → World → Prop} {base : Nat} {wr : World} {v : Value} {n : Nat} {f : Nat → Int} {t : TypeId} {s x : Operand} {nb : Bool} {ad : Option Addr} {len c cc : Nat} {z : Int}
/-- append of one number to such a row -/
theorem app_numB {rest : List Oper} (hgd : o.guard = none)
    (ho : o.op = .call { callee := .builtin .append, args := #[s, x], argTypes := #[59, 59] }) (hO : OwnNB base wr v n f) (hbase : base ≤ wr.heap.size) (hv : IsInt wr (.agg #[.bool nb, .slice ad len c]) z) (hs : a.eval s = v)
    (hx : a.eval x = .slice (some ⟨wr.heap.size, 0, none⟩) 1 cc) (hn : n + 1 ≤ 1099511627776)
    (h : ∀ v' w', OwnNB base w' v' (n + 1) (fun i => if i = n then z else f i) → Kp (· ≠ 36) wr w' → Out (fun k => base ≤ k) wr w' → wpList Tryz.prog ops Q rest (a.put o.dst v') w') : wpList Tryz.prog ops Q (o :: rest) a (wr.alloc (.cells #[.bool nb, .slice ad len c] t)) := by
  obtain ⟨i, z0, hi, hz, hsize, hby, hzs⟩ := elInt.info
  obtain ⟨xs, h1, h2⟩ := hO
  refine wpList_append_own _ hgd s x _ ho base 36 i z0 2 32 elInt.ht hi hz hsize hby hzs elInt.pos v n xs hs (h1.alloc _) ⟨wr.heap.size, 0, none⟩ 1 cc [.bool nb, .slice ad len c] hx rfl (cells_new wr _ t) (fun u hu => by simp at hu; rcases hu with rfl | rfl <;> rfl) (by unfold maxLen; omega) (by omega) (by simp; omega) ?_
  intro v' w' hown hg _
  have hk : Kp (· ≠ 36) wr w' := ((Kp.refl _ wr).alloc _).grown hg fun q hg' t' ht hne => hne (by
    rw [own_typ' (h1.alloc _) hg'] at ht
    exact (Option.some.inj ht).symm)
  have hl : Lim wr w' := hk.lim (by decide)
  refine h v' w' ⟨_, hown, fun k hk' => ?_⟩ hk (((Out.refl _ wr).alloc _).grown hg fun k hk' _ => (h1.lt k hk').1)
  by_cases e : k = n
  · subst e
    refine ⟨nb, ad, len, c, ?_, ?_, ?_⟩
    · rw [List.getElem?_append_right (by rw [h1.1]; omega), h1.1]; simp
    · rw [List.getElem?_append_right (by rw [h1.1]; omega), h1.1]; simp
    · simp only [if_true]; exact hv.lim hl
  · obtain ⟨nb1, a1, len1, c1, k1, k2, k3⟩ := h2 k (by omega)
    refine ⟨nb1, a1, len1, c1, ?_, ?_, ?_⟩
    · rw [List.getElem?_append_left (by rw [h1.1]; omega)]; exact k1
    · rw [List.getElem?_append_left (by rw [h1.1]; omega)]; exact k2
    · show IsInt _ _ (if k = n then z else f k)
      rw [if_neg e]; exact k3.lim hl
end
end Go.Proofs.YthaohpfbengabaaGreatDoor

/- row: each. -/
namespace Go.Proofs.YthaohpfbengabaaGreatDoor
open Num
open Go.ChangeShapes Go.WideShapes Go.ChangeAt Go.RowKit
set_option linter.unusedVariables false
set_option linter.unusedSimpArgs false
attribute [local go_sem ↓] Go.wp_at_zero Go.wp_at_succ
/-- what a function value does to the numbers l, one by one: P j holds ahead of the j-th; it writes ints of the blocks X alone -/
def FnE (X : Nat → Prop) (P : Nat → World → Prop) (l : List Int) (f : Nat → Int) (F : Nat) (bnd caps : Array Value) : Prop :=
  ∀ j W u, j < l.length → P j W → IsInt W u (l.getD j 0) → Calls Tryz.prog F (bnd ++ #[u] ++ caps) W fun e w' => (∃ x, e = .returned x ∧ IsInt w' x (f j)) ∧ P (j + 1) w' ∧ Kp (· ≠ 3) W w' ∧ Out X W w'
set_option maxRecDepth 100000 in
set_option maxHeartbeats 8000000 in
theorem each_c (v : Value) (l : List Int) (F : Nat) (bnd caps : Array Value) (f : Nat → Int) (P : Nat → World → Prop) (X : Nat → Prop) (w : World) (hv : PRow 0 w v l) (hl : l.length ≤ 1099511627775) (eF : Enters Tryz.prog F) (hP0 : P 0 w)
    (hPk : ∀ j W W', P j W → Kp (· ≠ 36) W W' → Out (fun k => w.heap.size ≤ k) W W' → P j W') (hX : ∀ b, X b → typOf w b = some 3) (hf : FnE X P l f F bnd caps) :
    Calls Tryz.prog 167 #[v, .func (.func F) bnd caps] w fun e w' => (∃ u, e = .returned u ∧ OwnNB w.heap.size w' u l.length f) ∧ P l.length w' ∧ Out X w w' := by
  have HV := Lib.hid hv
  have HPK := Lib.hid hPk
  have HX := Lib.hid hX
  have HF := Lib.hid hf
  have HP0 := Lib.hid hP0
  obtain ⟨va, vc, rfl, -⟩ := hv
  clear hPk hX hf hP0
  unfold Enters at eF
  have hO0 := Out.refl X w
  go_enter Tryz.func167, Tryz.ntmps167
  go_wp2
  go_loopw [5, 10] (fun v x wr => ∃ j : Nat, j ≤ l.length ∧ x = .int .i64 j ∧ Hid (OwnNB w.heap.size wr v j f) ∧ Hid (P j wr) ∧ Out X w wr) (fun _ x _ => l.length - (intOf x).toNat)
  case atStart => exact ⟨0, Nat.zero_le _, rfl, Lib.hid (OwnNB.nil _ _ _), HP0, hO0⟩
  case round =>
    obtain ⟨j, hj, rfl, hR, hP, hOr⟩ := hrel
    obtain ⟨fa, fc, hfv⟩ := hR.out.ex
    subst hfv
    by_cases hlt : j < l.length
    · have hltI : (j : Int) < (l.length : Int) := by omega
      have hkp : Kp (· ≠ 3) w wr := Kp.out hOr (fun q t hq ht k => by rw [HX.out q hq] at ht; exact k (Option.some.inj ht).symm)
      obtain ⟨a', c', he, -, vr⟩ := (HV.out.kp lims_int hkp (by decide) (by decide)).view
      obtain ⟨rfl, -, rfl⟩ := Value.slice.inj he
      obtain ⟨b, off, nx, ax, lx, cx, rfl, c0, c1, hi⟩ := vr j hlt
      have HI := Lib.hid hi
      have zb := cell_lt c0
      have hsz : w.heap.size ≤ wr.heap.size := hOr.size
      have fcl := fun W (q : Below wr.heap.size wr W) => HF.out j W (.agg #[.bool nx, .slice ax lx cx]) hlt (HPK.out j wr W hP.out (Kp.of_below _ q) (Out.of_below _ q)) (HI.out.keep q)
      have hBw := Below.refl wr.heap.size wr
      clear hi vr he
      have HSN := Lib.hid (show ∀ k, k < j + 1 → (fun i => if i = j then f j else f i) k = f k from fun k hk => by dsimp only; split; (subst_vars; rfl); rfl)
      obtain ⟨z, hz⟩ : ∃ z, f j = z := ⟨_, rfl⟩
      rw [hz] at fcl HSN
      clear hz
      go_wp2_with (first
        | (go_at_fn F; refine (fcl _ ?_).mono ?_; (repeat (first | exact Below.refl _ _ | exact hBw | refine Below.drew ?_ | refine below_drewN ?_ _ | refine bset ?_ (by simp <;> omega) _ | refine bal ?_ _)); rintro e w5 ⟨⟨x5, rfl, hx5⟩, hp5, hk5, ho5⟩; have HX5 := Lib.hid hx5; have HP5 := Lib.hid hp5; have hk5' : Kp (· ≠ 3) wr w5 := (Kp.of_below _ (by repeat (first | exact Below.refl _ _ | exact hBw | refine Below.drew ?_ | refine below_drewN ?_ _ | refine bset ?_ (by simp <;> omega) _ | refine bal ?_ _))).trans hk5; have ho5' : Out X wr w5 := (Out.of_below _ (by repeat (first | exact Below.refl _ _ | exact hBw | refine Below.drew ?_ | refine below_drewN ?_ _ | refine bset ?_ (by simp <;> omega) _ | refine bal ?_ _))).trans ho5; obtain ⟨n5, a5, c5, l5, rfl, -⟩ := hx5; unfold iv at *; have hR5 := Lib.hid (hR.out.kp hk5' (by decide) (by decide)); have hO5 : Out X w w5 := hOr.trans ho5'; have hz5 : w.heap.size ≤ w5.heap.size := hO5.size; clear fcl hp5 hk5 ho5)
        | (at_builtin; refine app_numB (by rfl) (by rfl) hR5.out hz5 HX5.out (by rfl) (by rfl) (by omega) ?_)
        | fail)
      intro v8 w8 hR8 hk8 ho8
      have HR8 := Lib.hid (hR8.congr HSN.out)
      have HP8 := Lib.hid (HPK.out _ _ _ HP5.out hk8 ho8)
      have hO8 : Out X w w8 := hO5.then ho8 (fun i h1 h2 => by omega)
      clear hR8 hk8 ho8
      go_wp2
      exact ⟨⟨j + 1, by omega, by go_num, HR8, HP8, hO8⟩, by simp [intOf]; omega⟩
    · obtain rfl : j = l.length := by omega
      go_wp2
      go_ret
      exact ⟨⟨_, rfl, hR.out⟩, hP.out, hOr⟩
end Go.Proofs.YthaohpfbengabaaGreatDoor

/- row: Scale. -/
namespace Go.Proofs.YthaohpfbengabaaGreatDoor
open Num
open Go.ChangeShapes Go.WideShapes Go.ChangeAt Go.RowKit
set_option linter.unusedVariables false
set_option linter.unusedSimpArgs false
attribute [local go_sem ↓] Go.wp_at_zero Go.wp_at_succ
end Go.Proofs.YthaohpfbengabaaGreatDoor

/- row: both, Add, Sub. -/
namespace Go.Proofs.YthaohpfbengabaaGreatDoor
open Num
open Go.ChangeShapes Go.WideShapes Go.ChangeAt Go.RowKit
set_option linter.unusedVariables false
set_option linter.unusedSimpArgs false
attribute [local go_sem ↓] Go.wp_at_zero Go.wp_at_succ
theorem typ_fresh {w : World} {c : Array Value} {t : TypeId} {q : Nat} (h : q = w.heap.size) : typOf (w.alloc (.cells c t)) q = some t := by
  subst h; unfold typOf; rw [(MapKept.heap_alloc w _).1]
set_option maxRecDepth 100000 in
set_option maxHeartbeats 4000000 in
theorem bothF_c (u vb : Value) (lb : List Int) (x z : Int) (F : Nat) (bnd caps : Array Value) (j kb fb bb : Nat) (w : World) (hx : IsInt w u x) (hrow : PRow 0 w vb lb) (hj : j < lb.length) (hl : lb.length ≤ 1099511627775)
    (c0 : w.cell? ⟨kb, 0, none⟩ = some (.int .i64 ((j : Int) - 1))) (c0f : w.frozen? ⟨kb, 0, none⟩ = false) (c1 : w.cell? ⟨fb, 0, none⟩ = some (.func (.func F) bnd caps)) (c2 : w.cell? ⟨bb, 0, none⟩ = some vb) (hT : typOf w kb = some 3) (hkf : kb ≠ fb) (hkb : kb ≠ bb)
    (eF : Enters Tryz.prog F) (hF : ∀ W u1 u2, Out (fun k => k = kb) w W → IsInt W u1 x → IsInt W u2 (lb.getD j 0) → Calls Tryz.prog F (bnd ++ #[u1, u2] ++ caps) W fun e w' => (∃ v, e = .returned v ∧ IsInt w' v z) ∧ Below W.heap.size W w') :
    Calls Tryz.prog 168 #[u, .pointer (some ⟨kb, 0, none⟩), .pointer (some ⟨fb, 0, none⟩), .pointer (some ⟨bb, 0, none⟩)] w fun e w' => (∃ v, e = .returned v ∧ IsInt w' v z) ∧ w'.cell? ⟨kb, 0, none⟩ = some (.int .i64 (j : Int)) ∧ (w'.frozen? ⟨kb, 0, none⟩ = false ∧ typOf w' kb = some 3) ∧ Out (fun k => k = kb) w w' := by
  have HF := Lib.hid hF
  have HX := Lib.hid hx
  obtain ⟨a', c', rfl, -, vr⟩ := hrow.view
  obtain ⟨b, off, n2, a2, l2, c2', rfl, d0, d1, hi⟩ := vr j hj
  have HY := Lib.hid hi
  have zk := cell_lt c0
  have hbk : b ≠ kb := fun e => by
    obtain ⟨a1, c1', he, -, -, h4⟩ := hrow
    obtain ⟨rfl, -, -⟩ := Value.slice.inj he
    rcases h4 with h4 | ⟨b', off', h1, -, h3, -⟩
    · rw [h4] at hj; simp at hj
    · cases h1; subst e; rw [hT] at h3; exact absurd (Option.some.inj h3) (by decide)
  obtain ⟨n1, a1, c1', l1, rfl, -⟩ := hx
  unfold iv at *
  unfold Enters at eF
  have hjI : (j : Int) < (lb.length : Int) := by omega
  have hkf' := Ne.symm hkf
  have hkb' := Ne.symm hkb
  clear hF vr hi
  have HZ := Lib.hid (And.intro hrow hT)
  clear hrow hT
  have hB := Below.refl w.heap.size w
  go_enter Tryz.func168, Tryz.ntmps168
  go_wp2
  refine wp_name fun w0 hW0 => ?_
  have hO : Out (fun k => k = kb) w w0 := by rw [hW0]; repeat (first | exact Out.refl _ _ | refine Out.drew ?_ | refine Out.set ?_ (fun _ => show kb = kb from rfl) _ | refine Out.alloc ?_ _)
  have x0 : w0.cell? ⟨w.heap.size, 0, none⟩ = some (.bool n1) := by rw [hW0]; simp [go_sem, *]
  have x1 : w0.cell? ⟨w.heap.size, 1, none⟩ = some (.slice a1 l1.length c1') := by rw [hW0]; simp [go_sem, *]
  have r0 : w0.cell? ⟨w.heap.size + 1, 0, none⟩ = some (.bool false) := by rw [hW0]; simp [go_sem, *]
  have r1 : w0.cell? ⟨w.heap.size + 1, 1, none⟩ = some (.slice none 0 0) := by rw [hW0]; simp [go_sem, *]
  have r0f : w0.frozen? ⟨w.heap.size + 1, 0, none⟩ = false := by rw [hW0]; simp [go_sem, *]
  have r1f : w0.frozen? ⟨w.heap.size + 1, 1, none⟩ = false := by rw [hW0]; simp [go_sem, *]
  have k0 : w0.cell? ⟨kb, 0, none⟩ = some (.int .i64 (j : Int)) := by rw [hW0]; simp [go_sem, *]
  have k0f : w0.frozen? ⟨kb, 0, none⟩ = false := by rw [hW0]; simp [go_sem, *]
  have ht0 : Hid (typOf w0 kb = some 3) := Lib.hid (by rw [hW0]; repeat (first | exact HZ.out.2 | (with_reducible rw [typ_set]) | (refine typ_keep ?_ (bal (Below.refl _ _) _))))
  have zfb := cell_lt c1
  have zbb := cell_lt c2
  have zbl := cell_lt d0
  have q1 := okeep hO c1 hkf'
  have q2 := okeep hO c2 hkb'
  have e0 := okeep hO d0 hbk
  have e1 := okeep hO d1 hbk
  clear hW0 c0 c0f c1 c2 d0 d1
  have hs := hO.size
  have zr := cell_lt r0
  have zx := cell_lt x0
  have ze := cell_lt e0
  have zq1 := cell_lt q1
  have zq2 := cell_lt q2
  have zk0 := cell_lt k0
  have hLim : Lim w w0 := (Kp.out (S := (· ≠ 3)) hO (fun q t hq ht k => by subst hq; rw [HZ.out.2] at ht; exact k (Option.some.inj ht).symm)).lim (by decide)
  have fc := fun W (h : Below w0.heap.size w0 W) => HF.out W (.agg #[.bool n1, .slice a1 l1.length c1']) (.agg #[.bool n2, .slice a2 l2 c2']) (hO.below h) ((HX.out.lim hLim).keep h) ((HY.out.lim hLim).keep h)
  simp only [Array.append_assoc] at fc
  have hBw := Below.refl w0.heap.size w0
  clear hLim
  have HS := Lib.hid (show ∀ W, Out (fun k => k = w.heap.size + 1) w0 W → W.cell? ⟨fb, 0, none⟩ = some (.func (.func F) bnd caps) ∧ W.cell? ⟨w.heap.size, 0, none⟩ = some (.bool n1) ∧ W.cell? ⟨w.heap.size, 1, none⟩ = some (.slice a1 l1.length c1') ∧ W.cell? ⟨bb, 0, none⟩ = some (.slice (some ⟨b, off, none⟩) lb.length c') ∧ W.cell? ⟨kb, 0, none⟩ = some (.int .i64 (j : Int)) ∧ W.cell? ⟨b, off + j * 2, none⟩ = some (.bool n2) ∧ W.cell? ⟨b, off + j * 2 + 1, none⟩ = some (.slice a2 l2 c2') from fun W h => ⟨okeep h q1 (by omega), okeep h x0 (by omega), okeep h x1 (by omega), okeep h q2 (by omega), okeep h k0 (by omega), okeep h e0 (by omega), okeep h e1 (by omega)⟩)
  have hOw := Out.refl (fun k => k = w.heap.size + 1) w0
  go_region_held3 (fun w' => w'.cell? ⟨fb, 0, none⟩ = some (.func (.func F) bnd caps) ∧ w'.cell? ⟨w.heap.size, 0, none⟩ = some (.bool n1) ∧ w'.cell? ⟨w.heap.size, 1, none⟩ = some (.slice a1 l1.length c1') ∧ w'.cell? ⟨bb, 0, none⟩ = some (.slice (some ⟨b, off, none⟩) lb.length c') ∧ w'.cell? ⟨kb, 0, none⟩ = some (.int .i64 (j : Int)) ∧ w'.cell? ⟨b, off + j * 2, none⟩ = some (.bool n2) ∧ w'.cell? ⟨b, off + j * 2 + 1, none⟩ = some (.slice a2 l2 c2'))
    (first | (refine HS.out _ ?_; (repeat (first | exact hOw | refine Out.drew ?_ | refine Out.drewN ?_ _ | refine Out.set ?_ (fun _ => show w.heap.size + 1 = w.heap.size + 1 from rfl) _ | refine Out.alloc ?_ _)); done) | fail)
    (first
      | (go_at_fn F; refine (fc _ ?_).mono ?_; (repeat (first | exact Below.refl _ _ | exact hBw | refine Below.drew ?_ | refine below_drewN ?_ _ | refine bset ?_ (by simp <;> omega) _ | refine bal ?_ _)); rintro e w5 ⟨⟨v5, rfl, hv5⟩, hb5⟩; have hB5 : Below w0.heap.size w0 w5 := bthen (by repeat (first | exact Below.refl _ _ | exact hBw | refine Below.drew ?_ | refine below_drewN ?_ _ | refine bset ?_ (by simp <;> omega) _ | refine bal ?_ _)) hb5; (have hBd : Out (fun k => k = w.heap.size + 1) w0 w5 := Out.of_below _ hB5; clear hOw; have hOw := hBd; clear hBd); have r05f := bkeepf hB5 r0 r0f; have r15f := bkeepf hB5 r1 r1f; have r05 := bkeep hB5 r0; have r15 := bkeep hB5 r1; have HV := Lib.hid hv5; obtain ⟨n5, a5, c5, l5, rfl, -⟩ := hv5; unfold iv at *)
      | fail)
  all_goals
    have k05 := bkeep hB5 k0
    have k05f := bkeepf hB5 k0 k0f
    have t05 := Lib.hid (typ_keep ht0.out hB5)
    have hO5 := hO.below hB5
    clear fc
    go_wp2
    refine bodyPost_ret (v := .agg #[.bool n5, .slice a5 l5.length c5]) (by simp [results, Tryz.results168, go_sem, *]) rfl ⟨⟨_, rfl, (HV.out).put2 r05 r15 _ _⟩, ?_, ⟨?_, ?_⟩, ?_⟩
    · exact cell_far (cell_far k05 (by simp <;> omega) _) (by simp <;> omega) _
    · rw [World.frozen?_setCell, World.frozen?_setCell]; exact k05f
    · rw [typ_set, typ_set]; exact t05.out
    · exact (hO5.set (fun h => absurd h (by show ¬ (w.heap.size + 1 < w.heap.size); omega)) _).set (fun h => absurd h (by show ¬ (w.heap.size + 1 < w.heap.size); omega)) _
set_option maxRecDepth 100000 in
set_option maxHeartbeats 4000000 in
/-- both, of rows that are as long -/
theorem both_yes (va vb : Value) (la lb lz : List Int) (F : Nat) (bnd caps : Array Value) (w : World) (ha : PRow 0 w va la) (hb : PRow 0 w vb lb) (hl : la.length ≤ 1099511627775) (he : la.length = lb.length) (hz : lz.length = la.length)
    (eF : Enters Tryz.prog F) (hF : ∀ j W u1 u2, j < la.length → Below w.heap.size w W → IsInt W u1 (la.getD j 0) → IsInt W u2 (lb.getD j 0) → Calls Tryz.prog F (bnd ++ #[u1, u2] ++ caps) W fun e w' => (∃ v, e = .returned v ∧ IsInt w' v (lz.getD j 0)) ∧ Below W.heap.size W w') :
    Calls Tryz.prog 145 #[va, vb, .func (.func F) bnd caps] w fun e w' => (∃ u, e = .returned (.tuple #[u, .int .i64 0]) ∧ RowO IsInt 36 w.heap.size w' u lz) ∧ Below w.heap.size w w' := by
  have HF := Lib.hid hF
  have HA := Lib.hid ha
  have HB' := Lib.hid hb
  obtain ⟨aa, ca, rfl, -⟩ := ha
  obtain ⟨ab, cb, rfl, -⟩ := hb
  have hb0 : lb.length ≤ 1099511627775 := by omega
  have HE := Lib.hid (And.intro he hz)
  have hne : (la.length != lb.length) = false := by simp [he]
  have hneI : ((la.length : Int) != (lb.length : Int)) = false := by simp [he]
  have ec := fun W (hB : Below w.heap.size w W) (k0 : W.cell? ⟨w.heap.size + 1 + 1, 0, none⟩ = some (.int .i64 (((0 : Nat) : Int) - 1))) (k0f : W.frozen? ⟨w.heap.size + 1 + 1, 0, none⟩ = false) (f0 : W.cell? ⟨w.heap.size + 1, 0, none⟩ = some (.func (.func F) bnd caps)) (b0 : W.cell? ⟨w.heap.size, 0, none⟩ = some (.slice ab lb.length cb)) (hT : typOf W (w.heap.size + 1 + 1) = some 3) =>
    each_c (.slice aa la.length ca) la 168 #[] #[.pointer (some ⟨w.heap.size + 1 + 1, 0, none⟩), .pointer (some ⟨w.heap.size + 1, 0, none⟩), .pointer (some ⟨w.heap.size, 0, none⟩)] (fun j => lz.getD j 0)
      (fun j W' => Below w.heap.size w W' ∧ W'.cell? ⟨w.heap.size + 1 + 1, 0, none⟩ = some (.int .i64 ((j : Int) - 1)) ∧ W'.frozen? ⟨w.heap.size + 1 + 1, 0, none⟩ = false ∧ W'.cell? ⟨w.heap.size + 1, 0, none⟩ = some (.func (.func F) bnd caps) ∧ W'.cell? ⟨w.heap.size, 0, none⟩ = some (.slice ab lb.length cb) ∧ typOf W' (w.heap.size + 1 + 1) = some 3)
      (fun q => q = w.heap.size + 1 + 1) W (HA.out.keep lims_int hB) hl (ens Tryz.func168 (by kernel_rfl) rfl) ⟨hB, k0, k0f, f0, b0, hT⟩
      (fun j W1 W2 h hk ho => by
        obtain ⟨h1, h2, h3, h4, h5, h6⟩ := h
        have hz := cell_lt k0
        have g : ∀ q, q ≤ w.heap.size + 2 → ¬ (W.heap.size ≤ q) := fun q hq => by omega
        have hs1 := h1.size
        exact ⟨h1.trans (ho.to_below (fun q hq _ => g q (by omega)) h1.size), okeep ho h2 (g _ (by omega)), okeepf ho h2 h3 (g _ (by omega)), okeep ho h4 (g _ (by omega)), okeep ho h5 (g _ (by omega)), by rw [typ_of_block (w := W1) (ho.block _ (cell_lt h2) (g _ (by omega)))]; exact h6⟩)
      (fun q hq => by subst hq; exact hT)
      (fun j W1 u hj h hu => by
        obtain ⟨h1, h2, h3, h4, h5, h6⟩ := h
        refine (bothF_c u (.slice ab lb.length cb) lb (la.getD j 0) (lz.getD j 0) F bnd caps j (w.heap.size + 1 + 1) (w.heap.size + 1) w.heap.size W1 hu (HB'.out.keep lims_int h1) (by have := HE.out.1; omega) hb0 h2 h3 h4 h5 h6 (by omega) (by omega) eF (fun W2 u1 u2 hO k1 k2 => HF.out j W2 u1 u2 hj (h1.trans (hO.to_below (fun q hq _ e => by omega) h1.size)) k1 k2)).mono ?_
        rintro e w' ⟨h7, h8, ⟨h8f, h8t⟩, h9⟩
        have hkp : Kp (· ≠ 3) W1 w' := Kp.out h9 (fun q t hq ht k => by subst hq; rw [h6] at ht; exact k (Option.some.inj ht).symm)
        refine ⟨h7, ⟨h1.trans (h9.to_below (fun q hq _ e => by omega) h1.size), by rw [h8]; congr 2; omega, h8f, okeep h9 h4 (by omega), okeep h9 h5 (by omega), h8t⟩, hkp, h9⟩)
  have EC := Lib.hid ec
  clear ec he hz hF
  have hB := Below.refl w.heap.size w
  go_enter Tryz.func145, Tryz.ntmps145
  go_upto_region 4 with (fail)
  refine wp_name fun w1 hW1 => ?_
  have k0f : w1.frozen? ⟨w.heap.size + 1 + 1, 0, none⟩ = false := by rw [hW1]; simp [go_sem, *]
  have k0 : w1.cell? ⟨w.heap.size + 1 + 1, 0, none⟩ = some (.int .i64 (-1)) := by rw [hW1]; exact (by first | assumption | exact cell_new (by with_reducible first | rfl | (simp; done) | (simp; omega)) rfl | (repeat (first | assumption | exact cell_new (by with_reducible first | rfl | (simp; done) | (simp; omega)) rfl | refine cell_alloc ?_ _ | refine cell_drew ?_ | refine cell_drewN ?_ _ | refine cell_far ?_ (by simp) _ | (refine cell_far ?_ (by simp <;> omega) _))) | simp [go_sem, *])
  have zk0 := cell_lt k0
  have f0 : w1.cell? ⟨w.heap.size + 1, 0, none⟩ = some (.func (.func F) bnd caps) := by rw [hW1]; exact (by first | assumption | exact cell_new (by with_reducible first | rfl | (simp; done) | (simp; omega)) rfl | (repeat (first | assumption | exact cell_new (by with_reducible first | rfl | (simp; done) | (simp; omega)) rfl | refine cell_alloc ?_ _ | refine cell_drew ?_ | refine cell_drewN ?_ _ | refine cell_far ?_ (by simp) _ | (refine cell_far ?_ (by simp <;> omega) _))) | simp [go_sem, *])
  have zf0 := cell_lt f0
  have b0 : w1.cell? ⟨w.heap.size, 0, none⟩ = some (.slice ab lb.length cb) := by rw [hW1]; exact (by first | assumption | exact cell_new (by with_reducible first | rfl | (simp; done) | (simp; omega)) rfl | (repeat (first | assumption | exact cell_new (by with_reducible first | rfl | (simp; done) | (simp; omega)) rfl | refine cell_alloc ?_ _ | refine cell_drew ?_ | refine cell_drewN ?_ _ | refine cell_far ?_ (by simp) _ | (refine cell_far ?_ (by simp <;> omega) _))) | simp [go_sem, *])
  have zb0 := cell_lt b0
  have hB : Below w.heap.size w w1 := by rw [hW1]; repeat (first | exact Below.refl _ _ | exact hB | refine Below.drew ?_ | refine below_drewN ?_ _ | refine bset ?_ (by simp <;> omega) _ | refine bal ?_ _)
  have hT : Hid (typOf w1 (w.heap.size + 1 + 1) = some 3) := Lib.hid (by rw [hW1]; exact typ_fresh (by simp))
  have hz : w.heap.size ≤ w1.heap.size := hB.size
  clear hW1

  have hb11 := Below.refl w1.heap.size w1
  go_wp2_with fail
  refine (EC.out _ (by repeat (first | exact Below.refl _ _ | exact hB | refine Below.drew ?_ | refine below_drewN ?_ _ | refine bset ?_ (by simp <;> omega) _ | refine bal ?_ _)) ?_ ?_ ?_ ?_ ?_).mono ?_
  · simpa using k0
  · exact k0f
  · exact f0
  · exact b0
  · exact hT.out
  rintro e w2 ⟨⟨u, rfl, hu⟩, hp, hO⟩
  have HU := Lib.hid (show RowO IsInt 36 w.heap.size w2 u lz from (hu.rowO HE.out.2 (fun k hk => rfl)).rebase hz)
  have HP := Lib.hid hp.1
  obtain ⟨ua, uc, rfl⟩ := hu.ex
  clear hu hp hO
  go_wp2
  go_ret2
  exact ⟨⟨_, rfl, HU.out⟩, HP.out⟩
end Go.Proofs.YthaohpfbengabaaGreatDoor

/- The reference's numbers: Power. -/
namespace Go.Proofs.YthaohpfbengabaaGreatDoor
open Num
open Go.ChangeShapes Go.WideShapes Go.ChangeAt Go.RowKit
set_option linter.unusedVariables false
set_option linter.unusedSimpArgs false
end Go.Proofs.YthaohpfbengabaaGreatDoor

/- Plain laws: a quotient and a remainder out of those of the sizes. -/
namespace Go.Proofs.YthaohpfbengabaaGreatDoor
open Num
open Go.ChangeShapes Go.WideShapes Go.ChangeAt Go.RowKit
/-- no remainder, or what is divided is not below 0 -/
theorem dm_low {n1 n2 : Bool} {A B : Nat} (hB : 0 < B) (h : n1 = false ∨ A % B = 0) : sg n1 A / sg n2 B = sg (!(n1 == n2)) (A / B) ∧ sg n1 A % sg n2 B = ((A % B : Nat) : Int) := by
  have hm : (A : Int) % (B : Int) = ((A % B : Nat) : Int) := (Int.natCast_emod A B).symm
  have hd : (A : Int) / (B : Int) = ((A / B : Nat) : Int) := (Int.natCast_ediv A B).symm
  cases n1 with
  | false =>
    cases n2 with
    | false => simp only [sg, Bool.false_eq_true, if_false, beq_self_eq_true, Bool.not_true]; exact ⟨hd, hm⟩
    | true =>
      simp only [sg, Bool.false_eq_true, if_false, if_true, show (!(false == true)) = true from rfl]
      rw [Int.ediv_neg, Int.emod_neg]
      exact ⟨by rw [hd], hm⟩
  | true =>
    have h0 : A % B = 0 := by simpa using h
    have hdv : (B : Int) ∣ (A : Int) := Int.natCast_dvd_natCast.2 (Nat.dvd_of_mod_eq_zero h0)
    have hz : (-(A : Int)) % (B : Int) = 0 := Int.emod_eq_zero_of_dvd (Int.dvd_neg.2 hdv)
    have hq : (-(A : Int)) / (B : Int) = -((A / B : Nat) : Int) := by rw [Int.neg_ediv_of_dvd hdv, hd]
    rw [h0]
    cases n2 with
    | false =>
      simp only [sg, Bool.false_eq_true, if_false, if_true, show (!(true == false)) = true from rfl]
      exact ⟨hq, hz⟩
    | true =>
      simp only [sg, Bool.false_eq_true, if_false, if_true, show (!(true == true)) = false from rfl]
      rw [Int.ediv_neg, Int.emod_neg]
      exact ⟨by rw [hq, Int.neg_neg], hz⟩
/-- a remainder, and what is divided is below 0 -/
theorem dm_high {n2 : Bool} {A B : Nat} (hB : 0 < B) (h : 0 < A % B) : sg true A / sg n2 B = sg (!(true == n2)) (A / B) - (sg n2 B).sign ∧ sg true A % sg n2 B = sg true (A % B) + ((sg n2 B).natAbs : Int) := by
  have e := Nat.div_add_mod A B
  have hl := Nat.mod_lt A hB
  have hs : (B : Int).sign = 1 := Int.sign_eq_one_of_pos (by omega)
  have key : (-(A : Int)) / (B : Int) = -((A / B : Nat) : Int) - 1 ∧ (-(A : Int)) % (B : Int) = (B : Int) - ((A % B : Nat) : Int) := by
    have e2 : -(A : Int) = ((B : Int) - ((A % B : Nat) : Int)) + (B : Int) * (-((A / B : Nat) : Int) - 1) := by
      have : (A : Int) = (B : Int) * ((A / B : Nat) : Int) + ((A % B : Nat) : Int) := by rw [← Int.natCast_mul, ← Int.natCast_add, e]
      rw [Int.mul_sub, Int.mul_neg]; omega
    constructor
    · rw [e2, Int.add_mul_ediv_left _ _ (by omega), Int.ediv_eq_zero_of_lt (by omega) (by omega)]; omega
    · rw [e2, Int.add_mul_emod_self_left, Int.emod_eq_of_lt (by omega) (by omega)]
  cases n2 with
  | false => simp only [sg, if_true, if_false, Bool.false_eq_true]; rw [key.1, key.2]; simp [hs]; omega
  | true => simp only [sg, if_true]; rw [Int.ediv_neg, Int.emod_neg, key.1, key.2]; simp [hs]; omega
end Go.Proofs.YthaohpfbengabaaGreatDoor

