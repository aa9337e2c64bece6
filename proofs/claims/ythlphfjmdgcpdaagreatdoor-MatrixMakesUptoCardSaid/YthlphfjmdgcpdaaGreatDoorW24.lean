/- matrix: Inverse's function value. -/
import Derived.Test.YthlphfjmdgcpdaaGreatDoorW23
import Derived.Test.YthlphfjmdgcpdaaGreatDoorW17
set_option linter.unusedVariables false
set_option linter.unusedSimpArgs false
namespace Go.Proofs.YthlphfjmdgcpdaaGreatDoor
open Num
open Go.ChangeShapes Go.WideShapes Go.ChangeAt Go.RowKit
set_option linter.unusedVariables false
set_option linter.unusedSimpArgs false
attribute [local go_sem ↓] Go.wp_at_zero Go.wp_at_succ
theorem IsInt.setT {w : World} {v : Value} {z : Int} {p : Addr} (h : IsInt w v z) (ht : typOf w p.block = some 36) (u : Value) : IsInt (w.setCell p u) v z :=
  h.lim (((Kp.refl (fun t => t ≠ 36) w).set (p := p) (fun t ht' => by rw [ht] at ht'; cases ht'; exact fun hh => hh rfl) u).lim (by decide))
theorem IsInt.al {w : World} {v : Value} {z : Int} (h : IsInt w v z) (o : Obj) : IsInt (w.alloc o) v z := h.keep (bal (Below.refl _ _) o)
theorem IsInt.dr {w : World} {v : Value} {z : Int} (h : IsInt w v z) : IsInt w.drew v z := h.keep (Below.refl _ _).drew
set_option maxRecDepth 100000 in
set_option maxHeartbeats 8000000 in
theorem inv1_c (bm bo : Nat) (g : Grid) (n m k : Nat) (c : Int) (w : World) (hg : BoxM bm w g) (hc : VarI bo c w) (lg : g.length = n) (rg : Rct g m) (kg : BdM k g) (bc : Bd k c) (hk : k ≤ 17179869184) (hz : c ≠ 0) :
    FnF (fun i j => gat g i j / c) n m 83 #[.pointer (some ⟨bm, 0, none⟩), .pointer (some ⟨bo, 0, none⟩)] w := by
  intro W i j hi hj hW
  obtain ⟨c1, gb, go, rb, ro, rc, n1, a1, l1, k1, g0, g1, g2, g3, gi⟩ := (hg.keep hW).elem rg (by omega : i < g.length) hj
  rw [lg] at g0
  obtain ⟨-, nc, ac, lc, cc, x0, x1, -, -, xI⟩ := hc.keep hW
  have dc := fun V (q : Below W.heap.size W V) => divmod_c (.agg #[.bool n1, .slice a1 l1 k1]) (.agg #[.bool nc, .slice ac lc cc]) (gat g i j) c k V (gi.keep q) (xI.keep q) (kg i j) bc hk hz
  obtain ⟨q, hq⟩ : ∃ q, gat g i j / c = q := ⟨_, rfl⟩
  have HQ := Lib.hid hq
  rw [hq] at dc
  have DC := Lib.hid dc
  clear hg gi lg rg kg hW hc bc dc xI hz hq
  have hiI : (i : Int) < (n : Int) := by omega
  have hjI : (j : Int) < (m : Int) := by omega
  have z0 := cell_lt g0; have z1 := cell_lt g1; have z2 := cell_lt g2; have z3 := cell_lt x0
  have hB := Below.refl W.heap.size W
  show Calls Tryz.prog 83 #[.int .i64 (i : Nat), .int .i64 (j : Nat), .pointer (some ⟨bm, 0, none⟩), .pointer (some ⟨bo, 0, none⟩)] W _
  dsimp only
  rw [HQ.out]
  go_enter Tryz.func83, Tryz.ntmps83
  go_wp2
  refine wp_name fun w1 hW1 => ?_
  have hBc : Below W.heap.size W w1 := by rw [hW1]; repeat (first | exact Below.refl _ _ | exact hB | refine Below.drew ?_ | refine below_drewN ?_ _ | refine bset ?_ (by simp <;> omega) _ | refine bal ?_ _)
  have HR1 := Lib.hid (show w1.cell? ⟨W.heap.size, 0, none⟩ = some (.bool false) ∧ w1.cell? ⟨W.heap.size, 1, none⟩ = some (.slice none 0 0) ∧ w1.frozen? ⟨W.heap.size, 0, none⟩ = false ∧ w1.frozen? ⟨W.heap.size, 1, none⟩ = false from by rw [hW1]; simp [go_sem])
  clear hW1
  replace g0 := bkeep hBc g0
  replace g1 := bkeep hBc g1
  replace g2 := bkeep hBc g2
  replace g3 := bkeep hBc g3
  replace x0 := bkeep hBc x0
  replace x1 := bkeep hBc x1
  replace z0 := cell_lt g0; replace z1 := cell_lt g1; replace z2 := cell_lt g2; replace z3 := cell_lt x0
  go_cut [7] (fun s7 wx => ∃ qb, s7 = .pointer (some ⟨qb, 0, none⟩) ∧ Hid (VarI qb q wx) ∧ Below w1.heap.size w1 wx)
  case first =>
    have hBj := Below.refl w1.heap.size w1
    have HS := Lib.hid (show ∀ V, Below w1.heap.size w1 V → V.cell? ⟨bm, 0, none⟩ = some (.slice (some ⟨gb, go, none⟩) n c1) ∧ V.cell? ⟨gb, go + i, none⟩ = some (.slice (some ⟨rb, ro, none⟩) m rc) ∧ V.cell? ⟨rb, ro + j * 2, none⟩ = some (.bool n1) ∧ V.cell? ⟨rb, ro + j * 2 + 1, none⟩ = some (.slice a1 l1 k1) ∧ V.cell? ⟨bo, 0, none⟩ = some (.bool nc) ∧ V.cell? ⟨bo, 1, none⟩ = some (.slice ac lc cc) from fun V q => ⟨bkeep q g0, bkeep q g1, bkeep q g2, bkeep q g3, bkeep q x0, bkeep q x1⟩)
    go_region_held3 (fun V => V.cell? ⟨bm, 0, none⟩ = some (.slice (some ⟨gb, go, none⟩) n c1) ∧ V.cell? ⟨gb, go + i, none⟩ = some (.slice (some ⟨rb, ro, none⟩) m rc) ∧ V.cell? ⟨rb, ro + j * 2, none⟩ = some (.bool n1) ∧ V.cell? ⟨rb, ro + j * 2 + 1, none⟩ = some (.slice a1 l1 k1) ∧ V.cell? ⟨bo, 0, none⟩ = some (.bool nc) ∧ V.cell? ⟨bo, 1, none⟩ = some (.slice ac lc cc))
      (first | (refine HS.out _ ?_; (repeat' (first | exact Below.refl _ _ | exact hBj | refine Below.drew ?_ | refine below_drewN ?_ _ | refine bal ?_ _ | refine bset ?_ ?_ _ | exact hla1 | exact Nat.le_trans hla1 (Nat.le_succ _) | exact Nat.le_refl _ | exact Nat.le_succ _)); done) | fail)
      (first
      | (go_at_call 82; refine (DC.out _ (bthen hBc ?_)).mono ?_; (repeat (first | exact Below.refl _ _ | exact hBj | refine Below.drew ?_ | refine below_drewN ?_ _ | refine bset ?_ (by simp <;> omega) _ | refine bal ?_ _)); rintro e w11 ⟨⟨u11, v11, rfl, hu11, hv11⟩, hb11⟩; (have hBd : Below w1.heap.size w1 w11 := bthen (by repeat (first | exact Below.refl _ _ | exact hBj | refine Below.drew ?_ | refine below_drewN ?_ _ | refine bset ?_ (by simp <;> omega) _ | refine bal ?_ _)) hb11; clear hBj; have hBj := hBd; clear hBd); have hc11 := (bcell hb11).1; have hf11 := (bcell hb11).2; have ht11 := tcell hb11; have hla1 := hBj.size; have hs11 := hb11.size; (try simp [go_sem] at hs11); (try have qa : w1.heap.size < w11.heap.size := by omega); (try have qb : w1.heap.size + 1 < w11.heap.size := by omega); have HU11 := Lib.hid hu11; obtain ⟨n11, a11, c11, l11, rfl, -⟩ := hu11; obtain ⟨n12, a12, c12, l12, rfl, -⟩ := hv11; unfold iv at *)
      | fail)
    all_goals
      go_wp2_with fail
      go_meet
      refine (fun hbx => ⟨_, rfl, Lib.hid ⟨?_, n11, a11, l11.length, c11, ?_, ?_, ?_, ?_, ?_⟩, hbx⟩ : Below w1.heap.size w1 _ → _) ?_
      all_goals first
        | (simp (disch := (first | (simp; done) | (simp; omega) | omega)) only [typ_set, typ_alloc_eq, typ_alloc_lt, ht11, typ_drew]; done)
        | (simp [go_sem, *]; done)
        | ((repeat' (first | exact Below.refl _ _ | exact hBj | refine Below.drew ?_ | refine below_drewN ?_ _ | refine bal ?_ _ | refine bset ?_ ?_ _ | exact hla1 | exact Nat.le_trans hla1 (Nat.le_succ _) | exact Nat.le_refl _ | exact Nat.le_succ _)); done)
        | ((repeat' (first | exact HU11.out | refine IsInt.al ?_ _ | refine IsInt.dr ?_ | refine IsInt.setT ?_ ?_ _)) <;> (simp (disch := (first | (simp; done) | (simp; omega) | omega)) only [typ_set, typ_alloc_eq, typ_alloc_lt, ht11, typ_drew]; done))
        | ((repeat (refine cell_far ?_ ?b _; case b => (first | (simp; done) | (simp; omega)))); (first | (refine cell_here (v := .bool false) ?_ _; (repeat (refine cell_far ?_ ?b _; case b => (first | (simp; done) | (simp; omega)))); (simp [go_sem, *]; done)) | (refine cell_here (v := .slice none 0 0) ?_ _; (repeat (refine cell_far ?_ ?b _; case b => (first | (simp; done) | (simp; omega)))); (simp [go_sem, *]; done))))
  case rest =>
    obtain ⟨qb, rfl, hX, hbx⟩ := hcut
    have hBW := bthen hBc hbx
    have r0f := bkeepf hbx HR1.out.1 HR1.out.2.2.1
    have r1f := bkeepf hbx HR1.out.2.1 HR1.out.2.2.2
    have r0 := bkeep hbx HR1.out.1
    have r1 := bkeep hbx HR1.out.2.1
    obtain ⟨-, nq, aq, lq, cq, q0, q1, -, -, qI⟩ := hX.out
    have hp := Lib.hid (qI.put2 r0 r1)
    have zq := cell_lt q0
    have zr := cell_lt r0
    clear qI hX HR1 g0 g1 g2 g3 x0 x1 DC
    go_wp2
    refine bodyPost_ret (v := .agg #[.bool nq, .slice aq lq cq]) (by simp [results, Tryz.results83, go_sem, *]) rfl ⟨⟨_, rfl, hp.out _ _⟩, ?_⟩
    repeat (first | exact Below.refl _ _ | exact hBW | refine Below.drew ?_ | refine below_drewN ?_ _ | refine bset ?_ (by simp <;> omega) _ | refine bal ?_ _)
end Go.Proofs.YthlphfjmdgcpdaaGreatDoor

