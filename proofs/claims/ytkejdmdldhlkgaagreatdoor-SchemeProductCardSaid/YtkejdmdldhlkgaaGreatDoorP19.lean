/- Texts of this seat, laid together: MxD, MxE, MxF, Dec. Each opens with its own remark, which says what it proves, and under which conditions. -/
import Derived.Test.YtkejdmdldhlkgaaGreatDoorP18
import Derived.Test.YtkejdmdldhlkgaaGreatDoorP03
import Derived.Test.YtkejdmdldhlkgaaGreatDoorP04
set_option linter.unusedVariables false
set_option linter.unusedSimpArgs false
/- matrix: Scale, Turn. -/
namespace Go.Proofs.YtkejdmdldhlkgaaGreatDoor
open Num
open Go.ChangeShapes Go.WideShapes Go.ChangeAt Go.RowKit
set_option linter.unusedVariables false
set_option linter.unusedSimpArgs false
attribute [local go_sem ↓] Go.wp_at_zero Go.wp_at_succ
set_option maxRecDepth 100000 in
set_option maxHeartbeats 4000000 in
theorem scale1_c (bm bo : Nat) (g : Grid) (n m k kc : Nat) (c : Int) (nc : Bool) (ac : Option Addr) (lc cc : Nat) (w : World) (hg : BoxM bm w g) (hc0 : w.cell? ⟨bo, 0, none⟩ = some (.bool nc)) (hc1 : w.cell? ⟨bo, 1, none⟩ = some (.slice ac lc cc)) (hc : IsInt w (.agg #[.bool nc, .slice ac lc cc]) c) (lg : g.length = n) (rg : Rct g m) (kg : BdM k g) (bc : Bd kc c) (hk : k ≤ 17179869184) (hkc : kc ≤ 17179869184) :
    FnF (fun i j => gat g i j * c) n m 84 #[.pointer (some ⟨bm, 0, none⟩), .pointer (some ⟨bo, 0, none⟩)] w := by
  intro W i j hi hj hW
  obtain ⟨c1, gb, go, rb, ro, rc, n1, a1, l1, k1, g0, g1, g2, g3, gi⟩ := (hg.keep hW).elem rg (by omega : i < g.length) hj
  rw [lg] at g0
  have x0 := bkeep hW hc0
  have x1 := bkeep hW hc1
  have mc := fun V (q : Below W.heap.size W V) => mul_c (.agg #[.bool n1, .slice a1 l1 k1]) (.agg #[.bool nc, .slice ac lc cc]) (gat g i j) c k kc V (gi.keep q) ((hc.keep hW).keep q) (kg i j) bc hk hkc
  clear hg gi lg rg kg hW hc hc0 hc1 bc
  have hiI : (i : Int) < (n : Int) := by omega
  have hjI : (j : Int) < (m : Int) := by omega
  have z0 := cell_lt g0; have z1 := cell_lt g1; have z2 := cell_lt g2; have z3 := cell_lt x0
  have hB := Below.refl W.heap.size W
  show Calls Tryz.prog 84 #[.int .i64 (i : Nat), .int .i64 (j : Nat), .pointer (some ⟨bm, 0, none⟩), .pointer (some ⟨bo, 0, none⟩)] W _
  dsimp only
  go_enter Tryz.func84, Tryz.ntmps84
  go_wp2
  refine wp_name fun w0 hW0 => ?_
  have hBc : Below W.heap.size W w0 := by rw [hW0]; repeat (first | exact Below.refl _ _ | exact hB | refine Below.drew ?_ | refine below_drewN ?_ _ | refine bset ?_ (by simp <;> omega) _ | refine bal ?_ _)
  have r0 : w0.cell? ⟨W.heap.size, 0, none⟩ = some (.bool false) := by rw [hW0]; simp [go_sem]
  have r1 : w0.cell? ⟨W.heap.size, 1, none⟩ = some (.slice none 0 0) := by rw [hW0]; simp [go_sem]
  have r0f : w0.frozen? ⟨W.heap.size, 0, none⟩ = false := by rw [hW0]; simp [go_sem]
  have r1f : w0.frozen? ⟨W.heap.size, 1, none⟩ = false := by rw [hW0]; simp [go_sem]
  clear hW0
  replace g0 := bkeep hBc g0
  replace g1 := bkeep hBc g1
  replace g2 := bkeep hBc g2
  replace g3 := bkeep hBc g3
  replace x0 := bkeep hBc x0
  replace x1 := bkeep hBc x1
  have zr := cell_lt r0
  go_still_tail 9, (by kernel_rfl)
  change wpList _ _ _ _ _ w0.drew
  obtain ⟨w2, hw2⟩ : ∃ w2, w0.drew = w2 := ⟨_, rfl⟩
  have hq2 : Below w0.heap.size w0 w2 := hw2 ▸ (Below.refl _ _).drew
  rw [hw2]
  clear hw2
  go_wp2_with fail
  refine (mc _ (bthen hBc hq2)).mono ?_
  rintro e w5 ⟨⟨v5, rfl, hv5⟩, hb5⟩
  have hB5 : Below w0.heap.size w0 w5 := bthen hq2 hb5
  have hBW := bthen hBc hB5
  have r05f := bkeepf hB5 r0 r0f
  have r15f := bkeepf hB5 r1 r1f
  have r05 := bkeep hB5 r0
  have r15 := bkeep hB5 r1
  have HV := Lib.hid hv5
  obtain ⟨n5, a5, c5, l5, rfl, -⟩ := hv5
  unfold iv at *
  clear mc g0 g1 g2 g3 x0 x1 r0 r1 r0f r1f
  go_wp2
  refine bodyPost_ret (v := .agg #[.bool n5, .slice a5 l5.length c5]) (by simp [results, Tryz.results84, go_sem, *]) rfl ⟨⟨_, rfl, (HV.out).put2 r05 r15 _ _⟩, ?_⟩
  repeat (first | exact Below.refl _ _ | exact hBW | refine Below.drew ?_ | refine below_drewN ?_ _ | refine bset ?_ (by simp <;> omega) _ | refine bal ?_ _)
def scaleG (g : Grid) (c : Int) : Grid := tab g.length (cols g) fun i j => gat g i j * c
set_option maxRecDepth 100000 in
set_option maxHeartbeats 4000000 in
theorem scaleM_c (v u : Value) (g : Grid) (c : Int) (k kc : Nat) (w : World) (hv : IsM 0 w v g) (hu : IsInt w u c) (rg : Rct g (cols g)) (kg : BdM k g) (bc : Bd kc c) (hk : k ≤ 17179869184) (hkc : kc ≤ 17179869184) (lg : g.length ≤ 1099511627775) (lc : cols g ≤ 1099511627775) :
    Calls Tryz.prog 35 #[v, u] w fun e w' => (∃ v, e = .returned v ∧ IsM w.heap.size w' v (scaleG g c)) ∧ Below w.heap.size w w' := by
  obtain ⟨ag, cg, rfl, lv⟩ := hv
  have HI := Lib.hid hu
  obtain ⟨nc, ac, cc, ll, rfl, -⟩ := hu
  unfold iv at *
  have rc1 := fun V => rowsM_c ag g.length cg V
  have cc1 := fun V (q : Below w.heap.size w V) => colsM_c ag cg g V (lv.keep (prs_prow 0) q)
  have fc := fun V (q : Below w.heap.size w V) (e1 : V.cell? ⟨w.heap.size, 0, none⟩ = some (.slice ag g.length cg)) (e2 : V.cell? ⟨w.heap.size + 1, 0, none⟩ = some (.bool nc)) (e3 : V.cell? ⟨w.heap.size + 1, 1, none⟩ = some (.slice ac ll.length cc)) =>
    filled_c g.length (cols g) (fun i j => gat g i j * c) 84 #[.pointer (some ⟨w.heap.size, 0, none⟩), .pointer (some ⟨w.heap.size + 1, 0, none⟩)] V (scale1_c _ _ g g.length (cols g) k kc c nc ac ll.length cc V (lv.box q e1) e2 e3 (HI.out.keep q) rfl rg kg bc hk hkc) (ens Tryz.func84 (by kernel_rfl) rfl) (by omega) lc
  have FC := Lib.hid fc
  clear fc lv rg kg lg lc bc
  unfold scaleG
  obtain ⟨N, hN⟩ : ∃ N, g.length = N := ⟨_, rfl⟩
  obtain ⟨C, hC⟩ : ∃ N, cols g = N := ⟨_, rfl⟩
  rw [hN, hC] at FC
  rw [hN] at rc1 cc1
  rw [hC] at cc1
  rw [hN, hC]
  clear hN hC
  have RC1 := Lib.hid rc1
  have CC1 := Lib.hid cc1
  clear rc1 cc1
  have hB := Below.refl w.heap.size w
  go_enter Tryz.func35, Tryz.ntmps35
  go_wp2
  refine wp_name fun w0 hW0 => ?_
  have m0 : w0.cell? ⟨w.heap.size, 0, none⟩ = some (.slice ag N cg) := by rw [hW0]; simp [go_sem]
  have zm0 := cell_lt m0
  have o0 : w0.cell? ⟨w.heap.size + 1, 0, none⟩ = some (.bool nc) := by rw [hW0]; simp [go_sem]
  have zo0 := cell_lt o0
  have o1 : w0.cell? ⟨w.heap.size + 1, 1, none⟩ = some (.slice ac ll.length cc) := by rw [hW0]; simp [go_sem]
  have r0f : w0.frozen? ⟨w.heap.size + 1 + 1, 0, none⟩ = false := by rw [hW0]; simp [go_sem]
  have r0 : w0.cell? ⟨w.heap.size + 1 + 1, 0, none⟩ = some (.slice none 0 0) := by rw [hW0]; simp [go_sem]
  have zr0 := cell_lt r0
  have hB : Below w.heap.size w w0 := by rw [hW0]; repeat (first | exact Below.refl _ _ | exact hB | refine Below.drew ?_ | refine below_drewN ?_ _ | refine bset ?_ (by simp <;> omega) _ | refine bal ?_ _)
  have HT0 : Hid (typOf w0 (w.heap.size + 1 + 1) = some 34) := Lib.hid (by rw [hW0]; exact typ_fresh (by simp))
  have hz : w.heap.size ≤ w0.heap.size := hB.size
  clear hW0
  refine wp_region_grow_tail (w := w0) 5 (by kernel_rfl) (by kernel_rfl) ?_
  simp only [List.take_succ_cons, List.take_zero, List.drop_succ_cons, List.drop_zero]
  have m0g : ∀ gs, (grow w0 gs).cell? ⟨w.heap.size, 0, none⟩ = some (.slice ag N cg) := fun gs => bkeep gs.below m0
  have o0g : ∀ gs, (grow w0 gs).cell? ⟨w.heap.size + 1, 0, none⟩ = some (.bool nc) := fun gs => bkeep gs.below o0
  have o1g : ∀ gs, (grow w0 gs).cell? ⟨w.heap.size + 1, 1, none⟩ = some (.slice ac ll.length cc) := fun gs => bkeep gs.below o1
  have r0g : ∀ gs, (grow w0 gs).cell? ⟨w.heap.size + 1 + 1, 0, none⟩ = some (.slice none 0 0) := fun gs => bkeep gs.below r0
  repeat (go_big_quiet_step ((first | (go_at_call 52; with_reducible exact grow_of (RC1.out _)) | (go_at_call 53; with_reducible exact grow_of (CC1.out _ (hB.trans ((Grows.below _).mono hz)))) | fail)))
  refine wpQuiet_nil ?_
  intro w2 hb2
  clear m0g
  clear o0g
  clear o1g
  clear r0g
  have m0 := bkeep hb2 m0
  have o0 := bkeep hb2 o0
  have o1 := bkeep hb2 o1
  have r0f := bkeepf hb2 r0 r0f
  have r0 := bkeep hb2 r0
  have hB := bthen hB hb2
  have hz := hB.size
  have HT2 := Lib.hid (typ_keep HT0.out hb2)
  clear HT0
  go_wp2_with fail
  refine (FC.out _ hB m0 o0 o1).mono ?_
  rintro e w3 ⟨⟨v3, rfl, hv3⟩, hb3⟩
  have HT3 := typ_keep HT2.out hb3
  have HV := Lib.hid (hv3.rebase hz)
  obtain ⟨a3, c3, rfl⟩ := hv3.lit
  have m0 := bkeep hb3 m0
  have o0 := bkeep hb3 o0
  have o1 := bkeep hb3 o1
  have r0f := bkeepf hb3 r0 r0f
  have r0 := bkeep hb3 r0
  have hB := bthen hB hb3
  have hz := hB.size
  rw [tab_len] at HV ⊢
  clear FC hv3 m0 o0 o1
  go_wp2
  refine bodyPost_ret (v := .agg #[.slice a3 N c3]) (by simp [results, Tryz.results35, go_sem, *]) rfl ⟨⟨_, rfl, HV.out.setM HT3 _⟩, ?_⟩
  repeat (first | exact Below.refl _ _ | exact hB | refine Below.drew ?_ | refine below_drewN ?_ _ | refine bset ?_ (by simp <;> omega) _ | refine bal ?_ _)
end Go.Proofs.YtkejdmdldhlkgaaGreatDoor

/- matrix: Times. -/
namespace Go.Proofs.YtkejdmdldhlkgaaGreatDoor
open Num
open Go.ChangeShapes Go.WideShapes Go.ChangeAt Go.RowKit
set_option linter.unusedVariables false
set_option linter.unusedSimpArgs false
attribute [local go_sem ↓] Go.wp_at_zero Go.wp_at_succ
theorem isum_bd {k : Nat} {f : Nat → Int} (h : ∀ i, Bd k (f i)) : ∀ n, Bd (k + n) (Det.isum n f)
  | 0 => bd_zero
  | n + 1 => (Bd.add (isum_bd h n) ((h n).mono (by omega))).mono (by omega)
set_option maxRecDepth 100000 in
set_option maxHeartbeats 16000000 in
theorem times1_c (bm bo : Nat) (g h : Grid) (n m p k kh : Nat) (w : World) (hg : BoxM bm w g) (hh : BoxM bo w h) (lg : g.length = n) (lh : h.length = m) (rg : Rct g m) (rh : Rct h p) (kg : BdM k g) (kh' : BdM kh h) (hm : m ≤ 1099511627775) (hk : k + kh + m ≤ 17179869184) :
    FnF (fun i j => Det.isum m fun t => gat g i t * gat h t j) n p 80 #[.pointer (some ⟨bm, 0, none⟩), .pointer (some ⟨bo, 0, none⟩)] w := by
  intro w1 i j hi hj hW
  obtain ⟨c1, gb, go, ra, rc, q0, q1, hp⟩ := (hg.keep hW).row (by omega : i < g.length)
  rw [lg] at q0
  rw [rg i (by omega)] at q1
  have hrl := rg i (by omega)
  have HH := Lib.hid (show ∀ V, Below w1.heap.size w1 V → ∀ t, t < m → _ from fun V q t ht => ((hh.keep hW).keep q).elem rh (by omega : t < h.length) hj)
  have HP := Lib.hid hp
  rw [lh] at HH
  clear hg hW hp
  have HK := Lib.hid (And.intro kg kh')
  have HRL := Lib.hid hrl
  have hiI : (i : Int) < (n : Int) := by omega
  have hjI : (j : Int) < (p : Int) := by omega
  clear lg lh rg rh kg kh' hrl hh
  have zq0 := cell_lt q0; have zq1 := cell_lt q1
  obtain ⟨w, hw⟩ : ∃ w, w1 = w := ⟨_, rfl⟩
  subst hw
  have hB := Below.refl w1.heap.size w1
  show Calls Tryz.prog 80 #[.int .i64 (i : Nat), .int .i64 (j : Nat), .pointer (some ⟨bm, 0, none⟩), .pointer (some ⟨bo, 0, none⟩)] w1 _
  dsimp only
  go_enter Tryz.func80, Tryz.ntmps80
  go_wp2
  refine wp_name fun w0 hW0 => ?_
  have hB0 : Below w1.heap.size w1 w0 := by rw [hW0]; repeat (first | exact Below.refl _ _ | exact hB | refine Below.drew ?_ | refine below_drewN ?_ _ | refine bset ?_ (by simp <;> omega) _ | refine bal ?_ _)
  have HR0 := Lib.hid (show w0.cell? ⟨w1.heap.size, 0, none⟩ = some (.bool false) ∧ w0.cell? ⟨w1.heap.size, 1, none⟩ = some (.slice none 0 0) ∧ w0.frozen? ⟨w1.heap.size, 0, none⟩ = false ∧ w0.frozen? ⟨w1.heap.size, 1, none⟩ = false from by rw [hW0]; simp [go_sem])
  have HM0 := Lib.hid (show VarI (w1.heap.size + 1) 0 w0 from by rw [hW0]; exact ⟨typ_fresh (by simp), false, none, 0, 0, by simp [go_sem], by simp [go_sem], by simp [go_sem], by simp [go_sem], isInt_zero _⟩)
  clear hW0
  go_loopw [16] (fun x wr => ∃ t : Nat, t ≤ m ∧ x = .int .i64 t ∧ Below w1.heap.size w1 wr ∧ Hid (wr.cell? ⟨w1.heap.size, 0, none⟩ = some (.bool false) ∧ wr.cell? ⟨w1.heap.size, 1, none⟩ = some (.slice none 0 0) ∧ wr.frozen? ⟨w1.heap.size, 0, none⟩ = false ∧ wr.frozen? ⟨w1.heap.size, 1, none⟩ = false) ∧ Hid (VarI (w1.heap.size + 1) (Det.isum t fun t => gat g i t * gat h t j) wr)) (fun x _ => m - (intOf x).toNat)
  case atStart => exact ⟨0, Nat.zero_le _, rfl, hB0, HR0, HM0⟩
  case round =>
    obtain ⟨t, ht, rfl, hBr, HR, hM⟩ := hrel
    obtain ⟨-, n0, a0, ln0, c0, m0, m1, m0f, m1f, hi0⟩ := hM.out
    obtain ⟨r0, r1, r0f, r1f⟩ := HR.out
    have HI0 := Lib.hid hi0
    have zm := cell_lt m0
    have zr := cell_lt r0
    clear hi0
    by_cases hlt : t < m
    · have hltI : (t : Int) < (m : Int) := by omega
      obtain ⟨a', c', he, -, vr⟩ := (HP.out.keep lims_int hBr).view
      obtain ⟨rfl, -, rfl⟩ := Value.slice.inj he
      obtain ⟨b, off, n2, a2, l2, cc2, rfl, d0, d1, hx⟩ := vr t (by rw [HRL.out]; exact hlt)
      obtain ⟨c3, hb, ho, sb, so, sc, n3, a3, l3, k3, h0, h1, h2, h3, hy⟩ := HH.out _ hBr t hlt
      have HW := Lib.hid (show Det.isum (t + 1) (fun t => gat g i t * gat h t j) = Det.isum t (fun t => gat g i t * gat h t j) + gat g i t * gat h t j from rfl)
      have bs := isum_bd (k := k + kh) (f := fun t => gat g i t * gat h t j) (fun t => Bd.mul (HK.out.1 i t) (HK.out.2 t j)) t
      have bx := HK.out.1 i t
      have by' := HK.out.2 t j
      have bp := (Bd.mul bx by').mono (show k + kh ≤ k + kh + t by omega)
      have hgx : (g.getD i []).getD t 0 = gat g i t := rfl
      rw [hgx] at hx
      obtain ⟨x, hxx⟩ : ∃ x, gat g i t = x := ⟨_, rfl⟩
      obtain ⟨y, hyy⟩ : ∃ y, gat h t j = y := ⟨_, rfl⟩
      rw [hxx] at hx bx bp HW
      rw [hyy] at hy by' bp HW
      obtain ⟨s, hs⟩ : ∃ s, Det.isum t (fun t => gat g i t * gat h t j) = s := ⟨_, rfl⟩
      rw [hs] at HI0 HW hM bs
      have zd := cell_lt d0
      have z0 := cell_lt h0; have z1 := cell_lt h1; have z2 := cell_lt h2
      have HX := Lib.hid (And.intro hx hy)
      have HBP := Lib.hid (And.intro bs (And.intro bp (And.intro bx by')))
      have mc := fun W (q : Below wr.heap.size wr W) => mul_c (.agg #[.bool n2, .slice a2 l2 cc2]) (.agg #[.bool n3, .slice a3 l3 k3]) x y k kh W (HX.out.1.keep q) (HX.out.2.keep q) HBP.out.2.2.1 HBP.out.2.2.2 (by omega) (by omega)
      have ac := fun u W (q : Below wr.heap.size wr W) (hu : IsInt W u (x * y)) => addI_c _ u s (x * y) (k + kh + t) W (HI0.out.keep q) hu HBP.out.1 HBP.out.2.1 (by omega)
      clear hxx hyy hs he vr hx hy bs bp bx by' hgx
      have hBw := Below.refl wr.heap.size wr
      go_wp2
      refine wp_name fun w4 hW4 => ?_
      have hb4 : Below wr.heap.size wr w4 := by rw [hW4]; repeat (first | exact Below.refl _ _ | exact hBw | refine Below.drew ?_ | refine below_drewN ?_ _ | refine bset ?_ (by simp <;> omega) _ | refine bal ?_ _)
      have x0 : w4.cell? ⟨wr.heap.size, 0, none⟩ = some (.bool n2) := by rw [hW4]; simp [go_sem]
      have x1 : w4.cell? ⟨wr.heap.size, 1, none⟩ = some (.slice a2 l2 cc2) := by rw [hW4]; simp [go_sem]
      clear hW4
      have zx := cell_lt x0
      have HS := Lib.hid (show ∀ W, Below w4.heap.size w4 W → W.cell? ⟨wr.heap.size, 0, none⟩ = some (.bool n2) ∧ W.cell? ⟨wr.heap.size, 1, none⟩ = some (.slice a2 l2 cc2) ∧ W.cell? ⟨bo, 0, none⟩ = some (.slice (some ⟨hb, ho, none⟩) m c3) ∧ W.cell? ⟨hb, ho + t, none⟩ = some (.slice (some ⟨sb, so, none⟩) p sc) ∧ W.cell? ⟨sb, so + j * 2, none⟩ = some (.bool n3) ∧ W.cell? ⟨sb, so + j * 2 + 1, none⟩ = some (.slice a3 l3 k3) ∧ W.cell? ⟨w1.heap.size + 1, 0, none⟩ = some (.bool n0) ∧ W.cell? ⟨w1.heap.size + 1, 1, none⟩ = some (.slice a0 ln0 c0) ∧ W.frozen? ⟨w1.heap.size + 1, 0, none⟩ = false ∧ W.frozen? ⟨w1.heap.size + 1, 1, none⟩ = false from fun W q => ⟨bkeep q x0, bkeep q x1, bkeep (bthen hb4 q) h0, bkeep (bthen hb4 q) h1, bkeep (bthen hb4 q) h2, bkeep (bthen hb4 q) h3, bkeep (bthen hb4 q) m0, bkeep (bthen hb4 q) m1, bkeepf (bthen hb4 q) m0 m0f, bkeepf (bthen hb4 q) m1 m1f⟩)
      clear h0 h1 h2 h3 m0 m1 m0f m1f x0 x1
      obtain ⟨x0, x1, h0, h1, h2, h3, m0, m1, m0f, m1f⟩ := HS.out w4 (Below.refl _ _)
      have hBw := Below.refl w4.heap.size w4
      have hz4 := hb4.size
      go_region_law (go_simp; go_wp2_with (first
        | (go_at_call 24; refine (mc _ ?_).mono ?_; (refine bthen hb4 ?_; (repeat (first | exact Below.refl _ _ | exact hBw | refine Below.drew ?_ | refine below_drewN ?_ _ | refine bset ?_ (by simp <;> omega) _ | refine bal ?_ _))); rintro e w5 ⟨⟨v5, rfl, hv5⟩, hb5⟩; (have hBd : Below w4.heap.size w4 w5 := bthen (by repeat (first | exact Below.refl _ _ | exact hBw | refine Below.drew ?_ | refine below_drewN ?_ _ | refine bset ?_ (by simp <;> omega) _ | refine bal ?_ _)) hb5; clear hBw; have hBw := hBd; clear hBd); obtain ⟨x0, x1, h0, h1, h2, h3, m0, m1, m0f, m1f⟩ := HS.out w5 hBw; have zm5 := cell_lt m0; have HV5 := Lib.hid hv5; obtain ⟨n5, a5, c5, l5, rfl, -⟩ := hv5; unfold iv at *)
        | (go_at_call 71; refine (ac _ _ ?_ ?_).mono ?_; (refine bthen hb4 ?_; (repeat (first | exact Below.refl _ _ | exact hBw | refine Below.drew ?_ | refine below_drewN ?_ _ | refine bset ?_ (by simp <;> omega) _ | refine bal ?_ _))); (refine HV5.out.keep ?_; have hBz := Below.refl w5.heap.size w5; (repeat (first | exact Below.refl _ _ | exact hBz | refine Below.drew ?_ | refine below_drewN ?_ _ | refine bset ?_ (by simp <;> omega) _ | refine bal ?_ _))); rintro e w6 ⟨⟨v6, rfl, hv6⟩, hb6⟩; (have hBd : Below w4.heap.size w4 w6 := bthen (by repeat (first | exact Below.refl _ _ | exact hBw | refine Below.drew ?_ | refine below_drewN ?_ _ | refine bset ?_ (by simp <;> omega) _ | refine bal ?_ _)) hb6; clear hBw; have hBw := hBd; clear hBd); obtain ⟨x0, x1, h0, h1, h2, h3, m0, m1, m0f, m1f⟩ := HS.out w6 hBw; have zm6 := cell_lt m0; have HV6 := Lib.hid hv6; obtain ⟨n6, a6, c6, l6, rfl, -⟩ := hv6; unfold iv at *)
        | fail))
      all_goals
        have hBw' := bthen hb4 hBw
        have HV2 := Lib.hid ((hM.out.keep hBw').put HV6.out)
        have hB2 := bthen hBr hBw'
        have r0' := bkeep hBw' r0
        have r1' := bkeep hBw' r1
        have r0f' := bkeepf hBw' r0 r0f
        have r1f' := bkeepf hBw' r1 r1f
        clear mc ac HS
        go_wp2
        refine ⟨⟨t + 1, by omega, by go_num, bset (bset hB2 (by show w1.heap.size ≤ w1.heap.size + 1; omega) _) (by show w1.heap.size ≤ w1.heap.size + 1; omega) _, Lib.hid ⟨cell_far (cell_far r0' (addr_ne (by omega)) _) (addr_ne (by omega)) _, cell_far (cell_far r1' (addr_ne (by omega)) _) (addr_ne (by omega)) _, ?_, ?_⟩, Lib.hid (by rw [HW.out]; exact HV2.out)⟩, by simp [intOf]; omega⟩
        · rw [World.frozen?_setCell, World.frozen?_setCell]; exact r0f'
        · rw [World.frozen?_setCell, World.frozen?_setCell]; exact r1f'
    · obtain rfl : t = m := by omega
      have hp := Lib.hid (HI0.out.put2 r0 r1)
      go_wp2
      refine bodyPost_ret (v := .agg #[.bool n0, .slice a0 ln0 c0]) (by simp [results, Tryz.results80, go_sem, *]) rfl ⟨⟨_, rfl, hp.out _ _⟩, ?_⟩
      repeat (first | exact Below.refl _ _ | exact hBr | refine Below.drew ?_ | refine below_drewN ?_ _ | refine bset ?_ (by simp <;> omega) _ | refine bal ?_ _)
end Go.Proofs.YtkejdmdldhlkgaaGreatDoor

/- matrix: Times, square, New. -/
namespace Go.Proofs.YtkejdmdldhlkgaaGreatDoor
open Num
open Go.ChangeShapes Go.WideShapes Go.ChangeAt Go.RowKit
set_option linter.unusedVariables false
set_option linter.unusedSimpArgs false
attribute [local go_sem ↓] Go.wp_at_zero Go.wp_at_succ
def timesG (g h : Grid) : Grid := tab g.length (cols h) fun i j => Det.isum (cols g) fun t => gat g i t * gat h t j
set_option maxRecDepth 100000 in
set_option maxHeartbeats 4000000 in
theorem timesM_c (v u : Value) (g h : Grid) (k kh : Nat) (w : World) (hv : IsM 0 w v g) (hu : IsM 0 w u h) (rg : Rct g (cols g)) (rh : Rct h (cols h)) (kg : BdM k g) (kh' : BdM kh h) (hk : k + kh + cols g ≤ 17179869184) (lg : g.length ≤ 1099511627775) (lc : cols h ≤ 1099511627775) (lcg : cols g ≤ 1099511627775) :
    Calls Tryz.prog 31 #[v, u] w (MOr (cols g = h.length ∧ 0 < cols g) 5 (timesG g h) w) := by
  obtain ⟨ag, cg, rfl, lv⟩ := hv
  obtain ⟨ah, ch, rfl, lu⟩ := hu
  have rc1 := fun V => rowsM_c ag g.length cg V
  have rc2 := fun V => rowsM_c ah h.length ch V
  have cc1 := fun V (q : Below w.heap.size w V) => colsM_c ag cg g V (lv.keep (prs_prow 0) q)
  have cc2 := fun V (q : Below w.heap.size w V) => colsM_c ah ch h V (lu.keep (prs_prow 0) q)
  have fc := fun V (q : Below w.heap.size w V) (e1 : V.cell? ⟨w.heap.size, 0, none⟩ = some (.slice ag g.length cg)) (e2 : V.cell? ⟨w.heap.size + 1, 0, none⟩ = some (.slice ah h.length ch)) (hn : cols g = h.length) =>
    filled_c g.length (cols h) (fun i j => Det.isum (cols g) fun t => gat g i t * gat h t j) 80 #[.pointer (some ⟨w.heap.size, 0, none⟩), .pointer (some ⟨w.heap.size + 1, 0, none⟩)] V (times1_c _ _ g h g.length (cols g) (cols h) k kh V (lv.box q e1) (lu.box q e2) rfl hn.symm rg rh kg kh' lcg hk) (ens Tryz.func80 (by kernel_rfl) rfl) (by omega) lc
  have FC := Lib.hid fc
  clear fc lv lu rg rh kg kh' lg lc hk lcg
  unfold timesG
  obtain ⟨FF, hFF⟩ : ∃ FF, (fun i j => Det.isum (cols g) fun t => gat g i t * gat h t j) = FF := ⟨_, rfl⟩
  rw [hFF] at FC ⊢
  clear hFF
  obtain ⟨N, hN⟩ : ∃ N, g.length = N := ⟨_, rfl⟩
  obtain ⟨N', hN'⟩ : ∃ N, h.length = N := ⟨_, rfl⟩
  obtain ⟨C, hC⟩ : ∃ N, cols g = N := ⟨_, rfl⟩
  obtain ⟨C', hC'⟩ : ∃ N, cols h = N := ⟨_, rfl⟩
  rw [hN, hN', hC, hC'] at FC
  rw [hN] at rc1 cc1
  rw [hN'] at rc2 cc2
  rw [hC] at cc1
  rw [hC'] at cc2
  rw [hN, hN', hC, hC']
  clear hN hN' hC hC'
  have RC1 := Lib.hid rc1
  have RC2 := Lib.hid rc2
  have CC1 := Lib.hid cc1
  have CC2 := Lib.hid cc2
  clear rc1 rc2 cc1 cc2
  have hB := Below.refl w.heap.size w
  by_cases h1 : C = N'
  · by_cases h2 : 0 < C
    · have FC2 := Lib.hid (fun V q e1 e2 => FC.out V q e1 e2 h1)
      subst h1
      have HOK := Lib.hid (show C = C ∧ 0 < C from ⟨rfl, h2⟩)
      have hnI : ((C : Int) != (C : Int)) = false := by simp
      have hcI : ((C : Int) == 0) = false := by simp; omega
      clear FC h2
      go_enter Tryz.func31, Tryz.ntmps31
      go_wp2
      refine wp_name fun w0 hW0 => ?_
      have m0 : w0.cell? ⟨w.heap.size, 0, none⟩ = some (.slice ag N cg) := by rw [hW0]; simp [go_sem]
      have zm0 := cell_lt m0
      have o0 : w0.cell? ⟨w.heap.size + 1, 0, none⟩ = some (.slice ah C ch) := by rw [hW0]; simp [go_sem]
      have zo0 := cell_lt o0
      have r0f : w0.frozen? ⟨w.heap.size + 1 + 1, 0, none⟩ = false := by rw [hW0]; simp [go_sem]
      have r0 : w0.cell? ⟨w.heap.size + 1 + 1, 0, none⟩ = some (.slice none 0 0) := by rw [hW0]; simp [go_sem]
      have zr0 := cell_lt r0
      have hB : Below w.heap.size w w0 := by rw [hW0]; repeat (first | exact Below.refl _ _ | exact hB | refine Below.drew ?_ | refine below_drewN ?_ _ | refine bset ?_ (by simp <;> omega) _ | refine bal ?_ _)
      have HT0 : Hid (typOf w0 (w.heap.size + 1 + 1) = some 34) := Lib.hid (by rw [hW0]; exact typ_fresh (by simp))
      have hz : w.heap.size ≤ w0.heap.size := hB.size
      clear hW0
      refine wp_region_grow (w := w0) (by kernel_rfl) (by kernel_rfl) ?_
      have m0g : ∀ gs, (grow w0 gs).cell? ⟨w.heap.size, 0, none⟩ = some (.slice ag N cg) := fun gs => bkeep gs.below m0
      have o0g : ∀ gs, (grow w0 gs).cell? ⟨w.heap.size + 1, 0, none⟩ = some (.slice ah C ch) := fun gs => bkeep gs.below o0
      have r0g : ∀ gs, (grow w0 gs).cell? ⟨w.heap.size + 1 + 1, 0, none⟩ = some (.slice none 0 0) := fun gs => bkeep gs.below r0
      repeat (go_big_quiet_step ((first | (go_at_call 53; with_reducible exact grow_of (CC1.out _ (hB.trans ((Grows.below _).mono hz)))) | (go_at_call 52; with_reducible exact grow_of (RC2.out _)) | fail)))
      refine wpQuiet_nil ?_
      intro w1 hb1
      clear m0g
      clear o0g
      clear r0g
      have m0 := bkeep hb1 m0
      have o0 := bkeep hb1 o0
      have r0f := bkeepf hb1 r0 r0f
      have r0 := bkeep hb1 r0
      have hB := bthen hB hb1
      have hz := hB.size
      have HT1 := Lib.hid (typ_keep HT0.out hb1)
      clear HT0
      go_wp2
      refine wp_region_grow_tail (w := w1) 5 (by kernel_rfl) (by kernel_rfl) ?_
      simp only [List.take_succ_cons, List.take_zero, List.drop_succ_cons, List.drop_zero]
      have m0g : ∀ gs, (grow w1 gs).cell? ⟨w.heap.size, 0, none⟩ = some (.slice ag N cg) := fun gs => bkeep gs.below m0
      have o0g : ∀ gs, (grow w1 gs).cell? ⟨w.heap.size + 1, 0, none⟩ = some (.slice ah C ch) := fun gs => bkeep gs.below o0
      have r0g : ∀ gs, (grow w1 gs).cell? ⟨w.heap.size + 1 + 1, 0, none⟩ = some (.slice none 0 0) := fun gs => bkeep gs.below r0
      repeat (go_big_quiet_step ((first | (go_at_call 52; with_reducible exact grow_of (RC1.out _)) | (go_at_call 53; with_reducible exact grow_of (CC2.out _ (hB.trans ((Grows.below _).mono hz)))) | fail)))
      refine wpQuiet_nil ?_
      intro w2 hb2
      clear m0g
      clear o0g
      clear r0g
      have m0 := bkeep hb2 m0
      have o0 := bkeep hb2 o0
      have r0f := bkeepf hb2 r0 r0f
      have r0 := bkeep hb2 r0
      have hB := bthen hB hb2
      have hz := hB.size
      have HT2 := Lib.hid (typ_keep HT1.out hb2)
      clear HT1
      go_wp2_with fail
      refine (FC2.out _ hB m0 o0).mono ?_
      rintro e w3 ⟨⟨v3, rfl, hv3⟩, hb3⟩
      have HT3 := typ_keep HT2.out hb3
      have HV := Lib.hid (hv3.rebase hz)
      obtain ⟨a3, c3, rfl⟩ := hv3.lit
      have m0 := bkeep hb3 m0
      have o0 := bkeep hb3 o0
      have r0f := bkeepf hb3 r0 r0f
      have r0 := bkeep hb3 r0
      have hB := bthen hB hb3
      have hz := hB.size
      rw [tab_len] at HV ⊢
      clear FC2 hv3 m0 o0
      go_wp2
      refine bodyPost_ret (v := .tuple #[.agg #[.slice a3 N c3], .int .i64 0]) (by simp [results, Tryz.results31, go_sem, *]) rfl ⟨.inl ⟨by have := HOK.out; omega, _, rfl, HV.out.setM HT3 _⟩, ?_⟩
      repeat (first | exact Below.refl _ _ | exact hB | refine Below.drew ?_ | refine below_drewN ?_ _ | refine bset ?_ (by simp <;> omega) _ | refine bal ?_ _)
    · have hnI : ((C : Int) != (N' : Int)) = false := by simp [h1]
      have hcI : ((C : Int) == 0) = true := by simp; omega
      have HNO := Lib.hid (show ¬ (C = N' ∧ 0 < C) from fun h => h2 h.2)
      clear FC h1 h2
      go_enter Tryz.func31, Tryz.ntmps31
      go_wp2
      refine wp_name fun w0 hW0 => ?_
      have m0 : w0.cell? ⟨w.heap.size, 0, none⟩ = some (.slice ag N cg) := by rw [hW0]; simp [go_sem]
      have zm0 := cell_lt m0
      have o0 : w0.cell? ⟨w.heap.size + 1, 0, none⟩ = some (.slice ah N' ch) := by rw [hW0]; simp [go_sem]
      have zo0 := cell_lt o0
      have r0f : w0.frozen? ⟨w.heap.size + 1 + 1, 0, none⟩ = false := by rw [hW0]; simp [go_sem]
      have r0 : w0.cell? ⟨w.heap.size + 1 + 1, 0, none⟩ = some (.slice none 0 0) := by rw [hW0]; simp [go_sem]
      have zr0 := cell_lt r0
      have hB : Below w.heap.size w w0 := by rw [hW0]; repeat (first | exact Below.refl _ _ | exact hB | refine Below.drew ?_ | refine below_drewN ?_ _ | refine bset ?_ (by simp <;> omega) _ | refine bal ?_ _)
      have hz : w.heap.size ≤ w0.heap.size := hB.size
      clear hW0
      refine wp_region_grow (w := w0) (by kernel_rfl) (by kernel_rfl) ?_
      have m0g : ∀ gs, (grow w0 gs).cell? ⟨w.heap.size, 0, none⟩ = some (.slice ag N cg) := fun gs => bkeep gs.below m0
      have o0g : ∀ gs, (grow w0 gs).cell? ⟨w.heap.size + 1, 0, none⟩ = some (.slice ah N' ch) := fun gs => bkeep gs.below o0
      have r0g : ∀ gs, (grow w0 gs).cell? ⟨w.heap.size + 1 + 1, 0, none⟩ = some (.slice none 0 0) := fun gs => bkeep gs.below r0
      repeat (go_big_quiet_step ((first | (go_at_call 53; with_reducible exact grow_of (CC1.out _ (hB.trans ((Grows.below _).mono hz)))) | (go_at_call 52; with_reducible exact grow_of (RC2.out _)) | fail)))
      refine wpQuiet_nil ?_
      intro w1 hb1
      clear m0g
      clear o0g
      clear r0g
      have m0 := bkeep hb1 m0
      have o0 := bkeep hb1 o0
      have r0f := bkeepf hb1 r0 r0f
      have r0 := bkeep hb1 r0
      have hB := bthen hB hb1
      have hz := hB.size
      go_wp2
      refine bodyPost_ret (v := .tuple #[.agg #[.slice none 0 0], .int .i64 5]) (by simp [results, Tryz.results31, go_sem, *]) rfl ⟨.inr ⟨HNO.out, rfl⟩, ?_⟩
      repeat (first | exact Below.refl _ _ | exact hB | refine Below.drew ?_ | refine below_drewN ?_ _ | refine bset ?_ (by simp <;> omega) _ | refine bal ?_ _)
  · have hnI : ((C : Int) != (N' : Int)) = true := by simp; omega
    have HNO := Lib.hid (show ¬ (C = N' ∧ 0 < C) from fun h => h1 h.1)
    clear FC h1
    go_enter Tryz.func31, Tryz.ntmps31
    go_wp2
    refine wp_name fun w0 hW0 => ?_
    have m0 : w0.cell? ⟨w.heap.size, 0, none⟩ = some (.slice ag N cg) := by rw [hW0]; simp [go_sem]
    have zm0 := cell_lt m0
    have o0 : w0.cell? ⟨w.heap.size + 1, 0, none⟩ = some (.slice ah N' ch) := by rw [hW0]; simp [go_sem]
    have zo0 := cell_lt o0
    have r0f : w0.frozen? ⟨w.heap.size + 1 + 1, 0, none⟩ = false := by rw [hW0]; simp [go_sem]
    have r0 : w0.cell? ⟨w.heap.size + 1 + 1, 0, none⟩ = some (.slice none 0 0) := by rw [hW0]; simp [go_sem]
    have zr0 := cell_lt r0
    have hB : Below w.heap.size w w0 := by rw [hW0]; repeat (first | exact Below.refl _ _ | exact hB | refine Below.drew ?_ | refine below_drewN ?_ _ | refine bset ?_ (by simp <;> omega) _ | refine bal ?_ _)
    have hz : w.heap.size ≤ w0.heap.size := hB.size
    clear hW0
    refine wp_region_grow (w := w0) (by kernel_rfl) (by kernel_rfl) ?_
    have m0g : ∀ gs, (grow w0 gs).cell? ⟨w.heap.size, 0, none⟩ = some (.slice ag N cg) := fun gs => bkeep gs.below m0
    have o0g : ∀ gs, (grow w0 gs).cell? ⟨w.heap.size + 1, 0, none⟩ = some (.slice ah N' ch) := fun gs => bkeep gs.below o0
    have r0g : ∀ gs, (grow w0 gs).cell? ⟨w.heap.size + 1 + 1, 0, none⟩ = some (.slice none 0 0) := fun gs => bkeep gs.below r0
    repeat (go_big_quiet_step ((first | (go_at_call 53; with_reducible exact grow_of (CC1.out _ (hB.trans ((Grows.below _).mono hz)))) | (go_at_call 52; with_reducible exact grow_of (RC2.out _)) | fail)))
    refine wpQuiet_nil ?_
    intro w1 hb1
    clear m0g
    clear o0g
    clear r0g
    have m0 := bkeep hb1 m0
    have o0 := bkeep hb1 o0
    have r0f := bkeepf hb1 r0 r0f
    have r0 := bkeep hb1 r0
    have hB := bthen hB hb1
    have hz := hB.size
    go_wp2
    refine bodyPost_ret (v := .tuple #[.agg #[.slice none 0 0], .int .i64 5]) (by simp [results, Tryz.results31, go_sem, *]) rfl ⟨.inr ⟨HNO.out, rfl⟩, ?_⟩
    repeat (first | exact Below.refl _ _ | exact hB | refine Below.drew ?_ | refine below_drewN ?_ _ | refine bset ?_ (by simp <;> omega) _ | refine bal ?_ _)
/-- is it square? -/
def sqB (g : Grid) : Bool := decide (0 < g.length) && decide (g.length = cols g)
set_option maxRecDepth 100000 in
set_option maxHeartbeats 4000000 in
theorem square_c (v : Value) (g : Grid) (w : World) (hv : IsM 0 w v g) : Calls Tryz.prog 75 #[v] w fun e w' => e = .returned (.bool (sqB g)) ∧ Below w.heap.size w w' := by
  obtain ⟨ag, cg, rfl, lv⟩ := hv
  have rc1 := fun V => rowsM_c ag g.length cg V
  have cc1 := fun V (q : Below w.heap.size w V) => colsM_c ag cg g V (lv.keep (prs_prow 0) q)
  clear lv
  unfold sqB
  obtain ⟨N, hN⟩ : ∃ N, g.length = N := ⟨_, rfl⟩
  obtain ⟨C, hC⟩ : ∃ N, cols g = N := ⟨_, rfl⟩
  rw [hN] at rc1 cc1
  rw [hC] at cc1
  rw [hN, hC]
  clear hN hC
  have RC1 := Lib.hid rc1
  have CC1 := Lib.hid cc1
  clear rc1 cc1
  have hB := Below.refl w.heap.size w
  by_cases h1 : 0 < N
  · have hnI : (0 : Int) < (N : Int) := by omega
    have hE := Lib.hid (show (decide (0 < N) && decide (N = C)) = ((N : Int) == (C : Int)) from by
      by_cases e : N = C
      · subst e; simp [h1]
      · have : ¬ (N : Int) = (C : Int) := by omega
        simp [e, this])
    have q1 : decide ((0 : Int) < (N : Int)) = true := by simp; omega
    have q2 : decide (0 < N) = true := by simp; omega
    clear h1
    go_enter Tryz.func75, Tryz.ntmps75
    go_wp2
    refine wp_name fun w0 hW0 => ?_
    have m0 : w0.cell? ⟨w.heap.size, 0, none⟩ = some (.slice ag N cg) := by rw [hW0]; simp [go_sem]
    have zm0 := cell_lt m0
    have hB : Below w.heap.size w w0 := by rw [hW0]; repeat (first | exact Below.refl _ _ | exact hB | refine Below.drew ?_ | refine below_drewN ?_ _ | refine bset ?_ (by simp <;> omega) _ | refine bal ?_ _)
    have hz : w.heap.size ≤ w0.heap.size := hB.size
    clear hW0
    refine wp_region_grow (w := w0) (by kernel_rfl) (by kernel_rfl) ?_
    have m0g : ∀ gs, (grow w0 gs).cell? ⟨w.heap.size, 0, none⟩ = some (.slice ag N cg) := fun gs => bkeep gs.below m0
    repeat (go_big_quiet_step ((first | (go_at_call 53; with_reducible exact grow_of (CC1.out _ (hB.trans ((Grows.below _).mono hz)))) | (go_at_call 52; with_reducible exact grow_of (RC1.out _)) | fail)))
    refine wpQuiet_nil ?_
    intro w1 hb1
    clear m0g
    have m0 := bkeep hb1 m0
    have hB := bthen hB hb1
    have hz := hB.size
    go_wp2
    go_ret
    exact ⟨by rw [hE.out]; rfl, hB⟩
  · obtain rfl : N = 0 := by omega
    clear h1
    go_enter Tryz.func75, Tryz.ntmps75
    go_wp2
    refine wp_name fun w0 hW0 => ?_
    have m0 : w0.cell? ⟨w.heap.size, 0, none⟩ = some (.slice ag 0 cg) := by rw [hW0]; simp [go_sem]
    have zm0 := cell_lt m0
    have hB : Below w.heap.size w w0 := by rw [hW0]; repeat (first | exact Below.refl _ _ | exact hB | refine Below.drew ?_ | refine below_drewN ?_ _ | refine bset ?_ (by simp <;> omega) _ | refine bal ?_ _)
    have hz : w.heap.size ≤ w0.heap.size := hB.size
    clear hW0
    refine wp_region_grow (w := w0) (by kernel_rfl) (by kernel_rfl) ?_
    have m0g : ∀ gs, (grow w0 gs).cell? ⟨w.heap.size, 0, none⟩ = some (.slice ag 0 cg) := fun gs => bkeep gs.below m0
    repeat (go_big_quiet_step ((first | (go_at_call 52; with_reducible exact grow_of (RC1.out _)) | fail)))
    refine wpQuiet_nil ?_
    intro w1 hb1
    clear m0g
    have m0 := bkeep hb1 m0
    have hB := bthen hB hb1
    have hz := hB.size
    go_wp2
    go_ret
    exact ⟨rfl, hB⟩
end Go.Proofs.YtkejdmdldhlkgaaGreatDoor

/- Plain: decimal digits, low one first; nine at a time; a number's text. -/
namespace Go.Proofs.YtkejdmdldhlkgaaGreatDoor.Num
/-- the decimal digits of a number, low one first; none of 0 -/
def lowD : Nat → List Nat
  | 0 => []
  | n + 1 => (n + 1) % 10 :: lowD ((n + 1) / 10)
decreasing_by omega
theorem lowD_zero : lowD 0 = [] := by rw [lowD]
theorem lowD_pos {n : Nat} (h : 0 < n) : lowD n = n % 10 :: lowD (n / 10) := by
  cases n with
  | zero => omega
  | succ n => rw [lowD]
theorem lowD_lt (n : Nat) : ∀ d ∈ lowD n, d < 10 := by
  induction n using Nat.strongRecOn with
  | _ n ih =>
    intro d hd
    by_cases h : 0 < n
    · rw [lowD_pos h] at hd
      rcases List.mem_cons.1 hd with rfl | hd
      · omega
      · exact ih (n / 10) (by omega) d hd
    · obtain rfl : n = 0 := by omega
      rw [lowD_zero] at hd; cases hd
theorem lowD_ne {n : Nat} (h : 0 < n) : lowD n ≠ [] := by rw [lowD_pos h]; simp
theorem lowD_len (k : Nat) : ∀ n, n < 2 ^ k → (lowD n).length ≤ k := by
  induction k with
  | zero => intro n h; obtain rfl : n = 0 := by simpa using h
            rw [lowD_zero]; simp
  | succ k ih =>
    intro n h
    by_cases h0 : 0 < n
    · rw [lowD_pos h0]
      have := ih (n / 10) (by rw [Nat.pow_succ] at h; omega)
      simp; exact this
    · obtain rfl : n = 0 := by omega
      rw [lowD_zero]; simp
/-- the low k digits of a number, with noughts -/
def padD : Nat → Nat → List Nat
  | 0, _ => []
  | k + 1, n => n % 10 :: padD k (n / 10)
theorem padD_len (k n : Nat) : (padD k n).length = k := by
  induction k generalizing n with
  | zero => rfl
  | succ k ih => simp [padD, ih]
theorem padD_snoc (k n : Nat) : padD (k + 1) n = padD k n ++ [n / 10 ^ k % 10] := by
  induction k generalizing n with
  | zero => simp [padD]
  | succ k ih =>
    rw [padD, ih (n / 10)]
    show _ = (n % 10 :: padD k (n / 10)) ++ _
    rw [List.cons_append, Nat.div_div_eq_div_mul, Nat.pow_succ, Nat.mul_comm 10]
/-- a number's digits: its low k, then those of what is above -/
theorem lowD_split (k : Nat) : ∀ n, 10 ^ k ≤ n → lowD n = padD k n ++ lowD (n / 10 ^ k) := by
  induction k with
  | zero => intro n _; simp [padD]
  | succ k ih =>
    intro n h
    have hp : 0 < 10 ^ k := Nat.pow_pos (by omega)
    rw [Nat.pow_succ] at h
    have hn : 0 < n := by omega
    rw [lowD_pos hn, ih (n / 10) (by rw [Nat.le_div_iff_mul_le (by omega)]; exact h), padD, Nat.div_div_eq_div_mul, Nat.pow_succ, Nat.mul_comm 10]
    rfl
/-- of a short number: with noughts above -/
theorem padD_low (k : Nat) : ∀ n, n < 10 ^ k → padD k n = lowD n ++ List.replicate (k - (lowD n).length) 0 ∧ (lowD n).length ≤ k := by
  induction k with
  | zero =>
    intro n h
    obtain rfl : n = 0 := by simpa using h
    simp [padD, lowD_zero]
  | succ k ih =>
    intro n h
    have h2 : n / 10 < 10 ^ k := by rw [Nat.pow_succ] at h; omega
    obtain ⟨e, hl⟩ := ih (n / 10) h2
    by_cases h0 : 0 < n
    · rw [padD, e, lowD_pos h0]
      refine ⟨?_, by simpa using hl⟩
      simp
    · obtain rfl : n = 0 := by omega
      rw [padD, e]
      simp [lowD_zero, List.replicate_succ]
theorem padD_mod (k : Nat) : ∀ n, padD k (n % 10 ^ k) = padD k n := by
  induction k with
  | zero => intro n; rfl
  | succ k ih =>
    intro n
    rw [padD, padD]
    have e1 : n % 10 ^ (k + 1) % 10 = n % 10 := by
      rw [Nat.pow_succ, Nat.mul_comm]
      exact Nat.mod_mul_right_mod n 10 (10 ^ k)
    have e2 : n % 10 ^ (k + 1) / 10 = n / 10 % 10 ^ k := by
      rw [Nat.pow_succ, Nat.mul_comm]
      exact Nat.mod_mul_right_div_self n 10 (10 ^ k)
    rw [e1, e2, ih]
/-- a number nine digits at a time, low ones first -/
def pcs : Nat → List Nat
  | 0 => []
  | n + 1 => (n + 1) % 1000000000 :: pcs ((n + 1) / 1000000000)
decreasing_by omega
theorem pcs_zero : pcs 0 = [] := by rw [pcs]
theorem pcs_pos {n : Nat} (h : 0 < n) : pcs n = n % 1000000000 :: pcs (n / 1000000000) := by
  cases n with
  | zero => omega
  | succ n => rw [pcs]
theorem pcs_lt (n : Nat) : ∀ d ∈ pcs n, d < 1000000000 := by
  induction n using Nat.strongRecOn with
  | _ n ih =>
    intro d hd
    by_cases h : 0 < n
    · rw [pcs_pos h] at hd
      rcases List.mem_cons.1 hd with rfl | hd
      · omega
      · exact ih (n / 1000000000) (by omega) d hd
    · obtain rfl : n = 0 := by omega
      rw [pcs_zero] at hd; cases hd
theorem pcs_ne {n : Nat} (h : 0 < n) : pcs n ≠ [] := by rw [pcs_pos h]; simp
/-- the pieces' digits: the last without noughts above -/
def lowP : List Nat → List Nat
  | [] => []
  | [p] => lowD p
  | p :: q :: l => padD 9 p ++ lowP (q :: l)
theorem lowP_pcs (n : Nat) : lowP (pcs n) = lowD n := by
  induction n using Nat.strongRecOn with
  | _ n ih =>
    by_cases h : 0 < n
    · rw [pcs_pos h]
      by_cases h2 : 0 < n / 1000000000
      · have e := ih (n / 1000000000) (by omega)
        rw [pcs_pos h2] at e ⊢
        rw [lowP, e, lowD_split 9 n (by omega)]
        have := padD_mod 9 n
        rw [show (10 : Nat) ^ 9 = 1000000000 from rfl] at *
        rw [this]
      · have h3 : n / 1000000000 = 0 := by omega
        rw [h3, pcs_zero, lowP, Nat.mod_eq_of_lt (by omega)]
    · obtain rfl : n = 0 := by omega
      rw [pcs_zero, lowD_zero]; rfl
/-- the last piece of a number is not 0 -/
theorem pcs_last (n : Nat) : ∀ h : pcs n ≠ [], 0 < (pcs n).getLast h := by
  induction n using Nat.strongRecOn with
  | _ n ih =>
    intro h
    have hn : 0 < n := by
      rcases Nat.eq_zero_or_pos n with rfl | h'
      · exact absurd pcs_zero h
      · exact h'
    by_cases h2 : 0 < n / 1000000000
    · have h3 := ih (n / 1000000000) (by omega) (pcs_ne h2)
      have e : (pcs n).getLast h = (pcs (n / 1000000000)).getLast (pcs_ne h2) := by
        have : ∀ l (hl : l ≠ []), l = n % 1000000000 :: pcs (n / 1000000000) → l.getLast hl = (pcs (n / 1000000000)).getLast (pcs_ne h2) := by
          intro l hl el; subst el; exact List.getLast_cons (pcs_ne h2)
        exact this _ h (pcs_pos hn)
      rw [e]; exact h3
    · have e : (pcs n).getLast h = n % 1000000000 := by
        have : ∀ l (hl : l ≠ []), l = [n % 1000000000] → l.getLast hl = n % 1000000000 := by
          intro l hl el; subst el; rfl
        exact this _ h (by rw [pcs_pos hn, show n / 1000000000 = 0 by omega, pcs_zero])
      rw [e]
      have : n < 1000000000 := by omega
      rw [Nat.mod_eq_of_lt this]; exact hn
/-- digits as bytes, high one first -/
def asc (l : List Nat) : List UInt8 := l.reverse.map fun d => UInt8.ofNat (48 + d)
theorem asc_append (l m : List Nat) : asc (l ++ m) = asc m ++ asc l := by simp [asc]
theorem lowD_last (n : Nat) : ∀ h : lowD n ≠ [], 0 < (lowD n).getLast h := by
  induction n using Nat.strongRecOn with
  | _ n ih =>
    intro h
    have hn : 0 < n := by
      rcases Nat.eq_zero_or_pos n with rfl | h'
      · exact absurd lowD_zero h
      · exact h'
    by_cases h2 : 0 < n / 10
    · have h3 := ih (n / 10) (by omega) (lowD_ne h2)
      have e : (lowD n).getLast h = (lowD (n / 10)).getLast (lowD_ne h2) := by
        have : ∀ l (hl : l ≠ []), l = n % 10 :: lowD (n / 10) → l.getLast hl = (lowD (n / 10)).getLast (lowD_ne h2) := by
          intro l hl el; subst el; exact List.getLast_cons (lowD_ne h2)
        exact this _ h (lowD_pos hn)
      rw [e]; exact h3
    · have e : (lowD n).getLast h = n % 10 := by
        have : ∀ l (hl : l ≠ []), l = [n % 10] → l.getLast hl = n % 10 := by
          intro l hl el; subst el; rfl
        exact this _ h (by rw [lowD_pos hn, show n / 10 = 0 by omega, lowD_zero])
      rw [e]; omega
/-- a number's text -/
def natTxt (n : Nat) : List UInt8 := if n = 0 then [48] else asc (lowD n)
def intTxt (z : Int) : List UInt8 := (if z < 0 then [45] else []) ++ natTxt z.natAbs
/-- the highest piece, its noughts ahead struck -/
theorem asc_pad_top {p : Nat} (h0 : 0 < p) (h : p < 1000000000) : (asc (padD 9 p)).dropWhile (· == 48) = asc (lowD p) := by
  obtain ⟨e, _⟩ := padD_low 9 p h
  rw [e, asc_append]
  have hz : asc (List.replicate (9 - (lowD p).length) 0) = List.replicate (9 - (lowD p).length) 48 := by simp [asc]
  rw [hz]
  have hd : ∀ (n : Nat) (l : List UInt8), (List.replicate n 48 ++ l).dropWhile (· == 48) = l.dropWhile (· == 48) := by
    intro n l
    induction n with
    | zero => rfl
    | succ n ih => rw [List.replicate_succ, List.cons_append, List.dropWhile_cons]; simp [ih]
  rw [hd]
  have hne := lowD_ne h0
  have hl := lowD_last p hne
  have hlt := lowD_lt p _ (List.getLast_mem hne)
  have e2 : asc (lowD p) = UInt8.ofNat (48 + (lowD p).getLast hne) :: asc (lowD p).dropLast := by
    conv => lhs; rw [← List.dropLast_concat_getLast hne]
    rw [asc_append]; rfl
  have h3 : (UInt8.ofNat (48 + (lowD p).getLast hne) == 48) = false := by
    rw [beq_eq_false_iff_ne]
    intro h
    have := congrArg UInt8.toNat h
    rw [UInt8.toNat_ofNat'] at this
    have h48 : (48 : UInt8).toNat = 48 := rfl
    rw [h48] at this
    omega
  rw [e2, List.dropWhile_cons, if_neg]
  intro h
  have h4 : (UInt8.ofNat (48 + (lowD p).getLast hne) == 48) = true := h
  rw [h3] at h4; cases h4
/-- the pieces from the i-th on -/
theorem lowP_cons {p : Nat} {l : List Nat} (h : l ≠ []) : lowP (p :: l) = padD 9 p ++ lowP l := by
  cases l with
  | nil => exact absurd rfl h
  | cons q l => rfl
theorem asc_len (l : List Nat) : (asc l).length = l.length := by simp [asc]
end Go.Proofs.YtkejdmdldhlkgaaGreatDoor.Num

