/- Texts of this seat, laid together: QRef, QrA, QrB, TxtR, RwG, MxA, MxB, MxC, MxD, MxE, MxF, DnP. What each theorem proves, and under which conditions, its statement says. -/
import Derived.Test.YtbmaffijncapiaaGreatDoorB12
import Derived.Laws.IdiomStrings
import Derived.Laws.BytesArg
import Derived.StillTailTactics
set_option maxRecDepth 100000
set_option maxHeartbeats 32000000
set_option linter.unusedVariables false
set_option linter.unusedSimpArgs false
namespace Go.Proofs.YtbmaffijncapiaaGreatDoor
open Go.ChangeShapes Go.WideShapes Go.ChangeAt Go.RowKit
section
open Num
def IsQR (w : World) (v : Value) (q : Rat) : Prop := ∃ n1 a1 l1 c1 n2 a2 l2 c2, v = .agg #[.bool n1, .slice a1 l1 c1, .bool n2, .slice a2 l2 c2] ∧ IsRef w (.agg #[.bool n1, .slice a1 l1 c1]) q.num ∧ IsRef w (.agg #[.bool n2, .slice a2 l2 c2]) (q.den : Int)
theorem IsRef.limQ {w w' : World} {v : Value} {z : Int} (h : IsRef w v z) (k : Lim w w') : IsRef w' v z := lims_ref _ _ _ _ h k
theorem frk_ref : FrK IsQR := ⟨fun k h => by
 obtain ⟨n1, a1, l1, c1, n2, a2, l2, c2, e, h1, h2⟩ := h
 exact ⟨n1, a1, l1, c1, n2, a2, l2, c2, e, h1.limQ k, h2.limQ k⟩, fun h => by
 obtain ⟨n1, a1, l1, c1, n2, a2, l2, c2, e, h1, h2⟩ := h
 exact ⟨n1, a1, l1, c1, n2, a2, l2, c2, e⟩⟩
theorem IsQR.keep {w w' : World} {v : Value} {q : Rat} (h : IsQR w v q) (k : Below w.heap.size w w') : IsQR w' v q := frk_ref.keep h k
theorem lim_put4 {w : World} {b o : Nat} {n1 n2 : Bool} {a1 a2 : Option Addr} {l1 c1 l2 c2 : Nat} (h0 : w.cell? ⟨b, o, none⟩ = some (.bool n1)) (h1 : w.cell? ⟨b, o + 1, none⟩ = some (.slice a1 l1 c1)) (h2 : w.cell? ⟨b, o + 2, none⟩ = some (.bool n2)) (h3 : w.cell? ⟨b, o + 3, none⟩ = some (.slice a2 l2 c2)) (u0 u1 u2 u3 : Value) :
 Lim w ((((w.setCell ⟨b, o, none⟩ u0).setCell ⟨b, o + 1, none⟩ u1).setCell ⟨b, o + 2, none⟩ u2).setCell ⟨b, o + 3, none⟩ u3) :=
 ((((Lim.refl w).bool h0 _).slice (cell_far h1 (by simp) _) _).bool (cell_far (cell_far h2 (by simp) _) (by simp) _) _).slice (cell_far (cell_far (cell_far h3 (by simp) _) (by simp) _) (by simp) _) _
end
section
open Num
attribute [local go_sem ↓] Go.wp_at_zero Go.wp_at_succ
def VarR (ub : Nat) (m : Int) (W : World) : Prop := typOf W ub = some 56 ∧ ∃ n a ln c, W.cell? ⟨ub, 0, none⟩ = some (.bool n) ∧ W.cell? ⟨ub, 1, none⟩ = some (.slice a ln c) ∧ W.frozen? ⟨ub, 0, none⟩ = false ∧ W.frozen? ⟨ub, 1, none⟩ = false ∧ IsRef W (.agg #[.bool n, .slice a ln c]) m
theorem VarR.keep {ub : Nat} {m : Int} {W V : World} (h : VarR ub m W) (k : Below W.heap.size W V) : VarR ub m V := by
 obtain ⟨ht, n, a, ln, c, h0, h1, f0, f1, hi⟩ := h
 exact ⟨typ_keep ht k, n, a, ln, c, bkeep k h0, bkeep k h1, bkeepf k h0 f0, bkeepf k h1 f1, hi.keep k⟩
theorem VarR.put {ub : Nat} {m z : Int} {W : World} {n : Bool} {a : Option Addr} {ln c : Nat} (h : VarR ub m W) (hi : IsRef W (.agg #[.bool n, .slice a ln c]) z) : VarR ub z ((W.setCell ⟨ub, 0, none⟩ (.bool n)).setCell ⟨ub, 1, none⟩ (.slice a ln c)) := by
 obtain ⟨ht, n', a', ln', c', h0, h1, f0, f1, _⟩ := h
 refine ⟨by rw [typ_set, typ_set]; exact ht, n, a, ln, c, cell_far (cell_here h0 _) (by simp) _, cell_here (cell_far h1 (by simp) _) _, ?_, ?_, hi.put2 h0 h1 _ _⟩
 · rw [World.frozen?_setCell, World.frozen?_setCell]; exact f0
 · rw [World.frozen?_setCell, World.frozen?_setCell]; exact f1
theorem VarR.far {ub vb : Nat} {z m : Int} {W : World} (h : VarR ub m W) (k : VarR vb z W) (hne : ub ≠ vb) (x : Bool) (y : Option Addr) (p q : Nat) : VarR ub m ((W.setCell ⟨vb, 0, none⟩ (.bool x)).setCell ⟨vb, 1, none⟩ (.slice y p q)) := by
 obtain ⟨ht, n, a, ln, c, h0, h1, f0, f1, hi⟩ := h
 obtain ⟨-, n', a', ln', c', k0, k1, -, -, -⟩ := k
 exact ⟨by rw [typ_set, typ_set]; exact ht, n, a, ln, c, cell_far (cell_far h0 (addr_ne (Ne.symm hne)) _) (addr_ne (Ne.symm hne)) _, cell_far (cell_far h1 (addr_ne (Ne.symm hne)) _) (addr_ne (Ne.symm hne)) _, by rw [World.frozen?_setCell, World.frozen?_setCell]; exact f0, by rw [World.frozen?_setCell, World.frozen?_setCell]; exact f1, hi.put2 k0 k1 _ _⟩
theorem Lim.setT {a b : World} (h : Lim a b) {p : Addr} {t : TypeId} (hp : typOf b p.block = some t) (ht : t ≠ 177) (u : Value) : Lim a (b.setCell p u) := h.trans fun q hq => by
 have hne : q ≠ p.block := fun e => by subst e; rw [hp] at hq; exact ht (Option.some.inj hq)
 exact ⟨by rw [typ_set]; exact hq, fun o n hc => cell_far hc (fun e => hne (by rw [e])) _⟩
theorem ref_zero {W : World} {n : Bool} {a : Option Addr} {ln c : Nat} {z : Int} (h : IsRef W (.agg #[.bool n, .slice a ln c]) z) : z = 0 ↔ ln = 0 := by
 obtain ⟨n1, a1, c1, l1, e, u1, q1, g1, s1, rfl⟩ := h
 unfold iv at e
 cases e
 rw [ref_len g1]; exact List.length_eq_zero_iff.symm
theorem rgcd_c (vx vy : Value) (x y : Int) (k : Nat) (w : World) (hx : IsRef w vx x) (hy : IsRef w vy y) (bx : Bd k x) (by' : Bd k y) (hk : k ≤ 17179869184) :
 Calls Tryz.prog 113 #[vx, vy] w fun e w' => (∃ u, e = .returned u ∧ IsRef w' u (gcdI x y)) ∧ Below w.heap.size w w' := by
 have AX := hZ (fun W (q : Below w.heap.size w W) => rabs_c vx x W (hx.keep q))
 have AY := hZ (fun W (q : Below w.heap.size w W) => rabs_c vy y W (hy.keep q))
 obtain ⟨nx, ax, cx, lx, rfl, -⟩ := hx
 obtain ⟨ny, ay, cy, ly, rfl, -⟩ := hy
 unfold iv at *
 obtain ⟨kx, hkx⟩ : ∃ m, lx.length = m := ⟨_, rfl⟩
 obtain ⟨ky, hky⟩ : ∃ m, ly.length = m := ⟨_, rfl⟩
 rw [hkx] at AX ⊢
 rw [hky] at AY ⊢
 clear hkx hky
 have HBD := hZ (show x.natAbs < 2 ^ k ∧ y.natAbs < 2 ^ k from ⟨bx, by'⟩)
 unfold gcdI
 clear bx by'
 obtain ⟨m, hm⟩ : ∃ m, x.natAbs = m := ⟨_, rfl⟩
 obtain ⟨n, hn⟩ : ∃ n, y.natAbs = n := ⟨_, rfl⟩
 rw [hm] at AX HBD ⊢
 rw [hn] at AY HBD ⊢
 clear hm hn
 have hB := Below.refl w.heap.size w
 go_enter Tryz.func113, Tryz.ntmps113
 go_wp2
 refine wp_name fun w1 hW1 => ?_
 have hB1 : Below w.heap.size w w1 := by rw [hW1]; repeat (first|exact bzR _ _|exact hB|refine bzD ?_|refine bzN ?_|refine bzS ?_|refine bzA ?_)
 have hX1 : w1.cell? ⟨w.heap.size, 0, none⟩ = some (.bool nx) ∧ w1.cell? ⟨w.heap.size, 1, none⟩ = some (.slice ax kx cx) ∧ w1.cell? ⟨w.heap.size + 1, 0, none⟩ = some (.bool ny) ∧ w1.cell? ⟨w.heap.size + 1, 1, none⟩ = some (.slice ay ky cy) := by rw [hW1]; simp [go_sem]
 have HR1 := hZ (show w1.cell? ⟨w.heap.size + 1 + 1, 0, none⟩ = some (.bool false) ∧ w1.cell? ⟨w.heap.size + 1 + 1, 1, none⟩ = some (.slice none 0 0) ∧ w1.frozen? ⟨w.heap.size + 1 + 1, 0, none⟩ = false ∧ w1.frozen? ⟨w.heap.size + 1 + 1, 1, none⟩ = false ∧ typOf w1 (w.heap.size + 1 + 1) = some 56 from by rw [hW1]; simp [go_sem]; exact typ_fresh (by simp))
 clear hW1
 obtain ⟨x0, x1, y0, y1⟩ := hX1
 have zx := cell_lt x0
 have zy := cell_lt y0
 go_upto_region 1 with (fail)
 go_cut [5, 6] (fun s5 s6 wx => ∃ ab bb, s5 = .pointer (some ⟨ab, 0, none⟩) ∧ s6 = .pointer (some ⟨bb, 0, none⟩) ∧ ab ≠ bb ∧ w1.heap.size ≤ ab ∧ w1.heap.size ≤ bb ∧ Hid (VarR ab m wx) ∧ Hid (VarR bb n wx) ∧ Below w1.heap.size w1 wx)
 case first =>
  have hBj := Below.refl w1.heap.size w1
  have HS := hZ (show ∀ W, Below w1.heap.size w1 W → W.cell? ⟨w.heap.size, 0, none⟩ = some (.bool nx) ∧ W.cell? ⟨w.heap.size, 1, none⟩ = some (.slice ax kx cx) ∧ W.cell? ⟨w.heap.size + 1, 0, none⟩ = some (.bool ny) ∧ W.cell? ⟨w.heap.size + 1, 1, none⟩ = some (.slice ay ky cy) from fun W q => ⟨bkeep q x0, bkeep q x1, bkeep q y0, bkeep q y1⟩)
  go_region_held3 (fun W => W.cell? ⟨w.heap.size, 0, none⟩ = some (.bool nx) ∧ W.cell? ⟨w.heap.size, 1, none⟩ = some (.slice ax kx cx) ∧ W.cell? ⟨w.heap.size + 1, 0, none⟩ = some (.bool ny) ∧ W.cell? ⟨w.heap.size + 1, 1, none⟩ = some (.slice ay ky cy))
   (first | (refine HS.out _ ?_; (repeat' (first | exact Below.refl _ _ | exact hBj | refine Below.drew ?_ | refine below_drewN ?_ _ | refine bal ?_ _ | refine bset ?_ ?_ _ | exact hla1 | exact Nat.le_trans hla1 (Nat.le_succ _) | exact hla2 | exact Nat.le_trans hla2 (Nat.le_succ _) | exact Nat.le_refl _ | exact Nat.le_succ _)); done) | fail)
   (first
   | (go_at_call 201; (with_reducible show Calls _ _ #[.agg #[.bool nx, _]] _ _); refine (AX.out _ (bthen hB1 ?_)).mono ?_; (repeat (first|exact bzR _ _|exact hBj|refine bzD ?_|refine bzN ?_|refine bzS ?_|refine bzA ?_)); rintro e w11 ⟨⟨v11, rfl, hv11⟩, hb11⟩; (replace hBj : Below w1.heap.size w1 w11 := bthen bZ hb11); have hc11 := (bcell hb11).1; have hf11 := (bcell hb11).2; have ht11 := tcell hb11; have hla1 := hBj.size; have hs11 := hb11.size; (try simp [go_sem] at hs11); (try have qa : w1.heap.size < w11.heap.size := by omega); (try have qb : w1.heap.size + 1 < w11.heap.size := by omega); have zy11 := Nat.lt_of_lt_of_le zy hBj.size; have zy12 := Nat.lt_of_lt_of_le zx hBj.size; have HV11 := hZ hv11; obtain ⟨n11, a11, c11, l11, rfl, -⟩ := hv11; unfold iv at *)
   | (go_at_call 201; (with_reducible show Calls _ _ #[.agg #[.bool ny, _]] _ _); refine (AY.out _ (bthen hB1 ?_)).mono ?_; (repeat (first|exact bzR _ _|exact hBj|refine bzD ?_|refine bzN ?_|refine bzS ?_|refine bzA ?_)); rintro e w12 ⟨⟨v12, rfl, hv12⟩, hb12⟩; (replace hBj : Below w1.heap.size w1 w12 := bthen bZ hb12); have hc12 := (bcell hb12).1; have hf12 := (bcell hb12).2; have ht12 := tcell hb12; have hla2 := hBj.size; have hs12 := hb12.size; (try simp [go_sem] at hs12); (try have qc : w11.heap.size < w12.heap.size := by omega); (try have qd : w11.heap.size + 1 < w12.heap.size := by omega); (try have qe : w1.heap.size < w12.heap.size := by omega); (try have qf : w1.heap.size + 1 < w12.heap.size := by omega); have HV12 := hZ hv12; obtain ⟨n12, a12, c12, l12, rfl, -⟩ := hv12; unfold iv at *)
   | fail)
  all_goals
   go_wp2_with fail
   go_meet
   refine (fun hbx => ⟨_, _, rfl, rfl, by omega, by omega, by omega, hZ ⟨?_, n11, a11, l11.length, c11, ?_, ?_, ?_, ?_, HV11.out.limQ ?_⟩, hZ ⟨?_, n12, a12, l12.length, c12, ?_, ?_, ?_, ?_, HV12.out.limQ ?_⟩, hbx⟩ : Below w1.heap.size w1 _ → _) ?_
   all_goals first
    | (simp (disch := (first | (simp; done) | (simp; omega) | omega)) only [typ_set, typ_alloc_eq, typ_alloc_lt, ht12, ht11, typ_drew]; done)
    | (with_reducible show Lim _ _; (repeat (first | exact Lim.refl _ | exact Lim.of_below hb12 | refine Lim.below ?_ hb12 | refine Lim.alloc ?_ _ | refine Lim.drew ?_ | (refine Lim.setT (t := 56) ?_ ?tt (by decide) _; case tt => (simp (disch := (first | (simp; done) | (simp; omega) | omega)) only [typ_set, typ_alloc_eq, typ_alloc_lt, ht12, ht11, typ_drew]; done)))); done)
    | (simp [go_sem, *]; done)
    | ((repeat' (first | exact Below.refl _ _ | exact hBj | refine Below.drew ?_ | refine below_drewN ?_ _ | refine bal ?_ _ | refine bset ?_ ?_ _ | exact hla1 | exact Nat.le_trans hla1 (Nat.le_succ _) | exact hla2 | exact Nat.le_trans hla2 (Nat.le_succ _) | exact Nat.le_refl _ | exact Nat.le_succ _)); done)
    | ((repeat (refine cell_far ?_ ?b _; case b => (first | (simp; done) | (simp; omega)))); (first | (refine cell_here (v := .bool false) ?_ _; (repeat (refine cell_far ?_ ?b _; case b => (first | (simp; done) | (simp; omega)))); (simp [go_sem, *]; done)) | (refine cell_here (v := .slice none 0 0) ?_ _; (repeat (refine cell_far ?_ ?b _; case b => (first | (simp; done) | (simp; omega)))); (simp [go_sem, *]; done))))
 case rest =>
  obtain ⟨ab, bb, rfl, rfl, hne, hla, hlb, hA, hBv, hbx⟩ := hcut
  have hb1c : Below w.heap.size w wc := bthen hB1 hbx
  have hrl : w.heap.size + 1 + 1 < w1.heap.size := cell_lt HR1.out.1
  have HR := hZ (show wc.cell? ⟨w.heap.size + 1 + 1, 0, none⟩ = some (.bool false) ∧ wc.cell? ⟨w.heap.size + 1 + 1, 1, none⟩ = some (.slice none 0 0) ∧ wc.frozen? ⟨w.heap.size + 1 + 1, 0, none⟩ = false ∧ wc.frozen? ⟨w.heap.size + 1 + 1, 1, none⟩ = false from ⟨bkeep hbx HR1.out.1, bkeep hbx HR1.out.2.1, bkeepf hbx HR1.out.1 HR1.out.2.2.1, bkeepf hbx HR1.out.2.1 HR1.out.2.2.2.1⟩)
  have hws : w.heap.size ≤ w1.heap.size := hB1.size
  have H0 := hZ (show VarR ab m wc ∧ VarR bb n wc ∧ Nat.gcd m n = Nat.gcd m n ∧ m < 2 ^ k ∧ n < 2 ^ k from ⟨hA.out, hBv.out, rfl, HBD.out.1, HBD.out.2⟩)
  clear AX AY x0 x1 y0 y1 zx zy HR1 hB1 hbx hA hBv HBD hB
  go_wp2
  go_loopg [] n (fun gk wr => ∃ m' : Nat, Hid (VarR ab m' wr ∧ VarR bb gk wr ∧ Nat.gcd m' gk = Nat.gcd m n ∧ m' < 2 ^ k ∧ gk < 2 ^ k) ∧ Hid (wr.cell? ⟨w.heap.size + 1 + 1, 0, none⟩ = some (.bool false) ∧ wr.cell? ⟨w.heap.size + 1 + 1, 1, none⟩ = some (.slice none 0 0) ∧ wr.frozen? ⟨w.heap.size + 1 + 1, 0, none⟩ = false ∧ wr.frozen? ⟨w.heap.size + 1 + 1, 1, none⟩ = false) ∧ Below w.heap.size w wr)
  case atStart => exact ⟨m, hZ ⟨H0.out.1, H0.out.2.1, rfl, H0.out.2.2.2.1, H0.out.2.2.2.2⟩, HR, hb1c⟩
  case round =>
   obtain ⟨m', H, HR, hBr⟩ := hrel
   obtain ⟨-, n1, a1, l1, c1, a0, a1', -, -, aI⟩ := H.out.1
   obtain ⟨-, n2, a2, l2, c2, b0, b1, b0f, b1f, bI⟩ := H.out.2.1
   have HAI := hZ aI
   have HBI := hZ bI
   have za := cell_lt a0
   have zb := cell_lt b0
   have hBw := Below.refl wr.heap.size wr
   clear aI bI
   have hlz := ref_zero HBI.out
   by_cases h0 : gk = 0
   · subst h0
     have hG : (m' : Int) = (Nat.gcd m n : Nat) := by rw [← H.out.2.2.1, Nat.gcd_zero_right]
     obtain rfl : l2 = 0 := hlz.1 rfl
     have hB5 := hBr
     obtain ⟨r0, r1, r0f, r1f⟩ := HR.out
     have hp := hZ (HAI.out.put2 r0 r1 (.bool n1) (.slice a1 l1 c1))
     rw [hG] at hp
     clear H b0f b1f HBI hlz
     go_wp2
     refine bodyPost_ret (v := .agg #[.bool n1, .slice a1 l1 c1]) (by simp [results, Tryz.results113, go_sem, *]) rfl ⟨⟨_, rfl, hp.out⟩, ?_⟩
     repeat exact bZ
   · have hl0 : (0 : Int) < (l2 : Int) := by have : l2 ≠ 0 := fun e => h0 (by have := hlz.2 e; omega); omega
     have HM := hZ h0
     have HBD := hZ (And.intro H.out.2.2.2.1 (And.intro H.out.2.2.2.2 H.out.2.2.1))
     have HV5 := hZ (And.intro H.out.1 H.out.2.1)
     have dc := fun W (q : Below wr.heap.size wr W) => rdivmod_c _ _ (m' : Int) (gk : Int) k W (HAI.out.keep q) (HBI.out.keep q) (by unfold Bd; rw [Int.natAbs_natCast]; exact HBD.out.1) (by unfold Bd; rw [Int.natAbs_natCast]; exact HBD.out.2.1) (by omega) (by have := HM.out; omega)
     rw [show ((m' : Int) % (gk : Int)) = ((m' % gk : Nat) : Int) from (Int.natCast_emod m' gk).symm] at dc
     have hB5 := hBr
     clear hlz h0 H
     go_wp2_with fail
     refine (dc _ bZ).mono ?_
     rintro e w6 ⟨⟨u6, r6, rfl, hu6, hr6⟩, hb6⟩
     have hb6' : Below wr.heap.size wr w6 := bthen bZ hb6
     have HR6 := hZ hr6
     obtain ⟨n7, a7, c7, l7, rfl, -⟩ := hu6
     obtain ⟨n8, a8, c8, l8, rfl, -⟩ := hr6
     unfold iv at *
     have HV6 := hZ (And.intro (HV5.out.1.keep hb6') (HV5.out.2.keep hb6'))
     have HRR6 := hZ (show w6.cell? ⟨w.heap.size + 1 + 1, 0, none⟩ = some (.bool false) ∧ w6.cell? ⟨w.heap.size + 1 + 1, 1, none⟩ = some (.slice none 0 0) ∧ w6.frozen? ⟨w.heap.size + 1 + 1, 0, none⟩ = false ∧ w6.frozen? ⟨w.heap.size + 1 + 1, 1, none⟩ = false from ⟨bkeep hb6' HR.out.1, bkeep hb6' HR.out.2.1, bkeepf hb6' HR.out.1 HR.out.2.2.1, bkeepf hb6' HR.out.2.1 HR.out.2.2.2⟩)
     have hB6 := bthen hB5 hb6'
     clear dc a0 a1' b0 b1 b0f b1f HV5 HR za zb hb6 hB5 hBw
     have hBw6 := Below.refl w6.heap.size w6
     go_wp2
     refine wp_name fun w7 hW7 => ?_
     have hb7 : Below w6.heap.size w6 w7 := by rw [hW7]; repeat (first|exact bzR _ _|exact hBw6|refine bzD ?_|refine bzN ?_|refine bzS ?_|refine bzA ?_)
     have HC7 := hZ (show VarR (w6.heap.size + 1) ((m' % gk : Nat) : Int) w7 from by rw [hW7]; exact ⟨typ_fresh (by simp), n8, a8, l8.length, c8, by simp [go_sem], by simp [go_sem], by simp [go_sem], by simp [go_sem], HR6.out.keep (bal (bal (Below.refl _ _) _) _)⟩)
     have hs7 : w6.heap.size + 1 < w7.heap.size := typ_lt HC7.out.1
     have HV7 := hZ (And.intro (HV6.out.1.keep hb7) (HV6.out.2.keep hb7))
     have HRR7 := hZ (show w7.cell? ⟨w.heap.size + 1 + 1, 0, none⟩ = some (.bool false) ∧ w7.cell? ⟨w.heap.size + 1 + 1, 1, none⟩ = some (.slice none 0 0) ∧ w7.frozen? ⟨w.heap.size + 1 + 1, 0, none⟩ = false ∧ w7.frozen? ⟨w.heap.size + 1 + 1, 1, none⟩ = false from ⟨bkeep hb7 HRR6.out.1, bkeep hb7 HRR6.out.2.1, bkeepf hb7 HRR6.out.1 HRR6.out.2.2.1, bkeepf hb7 HRR6.out.2.1 HRR6.out.2.2.2⟩)
     have hB7 := bthen hB6 hb7
     have hxa : ab < w6.heap.size := typ_lt HV6.out.1.1
     have hxb : bb < w6.heap.size := typ_lt HV6.out.2.1
     clear hW7 HV6 HRR6 HR6 hBw6 hb6' hB6 hb7
     obtain ⟨cb, hcb⟩ : ∃ c, w6.heap.size + 1 = c := ⟨_, rfl⟩
     rw [hcb] at HC7 hs7 ⊢
     have hac : ab < cb := by omega
     have hbc : bb < cb := by omega
     clear hcb hxa hxb
     obtain ⟨-, m1, m2, m3, m4, q0, q1, q0f, q1f, qI⟩ := HV7.out.1
     obtain ⟨-, o1, o2, o3, o4, p0, p1, p0f, p1f, pI⟩ := HV7.out.2
     obtain ⟨-, s1, s2, s3, s4, t0, t1, t0f, t1f, tI⟩ := HC7.out
     have HPI := hZ pI
     have HTI := hZ tI
     have zq := cell_lt q0
     have zp := cell_lt p0
     clear qI pI tI
     go_region
     all_goals
      have HA1 := HV7.out.1.put HPI.out
      have HB1' := HV7.out.2.far HV7.out.1 (Ne.symm hne) o1 o2 o3 o4
      have HC1 := HC7.out.far HV7.out.1 (Ne.symm (Nat.ne_of_lt hac)) o1 o2 o3 o4
      have HT1 := HTI.out.put2 q0 q1 (.bool o1) (.slice o2 o3 o4)
      have HB2 := HB1'.put HT1
      have HA2 := HA1.far HB1' hne s1 s2 s3 s4
      have hnab : ¬ ab = w.heap.size + 1 + 1 := by omega
      have hnbb : ¬ bb = w.heap.size + 1 + 1 := by omega
      have hr0 := cell_far2 (cell_far2 HRR7.out.1 hnab o1 o2 o3 o4) hnbb s1 s2 s3 s4
      have hr1 := cell_far2 (cell_far2 HRR7.out.2.1 hnab o1 o2 o3 o4) hnbb s1 s2 s3 s4
      have HN := hZ (And.intro HA2 (And.intro HB2 (And.intro hr0 hr1)))
      have hab : w.heap.size ≤ ab := by omega
      have hbb : w.heap.size ≤ bb := by omega
      have hBN : Below w.heap.size w ((((w7.setCell ⟨ab, 0, none⟩ (.bool o1)).setCell ⟨ab, 1, none⟩ (.slice o2 o3 o4)).setCell ⟨bb, 0, none⟩ (.bool s1)).setCell ⟨bb, 1, none⟩ (.slice s2 s3 s4)) := bset (bset (bset (bset hB7 hab _) hab _) hbb _) hbb _
      clear HA1 HB1' HC1 HT1 HB2 HA2 hr0 hr1 q0 q1 q0f q1f p0 p1 p0f p1f t0 t1 t0f t1f
      go_wp2
      go_roundg (m' % gk)
      case measure => exact Nat.mod_lt _ (Nat.pos_of_ne_zero HM.out)
      case rel => exact ⟨gk, hZ ⟨HN.out.1.keep (Below.refl _ _).drew, HN.out.2.1.keep (Below.refl _ _).drew, by rw [gcd_step, HBD.out.2.2], HBD.out.2.1, Nat.lt_of_lt_of_le (Nat.mod_lt _ (Nat.pos_of_ne_zero HM.out)) (Nat.le_of_lt HBD.out.2.1)⟩, hZ ⟨HN.out.2.2.1, HN.out.2.2.2, by show (World.drew _).frozen? _ = false; rw [show ∀ W : World, ∀ p, W.drew.frozen? p = W.frozen? p from fun _ _ => rfl, World.frozen?_setCell, World.frozen?_setCell, World.frozen?_setCell, World.frozen?_setCell]; exact HRR7.out.2.2.1, by show (World.drew _).frozen? _ = false; rw [show ∀ W : World, ∀ p, W.drew.frozen? p = W.frozen? p from fun _ _ => rfl, World.frozen?_setCell, World.frozen?_setCell, World.frozen?_setCell, World.frozen?_setCell]; exact HRR7.out.2.2.2⟩, hBN.drew⟩
end
section
open Num
attribute [local go_sem ↓] Go.wp_at_zero Go.wp_at_succ
theorem IsRef.litR {w : World} {v : Value} {z : Int} (h : IsRef w v z) : ∃ n a l c, v = .agg #[.bool n, .slice a l c] := by
 obtain ⟨n, a, c, l, rfl, -⟩ := h
 exact ⟨n, a, l.length, c, rfl⟩
theorem rsgn_c (v : Value) (z : Int) (w : World) (h : IsRef w v z) : Calls Tryz.prog 75 #[v] w fun e w' => e = .returned (.int .i64 z.sign) ∧ Below w.heap.size w w' := by
 obtain ⟨n1, a1, c1, l1, rfl, u1, q1, g1, s1, rfl⟩ := h
 rw [rsg_sign g1 s1]
 exact rsignV_c n1 a1 l1.length c1 w
theorem lowQ {w : World} {n1 n2 : Bool} {a1 a2 : Option Addr} {l1 c1 l2 c2 : Nat} {n d : Int} (hd : 0 < d) (h1 : IsRef w (.agg #[.bool n1, .slice a1 l1 c1]) (n / gcdI n d)) (h2 : IsRef w (.agg #[.bool n2, .slice a2 l2 c2]) (d / gcdI n d)) : IsQR w (.agg #[.bool n1, .slice a1 l1 c1, .bool n2, .slice a2 l2 c2]) (Rat.divInt n d) :=
 ⟨n1, a1, l1, c1, n2, a2, l2, c2, rfl, by rw [dq_num hd]; exact h1, by rw [dq_den hd]; exact h2⟩
theorem gcdI_dvdL (x y : Int) : x % gcdI x y = 0 := by
 exact Int.emod_eq_zero_of_dvd (Int.dvd_natAbs.1 (Int.ofNat_dvd.2 (Nat.gcd_dvd_left _ _)))
theorem gcdI_dvdR (x y : Int) : y % gcdI x y = 0 := by
 exact Int.emod_eq_zero_of_dvd (Int.dvd_natAbs.1 (Int.ofNat_dvd.2 (Nat.gcd_dvd_right _ _)))
theorem gcdQ_nz {x y : Int} (h : y ≠ 0) : gcdI x y ≠ 0 := by
 unfold gcdI
 have := Nat.gcd_pos_of_pos_right x.natAbs (show 0 < y.natAbs by omega)
 omega
theorem IsQR.put4 {w : World} {v : Value} {q : Rat} {b : Nat} {m1 m2 : Bool} {x1 x2 : Option Addr} {k1 d1 k2 d2 : Nat} (h : IsQR w v q) (r0 : w.cell? ⟨b, 0, none⟩ = some (.bool m1)) (r1 : w.cell? ⟨b, 1, none⟩ = some (.slice x1 k1 d1)) (r2 : w.cell? ⟨b, 2, none⟩ = some (.bool m2)) (r3 : w.cell? ⟨b, 3, none⟩ = some (.slice x2 k2 d2)) (u0 u1 u2 u3 : Value) :
 IsQR ((((w.setCell ⟨b, 0, none⟩ u0).setCell ⟨b, 1, none⟩ u1).setCell ⟨b, 2, none⟩ u2).setCell ⟨b, 3, none⟩ u3) v q := frk_ref.lim (lim_put4 (o := 0) r0 r1 r2 r3 u0 u1 u2 u3) h
theorem rqMake_c (vn vd : Value) (n d : Int) (k : Nat) (w : World) (hn : IsRef w vn n) (hd : IsRef w vd d) (bn : Bd k n) (bd : Bd k d) (hk9 : k ≤ 17179869180) (h0 : d ≠ 0) :
 Calls Tryz.prog 46 #[vn, vd] w fun e w' => (∃ v, e = .returned v ∧ IsQR w' v (Rat.divInt n d)) ∧ Below w.heap.size w w' := by
 have SC := hZ (fun V (q : Below w.heap.size w V) => rsgn_c vd d V (hd.keep q))
 have HN0 := hZ hn
 have HD0 := hZ hd
 obtain ⟨nn, na, nl, nc, rfl⟩ := hn.litR
 obtain ⟨dn, da, dl, dc, rfl⟩ := hd.litR
 clear hn hd
 have hB := Below.refl w.heap.size w
 rcases Int.lt_or_lt_of_ne h0 with hdn | hd0
 rotate_left
 · rw [Int.sign_eq_one_of_pos hd0] at SC
   have HBD := hZ (And.intro bn bd)
   clear bn bd h0
   go_enter Tryz.func46, Tryz.ntmps46
   go_wp2_with fail
   (with_reducible refine (SC.out _ ?_).mono ?_); (repeat (first|exact bzR _ _|exact hB|refine bzD ?_|refine bzN ?_|refine bzS ?_|refine bzA ?_))
   rintro e w1 ⟨rfl, hb1⟩
   have n0 : w1.cell? ⟨w.heap.size, 0, none⟩ = some (.bool nn) := bkc hb1
   have zn0 := cell_lt n0
   have n0f : w1.frozen? ⟨w.heap.size, 0, none⟩ = false := bkcf (v := .bool nn) hb1
   have n1 : w1.cell? ⟨w.heap.size, 1, none⟩ = some (.slice na nl nc) := bkc hb1
   have n1f : w1.frozen? ⟨w.heap.size, 1, none⟩ = false := bkcf (v := .slice na nl nc) hb1
   have d0 : w1.cell? ⟨w.heap.size + 1, 0, none⟩ = some (.bool dn) := bkc hb1
   have zd0 := cell_lt d0
   have d0f : w1.frozen? ⟨w.heap.size + 1, 0, none⟩ = false := bkcf (v := .bool dn) hb1
   have d1 : w1.cell? ⟨w.heap.size + 1, 1, none⟩ = some (.slice da dl dc) := bkc hb1
   have d1f : w1.frozen? ⟨w.heap.size + 1, 1, none⟩ = false := bkcf (v := .slice da dl dc) hb1
   have r0 : w1.cell? ⟨w.heap.size + 1 + 1, 0, none⟩ = some (.bool false) := bkc hb1
   have zr0 := cell_lt r0
   have r0f : w1.frozen? ⟨w.heap.size + 1 + 1, 0, none⟩ = false := bkcf (v := .bool false) hb1
   have r1 : w1.cell? ⟨w.heap.size + 1 + 1, 1, none⟩ = some (.slice none 0 0) := bkc hb1
   have r1f : w1.frozen? ⟨w.heap.size + 1 + 1, 1, none⟩ = false := bkcf (v := .slice none 0 0) hb1
   have r2 : w1.cell? ⟨w.heap.size + 1 + 1, 2, none⟩ = some (.bool false) := bkc hb1
   have r2f : w1.frozen? ⟨w.heap.size + 1 + 1, 2, none⟩ = false := bkcf (v := .bool false) hb1
   have r3 : w1.cell? ⟨w.heap.size + 1 + 1, 3, none⟩ = some (.slice none 0 0) := bkc hb1
   have r3f : w1.frozen? ⟨w.heap.size + 1 + 1, 3, none⟩ = false := bkcf (v := .slice none 0 0) hb1
   have hB : Below w.heap.size w w1 := bthen bZ hb1
   have hz := hB.size
   have HN := hZ (HN0.out.keep hB)
   have HD := hZ (HD0.out.keep hB)
   have zr := cell_lt r0
   clear SC hb1 HN0 HD0
   have GC := hZ (fun V (q : Below w1.heap.size w1 V) => rgcd_c (.agg #[.bool nn, .slice na nl nc]) (.agg #[.bool dn, .slice da dl dc]) n d k V (HN.out.keep q) (HD.out.keep q) HBD.out.1 HBD.out.2 (by omega))
   have bG : Bd k (gcdI n d) := gcdI_bd HBD.out.1 HBD.out.2
   have hG0 : gcdI n d ≠ 0 := gcdQ_nz (by omega)
   have HLOW := hZ (fun (W : World) (n1 n2 : Bool) (a1 a2 : Option Addr) (l1 c1 l2 c2 : Nat) (h1 : IsRef W (.agg #[.bool n1, .slice a1 l1 c1]) (n / gcdI n d)) (h2 : IsRef W (.agg #[.bool n2, .slice a2 l2 c2]) (d / gcdI n d)) => lowQ hd0 h1 h2)
   have HDV := hZ (And.intro (gcdI_dvdL n d) (gcdI_dvdR n d))
   obtain ⟨G, hG⟩ : ∃ G, gcdI n d = G := ⟨_, rfl⟩
   rw [hG] at GC bG hG0 HLOW HDV
   have HG0 := hZ (And.intro bG hG0)
   clear hG bG hG0
   have hBw := Below.refl w1.heap.size w1
   go_wp2_with fail
   (with_reducible refine (GC.out _ ?_).mono ?_); (repeat (first|exact bzR _ _|exact hBw|refine bzD ?_|refine bzN ?_|refine bzS ?_|refine bzA ?_))
   rintro e w3 ⟨⟨g, rfl, hg⟩, hb3⟩
   have hk : Below w1.heap.size w1 w3 := bthen bZ hb3
   have n0 : w3.cell? ⟨w.heap.size, 0, none⟩ = some (.bool nn) := bkc hb3
   have zn0 := cell_lt n0
   have n0f : w3.frozen? ⟨w.heap.size, 0, none⟩ = false := bkcf (v := .bool nn) hb3
   have n1 : w3.cell? ⟨w.heap.size, 1, none⟩ = some (.slice na nl nc) := bkc hb3
   have n1f : w3.frozen? ⟨w.heap.size, 1, none⟩ = false := bkcf (v := .slice na nl nc) hb3
   have d0 : w3.cell? ⟨w.heap.size + 1, 0, none⟩ = some (.bool dn) := bkc hb3
   have zd0 := cell_lt d0
   have d0f : w3.frozen? ⟨w.heap.size + 1, 0, none⟩ = false := bkcf (v := .bool dn) hb3
   have d1 : w3.cell? ⟨w.heap.size + 1, 1, none⟩ = some (.slice da dl dc) := bkc hb3
   have d1f : w3.frozen? ⟨w.heap.size + 1, 1, none⟩ = false := bkcf (v := .slice da dl dc) hb3
   have r0 : w3.cell? ⟨w.heap.size + 1 + 1, 0, none⟩ = some (.bool false) := bkc hb3
   have zr0 := cell_lt r0
   have r0f : w3.frozen? ⟨w.heap.size + 1 + 1, 0, none⟩ = false := bkcf (v := .bool false) hb3
   have r1 : w3.cell? ⟨w.heap.size + 1 + 1, 1, none⟩ = some (.slice none 0 0) := bkc hb3
   have r1f : w3.frozen? ⟨w.heap.size + 1 + 1, 1, none⟩ = false := bkcf (v := .slice none 0 0) hb3
   have r2 : w3.cell? ⟨w.heap.size + 1 + 1, 2, none⟩ = some (.bool false) := bkc hb3
   have r2f : w3.frozen? ⟨w.heap.size + 1 + 1, 2, none⟩ = false := bkcf (v := .bool false) hb3
   have r3 : w3.cell? ⟨w.heap.size + 1 + 1, 3, none⟩ = some (.slice none 0 0) := bkc hb3
   have r3f : w3.frozen? ⟨w.heap.size + 1 + 1, 3, none⟩ = false := bkcf (v := .slice none 0 0) hb3
   have hB : Below w.heap.size w w3 := bthen bZ hb3
   have hz := hB.size
   have HG := hZ hg
   have HN3 := hZ (HN.out.keep hk)
   have HD3 := hZ (HD.out.keep hk)
   obtain ⟨gn, ga, gl, gc, rfl⟩ := hg.litR
   have zr := cell_lt r0
   clear GC hg hk hb3 hBw HN HD
   have hBw := Below.refl w3.heap.size w3
   have OC := hZ (fun V (q : Below w3.heap.size w3 V) => rover_yes (.agg #[.bool nn, .slice na nl nc]) (.agg #[.bool gn, .slice ga gl gc]) n G k V (HN3.out.keep q) (HG.out.keep q) HBD.out.1 HG0.out.1 (by omega) HG0.out.2 HDV.out.1)
   go_wp2_with fail
   (with_reducible refine (OC.out _ ?_).mono ?_); (repeat (first|exact bzR _ _|exact hBw|refine bzD ?_|refine bzN ?_|refine bzS ?_|refine bzA ?_))
   rintro e w4 ⟨⟨u, rfl, hu⟩, hb4⟩
   have hk : Below w3.heap.size w3 w4 := bthen bZ hb4
   have d0 : w4.cell? ⟨w.heap.size + 1, 0, none⟩ = some (.bool dn) := bkc hb4
   have zd0 := cell_lt d0
   have d0f : w4.frozen? ⟨w.heap.size + 1, 0, none⟩ = false := bkcf (v := .bool dn) hb4
   have d1 : w4.cell? ⟨w.heap.size + 1, 1, none⟩ = some (.slice da dl dc) := bkc hb4
   have d1f : w4.frozen? ⟨w.heap.size + 1, 1, none⟩ = false := bkcf (v := .slice da dl dc) hb4
   have r0 : w4.cell? ⟨w.heap.size + 1 + 1, 0, none⟩ = some (.bool false) := bkc hb4
   have zr0 := cell_lt r0
   have r0f : w4.frozen? ⟨w.heap.size + 1 + 1, 0, none⟩ = false := bkcf (v := .bool false) hb4
   have r1 : w4.cell? ⟨w.heap.size + 1 + 1, 1, none⟩ = some (.slice none 0 0) := bkc hb4
   have r1f : w4.frozen? ⟨w.heap.size + 1 + 1, 1, none⟩ = false := bkcf (v := .slice none 0 0) hb4
   have r2 : w4.cell? ⟨w.heap.size + 1 + 1, 2, none⟩ = some (.bool false) := bkc hb4
   have r2f : w4.frozen? ⟨w.heap.size + 1 + 1, 2, none⟩ = false := bkcf (v := .bool false) hb4
   have r3 : w4.cell? ⟨w.heap.size + 1 + 1, 3, none⟩ = some (.slice none 0 0) := bkc hb4
   have r3f : w4.frozen? ⟨w.heap.size + 1 + 1, 3, none⟩ = false := bkcf (v := .slice none 0 0) hb4
   have g0 : w4.cell? ⟨w3.heap.size, 0, none⟩ = some (.bool gn) := bkc hb4
   have zg0 := cell_lt g0
   have g1 : w4.cell? ⟨w3.heap.size, 1, none⟩ = some (.slice ga gl gc) := bkc hb4
   have hB : Below w.heap.size w w4 := bthen bZ hb4
   have hz := hB.size
   have HU := hZ hu
   have HD4 := hZ (HD3.out.keep hk)
   have HG4 := hZ (HG.out.keep hk)
   obtain ⟨un, ua, ul, uc, rfl⟩ := hu.litR
   have zr := cell_lt r0
   have zg := cell_lt g0
   clear OC hu hk hb4 hBw HN3 HD3 HG
   have hBw := Below.refl w4.heap.size w4
   have OC := hZ (fun V (q : Below w4.heap.size w4 V) => rover_yes (.agg #[.bool dn, .slice da dl dc]) (.agg #[.bool gn, .slice ga gl gc]) d G k V (HD4.out.keep q) (HG4.out.keep q) HBD.out.2 HG0.out.1 (by omega) HG0.out.2 HDV.out.2)
   go_wp2_with fail
   (with_reducible refine (OC.out _ ?_).mono ?_); (repeat (first|exact bzR _ _|exact hBw|refine bzD ?_|refine bzN ?_|refine bzS ?_|refine bzA ?_))
   rintro e w5 ⟨⟨x, rfl, hx⟩, hb5⟩
   have hk : Below w4.heap.size w4 w5 := bthen bZ hb5
   have r0 : w5.cell? ⟨w.heap.size + 1 + 1, 0, none⟩ = some (.bool false) := bkc hb5
   have zr0 := cell_lt r0
   have r0f : w5.frozen? ⟨w.heap.size + 1 + 1, 0, none⟩ = false := bkcf (v := .bool false) hb5
   have r1 : w5.cell? ⟨w.heap.size + 1 + 1, 1, none⟩ = some (.slice none 0 0) := bkc hb5
   have r1f : w5.frozen? ⟨w.heap.size + 1 + 1, 1, none⟩ = false := bkcf (v := .slice none 0 0) hb5
   have r2 : w5.cell? ⟨w.heap.size + 1 + 1, 2, none⟩ = some (.bool false) := bkc hb5
   have r2f : w5.frozen? ⟨w.heap.size + 1 + 1, 2, none⟩ = false := bkcf (v := .bool false) hb5
   have r3 : w5.cell? ⟨w.heap.size + 1 + 1, 3, none⟩ = some (.slice none 0 0) := bkc hb5
   have r3f : w5.frozen? ⟨w.heap.size + 1 + 1, 3, none⟩ = false := bkcf (v := .slice none 0 0) hb5
   have a0 : w5.cell? ⟨w4.heap.size, 0, none⟩ = some (.bool un) := bkc hb5
   have za0 := cell_lt a0
   have a1 : w5.cell? ⟨w4.heap.size, 1, none⟩ = some (.slice ua ul uc) := bkc hb5
   have hB : Below w.heap.size w w5 := bthen bZ hb5
   have hz := hB.size
   have HU5 := hZ (HU.out.keep hk)
   have HX := hZ hx
   obtain ⟨xn, xa, xl, xc, rfl⟩ := hx.litR
   have HQ := hZ (IsQR.put4 (HLOW.out _ _ _ _ _ _ _ _ _ HU5.out HX.out) r0 r1 r2 r3 (.bool un) (.slice ua ul uc) (.bool xn) (.slice xa xl xc))
   have zr := cell_lt r0
   have za := cell_lt a0
   clear OC hx hk hb5 hBw HU HU5 HX HD4 HG4 HLOW
   go_wp2
   refine bodyPost_ret (v := .agg #[.bool un, .slice ua ul uc, .bool xn, .slice xa xl xc]) (by simp [results, Tryz.results46, go_sem, *]) rfl ⟨⟨_, rfl, ?_⟩, ?_⟩
   · first | exact HQ.out | exact HQ.out.keep (bal (Below.refl _ _) _)
   ·
    repeat exact bZ
 · rw [Int.sign_eq_neg_one_of_neg hdn] at SC
   rw [divInt_swap hdn]
   have HBD := hZ (And.intro bn.neg bd.neg)
   have hd0 : 0 < -d := by omega
   clear bn bd h0
   go_enter Tryz.func46, Tryz.ntmps46
   go_wp2_with fail
   (with_reducible refine (SC.out _ ?_).mono ?_); (repeat (first|exact bzR _ _|exact hB|refine bzD ?_|refine bzN ?_|refine bzS ?_|refine bzA ?_))
   rintro e w1 ⟨rfl, hb1⟩
   have n0 : w1.cell? ⟨w.heap.size, 0, none⟩ = some (.bool nn) := bkc hb1
   have zn0 := cell_lt n0
   have n0f : w1.frozen? ⟨w.heap.size, 0, none⟩ = false := bkcf (v := .bool nn) hb1
   have n1 : w1.cell? ⟨w.heap.size, 1, none⟩ = some (.slice na nl nc) := bkc hb1
   have n1f : w1.frozen? ⟨w.heap.size, 1, none⟩ = false := bkcf (v := .slice na nl nc) hb1
   have d0 : w1.cell? ⟨w.heap.size + 1, 0, none⟩ = some (.bool dn) := bkc hb1
   have zd0 := cell_lt d0
   have d0f : w1.frozen? ⟨w.heap.size + 1, 0, none⟩ = false := bkcf (v := .bool dn) hb1
   have d1 : w1.cell? ⟨w.heap.size + 1, 1, none⟩ = some (.slice da dl dc) := bkc hb1
   have d1f : w1.frozen? ⟨w.heap.size + 1, 1, none⟩ = false := bkcf (v := .slice da dl dc) hb1
   have r0 : w1.cell? ⟨w.heap.size + 1 + 1, 0, none⟩ = some (.bool false) := bkc hb1
   have zr0 := cell_lt r0
   have r0f : w1.frozen? ⟨w.heap.size + 1 + 1, 0, none⟩ = false := bkcf (v := .bool false) hb1
   have r1 : w1.cell? ⟨w.heap.size + 1 + 1, 1, none⟩ = some (.slice none 0 0) := bkc hb1
   have r1f : w1.frozen? ⟨w.heap.size + 1 + 1, 1, none⟩ = false := bkcf (v := .slice none 0 0) hb1
   have r2 : w1.cell? ⟨w.heap.size + 1 + 1, 2, none⟩ = some (.bool false) := bkc hb1
   have r2f : w1.frozen? ⟨w.heap.size + 1 + 1, 2, none⟩ = false := bkcf (v := .bool false) hb1
   have r3 : w1.cell? ⟨w.heap.size + 1 + 1, 3, none⟩ = some (.slice none 0 0) := bkc hb1
   have r3f : w1.frozen? ⟨w.heap.size + 1 + 1, 3, none⟩ = false := bkcf (v := .slice none 0 0) hb1
   have hB : Below w.heap.size w w1 := bthen bZ hb1
   have hz := hB.size
   have NC := hZ (fun V (q : Below w1.heap.size w1 V) => rneg_c (.agg #[.bool nn, .slice na nl nc]) n V ((HN0.out.keep hB).keep q))
   have DC := hZ (fun V (q : Below w1.heap.size w1 V) => rneg_c (.agg #[.bool dn, .slice da dl dc]) d V ((HD0.out.keep hB).keep q))
   have hBw := Below.refl w1.heap.size w1
   have HS := hZ (show ∀ V, Below w1.heap.size w1 V → V.cell? ⟨w.heap.size, 0, none⟩ = some (.bool nn) ∧ V.cell? ⟨w.heap.size, 1, none⟩ = some (.slice na nl nc) ∧ V.cell? ⟨w.heap.size + 1, 0, none⟩ = some (.bool dn) ∧ V.cell? ⟨w.heap.size + 1, 1, none⟩ = some (.slice da dl dc) ∧ V.frozen? ⟨w.heap.size, 0, none⟩ = false ∧ V.frozen? ⟨w.heap.size, 1, none⟩ = false ∧ V.frozen? ⟨w.heap.size + 1, 0, none⟩ = false ∧ V.frozen? ⟨w.heap.size + 1, 1, none⟩ = false from fun V q => ⟨bkeep q n0, bkeep q n1, bkeep q d0, bkeep q d1, bkeepf q n0 n0f, bkeepf q n1 n1f, bkeepf q d0 d0f, bkeepf q d1 d1f⟩)
   have zr := cell_lt r0
   clear SC hb1 HN0 HD0
   go_upto_region 2 with (fail)
   go_region_law (go_simp; go_wp2_with (first
    | (go_at_call 132; (with_reducible show Calls _ _ #[.agg #[.bool nn, .slice na nl nc]] _ _); (with_reducible refine (NC.out _ ?_).mono ?_); (repeat (first|exact bzR _ _|exact hBw|refine bzD ?_|refine bzN ?_|refine bzS ?_|refine bzA ?_)); rintro e w2 ⟨⟨u2, rfl, hu2⟩, hb2⟩; (replace hBw : Below w1.heap.size w1 w2 := bthen bZ hb2); obtain ⟨n0, n1, d0, d1, n0f, n1f, d0f, d1f⟩ := HS.out w2 hBw; have HU2 := hZ hu2; have hy2 := Below.refl w2.heap.size w2; obtain ⟨nn, na, nl, nc, rfl⟩ := hu2.litR)
    | (go_at_call 132; (with_reducible refine (DC.out _ ?_).mono ?_); (repeat (first|exact bzR _ _|exact hBw|refine bzD ?_|refine bzN ?_|refine bzS ?_|refine bzA ?_)); rintro e w3 ⟨⟨u3, rfl, hu3⟩, hb3⟩; (replace hBw : Below w1.heap.size w1 w3 := bthen bZ hb3); obtain ⟨n0, n1, d0, d1, n0f, n1f, d0f, d1f⟩ := HS.out w3 hBw; have HU3 := hZ hu3; (replace hy2 : Below w2.heap.size w2 w3 := bthen bZ hb3); obtain ⟨dn, da, dl, dc, rfl⟩ := hu3.litR)
    | fail))
   all_goals
    go_upto_region 3 with (fail)
    refine wp_name fun w9 hW9 => ?_
    have hBs := bthen hB hBw
    have HR := hZ (show (w3.cell? ⟨w.heap.size + 1 + 1, 0, none⟩ = some (.bool false) ∧ w3.cell? ⟨w.heap.size + 1 + 1, 1, none⟩ = some (.slice none 0 0) ∧ w3.cell? ⟨w.heap.size + 1 + 1, 2, none⟩ = some (.bool false) ∧ w3.cell? ⟨w.heap.size + 1 + 1, 3, none⟩ = some (.slice none 0 0)) ∧ (w3.frozen? ⟨w.heap.size + 1 + 1, 0, none⟩ = false ∧ w3.frozen? ⟨w.heap.size + 1 + 1, 1, none⟩ = false ∧ w3.frozen? ⟨w.heap.size + 1 + 1, 2, none⟩ = false ∧ w3.frozen? ⟨w.heap.size + 1 + 1, 3, none⟩ = false) from ⟨⟨bkeep hBw r0, bkeep hBw r1, bkeep hBw r2, bkeep hBw r3⟩, ⟨bkeepf hBw r0 r0f, bkeepf hBw r1 r1f, bkeepf hBw r2 r2f, bkeepf hBw r3 r3f⟩⟩)
    have HN := hZ (show IsRef w9 (.agg #[.bool nn, .slice na nl nc]) (-n) from by rw [hW9]; exact ((HU2.out.keep hy2).put2 n0 n1 _ _).put2 (cell_far (cell_far d0 (by simp) _) (by simp) _) (cell_far (cell_far d1 (by simp) _) (by simp) _) _ _)
    have HD := hZ (show IsRef w9 (.agg #[.bool dn, .slice da dl dc]) (-d) from by rw [hW9]; exact (HU3.out.put2 n0 n1 _ _).put2 (cell_far (cell_far d0 (by simp) _) (by simp) _) (cell_far (cell_far d1 (by simp) _) (by simp) _) _ _)
    have n0q : w9.cell? ⟨w.heap.size, 0, none⟩ = some (.bool nn) := by rw [hW9]; exact cell_far (cell_far (cell_far (cell_here n0 _) (by simp) _) (by simp) _) (by simp) _
    have n1q : w9.cell? ⟨w.heap.size, 1, none⟩ = some (.slice na nl nc) := by rw [hW9]; exact cell_far (cell_far (cell_here (cell_far n1 (by simp) _) _) (by simp) _) (by simp) _
    have d0q : w9.cell? ⟨w.heap.size + 1, 0, none⟩ = some (.bool dn) := by rw [hW9]; exact cell_far (cell_here (cell_far (cell_far d0 (by simp) _) (by simp) _) _) (by simp) _
    have d1q : w9.cell? ⟨w.heap.size + 1, 1, none⟩ = some (.slice da dl dc) := by rw [hW9]; exact cell_here (cell_far (cell_far (cell_far d1 (by simp) _) (by simp) _) (by simp) _) _
    have f4 : ∀ p, w3.frozen? p = false → w9.frozen? p = false := fun p h => by rw [hW9, World.frozen?_setCell, World.frozen?_setCell, World.frozen?_setCell, World.frozen?_setCell]; exact h
    have n0qf := f4 _ n0f
    have n1qf := f4 _ n1f
    have d0qf := f4 _ d0f
    have d1qf := f4 _ d1f
    have c4 : ∀ i u, w3.cell? ⟨w.heap.size + 1 + 1, i, none⟩ = some u → w9.cell? ⟨w.heap.size + 1 + 1, i, none⟩ = some u := fun i u h => by rw [hW9]; exact cell_far (cell_far (cell_far (cell_far h (by simp <;> omega) _) (by simp <;> omega) _) (by simp <;> omega) _) (by simp <;> omega) _
    have r0q := c4 _ _ HR.out.1.1
    have r1q := c4 _ _ HR.out.1.2.1
    have r2q := c4 _ _ HR.out.1.2.2.1
    have r3q := c4 _ _ HR.out.1.2.2.2
    have r0qf := f4 _ HR.out.2.1
    have r1qf := f4 _ HR.out.2.2.1
    have r2qf := f4 _ HR.out.2.2.2.1
    have r3qf := f4 _ HR.out.2.2.2.2
    have hBn : Below w.heap.size w w9 := by rw [hW9]; exact bset (bset (bset (bset hBs (Nat.le_refl _) _) (Nat.le_refl _) _) (Nat.le_succ _) _) (Nat.le_succ _) _
    clear hW9 hB hBw hBs HR f4 c4 n0 n1 d0 d1 r0 r1 r2 r3 n0f n1f d0f d1f r0f r1f r2f r3f HU2 HU3 NC DC HS hy2 zr
    have hB := hBn
    have n0 := n0q
    have n1 := n1q
    have d0 := d0q
    have d1 := d1q
    have r0 := r0q
    have r1 := r1q
    have r2 := r2q
    have r3 := r3q
    have n0f := n0qf
    have n1f := n1qf
    have d0f := d0qf
    have d1f := d1qf
    have r0f := r0qf
    have r1f := r1qf
    have r2f := r2qf
    have r3f := r3qf
    clear hBn n0q n1q d0q d1q r0q r1q r2q r3q n0qf n1qf d0qf d1qf r0qf r1qf r2qf r3qf
    have zr := cell_lt r0
    have GC := hZ (fun V (q : Below w9.heap.size w9 V) => rgcd_c (.agg #[.bool nn, .slice na nl nc]) (.agg #[.bool dn, .slice da dl dc]) (-n) (-d) k V (HN.out.keep q) (HD.out.keep q) HBD.out.1 HBD.out.2 (by omega))
    have bG : Bd k (gcdI (-n) (-d)) := gcdI_bd HBD.out.1 HBD.out.2
    have hG0 : gcdI (-n) (-d) ≠ 0 := gcdQ_nz (by omega)
    have HLOW := hZ (fun (W : World) (n1 n2 : Bool) (a1 a2 : Option Addr) (l1 c1 l2 c2 : Nat) (h1 : IsRef W (.agg #[.bool n1, .slice a1 l1 c1]) ((-n) / gcdI (-n) (-d))) (h2 : IsRef W (.agg #[.bool n2, .slice a2 l2 c2]) ((-d) / gcdI (-n) (-d))) => lowQ hd0 h1 h2)
    have HDV := hZ (And.intro (gcdI_dvdL (-n) (-d)) (gcdI_dvdR (-n) (-d)))
    obtain ⟨G, hG⟩ : ∃ G, gcdI (-n) (-d) = G := ⟨_, rfl⟩
    rw [hG] at GC bG hG0 HLOW HDV
    have HG0 := hZ (And.intro bG hG0)
    clear hG bG hG0
    have hBw := Below.refl w9.heap.size w9
    go_wp2_with fail
    (with_reducible refine (GC.out _ ?_).mono ?_); (repeat (first|exact bzR _ _|exact hBw|refine bzD ?_|refine bzN ?_|refine bzS ?_|refine bzA ?_))
    rintro e w3 ⟨⟨g, rfl, hg⟩, hb3⟩
    have hk : Below w9.heap.size w9 w3 := bthen bZ hb3
    have n0 : w3.cell? ⟨w.heap.size, 0, none⟩ = some (.bool nn) := bkc hb3
    have zn0 := cell_lt n0
    have n0f : w3.frozen? ⟨w.heap.size, 0, none⟩ = false := bkcf (v := .bool nn) hb3
    have n1 : w3.cell? ⟨w.heap.size, 1, none⟩ = some (.slice na nl nc) := bkc hb3
    have n1f : w3.frozen? ⟨w.heap.size, 1, none⟩ = false := bkcf (v := .slice na nl nc) hb3
    have d0 : w3.cell? ⟨w.heap.size + 1, 0, none⟩ = some (.bool dn) := bkc hb3
    have zd0 := cell_lt d0
    have d0f : w3.frozen? ⟨w.heap.size + 1, 0, none⟩ = false := bkcf (v := .bool dn) hb3
    have d1 : w3.cell? ⟨w.heap.size + 1, 1, none⟩ = some (.slice da dl dc) := bkc hb3
    have d1f : w3.frozen? ⟨w.heap.size + 1, 1, none⟩ = false := bkcf (v := .slice da dl dc) hb3
    have r0 : w3.cell? ⟨w.heap.size + 1 + 1, 0, none⟩ = some (.bool false) := bkc hb3
    have zr0 := cell_lt r0
    have r0f : w3.frozen? ⟨w.heap.size + 1 + 1, 0, none⟩ = false := bkcf (v := .bool false) hb3
    have r1 : w3.cell? ⟨w.heap.size + 1 + 1, 1, none⟩ = some (.slice none 0 0) := bkc hb3
    have r1f : w3.frozen? ⟨w.heap.size + 1 + 1, 1, none⟩ = false := bkcf (v := .slice none 0 0) hb3
    have r2 : w3.cell? ⟨w.heap.size + 1 + 1, 2, none⟩ = some (.bool false) := bkc hb3
    have r2f : w3.frozen? ⟨w.heap.size + 1 + 1, 2, none⟩ = false := bkcf (v := .bool false) hb3
    have r3 : w3.cell? ⟨w.heap.size + 1 + 1, 3, none⟩ = some (.slice none 0 0) := bkc hb3
    have r3f : w3.frozen? ⟨w.heap.size + 1 + 1, 3, none⟩ = false := bkcf (v := .slice none 0 0) hb3
    have hB : Below w.heap.size w w3 := bthen bZ hb3
    have hz := hB.size
    have HG := hZ hg
    have HN3 := hZ (HN.out.keep hk)
    have HD3 := hZ (HD.out.keep hk)
    obtain ⟨gn, ga, gl, gc, rfl⟩ := hg.litR
    have zr := cell_lt r0
    clear GC hg hk hb3 hBw HN HD
    have hBw := Below.refl w3.heap.size w3
    have OC := hZ (fun V (q : Below w3.heap.size w3 V) => rover_yes (.agg #[.bool nn, .slice na nl nc]) (.agg #[.bool gn, .slice ga gl gc]) (-n) G k V (HN3.out.keep q) (HG.out.keep q) HBD.out.1 HG0.out.1 (by omega) HG0.out.2 HDV.out.1)
    go_wp2_with fail
    (with_reducible refine (OC.out _ ?_).mono ?_); (repeat (first|exact bzR _ _|exact hBw|refine bzD ?_|refine bzN ?_|refine bzS ?_|refine bzA ?_))
    rintro e w4 ⟨⟨u, rfl, hu⟩, hb4⟩
    have hk : Below w3.heap.size w3 w4 := bthen bZ hb4
    have d0 : w4.cell? ⟨w.heap.size + 1, 0, none⟩ = some (.bool dn) := bkc hb4
    have zd0 := cell_lt d0
    have d0f : w4.frozen? ⟨w.heap.size + 1, 0, none⟩ = false := bkcf (v := .bool dn) hb4
    have d1 : w4.cell? ⟨w.heap.size + 1, 1, none⟩ = some (.slice da dl dc) := bkc hb4
    have d1f : w4.frozen? ⟨w.heap.size + 1, 1, none⟩ = false := bkcf (v := .slice da dl dc) hb4
    have r0 : w4.cell? ⟨w.heap.size + 1 + 1, 0, none⟩ = some (.bool false) := bkc hb4
    have zr0 := cell_lt r0
    have r0f : w4.frozen? ⟨w.heap.size + 1 + 1, 0, none⟩ = false := bkcf (v := .bool false) hb4
    have r1 : w4.cell? ⟨w.heap.size + 1 + 1, 1, none⟩ = some (.slice none 0 0) := bkc hb4
    have r1f : w4.frozen? ⟨w.heap.size + 1 + 1, 1, none⟩ = false := bkcf (v := .slice none 0 0) hb4
    have r2 : w4.cell? ⟨w.heap.size + 1 + 1, 2, none⟩ = some (.bool false) := bkc hb4
    have r2f : w4.frozen? ⟨w.heap.size + 1 + 1, 2, none⟩ = false := bkcf (v := .bool false) hb4
    have r3 : w4.cell? ⟨w.heap.size + 1 + 1, 3, none⟩ = some (.slice none 0 0) := bkc hb4
    have r3f : w4.frozen? ⟨w.heap.size + 1 + 1, 3, none⟩ = false := bkcf (v := .slice none 0 0) hb4
    have g0 : w4.cell? ⟨w3.heap.size, 0, none⟩ = some (.bool gn) := bkc hb4
    have zg0 := cell_lt g0
    have g1 : w4.cell? ⟨w3.heap.size, 1, none⟩ = some (.slice ga gl gc) := bkc hb4
    have hB : Below w.heap.size w w4 := bthen bZ hb4
    have hz := hB.size
    have HU := hZ hu
    have HD4 := hZ (HD3.out.keep hk)
    have HG4 := hZ (HG.out.keep hk)
    obtain ⟨un, ua, ul, uc, rfl⟩ := hu.litR
    have zr := cell_lt r0
    have zg := cell_lt g0
    clear OC hu hk hb4 hBw HN3 HD3 HG
    have hBw := Below.refl w4.heap.size w4
    have OC := hZ (fun V (q : Below w4.heap.size w4 V) => rover_yes (.agg #[.bool dn, .slice da dl dc]) (.agg #[.bool gn, .slice ga gl gc]) (-d) G k V (HD4.out.keep q) (HG4.out.keep q) HBD.out.2 HG0.out.1 (by omega) HG0.out.2 HDV.out.2)
    go_wp2_with fail
    (with_reducible refine (OC.out _ ?_).mono ?_); (repeat (first|exact bzR _ _|exact hBw|refine bzD ?_|refine bzN ?_|refine bzS ?_|refine bzA ?_))
    rintro e w5 ⟨⟨x, rfl, hx⟩, hb5⟩
    have hk : Below w4.heap.size w4 w5 := bthen bZ hb5
    have r0 : w5.cell? ⟨w.heap.size + 1 + 1, 0, none⟩ = some (.bool false) := bkc hb5
    have zr0 := cell_lt r0
    have r0f : w5.frozen? ⟨w.heap.size + 1 + 1, 0, none⟩ = false := bkcf (v := .bool false) hb5
    have r1 : w5.cell? ⟨w.heap.size + 1 + 1, 1, none⟩ = some (.slice none 0 0) := bkc hb5
    have r1f : w5.frozen? ⟨w.heap.size + 1 + 1, 1, none⟩ = false := bkcf (v := .slice none 0 0) hb5
    have r2 : w5.cell? ⟨w.heap.size + 1 + 1, 2, none⟩ = some (.bool false) := bkc hb5
    have r2f : w5.frozen? ⟨w.heap.size + 1 + 1, 2, none⟩ = false := bkcf (v := .bool false) hb5
    have r3 : w5.cell? ⟨w.heap.size + 1 + 1, 3, none⟩ = some (.slice none 0 0) := bkc hb5
    have r3f : w5.frozen? ⟨w.heap.size + 1 + 1, 3, none⟩ = false := bkcf (v := .slice none 0 0) hb5
    have a0 : w5.cell? ⟨w4.heap.size, 0, none⟩ = some (.bool un) := bkc hb5
    have za0 := cell_lt a0
    have a1 : w5.cell? ⟨w4.heap.size, 1, none⟩ = some (.slice ua ul uc) := bkc hb5
    have hB : Below w.heap.size w w5 := bthen bZ hb5
    have hz := hB.size
    have HU5 := hZ (HU.out.keep hk)
    have HX := hZ hx
    obtain ⟨xn, xa, xl, xc, rfl⟩ := hx.litR
    have HQ := hZ (IsQR.put4 (HLOW.out _ _ _ _ _ _ _ _ _ HU5.out HX.out) r0 r1 r2 r3 (.bool un) (.slice ua ul uc) (.bool xn) (.slice xa xl xc))
    have zr := cell_lt r0
    have za := cell_lt a0
    clear OC hx hk hb5 hBw HU HU5 HX HD4 HG4 HLOW
    go_wp2
    refine bodyPost_ret (v := .agg #[.bool un, .slice ua ul uc, .bool xn, .slice xa xl xc]) (by simp [results, Tryz.results46, go_sem, *]) rfl ⟨⟨_, rfl, ?_⟩, ?_⟩
    · first | exact HQ.out | exact HQ.out.keep (bal (Below.refl _ _) _)
    ·
     repeat exact bZ
end
end Go.Proofs.YtbmaffijncapiaaGreatDoor
namespace Go.Proofs.YtbmaffijncapiaaGreatDoor
open Num
open Go.ChangeShapes Go.WideShapes Go.ChangeAt Go.RowKit
theorem info8 : (Tryz.prog.info? 5).map (fun i => (i.zero, i.size, i.bytes)) = some (some (.int .u8 0), 1, 1) := by kernel_rfl
theorem el8 : Elt Tryz.prog 173 5 1 1 := Elt.mk' Tryz.underlying173 info8 rfl (by decide) (by decide)
theorem bcells_app (l m : List UInt8) : Lib.byteCells (l ++ m) = Lib.byteCells l ++ Lib.byteCells m := by simp [Lib.byteCells]
theorem bcells_get (l : List UInt8) (k : Nat) (h : k < l.length) : (Lib.byteCells l)[k]? = some (.int .u8 ((l.getD k 0).toNat : Nat)) := by simp [Lib.byteCells, h]
namespace Num
def dig (d : Nat) : UInt8 := UInt8.ofNat (48 + d)
theorem dig_nat {d : Nat} (h : d < 10) : (dig d).toNat = 48 + d := by
 unfold dig; rw [UInt8.toNat_ofNat']; omega
theorem asc_eq (l : List Nat) : asc l = (l.map dig).reverse := by unfold asc; rw [← List.map_reverse]; rfl
def turned (T : List UInt8) (i : Nat) : List UInt8 := (List.range T.length).map fun j => if j < i ∨ T.length - 1 - j < i then T.getD (T.length - 1 - j) 0 else T.getD j 0
end Num


end Go.Proofs.YtbmaffijncapiaaGreatDoor
namespace Go.Proofs.YtbmaffijncapiaaGreatDoor
open Go.ChangeShapes Go.WideShapes Go.ChangeAt Go.RowKit
section
open Num
attribute [local go_sem ↓] Go.wp_at_zero Go.wp_at_succ
def IsM (base : Nat) (w : World) (v : Value) (g : Grid) : Prop := ∃ a c, v = .agg #[.slice a g.length c] ∧ IsL 68 (PRow base) base w (.slice a g.length c) g
theorem prs_prow (base : Nat) : Prs (fun t => t = 177 ∨ t = 50) (PRow base) := prs_row lims_int _ _
theorem IsM.keep {base : Nat} {w w' : World} {v : Value} {g : Grid} (h : IsM base w v g) (k : Below w.heap.size w w') : IsM base w' v g := by
 obtain ⟨a, c, e, h⟩ := h; exact ⟨a, c, e, h.keep (prs_prow base) k⟩
theorem IsM.rebase {base base' : Nat} {w : World} {v : Value} {g : Grid} (h : IsM base w v g) (hb : base' ≤ base) : IsM base' w v g := by
 obtain ⟨a, c, e, h⟩ := h; exact ⟨a, c, e, (h.rebase hb).mono fun u x hx => hx.rebase hb⟩
theorem typ_alloc {w : World} {o : Obj} {b : Nat} {t : TypeId} (h : typOf w b = some t) : typOf (w.alloc o) b = some t := typ_keep h (bal (Below.refl _ _) _)
end
section
open Num
attribute [local go_sem ↓] Go.wp_at_zero Go.wp_at_succ
def gat (g : Grid) (i j : Nat) : Int := (g.getD i []).getD j 0
def cols (g : Grid) : Nat := (g.getD 0 []).length
def Rct (g : Grid) (m : Nat) : Prop := ∀ i, i < g.length → (g.getD i []).length = m
theorem Rct.cols {g : Grid} {m : Nat} (h : Rct g m) (hg : 0 < g.length) : cols g = m := h 0 hg
theorem IsM.lit {base : Nat} {w : World} {v : Value} {g : Grid} (h : IsM base w v g) : ∃ a c, v = .agg #[.slice a g.length c] := by obtain ⟨a, c, e, _⟩ := h; exact ⟨a, c, e⟩
theorem IsL.row {base : Nat} {w : World} {v : Value} {g : Grid} (h : IsL 68 (PRow base) base w v g) {i : Nat} (hi : i < g.length) :
 ∃ c gb go ra rc, v = .slice (some ⟨gb, go, none⟩) g.length c ∧ w.cell? ⟨gb, go + i, none⟩ = some (.slice ra (g.getD i []).length rc) ∧ PRow base w (.slice ra (g.getD i []).length rc) (g.getD i []) := by
 obtain ⟨a, c, e, _, hv⟩ := h.view
 obtain ⟨gb, go, u, rfl, hu, hr⟩ := hv i hi
 have e2 : g[i] = g.getD i [] := by simp [hi]
 rw [e2] at hr
 have hr2 := hr
 obtain ⟨ra, rc, rfl, _⟩ := hr2
 exact ⟨c, gb, go, ra, rc, e, hu, hr⟩
theorem IsM.setM {base : Nat} {w : World} {v : Value} {g : Grid} (h : IsM base w v g) {p : Addr} (ht : typOf w p.block = some 47) (u : Value) : IsM base (w.setCell p u) v g := by
 obtain ⟨a, c, e, h⟩ := h
 exact ⟨a, c, e, IsL.kp (S' := fun t => t ≠ 47) (prs_prow base) h ((Kp.refl _ _).set (fun t ht' => by rw [ht] at ht'; cases ht'; exact fun h => h rfl) _) (fun t ht => by rcases ht with rfl | rfl <;> decide) (by decide)⟩
end
section
open Num
attribute [local go_sem ↓] Go.wp_at_zero Go.wp_at_succ
def BdM (k : Nat) (g : Grid) : Prop := ∀ i j, Bd k (gat g i j)
theorem BdM.mono {k m : Nat} {g : Grid} (h : BdM k g) (hk : k ≤ m) : BdM m g := fun i j => (h i j).mono hk
end
end Go.Proofs.YtbmaffijncapiaaGreatDoor
namespace Go.Proofs.YtbmaffijncapiaaGreatDoor
open Num
abbrev GridF := List (List Rat)
def opQ (i : Ins) (a b : Rat) : Rat :=
 if i.op = 2 then -a else if i.op = 3 then a + b else if i.op = 4 then a - b else if i.op = 5 then a * (i.c : Rat) else if i.op = 6 then a / (i.c : Rat)
 else if i.op = 7 then a * ((2 ^ i.c.toNat : Int) : Rat) else if i.op = 8 then a / ((2 ^ i.c.toNat : Int) : Rat) else a
def Slim (q : Rat) : Prop := BdQ 65536 q
instance (q : Rat) : Decidable (Slim q) := by unfold Slim BdQ Bd; infer_instance
def rowF (i : Ins) (a b : List Rat) : List Rat := (List.range a.length).map fun j => opQ i (a.getD j 0) (b.getD j 0)
theorem rowF_len (i : Ins) (a b : List Rat) : (rowF i a b).length = a.length := by simp [rowF]
theorem rowF_get (i : Ins) (a b : List Rat) {j : Nat} (h : j < a.length) : (rowF i a b).getD j 0 = opQ i (a.getD j 0) (b.getD j 0) := by simp [rowF, h]
def SlimR (r : List Rat) : Prop := ∀ j, j < r.length → Slim (r.getD j 0)
instance (r : List Rat) : Decidable (SlimR r) := by unfold SlimR; infer_instance
def stepF (i : Ins) (a b : List Rat) : Option (List Rat) := if SlimR (rowF i a b) then some (rowF i a b) else none
def afterF (code : List Ins) (g : GridF) : Nat → Option GridF
 | 0 => some g
 | n + 1 => (afterF code g n).bind fun s => (stepF (code.getD n default) (s.getD (code.getD n default).a.toNat []) (s.getD (code.getD n default).b.toNat [])).map fun r => s.set (code.getD n default).to.toNat r
theorem afterF_len {code : List Ins} {g : GridF} : ∀ {n : Nat} {s : GridF}, afterF code g n = some s → s.length = g.length
 | 0, s, h => by cases h; rfl
 | n + 1, s, h => by
  rw [afterF] at h
  obtain ⟨u, h1, h2⟩ := Option.bind_eq_some_iff.1 h
  obtain ⟨r, _, rfl⟩ := Option.map_eq_some_iff.1 h2
  rw [List.length_set]; exact afterF_len h1
theorem afterF_mono {code : List Ins} {g : GridF} {n m : Nat} (h : afterF code g n = none) (hm : n ≤ m) : afterF code g m = none := by
 induction m with
 | zero => have : n = 0 := by omega
           subst this; exact h
 | succ m ih =>
  by_cases e : n = m + 1
  · subst e; exact h
  · rw [afterF, ih (by omega)]; rfl
theorem gsetF (s : GridF) {t : Nat} (x : List Rat) (j : Nat) (ht : t < s.length) : (s.set t x).getD j [] = if j = t then x else s.getD j [] := by
 by_cases e : j = t
 · subst e; simp [ht]
 · rw [if_neg e, List.getD_eq_getElem?_getD, List.getElem?_set_ne (fun h => e h.symm), ← List.getD_eq_getElem?_getD]
def RectF (m : Nat) (g : GridF) : Prop := ∀ i, i < g.length → (g.getD i []).length = m
def SlimG (g : GridF) : Prop := ∀ i, i < g.length → SlimR (g.getD i [])
theorem afterF_ok {code : List Ins} {g : GridF} {m : Nat} (hr : RectF m g) (hs : SlimG g) (hc : ∀ n, n < code.length → 0 ≤ (code.getD n default).a ∧ (code.getD n default).a < g.length) : ∀ {n : Nat} {s : GridF}, n ≤ code.length → afterF code g n = some s → RectF m s ∧ SlimG s
 | 0, s, _, h => by cases h; exact ⟨hr, hs⟩
 | n + 1, s, hn, h => by
  rw [afterF] at h
  obtain ⟨u, h1, h2⟩ := Option.bind_eq_some_iff.1 h
  obtain ⟨r, h3, rfl⟩ := Option.map_eq_some_iff.1 h2
  obtain ⟨k1, k2⟩ := afterF_ok hr hs hc (by omega) h1
  have hl := afterF_len h1
  obtain ⟨ha0, ha1⟩ := hc n (by omega)
  unfold stepF at h3
  split at h3
  · rename_i hsl
    cases h3
    have hrl := k1 (code.getD n default).a.toNat (by omega)
    refine ⟨fun i hi => ?_, fun i hi => ?_⟩
    · rw [List.length_set] at hi
      by_cases e : i = (code.getD n default).to.toNat
      · rw [gsetF _ _ _ (by omega), if_pos e, rowF_len]; exact hrl
      · by_cases e2 : (code.getD n default).to.toNat < u.length
        · rw [gsetF _ _ _ e2, if_neg e]; exact k1 i hi
        · rw [List.set_eq_of_length_le (by omega)]; exact k1 i hi
    · rw [List.length_set] at hi
      by_cases e : i = (code.getD n default).to.toNat
      · rw [gsetF _ _ _ (by omega), if_pos e]; exact hsl
      · by_cases e2 : (code.getD n default).to.toNat < u.length
        · rw [gsetF _ _ _ e2, if_neg e]; exact k2 i hi
        · rw [List.set_eq_of_length_le (by omega)]; exact k2 i hi
  · cases h3
def outsF (outs : List Int) (s : GridF) : GridF := outs.map fun k => s.getD k.toNat []
def unitsF (n R : Nat) : GridF := (List.range R).map fun k => (List.range n).map fun j => if j = k then (1 : Rat) else 0
end Go.Proofs.YtbmaffijncapiaaGreatDoor
