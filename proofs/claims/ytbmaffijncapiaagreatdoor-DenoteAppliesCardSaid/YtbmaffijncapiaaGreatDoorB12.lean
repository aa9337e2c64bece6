/- Texts of this seat, laid together: ExE, ExI, RtD, ExM, ExJ, ExL, ExN, RwF, ExO, IntM, Qp, QRow. What each theorem proves, and under which conditions, its statement says. -/
import Derived.Test.YtbmaffijncapiaaGreatDoorB11
set_option maxRecDepth 100000
set_option maxHeartbeats 32000000
set_option linter.unusedVariables false
set_option linter.unusedSimpArgs false
namespace Go.Proofs.YtbmaffijncapiaaGreatDoor
open Go.ChangeShapes Go.WideShapes Go.ChangeAt Go.RowKit
section
open Num
attribute [local go_sem ↓] Go.wp_at_zero Go.wp_at_succ
def toldR (code : List Ins) (g : Grid) (n : Nat) : List Int :=
 match after code g n with
 | some h => (stepR (code.getD n default) (h.getD (code.getD n default).a.toNat []) (h.getD (code.getD n default).b.toNat [])).getD []
 | none => []
def told (code : List Ins) (g : Grid) (n : Nat) : Grid := (List.range n).map (toldR code g)
section
variable {α : Type} {S S' : TypeId → Prop} {T : TypeId} {Pr : World → Value → α → Prop} {base : Nat} {w0 wr w' : World} {v u : Value} {g : List α} {y : α}
end
section
variable {α : Type} {P : Program} {TT T : TypeId} {bytes : Nat} {S : TypeId → Prop} {Pr : World → Value → α → Prop} {ops : Array Oper} {o : Oper} {a : Act} {Q : Exit → Act → World → Prop} {base : Nat} {wr : World} {v u : Value} {g : List α} {y : α} {s x : Operand} {cc gb : Nat}
end
end
section
open Num
attribute [local go_sem ↓] Go.wp_at_zero Go.wp_at_succ
section
variable {S S' : Nat → Prop} {w w' : World} {v : Value} {l : List Int} {base : Nat}
theorem Soil.lt (h : Soil S w) {q : Nat} (hq : S q) : q < w.heap.size := by obtain ⟨t, ht, _⟩ := h q hq; exact typ_lt ht
theorem OutT.lim (h : OutT S w w') (hS : Soil S w) : Lim w w' := fun q ht => by
 have hq : ¬ S q := fun hs => by
  obtain ⟨t, h1, h2⟩ := hS q hs
  rw [ht] at h1; cases h1; exact h2 rfl
 have e := h.1.block q (typ_lt ht) hq
 exact ⟨by rw [typ_of_block (w := w) e]; exact ht, fun o n hc => by rw [World.cell?_of_block (w := w) e]; exact hc⟩
end
section
variable {S S' : Nat → Prop} {w w' : World} {rb base : Nat} {g : Grid}
end
end
section
open Num
attribute [local go_sem ↓] Go.wp_at_zero Go.wp_at_succ
section
variable {n0 : Nat} {X0 : Nat → Prop} {pb xb : Nat} {ins regs : Int} {ca oa : Option Addr} {cc oc : Nat} {code : List Ins} {outs : List Int} {v : Value} {l : List Int} {W W' : World}
theorem others_of_below (h : Below W.heap.size W W') : KeepsOthers W W' := out_others (Out.of_below (fun _ => False) h) fun _ h => h.elim
end
end
section
open Num
attribute [local go_sem ↓] Go.wp_at_zero Go.wp_at_succ
attribute [local go_sem] Oper.semAt_some
def VarI (ub : Nat) (m : Int) (W : World) : Prop := typOf W ub = some 50 ∧ ∃ n a ln c, W.cell? ⟨ub, 0, none⟩ = some (.bool n) ∧ W.cell? ⟨ub, 1, none⟩ = some (.slice a ln c) ∧ W.frozen? ⟨ub, 0, none⟩ = false ∧ W.frozen? ⟨ub, 1, none⟩ = false ∧ IsInt W (.agg #[.bool n, .slice a ln c]) m
theorem VarI.keep {ub : Nat} {m : Int} {W V : World} (h : VarI ub m W) (k : Below W.heap.size W V) : VarI ub m V := by
 obtain ⟨ht, n, a, ln, c, h0, h1, f0, f1, hi⟩ := h
 exact ⟨typ_keep ht k, n, a, ln, c, bkeep k h0, bkeep k h1, bkeepf k h0 f0, bkeepf k h1 f1, hi.keep k⟩
theorem VarI.put {ub : Nat} {m z : Int} {W : World} {n : Bool} {a : Option Addr} {ln c : Nat} (h : VarI ub m W) (hi : IsInt W (.agg #[.bool n, .slice a ln c]) z) : VarI ub z ((W.setCell ⟨ub, 0, none⟩ (.bool n)).setCell ⟨ub, 1, none⟩ (.slice a ln c)) := by
 obtain ⟨ht, n', a', ln', c', h0, h1, f0, f1, _⟩ := h
 refine ⟨by rw [typ_set, typ_set]; exact ht, n, a, ln, c, cell_far (cell_here h0 _) (by simp) _, cell_here (cell_far h1 (by simp) _) _, ?_, ?_, hi.put2 h0 h1 _ _⟩
 · rw [World.frozen?_setCell, World.frozen?_setCell]; exact f0
 · rw [World.frozen?_setCell, World.frozen?_setCell]; exact f1
end
section
open Num
attribute [local go_sem ↓] Go.wp_at_zero Go.wp_at_succ
def gcdI (x y : Int) : Int := (Nat.gcd x.natAbs y.natAbs : Nat)
theorem gcdI_bd {k : Nat} {x y : Int} (hx : Bd k x) (hy : Bd k y) : Bd k (gcdI x y) := by
 unfold Bd gcdI at *
 rw [Int.natAbs_natCast]
 by_cases h : x.natAbs = 0
 · rw [h, Nat.gcd_zero_left]; exact hy
 · exact Nat.lt_of_le_of_lt (Nat.gcd_le_left _ (by omega)) hx
theorem gcd_step (m n : Nat) : Nat.gcd n (m % n) = Nat.gcd m n := by
 rw [Nat.gcd_comm n (m % n), ← Nat.gcd_rec n m, Nat.gcd_comm]
theorem tcell {W w1 : World} (hb : Below W.heap.size W w1) : ∀ b, b < W.heap.size → typOf w1 b = typOf W b := fun b h => typ_of_block (hb.block b h)
theorem typ_alloc_lt {w : World} {o : Obj} {b : Nat} (h : b < w.heap.size) : typOf (w.alloc o) b = typOf w b := typ_of_block ((bal (Below.refl _ _) o).block b h)
theorem typ_alloc_eq {w : World} {c : Array Value} {t : TypeId} {b : Nat} (h : b = w.heap.size) : typOf (w.alloc (.cells c t)) b = some t := typ_fresh h
theorem typ_drew (w : World) (b : Nat) : typOf w.drew b = typOf w b := rfl
theorem VarI.far {ub vb : Nat} {z m : Int} {W : World} (h : VarI ub m W) (k : VarI vb z W) (hne : ub ≠ vb) (x : Bool) (y : Option Addr) (p q : Nat) : VarI ub m ((W.setCell ⟨vb, 0, none⟩ (.bool x)).setCell ⟨vb, 1, none⟩ (.slice y p q)) := by
 obtain ⟨ht, n, a, ln, c, h0, h1, f0, f1, hi⟩ := h
 obtain ⟨-, n', a', ln', c', k0, k1, -, -, -⟩ := k
 exact ⟨by rw [typ_set, typ_set]; exact ht, n, a, ln, c, cell_far (cell_far h0 (addr_ne (Ne.symm hne)) _) (addr_ne (Ne.symm hne)) _, cell_far (cell_far h1 (addr_ne (Ne.symm hne)) _) (addr_ne (Ne.symm hne)) _, by rw [World.frozen?_setCell, World.frozen?_setCell]; exact f0, by rw [World.frozen?_setCell, World.frozen?_setCell]; exact f1, hi.put2 k0 k1 _ _⟩
theorem cell_far2 {W : World} {q o vb : Nat} {v : Value} (h : W.cell? ⟨q, o, none⟩ = some v) (hne : ¬ vb = q) (x : Bool) (y : Option Addr) (p r : Nat) : ((W.setCell ⟨vb, 0, none⟩ (.bool x)).setCell ⟨vb, 1, none⟩ (.slice y p r)).cell? ⟨q, o, none⟩ = some v :=
 cell_far (cell_far h (addr_ne hne) _) (addr_ne hne) _
theorem made_f (a : Option Addr) (ca k : Nat) (w : World) :
 Calls Tryz.prog 122 #[.bool false, .slice a k ca] w fun e w' => e = .returned (.agg #[.bool false, .slice a k ca]) ∧ Below w.heap.size w w' := by
 go_enter Tryz.func122, Tryz.ntmps122
 go_wp2
 refine bodyPost_ret (v := .agg #[.bool false, .slice a k ca]) (by simp [results, Tryz.results122, go_sem, *]) rfl ⟨rfl, ?_⟩
 repeat (first | exact Below.refl _ _ | exact Below.refl _ _ | refine Below.drew ?_ | refine below_drewN ?_ _ | refine bset ?_ (by simp <;> omega) _ | refine bal ?_ _)
theorem abs_v (n : Bool) (a : Option Addr) (c k : Nat) (w : World) :
 Calls Tryz.prog 224 #[.agg #[.bool n, .slice a k c]] w fun e w' => e = .returned (.agg #[.bool false, .slice a k c]) ∧ Below w.heap.size w w' := by
 have mc := fun W => made_f a c k W
 have hB0 := Below.refl w.heap.size w
 go_enter Tryz.func224, Tryz.ntmps224
 go_wp2_with fail
 refine (mc _).mono ?_
 rintro e w1 ⟨rfl, hb1⟩
 have r0 : w1.cell? ⟨w.heap.size + 1, 0, none⟩ = some (.bool false) := bkc hb1
 have zr0 := cell_lt r0
 have r0f : w1.frozen? ⟨w.heap.size + 1, 0, none⟩ = false := bkcf (v := .bool false) hb1
 have r1 : w1.cell? ⟨w.heap.size + 1, 1, none⟩ = some (.slice none 0 0) := bkc hb1
 have r1f : w1.frozen? ⟨w.heap.size + 1, 1, none⟩ = false := bkcf (v := .slice none 0 0) hb1
 have hB : Below w.heap.size w w1 := bthen bZ hb1
 have hz := hB.size
 go_wp2
 refine bodyPost_ret (v := .agg #[.bool false, .slice a k c]) (by simp [results, Tryz.results224, go_sem, *]) rfl ⟨rfl, ?_⟩
 repeat exact bZ
theorem IsInt.abs {w : World} {n : Bool} {a : Option Addr} {k c : Nat} {x : Int} (h : IsInt w (.agg #[.bool n, .slice a k c]) x) : IsInt w (.agg #[.bool false, .slice a k c]) (x.natAbs : Int) := by
 obtain ⟨n1, a1, c1, l1, e, u1, g1, s1, rfl⟩ := h
 unfold iv at e
 cases e
 exact ⟨false, a, c, l1, rfl, u1, g1, fun h => (by cases h), by rw [sg_abs]; rfl⟩
theorem gcdI_c (vx vy : Value) (x y : Int) (k : Nat) (w : World) (hx : IsInt w vx x) (hy : IsInt w vy y) (bx : Bd k x) (by' : Bd k y) (hk : k ≤ 17179869184) :
 Calls Tryz.prog 161 #[vx, vy] w fun e w' => (∃ u, e = .returned u ∧ IsInt w' u (gcdI x y)) ∧ Below w.heap.size w w' := by
 have HX := hZ hx
 have HY := hZ hy
 obtain ⟨nx, ax, cx, lx, rfl, -⟩ := hx
 obtain ⟨ny, ay, cy, ly, rfl, -⟩ := hy
 unfold iv at *
 obtain ⟨kx, hkx⟩ : ∃ m, lx.length = m := ⟨_, rfl⟩
 obtain ⟨ky, hky⟩ : ∃ m, ly.length = m := ⟨_, rfl⟩
 rw [hkx] at HX ⊢
 rw [hky] at HY ⊢
 clear hkx hky
 have HA := hZ HX.out.abs
 have HB := hZ HY.out.abs
 have HBD := hZ (show x.natAbs < 2 ^ k ∧ y.natAbs < 2 ^ k from ⟨bx, by'⟩)
 unfold gcdI
 clear HX HY bx by'
 obtain ⟨m, hm⟩ : ∃ m, x.natAbs = m := ⟨_, rfl⟩
 obtain ⟨n, hn⟩ : ∃ n, y.natAbs = n := ⟨_, rfl⟩
 rw [hm] at HA HBD ⊢
 rw [hn] at HB HBD ⊢
 clear hm hn
 have hB := Below.refl w.heap.size w
 go_enter Tryz.func161, Tryz.ntmps161
 go_wp2
 refine wp_name fun w1 hW1 => ?_
 have hB1 : Below w.heap.size w w1 := by rw [hW1]; repeat (first|exact bzR _ _|exact hB|refine bzD ?_|refine bzN ?_|refine bzS ?_|refine bzA ?_)
 have hX1 : w1.cell? ⟨w.heap.size, 0, none⟩ = some (.bool nx) ∧ w1.cell? ⟨w.heap.size, 1, none⟩ = some (.slice ax kx cx) ∧ w1.cell? ⟨w.heap.size + 1, 0, none⟩ = some (.bool ny) ∧ w1.cell? ⟨w.heap.size + 1, 1, none⟩ = some (.slice ay ky cy) := by rw [hW1]; simp [go_sem]
 have HR1 := hZ (show w1.cell? ⟨w.heap.size + 1 + 1, 0, none⟩ = some (.bool false) ∧ w1.cell? ⟨w.heap.size + 1 + 1, 1, none⟩ = some (.slice none 0 0) ∧ w1.frozen? ⟨w.heap.size + 1 + 1, 0, none⟩ = false ∧ w1.frozen? ⟨w.heap.size + 1 + 1, 1, none⟩ = false ∧ typOf w1 (w.heap.size + 1 + 1) = some 50 from by rw [hW1]; simp [go_sem]; exact typ_fresh (by simp))
 clear hW1
 obtain ⟨x0, x1, y0, y1⟩ := hX1
 have zx := cell_lt x0
 have zy := cell_lt y0
 have av := fun W => abs_v nx ax cx kx W
 have bv := fun W => abs_v ny ay cy ky W
 go_step3
 go_upto_region 1 with (fail)
 go_cut [5, 6] (fun s5 s6 wx => ∃ ab bb, s5 = .pointer (some ⟨ab, 0, none⟩) ∧ s6 = .pointer (some ⟨bb, 0, none⟩) ∧ ab ≠ bb ∧ w1.heap.size ≤ ab ∧ w1.heap.size ≤ bb ∧ Hid (VarI ab m wx) ∧ Hid (VarI bb n wx) ∧ Below w1.heap.size w1 wx)
 case first =>
  have hBj := Below.refl w1.heap.size w1
  have HS := hZ (show ∀ W, Below w1.heap.size w1 W → W.cell? ⟨w.heap.size, 0, none⟩ = some (.bool nx) ∧ W.cell? ⟨w.heap.size, 1, none⟩ = some (.slice ax kx cx) ∧ W.cell? ⟨w.heap.size + 1, 0, none⟩ = some (.bool ny) ∧ W.cell? ⟨w.heap.size + 1, 1, none⟩ = some (.slice ay ky cy) from fun W q => ⟨bkeep q x0, bkeep q x1, bkeep q y0, bkeep q y1⟩)
  go_region_held3 (fun W => W.cell? ⟨w.heap.size, 0, none⟩ = some (.bool nx) ∧ W.cell? ⟨w.heap.size, 1, none⟩ = some (.slice ax kx cx) ∧ W.cell? ⟨w.heap.size + 1, 0, none⟩ = some (.bool ny) ∧ W.cell? ⟨w.heap.size + 1, 1, none⟩ = some (.slice ay ky cy))
   (first | (refine HS.out _ ?_; (repeat' (first | exact Below.refl _ _ | exact hBj | refine Below.drew ?_ | refine below_drewN ?_ _ | refine bal ?_ _ | refine bset ?_ ?_ _ | exact hla1 | exact Nat.le_trans hla1 (Nat.le_succ _) | exact hla2 | exact Nat.le_trans hla2 (Nat.le_succ _) | exact Nat.le_refl _ | exact Nat.le_succ _)); done) | fail)
   (first
   | (go_at_call 224; (with_reducible show Calls _ _ #[.agg #[.bool nx, _]] _ _); refine (av _).mono ?_; rintro e w11 ⟨rfl, hb11⟩; (replace hBj : Below w1.heap.size w1 w11 := bthen bZ hb11); have hc11 := (bcell hb11).1; have hf11 := (bcell hb11).2; have ht11 := tcell hb11; have hla1 := hBj.size; have hs11 := hb11.size; (try simp [go_sem] at hs11); (try have qa : w1.heap.size < w11.heap.size := by omega); (try have qb : w1.heap.size + 1 < w11.heap.size := by omega); have zy11 := Nat.lt_of_lt_of_le zy hBj.size; have zy12 := Nat.lt_of_lt_of_le zx hBj.size)
   | (go_at_call 224; (with_reducible show Calls _ _ #[.agg #[.bool ny, _]] _ _); refine (bv _).mono ?_; rintro e w12 ⟨rfl, hb12⟩; (replace hBj : Below w1.heap.size w1 w12 := bthen bZ hb12); have hc12 := (bcell hb12).1; have hf12 := (bcell hb12).2; have ht12 := tcell hb12; have hla2 := hBj.size; have hs12 := hb12.size; (try simp [go_sem] at hs12); (try have qc : w11.heap.size < w12.heap.size := by omega); (try have qd : w11.heap.size + 1 < w12.heap.size := by omega); (try have qe : w1.heap.size < w12.heap.size := by omega); (try have qf : w1.heap.size + 1 < w12.heap.size := by omega))
   | fail)
  all_goals
   go_wp2_with fail
   go_meet
   refine (fun hbx => ⟨_, _, rfl, rfl, by omega, by omega, by omega, hZ ⟨?_, false, ax, kx, cx, ?_, ?_, ?_, ?_, HA.out.keep (bthen hB1 hbx)⟩, hZ ⟨?_, false, ay, ky, cy, ?_, ?_, ?_, ?_, HB.out.keep (bthen hB1 hbx)⟩, hbx⟩ : Below w1.heap.size w1 _ → _) ?_
   all_goals first
    | (simp (disch := (first | (simp; done) | (simp; omega) | omega)) only [typ_set, typ_alloc_eq, typ_alloc_lt, ht12, ht11, typ_drew]; done)
    | (simp [go_sem, *]; done)
    | ((repeat' (first | exact Below.refl _ _ | exact hBj | refine Below.drew ?_ | refine below_drewN ?_ _ | refine bal ?_ _ | refine bset ?_ ?_ _ | exact hla1 | exact Nat.le_trans hla1 (Nat.le_succ _) | exact hla2 | exact Nat.le_trans hla2 (Nat.le_succ _) | exact Nat.le_refl _ | exact Nat.le_succ _)); done)
    | ((repeat (refine cell_far ?_ ?b _; case b => (first | (simp; done) | (simp; omega)))); (first | (refine cell_here (v := .bool false) ?_ _; (repeat (refine cell_far ?_ ?b _; case b => (first | (simp; done) | (simp; omega)))); (simp [go_sem, *]; done)) | (refine cell_here (v := .slice none 0 0) ?_ _; (repeat (refine cell_far ?_ ?b _; case b => (first | (simp; done) | (simp; omega)))); (simp [go_sem, *]; done))))
 case rest =>
  obtain ⟨ab, bb, rfl, rfl, hne, hla, hlb, hA, hBv, hbx⟩ := hcut
  have hb1c : Below w.heap.size w wc := bthen hB1 hbx
  have hrl : w.heap.size + 1 + 1 < w1.heap.size := cell_lt HR1.out.1
  have HR := hZ (show wc.cell? ⟨w.heap.size + 1 + 1, 0, none⟩ = some (.bool false) ∧ wc.cell? ⟨w.heap.size + 1 + 1, 1, none⟩ = some (.slice none 0 0) ∧ wc.frozen? ⟨w.heap.size + 1 + 1, 0, none⟩ = false ∧ wc.frozen? ⟨w.heap.size + 1 + 1, 1, none⟩ = false from ⟨bkeep hbx HR1.out.1, bkeep hbx HR1.out.2.1, bkeepf hbx HR1.out.1 HR1.out.2.2.1, bkeepf hbx HR1.out.2.1 HR1.out.2.2.2.1⟩)
  have hws : w.heap.size ≤ w1.heap.size := hB1.size
  have H0 := hZ (show VarI ab m wc ∧ VarI bb n wc ∧ Nat.gcd m n = Nat.gcd m n ∧ m < 2 ^ k ∧ n < 2 ^ k from ⟨hA.out, hBv.out, rfl, HBD.out.1, HBD.out.2⟩)
  clear av bv x0 x1 y0 y1 zx zy HR1 hB1 hbx hA hBv HA HB HBD hB
  go_wp2
  go_step3
  go_wp2
  go_loopg [] n (fun gk wr => ∃ m' : Nat, Hid (VarI ab m' wr ∧ VarI bb gk wr ∧ Nat.gcd m' gk = Nat.gcd m n ∧ m' < 2 ^ k ∧ gk < 2 ^ k) ∧ Hid (wr.cell? ⟨w.heap.size + 1 + 1, 0, none⟩ = some (.bool false) ∧ wr.cell? ⟨w.heap.size + 1 + 1, 1, none⟩ = some (.slice none 0 0) ∧ wr.frozen? ⟨w.heap.size + 1 + 1, 0, none⟩ = false ∧ wr.frozen? ⟨w.heap.size + 1 + 1, 1, none⟩ = false) ∧ Below w.heap.size w wr)
  case atStart => exact ⟨m, hZ ⟨H0.out.1, H0.out.2.1, rfl, H0.out.2.2.2.1, H0.out.2.2.2.2⟩, HR, hb1c⟩
  case round =>
   obtain ⟨m', H, HR, hBr⟩ := hrel
   obtain ⟨-, n1, a1, l1, c1, a0, a1', -, -, aI⟩ := H.out.1
   obtain ⟨-, n2, a2, l2, c2, b0, b1, b0f, b1f, bI⟩ := H.out.2.1
   have HAI := hZ aI
   have HBI := hZ bI
   have sc := fun W (q : Below wr.heap.size wr W) => sign_c _ _ W (HBI.out.keep q)
   have za := cell_lt a0
   have zb := cell_lt b0
   have hBw := Below.refl wr.heap.size wr
   clear aI bI
   by_cases h0 : gk = 0
   · subst h0
     have hG : (m' : Int) = (Nat.gcd m n : Nat) := by rw [← H.out.2.2.1, Nat.gcd_zero_right]
     rw [show ((0 : Nat) : Int).sign = 0 from rfl] at sc
     go_wp2_with fail
     refine (sc _ bZ).mono ?_
     rintro e w5 ⟨rfl, hb5⟩
     have hb5' : Below wr.heap.size wr w5 := bthen bZ hb5
     have r0f := bkeepf hb5' HR.out.1 HR.out.2.2.1
     have r1f := bkeepf hb5' HR.out.2.1 HR.out.2.2.2
     have r0 := bkeep hb5' HR.out.1
     have r1 := bkeep hb5' HR.out.2.1
     have a05 := bkeep hb5' a0
     have a15 := bkeep hb5' a1'
     have hp := hZ ((HAI.out.keep hb5').put2 r0 r1 (.bool n1) (.slice a1 l1 c1))
     rw [hG] at hp
     have hB5 := bthen hBr hb5'
     clear sc H b0 b1 b0f b1f HBI a0 a1'
     go_wp2
     rw [Exit.noGoto_ret]
     refine bodyPost_ret (v := .agg #[.bool n1, .slice a1 l1 c1]) (by simp [results, Tryz.results161, go_sem, *]) rfl ⟨⟨_, rfl, hp.out⟩, ?_⟩
     repeat exact bZ
   · obtain ⟨sg, hsg, hsgE⟩ : ∃ q : Int, q ≠ 0 ∧ (gk : Int).sign = q := ⟨_, (fun e => h0 (by have := Int.sign_eq_zero_iff_zero.1 e; omega)), rfl⟩
     rw [hsgE] at sc
     have hsb : (sg != 0) = true := by simpa using hsg
     have HM := hZ h0
     have HBD := hZ (And.intro H.out.2.2.2.1 (And.intro H.out.2.2.2.2 H.out.2.2.1))
     have HV := hZ (And.intro H.out.1 H.out.2.1)
     clear hsgE hsg h0 H
     go_wp2_with fail
     refine (sc _ bZ).mono ?_
     rintro e w5 ⟨rfl, hb5⟩
     have hb5' : Below wr.heap.size wr w5 := bthen bZ hb5
     have a05 := bkeep hb5' a0
     have a15 := bkeep hb5' a1'
     have b05 := bkeep hb5' b0
     have b15 := bkeep hb5' b1
     have HV5 := hZ (And.intro (HV.out.1.keep hb5') (HV.out.2.keep hb5'))
     have HR5 := hZ (show w5.cell? ⟨w.heap.size + 1 + 1, 0, none⟩ = some (.bool false) ∧ w5.cell? ⟨w.heap.size + 1 + 1, 1, none⟩ = some (.slice none 0 0) ∧ w5.frozen? ⟨w.heap.size + 1 + 1, 0, none⟩ = false ∧ w5.frozen? ⟨w.heap.size + 1 + 1, 1, none⟩ = false from ⟨bkeep hb5' HR.out.1, bkeep hb5' HR.out.2.1, bkeepf hb5' HR.out.1 HR.out.2.2.1, bkeepf hb5' HR.out.2.1 HR.out.2.2.2⟩)
     have dc := fun W (q : Below w5.heap.size w5 W) => divmod_c _ _ (m' : Int) (gk : Int) k W ((HAI.out.keep hb5').keep q) ((HBI.out.keep hb5').keep q) (by unfold Bd; rw [Int.natAbs_natCast]; exact HBD.out.1) (by unfold Bd; rw [Int.natAbs_natCast]; exact HBD.out.2.1) hk (by have := HM.out; omega)
     rw [show ((m' : Int) % (gk : Int)) = ((m' % gk : Nat) : Int) from (Int.natCast_emod m' gk).symm] at dc
     have hB5 := bthen hBr hb5'
     have za5 := cell_lt a05
     have zb5 := cell_lt b05
     have hBw5 := Below.refl w5.heap.size w5
     clear sc HV HR a0 a1' b0 b1 b0f b1f za zb hb5 hBr hBw
     go_wp2_with fail
     refine (dc _ bZ).mono ?_
     rintro e w6 ⟨⟨u6, r6, rfl, hu6, hr6⟩, hb6⟩
     have hb6' : Below w5.heap.size w5 w6 := bthen bZ hb6
     have HR6 := hZ hr6
     obtain ⟨n7, a7, c7, l7, rfl, -⟩ := hu6
     obtain ⟨n8, a8, c8, l8, rfl, -⟩ := hr6
     unfold iv at *
     have HV6 := hZ (And.intro (HV5.out.1.keep hb6') (HV5.out.2.keep hb6'))
     have HRR6 := hZ (show w6.cell? ⟨w.heap.size + 1 + 1, 0, none⟩ = some (.bool false) ∧ w6.cell? ⟨w.heap.size + 1 + 1, 1, none⟩ = some (.slice none 0 0) ∧ w6.frozen? ⟨w.heap.size + 1 + 1, 0, none⟩ = false ∧ w6.frozen? ⟨w.heap.size + 1 + 1, 1, none⟩ = false from ⟨bkeep hb6' HR5.out.1, bkeep hb6' HR5.out.2.1, bkeepf hb6' HR5.out.1 HR5.out.2.2.1, bkeepf hb6' HR5.out.2.1 HR5.out.2.2.2⟩)
     have hB6 := bthen hB5 hb6'
     clear dc a05 a15 b05 b15 HV5 HR5 za5 zb5 hb5' hb6 hB5 hBw5
     have hBw6 := Below.refl w6.heap.size w6
     go_wp2
     refine wp_name fun w7 hW7 => ?_
     have hb7 : Below w6.heap.size w6 w7 := by rw [hW7]; repeat (first|exact bzR _ _|exact hBw6|refine bzD ?_|refine bzN ?_|refine bzS ?_|refine bzA ?_)
     have HC7 := hZ (show VarI (w6.heap.size + 1) ((m' % gk : Nat) : Int) w7 from by rw [hW7]; exact ⟨typ_fresh (by simp), n8, a8, l8.length, c8, by simp [go_sem], by simp [go_sem], by simp [go_sem], by simp [go_sem], HR6.out.keep (bal (bal (Below.refl _ _) _) _)⟩)
     have hs7 : w6.heap.size + 1 < w7.heap.size := typ_lt HC7.out.1
     have HV7 := hZ (And.intro (HV6.out.1.keep hb7) (HV6.out.2.keep hb7))
     have HRR7 := hZ (show w7.cell? ⟨w.heap.size + 1 + 1, 0, none⟩ = some (.bool false) ∧ w7.cell? ⟨w.heap.size + 1 + 1, 1, none⟩ = some (.slice none 0 0) ∧ w7.frozen? ⟨w.heap.size + 1 + 1, 0, none⟩ = false ∧ w7.frozen? ⟨w.heap.size + 1 + 1, 1, none⟩ = false from ⟨bkeep hb7 HRR6.out.1, bkeep hb7 HRR6.out.2.1, bkeepf hb7 HRR6.out.1 HRR6.out.2.2.1, bkeepf hb7 HRR6.out.2.1 HRR6.out.2.2.2⟩)
     have hB7 := bthen hB6 hb7
     have hxa : ab < w6.heap.size := typ_lt HV6.out.1.1
     have hxb : bb < w6.heap.size := typ_lt HV6.out.2.1
     clear hW7 HV6 HRR6 HR6 hBw6 hb6' hB6 hb7
     obtain ⟨cb, hcb⟩ : ∃ c, w6.heap.size + 1 = c := ⟨_, rfl⟩
     rw [hcb] at HC7 hs7 ⊢
     have hac : ab < cb := by omega
     have hbc : bb < cb := by omega
     clear hcb hxa hxb
     obtain ⟨-, m1, m2, m3, m4, q0, q1, q0f, q1f, qI⟩ := HV7.out.1
     obtain ⟨-, o1, o2, o3, o4, p0, p1, p0f, p1f, pI⟩ := HV7.out.2
     obtain ⟨-, s1, s2, s3, s4, t0, t1, t0f, t1f, tI⟩ := HC7.out
     have HPI := hZ pI
     have HTI := hZ tI
     have zq := cell_lt q0
     have zp := cell_lt p0
     clear qI pI tI
     go_region
     all_goals
      have HA1 := HV7.out.1.put HPI.out
      have HB1' := HV7.out.2.far HV7.out.1 (Ne.symm hne) o1 o2 o3 o4
      have HC1 := HC7.out.far HV7.out.1 (Ne.symm (Nat.ne_of_lt hac)) o1 o2 o3 o4
      have HT1 := HTI.out.put2 q0 q1 (.bool o1) (.slice o2 o3 o4)
      have HB2 := HB1'.put HT1
      have HA2 := HA1.far HB1' hne s1 s2 s3 s4
      have hnab : ¬ ab = w.heap.size + 1 + 1 := by omega
      have hnbb : ¬ bb = w.heap.size + 1 + 1 := by omega
      have hr0 := cell_far2 (cell_far2 HRR7.out.1 hnab o1 o2 o3 o4) hnbb s1 s2 s3 s4
      have hr1 := cell_far2 (cell_far2 HRR7.out.2.1 hnab o1 o2 o3 o4) hnbb s1 s2 s3 s4
      have HN := hZ (And.intro HA2 (And.intro HB2 (And.intro hr0 hr1)))
      have hab : w.heap.size ≤ ab := by omega
      have hbb : w.heap.size ≤ bb := by omega
      have hBN : Below w.heap.size w ((((w7.setCell ⟨ab, 0, none⟩ (.bool o1)).setCell ⟨ab, 1, none⟩ (.slice o2 o3 o4)).setCell ⟨bb, 0, none⟩ (.bool s1)).setCell ⟨bb, 1, none⟩ (.slice s2 s3 s4)) := bset (bset (bset (bset hB7 hab _) hab _) hbb _) hbb _
      clear HA1 HB1' HC1 HT1 HB2 HA2 hr0 hr1 q0 q1 q0f q1f p0 p1 p0f p1f t0 t1 t0f t1f
      go_wp2
      go_roundg (m' % gk)
      case measure => exact Nat.mod_lt _ (Nat.pos_of_ne_zero HM.out)
      case rel => exact ⟨gk, hZ ⟨HN.out.1.keep (Below.refl _ _).drew, HN.out.2.1.keep (Below.refl _ _).drew, by rw [gcd_step, HBD.out.2.2], HBD.out.2.1, Nat.lt_of_lt_of_le (Nat.mod_lt _ (Nat.pos_of_ne_zero HM.out)) (Nat.le_of_lt HBD.out.2.1)⟩, hZ ⟨HN.out.2.2.1, HN.out.2.2.2, by show (World.drew _).frozen? _ = false; rw [show ∀ W : World, ∀ p, W.drew.frozen? p = W.frozen? p from fun _ _ => rfl, World.frozen?_setCell, World.frozen?_setCell, World.frozen?_setCell, World.frozen?_setCell]; exact HRR7.out.2.2.1, by show (World.drew _).frozen? _ = false; rw [show ∀ W : World, ∀ p, W.drew.frozen? p = W.frozen? p from fun _ _ => rfl, World.frozen?_setCell, World.frozen?_setCell, World.frozen?_setCell, World.frozen?_setCell]; exact HRR7.out.2.2.2⟩, hBN.drew⟩
end
end Go.Proofs.YtbmaffijncapiaaGreatDoor
namespace Go.Proofs.YtbmaffijncapiaaGreatDoor
open Num
theorem bd_edv {k : Nat} {x : Int} (h : Bd k x) (c : Int) : Bd k (x / c) := Nat.lt_of_le_of_lt (Int.natAbs_ediv_le_natAbs x c) h
def BdQ (k : Nat) (q : Rat) : Prop := Bd k q.num ∧ Bd k (q.den : Int)
theorem gcdI_sym (x y : Int) : gcdI x y = ((y.gcd x : Nat) : Int) := by unfold gcdI Int.gcd; rw [Nat.gcd_comm]
theorem dq_num {n d : Int} (hd : 0 < d) : (Rat.divInt n d).num = n / gcdI n d := by
 rw [Rat.num_divInt, Int.sign_eq_one_of_pos hd, Int.one_mul, gcdI_sym]
theorem dq_den {n d : Int} (hd : 0 < d) : ((Rat.divInt n d).den : Int) = d / gcdI n d := by
 rw [Rat.den_divInt, if_neg (by omega), gcdI_sym, Int.natCast_ediv, Int.natAbs_of_nonneg (by omega)]
theorem den_pos (q : Rat) : (0 : Int) < q.den := by have := q.den_pos; omega
theorem q_self (q : Rat) : Rat.divInt q.num q.den = q := Rat.num_divInt_den q
theorem q_add (x y : Rat) : x + y = Rat.divInt (x.num * y.den + y.num * x.den) (x.den * y.den) := by
 conv => lhs; rw [← q_self x, ← q_self y]
 exact Rat.divInt_add_divInt _ _ (by have := den_pos x; omega) (by have := den_pos y; omega)
theorem q_mul (x y : Rat) : x * y = Rat.divInt (x.num * y.num) (x.den * y.den) := by
 conv => lhs; rw [← q_self x, ← q_self y]
 exact Rat.divInt_mul_divInt _ _
theorem q_div (x y : Rat) : x / y = Rat.divInt (x.num * y.den) (x.den * y.num) := by
 conv => lhs; rw [Rat.div_def, ← q_self x, ← q_self y, Rat.inv_divInt]
 exact Rat.divInt_mul_divInt _ _
theorem divInt_swap {n d : Int} (hd : d < 0) : Rat.divInt n d = Rat.divInt (-n) (-d) := by
 rw [Rat.divInt_eq_div, Rat.divInt_eq_div]; rw [Rat.intCast_neg, Rat.intCast_neg]
 have : (d : Rat) ≠ 0 := fun e => by have := Rat.intCast_inj.1 (e.trans Rat.intCast_zero.symm); omega
 grind
theorem dq_bd {n d : Int} {k : Nat} (h0 : d ≠ 0) (bn : Bd k n) (bd : Bd k d) : BdQ k (Rat.divInt n d) := by
 rcases Int.lt_or_lt_of_ne h0 with h | h
 · rw [divInt_swap h]
   refine ⟨?_, ?_⟩
   · rw [dq_num (by omega)]; refine bd_edv ?_ _; unfold Bd at *; rwa [Int.natAbs_neg]
   · rw [dq_den (by omega)]; refine bd_edv ?_ _; unfold Bd at *; rwa [Int.natAbs_neg]
 · exact ⟨by rw [dq_num h]; exact bd_edv bn _, by rw [dq_den h]; exact bd_edv bd _⟩
theorem whole_num (z : Int) : ((z : Rat)).num = z ∧ ((z : Rat)).den = 1 := ⟨Rat.num_intCast z, Rat.den_intCast z⟩
theorem num_ne {y : Rat} (h : y ≠ 0) : y.num ≠ 0 := fun e => h (Rat.num_eq_zero.1 e)
theorem BdQ.mono {k m : Nat} {q : Rat} (h : BdQ k q) (hk : k ≤ m) : BdQ m q := ⟨h.1.mono hk, h.2.mono hk⟩
theorem BdQ.add {k m : Nat} {x y : Rat} (h : BdQ k x) (h' : BdQ m y) : BdQ (k + m + 1) (x + y) := by
 rw [q_add]
 refine dq_bd (by have := den_pos x; have := den_pos y; exact Int.ne_of_gt (Int.mul_pos ‹_› ‹_›)) ?_ ((h.2.mul h'.2).mono (by omega))
 have h1 := h.1.mul h'.2
 have h2 := h'.1.mul h.2
 rw [Nat.add_comm m k] at h2
 exact h1.add h2
theorem BdQ.mul {k m : Nat} {x y : Rat} (h : BdQ k x) (h' : BdQ m y) : BdQ (k + m) (x * y) := by
 rw [q_mul]
 exact dq_bd (by have := den_pos x; have := den_pos y; exact Int.ne_of_gt (Int.mul_pos ‹_› ‹_›)) (h.1.mul h'.1) (h.2.mul h'.2)
theorem BdQ.div {k m : Nat} {x y : Rat} (h : BdQ k x) (h' : BdQ m y) (h0 : y ≠ 0) : BdQ (k + m) (x / y) := by
 rw [q_div]
 exact dq_bd (Int.mul_ne_zero (by have := den_pos x; omega) (num_ne h0)) (h.1.mul h'.2) (h.2.mul h'.1)
theorem BdQ.neg {k : Nat} {x : Rat} (h : BdQ k x) : BdQ k (-x) := by
 refine ⟨?_, ?_⟩
 · rw [Rat.neg_num]; have := h.1; unfold Bd at *; rwa [Int.natAbs_neg]
 · rw [Rat.neg_den]; exact h.2
theorem BdQ.sub {k m : Nat} {x y : Rat} (h : BdQ k x) (h' : BdQ m y) : BdQ (k + m + 1) (x - y) := by
 rw [Rat.sub_eq_add_neg]; exact h.add h'.neg
theorem BdQ.whole {k : Nat} {z : Int} (h : Bd k z) (hk : 1 ≤ k) : BdQ k (z : Rat) := by
 refine ⟨by rw [(whole_num z).1]; exact h, ?_⟩
 rw [(whole_num z).2]
 exact Nat.lt_of_lt_of_le (by decide : ((1 : Nat) : Int).natAbs < 2 ^ 1) (Nat.pow_le_pow_right (by omega) hk)
end Go.Proofs.YtbmaffijncapiaaGreatDoor
namespace Go.Proofs.YtbmaffijncapiaaGreatDoor
open Go.ChangeShapes Go.WideShapes Go.ChangeAt Go.RowKit
section
open Num
structure FrK (Q : World → Value → Rat → Prop) : Prop where
 lim : ∀ {w w' : World} {v : Value} {q : Rat}, Lim w w' → Q w v q → Q w' v q
 sh : ∀ {w : World} {v : Value} {q : Rat}, Q w v q → ∃ n1 a1 l1 c1 n2 a2 l2 c2, v = .agg #[.bool n1, .slice a1 l1 c1, .bool n2, .slice a2 l2 c2]
theorem FrK.keep {Q : World → Value → Rat → Prop} (hQ : FrK Q) {w w' : World} {v : Value} {q : Rat} (h : Q w v q) (k : Below w.heap.size w w') : Q w' v q := hQ.lim (.of_below k) h
def FrC (Q : World → Value → Rat → Prop) (w : World) (b o : Nat) (q : Rat) : Prop :=
 ∃ n1 a1 l1 c1 n2 a2 l2 c2, w.cell? ⟨b, o, none⟩ = some (.bool n1) ∧ w.cell? ⟨b, o + 1, none⟩ = some (.slice a1 l1 c1) ∧ w.cell? ⟨b, o + 2, none⟩ = some (.bool n2) ∧ w.cell? ⟨b, o + 3, none⟩ = some (.slice a2 l2 c2) ∧ Q w (.agg #[.bool n1, .slice a1 l1 c1, .bool n2, .slice a2 l2 c2]) q
section
variable {Q : World → Value → Rat → Prop} {w w' : World} {b o : Nat} {q : Rat}
theorem FrC.keep (hQ : FrK Q) (h : FrC Q w b o q) (k : Below w.heap.size w w') : FrC Q w' b o q := by
 obtain ⟨n1, a1, l1, c1, n2, a2, l2, c2, h0, h1, h2, h3, h4⟩ := h
 exact ⟨n1, a1, l1, c1, n2, a2, l2, c2, bkeep k h0, bkeep k h1, bkeep k h2, bkeep k h3, hQ.keep h4 k⟩
theorem FrC.stay (hQ : FrK Q) (h : FrC Q w b o q) (hb : w'.heap[b]? = w.heap[b]?) (hl : Lim w w') : FrC Q w' b o q := by
 obtain ⟨n1, a1, l1, c1, n2, a2, l2, c2, h0, h1, h2, h3, h4⟩ := h
 exact ⟨n1, a1, l1, c1, n2, a2, l2, c2, by rw [World.cell?_of_block (w := w) hb]; exact h0, by rw [World.cell?_of_block (w := w) hb]; exact h1, by rw [World.cell?_of_block (w := w) hb]; exact h2, by rw [World.cell?_of_block (w := w) hb]; exact h3, hQ.lim hl h4⟩
theorem FrC.limS (h : FrC Q w b o q) (u0 u1 u2 u3 : Value) : Lim w ((((w.setCell ⟨b, o, none⟩ u0).setCell ⟨b, o + 1, none⟩ u1).setCell ⟨b, o + 2, none⟩ u2).setCell ⟨b, o + 3, none⟩ u3) := by
 obtain ⟨n1, a1, l1, c1, n2, a2, l2, c2, h0, h1, h2, h3, h4⟩ := h
 exact ((((Lim.refl w).bool h0 _).slice (cell_far h1 (by simp) _) _).bool (cell_far (cell_far h2 (by simp) _) (by simp) _) _).slice (cell_far (cell_far (cell_far h3 (by simp) _) (by simp) _) (by simp) _) _
end
def FrRow (Q : World → Value → Rat → Prop) (E : TypeId) (base : Nat) (w : World) (v : Value) (L : List Rat) : Prop :=
 ∃ a c, v = .slice a L.length c ∧ L.length ≤ c ∧ (L = [] ∨ ∃ b off, a = some ⟨b, off, none⟩ ∧ base ≤ b ∧ typOf w b = some E ∧ ∀ k, k < L.length → FrC Q w b (off + k * 4) (L.getD k 0))
section
variable {Q : World → Value → Rat → Prop} {E : TypeId} {base base' : Nat} {w w' w0 wr : World} {v : Value} {L : List Rat}
theorem FrRow.keep (hQ : FrK Q) (h : FrRow Q E base w v L) (k : Below w.heap.size w w') : FrRow Q E base w' v L := by
 obtain ⟨a, c, e, hc, h2⟩ := h
 refine ⟨a, c, e, hc, h2.imp id ?_⟩
 rintro ⟨b, off, e2, hb, ht, h3⟩
 exact ⟨b, off, e2, hb, typ_keep ht k, fun j hj => (h3 j hj).keep hQ k⟩
theorem FrRow.kp {S : TypeId → Prop} (hQ : FrK Q) (h : FrRow Q E base w v L) (k : Kp S w w') (h1 : S 177) (h2 : S E) : FrRow Q E base w' v L := by
 obtain ⟨a, c, e, hc, h3⟩ := h
 refine ⟨a, c, e, hc, h3.imp id ?_⟩
 rintro ⟨b, off, e2, hb, ht, h4⟩
 exact ⟨b, off, e2, hb, k.typ ht h2, fun j hj => (h4 j hj).stay hQ (k b E ht h2) (k.lim h1)⟩
theorem FrRow.rebase (h : FrRow Q E base w v L) (hb : base' ≤ base) : FrRow Q E base' w v L := by
 obtain ⟨a, c, e, hc, h2⟩ := h
 refine ⟨a, c, e, hc, h2.imp id ?_⟩
 rintro ⟨b, off, e2, hb', ht, h3⟩
 exact ⟨b, off, e2, Nat.le_trans hb hb', ht, h3⟩
theorem FrRow.ex (h : FrRow Q E base w v L) : ∃ a c, v = .slice a L.length c := by
 obtain ⟨a, c, e, _⟩ := h; exact ⟨a, c, e⟩
theorem FrRow.at {a : Option Addr} {n c k : Nat} (h : FrRow Q E base w (.slice a n c) L) (hk : k < n) : ∃ b off, a = some ⟨b, off, none⟩ ∧ typOf w b = some E ∧ FrC Q w b (off + k * 4) (L.getD k 0) := by
 obtain ⟨a', c', e, hc, h2⟩ := h
 obtain ⟨rfl, rfl, rfl⟩ := Value.slice.inj e
 rcases h2 with h2 | ⟨b, off, e2, hb, ht, h3⟩
 · subst h2; simp at hk
 · exact ⟨b, off, e2, ht, h3 k hk⟩
end
def FrOwn (Q : World → Value → Rat → Prop) (E : TypeId) (w0 wr : World) (v : Value) (L : List Rat) : Prop :=
 ∃ xs, OwnE E 4 w0 wr v L.length xs ∧ ∀ k, k < L.length → ∃ n1 a1 l1 c1 n2 a2 l2 c2, xs[k * 4]? = some (.bool n1) ∧ xs[k * 4 + 1]? = some (.slice a1 l1 c1) ∧ xs[k * 4 + 2]? = some (.bool n2) ∧ xs[k * 4 + 3]? = some (.slice a2 l2 c2) ∧ Q wr (.agg #[.bool n1, .slice a1 l1 c1, .bool n2, .slice a2 l2 c2]) (L.getD k 0)
section
variable {Q : World → Value → Rat → Prop} {E : TypeId} {w0 wr w' : World} {v : Value} {L : List Rat}
theorem FrOwn.nil (Q : World → Value → Rat → Prop) (E : TypeId) {w0 wr : World} (hb : Below w0.heap.size w0 wr) : FrOwn Q E w0 wr (.slice none 0 0) [] := ⟨[], OwnE.nil _ _ hb, fun k hk => absurd hk (by simp)⟩
theorem FrOwn.ex (h : FrOwn Q E w0 wr v L) : ∃ a c, v = .slice a L.length c := by obtain ⟨xs, h1, _⟩ := h; exact h1.ex
theorem FrOwn.bel (h : FrOwn Q E w0 wr v L) : Below w0.heap.size w0 wr := by obtain ⟨xs, h1, _⟩ := h; exact h1.2
theorem FrOwn.below (hQ : FrK Q) (h : FrOwn Q E w0 wr v L) (k : Below wr.heap.size wr w') : FrOwn Q E w0 w' v L := by
 obtain ⟨xs, h1, h2⟩ := h
 refine ⟨xs, h1.below k, fun j hj => ?_⟩
 obtain ⟨n1, a1, l1, c1, n2, a2, l2, c2, e0, e1, e2, e3, e4⟩ := h2 j hj
 exact ⟨n1, a1, l1, c1, n2, a2, l2, c2, e0, e1, e2, e3, hQ.keep e4 k⟩
theorem FrOwn.view (h : FrOwn Q E w0 wr v L) : ∃ a c, v = .slice a L.length c ∧ L.length ≤ c ∧ (L.length = 0 ∨ ∃ g, a = some ⟨g, 0, none⟩ ∧ w0.heap.size ≤ g ∧ Free wr g ∧ typOf wr g = some E ∧ ∀ k, k < L.length → FrC Q wr g (k * 4) (L.getD k 0)) := by
 obtain ⟨xs, ⟨⟨hl, h1⟩, _⟩, h2⟩ := h
 rcases h1 with ⟨rfl, h0⟩ | ⟨g, cap, cur, rfl, hg, hh, hc, hm, hs, ht⟩
 · exact ⟨none, 0, by rw [h0], by omega, .inl h0⟩
 · have hgt : typOf wr g = some E := by unfold typOf; rw [hh]
   refine ⟨_, cap, rfl, hc, .inr ⟨g, rfl, hg, ⟨typ_lt hgt, fun j => ?_⟩, hgt, fun k hk => ?_⟩⟩
   · simp [World.frozen?, hh]
   · obtain ⟨n1, a1, l1, c1, n2, a2, l2, c2, e0, e1, e2, e3, e4⟩ := h2 k hk
     have cel : ∀ j u, xs[j]? = some u → wr.cell? ⟨g, j, none⟩ = some u := fun j u hj => by
      have hj2 : j < L.length * 4 := by have := (List.getElem?_eq_some_iff.1 hj).1; omega
      rw [← ht, List.getElem?_take_of_lt (by omega)] at hj
      simpa [World.cell?, hh] using hj
     exact ⟨n1, a1, l1, c1, n2, a2, l2, c2, cel _ _ e0, cel _ _ e1, cel _ _ e2, cel _ _ e3, e4⟩
theorem FrOwn.row (h : FrOwn Q E w0 wr v L) : FrRow Q E w0.heap.size wr v L := by
 obtain ⟨a, c, e, hc, h2⟩ := h.view
 refine ⟨a, c, e, hc, ?_⟩
 rcases h2 with h2 | ⟨g, e2, hg, _, ht, h3⟩
 · exact .inl (List.length_eq_zero_iff.1 h2)
 · exact .inr ⟨g, 0, e2, hg, ht, fun k hk => by rw [Nat.zero_add]; exact h3 k hk⟩
theorem frOwn_snoc (hQ : FrK Q) {xs : List Value} {v' : Value} {n1 n2 : Bool} {a1 a2 : Option Addr} {l1 c1 l2 c2 : Nat} {q : Rat}
 (h2 : ∀ k, k < L.length → ∃ n1 a1 l1 c1 n2 a2 l2 c2, xs[k * 4]? = some (.bool n1) ∧ xs[k * 4 + 1]? = some (.slice a1 l1 c1) ∧ xs[k * 4 + 2]? = some (.bool n2) ∧ xs[k * 4 + 3]? = some (.slice a2 l2 c2) ∧ Q wr (.agg #[.bool n1, .slice a1 l1 c1, .bool n2, .slice a2 l2 c2]) (L.getD k 0)) (hl : xs.length = L.length * 4)
 (hv : Q wr (.agg #[.bool n1, .slice a1 l1 c1, .bool n2, .slice a2 l2 c2]) q) (hlim : Lim wr w') (hO : OwnE E 4 w0 w' v' (L.length + 1) (xs ++ [.bool n1, .slice a1 l1 c1, .bool n2, .slice a2 l2 c2])) : FrOwn Q E w0 w' v' (L ++ [q]) := by
 refine ⟨_, by rw [List.length_append]; exact hO, fun k hk => ?_⟩
 by_cases e : k < L.length
 · obtain ⟨m1, b1, x1, d1, m2, b2, x2, d2, e0, e1, e2, e3, e4⟩ := h2 k e
   refine ⟨m1, b1, x1, d1, m2, b2, x2, d2, ?_, ?_, ?_, ?_, ?_⟩
   · rw [List.getElem?_append_left (by omega)]; exact e0
   · rw [List.getElem?_append_left (by omega)]; exact e1
   · rw [List.getElem?_append_left (by omega)]; exact e2
   · rw [List.getElem?_append_left (by omega)]; exact e3
   · rw [List.getD_eq_getElem?_getD, List.getElem?_append_left e, ← List.getD_eq_getElem?_getD]; exact hQ.lim hlim e4
 · obtain rfl : k = L.length := by simp at hk; omega
   refine ⟨n1, a1, l1, c1, n2, a2, l2, c2, ?_, ?_, ?_, ?_, ?_⟩
   · rw [List.getElem?_append_right (by omega), hl]; simp
   · rw [List.getElem?_append_right (by omega), hl]; simp
   · rw [List.getElem?_append_right (by omega), hl]; simp
   · rw [List.getElem?_append_right (by omega), hl]; simp
   · rw [List.getD_eq_getElem?_getD, List.getElem?_append_right (Nat.le_refl _)]; simpa using hQ.lim hlim hv
end
section
variable {P : Program} {T E : TypeId} {bytes : Nat} {Q : World → Value → Rat → Prop} {ops : Array Oper} {o : Oper} {a : Act} {Z : Exit → Act → World → Prop} {w0 wr : World} {v : Value} {L : List Rat} {t : TypeId} {s x : Operand} {n1 n2 : Bool} {a1 a2 : Option Addr} {l1 c1 l2 c2 cc : Nat} {q : Rat}
theorem app_q {rest : List Oper} (el : Elt P T E 4 bytes) (hE : E ≠ 177) (hQ : FrK Q) (hgd : o.guard = none)
 (ho : o.op = .call { callee := .builtin .append, args := #[s, x], argTypes := #[T, T] }) (hO : FrOwn Q E w0 wr v L) (hv : Q wr (.agg #[.bool n1, .slice a1 l1 c1, .bool n2, .slice a2 l2 c2]) q) (hs : a.eval s = v)
 (hx : a.eval x = .slice (some ⟨wr.heap.size, 0, none⟩) 1 cc) (hn : L.length + 1 ≤ 1099511627776)
 (h : ∀ v' w', FrOwn Q E w0 w' v' (L ++ [q]) → Lim wr w' → Out (fun k => v.ownBlock = some k) wr w' → wpList P ops Z rest (a.put o.dst v') w') : wpList P ops Z (o :: rest) a (wr.alloc (.cells #[.bool n1, .slice a1 l1 c1, .bool n2, .slice a2 l2 c2] t)) := by
 obtain ⟨i, z0, hi, hz, hsize, hby, hzs⟩ := el.info
 obtain ⟨xs, h1, h2⟩ := hO
 have hb : (L.length + 1) * bytes ≤ 1099511627776 * 128 := Nat.mul_le_mul hn el.small
 refine wpList_append_own _ hgd s x T ho w0.heap.size E i z0 4 bytes el.ht hi hz hsize hby hzs el.pos v L.length xs hs (h1.1.alloc _) ⟨wr.heap.size, 0, none⟩ 1 cc [.bool n1, .slice a1 l1 c1, .bool n2, .slice a2 l2 c2] hx rfl (cells_new wr _ t) (fun u hu => by simp at hu; rcases hu with rfl | rfl | rfl | rfl <;> rfl) (by unfold maxLen; omega) (by omega) (by have := h1.2.size; simp; omega) ?_
 intro v' w' hown hg _
 have hl : Lim wr w' := ((Lim.refl wr).alloc _).grown hg fun g hg' ht => hE (by
  rw [typ_keep (own_typ h1 hg') (bal (Below.refl _ _) _)] at ht
  exact Option.some.inj ht)
 exact h v' w' (frOwn_snoc hQ h2 h1.1.1 hv hl ⟨hown, below_append (wr := wr) (bal h1.2 _) (h1.1.alloc _) hg⟩) hl (((Out.refl _ wr).alloc _).grown hg fun k hk _ => hk)
end
structure FrBlk (Q : World → Value → Rat → Prop) (E : TypeId) (w : World) (b n : Nat) (F : Nat → Rat) : Prop where
 ty : typOf w b = some E
 fr : Free w b
 at_ : ∀ k, k < n → FrC Q w b (k * 4) (F k)
section
variable {Q : World → Value → Rat → Prop} {E : TypeId} {w w' : World} {b n : Nat} {F G : Nat → Rat}
theorem FrBlk.congr (h : FrBlk Q E w b n F) (e : ∀ k, k < n → F k = G k) : FrBlk Q E w b n G := ⟨h.ty, h.fr, fun k hk => by rw [← e k hk]; exact h.at_ k hk⟩
theorem FrBlk.keep (hQ : FrK Q) (h : FrBlk Q E w b n F) (k : Below w.heap.size w w') : FrBlk Q E w' b n F := ⟨typ_keep h.ty k, h.fr.keep k, fun j hj => (h.at_ j hj).keep hQ k⟩
theorem FrBlk.put (hQ : FrK Q) (h : FrBlk Q E w b n F) {k : Nat} (hk : k < n) {n1 n2 : Bool} {a1 a2 : Option Addr} {l1 c1 l2 c2 : Nat} {q : Rat} (hv : Q w (.agg #[.bool n1, .slice a1 l1 c1, .bool n2, .slice a2 l2 c2]) q) :
 FrBlk Q E ((((w.setCell ⟨b, k * 4, none⟩ (.bool n1)).setCell ⟨b, k * 4 + 1, none⟩ (.slice a1 l1 c1)).setCell ⟨b, k * 4 + 2, none⟩ (.bool n2)).setCell ⟨b, k * 4 + 3, none⟩ (.slice a2 l2 c2)) b n (fun i => if i = k then q else F i) := by
 have hl := (h.at_ k hk).limS (.bool n1) (.slice a1 l1 c1) (.bool n2) (.slice a2 l2 c2)
 refine ⟨by rw [typ_set, typ_set, typ_set, typ_set]; exact h.ty, (((h.fr.set _ _).set _ _).set _ _).set _ _, fun i hi => ?_⟩
 by_cases e : i = k
 · subst e
   obtain ⟨m1, b1, x1, d1, m2, b2, x2, d2, e0, e1, e2, e3, e4⟩ := h.at_ i hi
   refine ⟨n1, a1, l1, c1, n2, a2, l2, c2, cell_far (cell_far (cell_far (cell_here e0 _) (by simp) _) (by simp) _) (by simp) _, cell_far (cell_far (cell_here (cell_far e1 (by simp) _) _) (by simp) _) (by simp) _, cell_far (cell_here (cell_far (cell_far e2 (by simp) _) (by simp) _) _) (by simp) _, cell_here (cell_far (cell_far (cell_far e3 (by simp) _) (by simp) _) (by simp) _) _, ?_⟩
   rw [if_pos rfl]; exact hQ.lim hl hv
 · obtain ⟨m1, b1, x1, d1, m2, b2, x2, d2, e0, e1, e2, e3, e4⟩ := h.at_ i hi
   have fa : ∀ {o : Nat} {u : Value} (r : Nat), r < 4 → o = i * 4 + r → w.cell? ⟨b, o, none⟩ = some u → ((((w.setCell ⟨b, k * 4, none⟩ (.bool n1)).setCell ⟨b, k * 4 + 1, none⟩ (.slice a1 l1 c1)).setCell ⟨b, k * 4 + 2, none⟩ (.bool n2)).setCell ⟨b, k * 4 + 3, none⟩ (.slice a2 l2 c2)).cell? ⟨b, o, none⟩ = some u := fun r hr ho h => by
    subst ho
    exact cell_far (cell_far (cell_far (cell_far h (by simp <;> omega) _) (by simp <;> omega) _) (by simp <;> omega) _) (by simp <;> omega) _
   refine ⟨m1, b1, x1, d1, m2, b2, x2, d2, fa 0 (by omega) rfl e0, fa 1 (by omega) rfl e1, fa 2 (by omega) rfl e2, fa 3 (by omega) rfl e3, ?_⟩
   rw [if_neg e]; exact hQ.lim hl e4
theorem FrBlk.row {c m : Nat} (h : FrBlk Q E w b n F) {L : List Rat} (hl : L.length = n) (hc : n ≤ c) (he : ∀ k, k < n → F k = L.getD k 0) : FrRow Q E 0 w (.slice (some ⟨b, 0, none⟩) n c) L :=
 ⟨_, c, by rw [hl], by omega, .inr ⟨b, 0, rfl, Nat.zero_le _, h.ty, fun k hk => by rw [Nat.zero_add, ← he k (by omega)]; exact h.at_ k (by omega)⟩⟩
end
end
end Go.Proofs.YtbmaffijncapiaaGreatDoor
