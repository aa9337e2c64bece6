/- Texts of this seat, laid together: IntM, MxL, MxM, MxN, MxO, Dec, TxtR, Jn, MwH, MwI, LimbD, FrA. Each opens with its own remark, which says what it proves, and under which conditions. -/
import Derived.Test.YtbmaffijncapiaaGreatDoorL13
import Derived.Test.YtbmaffijncapiaaGreatDoorL11
import Derived.Test.YtbmaffijncapiaaGreatDoorL07
import Derived.Deep.DeepFit
import Derived.Deep.DeepCutAuto
import Derived.Test.YtbmaffijncapiaaGreatDoorL14
import Derived.Test.YtbmaffijncapiaaGreatDoorL02
import Derived.Test.YtbmaffijncapiaaGreatDoorL03
import Derived.Laws.IdiomStrings
import Derived.Laws.BytesArg
import Derived.Deep.LoopGhost
import Derived.Shelf.Strings.OnBuilder
import Derived.Shelf.Small.Bits
set_option linter.unusedVariables false
set_option linter.unusedSimpArgs false
/- integer: Abs's value; Gcd. -/
namespace Go.Proofs.YtbmaffijncapiaaGreatDoor
open Num
open Go.ChangeShapes Go.WideShapes Go.ChangeAt Go.RowKit
set_option linter.unusedVariables false
set_option linter.unusedSimpArgs false
attribute [local go_sem ↓] Go.wp_at_zero Go.wp_at_succ
def gcdI (x y : Int) : Int := (Nat.gcd x.natAbs y.natAbs : Nat)
theorem gcdI_bd {k : Nat} {x y : Int} (hx : Bd k x) (hy : Bd k y) : Bd k (gcdI x y) := by
  unfold Bd gcdI at *
  rw [Int.natAbs_natCast]
  by_cases h : x.natAbs = 0
  · rw [h, Nat.gcd_zero_left]; exact hy
  · exact Nat.lt_of_le_of_lt (Nat.gcd_le_left _ (by omega)) hx
theorem gcd_step (m n : Nat) : Nat.gcd n (m % n) = Nat.gcd m n := by
  rw [Nat.gcd_comm n (m % n), ← Nat.gcd_rec n m, Nat.gcd_comm]
theorem tcell {W w1 : World} (hb : Below W.heap.size W w1) : ∀ b, b < W.heap.size → typOf w1 b = typOf W b := fun b h => typ_of_block (hb.block b h)
theorem typ_alloc_lt {w : World} {o : Obj} {b : Nat} (h : b < w.heap.size) : typOf (w.alloc o) b = typOf w b := typ_of_block ((bal (Below.refl _ _) o).block b h)
theorem typ_alloc_eq {w : World} {c : Array Value} {t : TypeId} {b : Nat} (h : b = w.heap.size) : typOf (w.alloc (.cells c t)) b = some t := typ_fresh h
theorem typ_drew (w : World) (b : Nat) : typOf w.drew b = typOf w b := rfl
theorem VarI.far {ub vb : Nat} {z m : Int} {W : World} (h : VarI ub m W) (k : VarI vb z W) (hne : ub ≠ vb) (x : Bool) (y : Option Addr) (p q : Nat) : VarI ub m ((W.setCell ⟨vb, 0, none⟩ (.bool x)).setCell ⟨vb, 1, none⟩ (.slice y p q)) := by
  obtain ⟨ht, n, a, ln, c, h0, h1, f0, f1, hi⟩ := h
  obtain ⟨-, n', a', ln', c', k0, k1, -, -, -⟩ := k
  exact ⟨by rw [typ_set, typ_set]; exact ht, n, a, ln, c, cell_far (cell_far h0 (addr_ne (Ne.symm hne)) _) (addr_ne (Ne.symm hne)) _, cell_far (cell_far h1 (addr_ne (Ne.symm hne)) _) (addr_ne (Ne.symm hne)) _, by rw [World.frozen?_setCell, World.frozen?_setCell]; exact f0, by rw [World.frozen?_setCell, World.frozen?_setCell]; exact f1, hi.put2 k0 k1 _ _⟩
theorem cell_far2 {W : World} {q o vb : Nat} {v : Value} (h : W.cell? ⟨q, o, none⟩ = some v) (hne : ¬ vb = q) (x : Bool) (y : Option Addr) (p r : Nat) : ((W.setCell ⟨vb, 0, none⟩ (.bool x)).setCell ⟨vb, 1, none⟩ (.slice y p r)).cell? ⟨q, o, none⟩ = some v :=
  cell_far (cell_far h (addr_ne hne) _) (addr_ne hne) _
set_option maxRecDepth 100000 in
set_option maxHeartbeats 1000000 in
theorem made_f (a : Option Addr) (ca k : Nat) (w : World) :
    Calls Tryz.prog 122 #[.bool false, .slice a k ca] w fun e w' => e = .returned (.agg #[.bool false, .slice a k ca]) ∧ Below w.heap.size w w' := by
  go_enter Tryz.func122, Tryz.ntmps122
  go_wp2
  refine bodyPost_ret (v := .agg #[.bool false, .slice a k ca]) (by simp [results, Tryz.results122, go_sem, *]) rfl ⟨rfl, ?_⟩
  repeat (first | exact Below.refl _ _ | exact Below.refl _ _ | refine Below.drew ?_ | refine below_drewN ?_ _ | refine bset ?_ (by simp <;> omega) _ | refine bal ?_ _)
set_option maxRecDepth 100000 in
set_option maxHeartbeats 2000000 in
theorem abs_v (n : Bool) (a : Option Addr) (c k : Nat) (w : World) :
    Calls Tryz.prog 224 #[.agg #[.bool n, .slice a k c]] w fun e w' => e = .returned (.agg #[.bool false, .slice a k c]) ∧ Below w.heap.size w w' := by
  have mc := fun W => made_f a c k W
  have hB0 := Below.refl w.heap.size w
  go_enter Tryz.func224, Tryz.ntmps224
  go_wp2_with fail
  refine (mc _).mono ?_
  rintro e w1 ⟨rfl, hb1⟩
  have r0 : w1.cell? ⟨w.heap.size + 1, 0, none⟩ = some (.bool false) := bkc hb1
  have zr0 := cell_lt r0
  have r0f : w1.frozen? ⟨w.heap.size + 1, 0, none⟩ = false := bkcf (v := .bool false) hb1
  have r1 : w1.cell? ⟨w.heap.size + 1, 1, none⟩ = some (.slice none 0 0) := bkc hb1
  have r1f : w1.frozen? ⟨w.heap.size + 1, 1, none⟩ = false := bkcf (v := .slice none 0 0) hb1
  have hB : Below w.heap.size w w1 := bthen (by repeat (first|exact bzR _ _|exact hB|refine bzD ?_|refine bzN ?_|refine bzS ?_|refine bzA ?_)) hb1
  have hz : w.heap.size ≤ w1.heap.size := hB.size
  go_wp2
  refine bodyPost_ret (v := .agg #[.bool false, .slice a k c]) (by simp [results, Tryz.results224, go_sem, *]) rfl ⟨rfl, ?_⟩
  repeat (first|exact bzR _ _|exact hB|refine bzD ?_|refine bzN ?_|refine bzS ?_|refine bzA ?_)
theorem IsInt.abs {w : World} {n : Bool} {a : Option Addr} {k c : Nat} {x : Int} (h : IsInt w (.agg #[.bool n, .slice a k c]) x) : IsInt w (.agg #[.bool false, .slice a k c]) (x.natAbs : Int) := by
  obtain ⟨n1, a1, c1, l1, e, u1, g1, s1, rfl⟩ := h
  unfold iv at e
  cases e
  exact ⟨false, a, c, l1, rfl, u1, g1, fun h => (by cases h), by rw [sg_abs]; rfl⟩
set_option maxRecDepth 100000 in
set_option maxHeartbeats 16000000 in
theorem gcdI_c (vx vy : Value) (x y : Int) (k : Nat) (w : World) (hx : IsInt w vx x) (hy : IsInt w vy y) (bx : Bd k x) (by' : Bd k y) (hk : k ≤ 17179869184) :
    Calls Tryz.prog 161 #[vx, vy] w fun e w' => (∃ u, e = .returned u ∧ IsInt w' u (gcdI x y)) ∧ Below w.heap.size w w' := by
  have HX := Lib.hid hx
  have HY := Lib.hid hy
  obtain ⟨nx, ax, cx, lx, rfl, -⟩ := hx
  obtain ⟨ny, ay, cy, ly, rfl, -⟩ := hy
  unfold iv at *
  obtain ⟨kx, hkx⟩ : ∃ m, lx.length = m := ⟨_, rfl⟩
  obtain ⟨ky, hky⟩ : ∃ m, ly.length = m := ⟨_, rfl⟩
  rw [hkx] at HX ⊢
  rw [hky] at HY ⊢
  clear hkx hky
  have HA := Lib.hid HX.out.abs
  have HB := Lib.hid HY.out.abs
  have HBD := Lib.hid (show x.natAbs < 2 ^ k ∧ y.natAbs < 2 ^ k from ⟨bx, by'⟩)
  unfold gcdI
  clear HX HY bx by'
  obtain ⟨m, hm⟩ : ∃ m, x.natAbs = m := ⟨_, rfl⟩
  obtain ⟨n, hn⟩ : ∃ n, y.natAbs = n := ⟨_, rfl⟩
  rw [hm] at HA HBD ⊢
  rw [hn] at HB HBD ⊢
  clear hm hn
  have hB := Below.refl w.heap.size w
  go_enter Tryz.func161, Tryz.ntmps161
  go_wp2
  refine wp_name fun w1 hW1 => ?_
  have hB1 : Below w.heap.size w w1 := by rw [hW1]; repeat (first|exact bzR _ _|exact hB|refine bzD ?_|refine bzN ?_|refine bzS ?_|refine bzA ?_)
  have hX1 : w1.cell? ⟨w.heap.size, 0, none⟩ = some (.bool nx) ∧ w1.cell? ⟨w.heap.size, 1, none⟩ = some (.slice ax kx cx) ∧ w1.cell? ⟨w.heap.size + 1, 0, none⟩ = some (.bool ny) ∧ w1.cell? ⟨w.heap.size + 1, 1, none⟩ = some (.slice ay ky cy) := by rw [hW1]; simp [go_sem]
  have HR1 := Lib.hid (show w1.cell? ⟨w.heap.size + 1 + 1, 0, none⟩ = some (.bool false) ∧ w1.cell? ⟨w.heap.size + 1 + 1, 1, none⟩ = some (.slice none 0 0) ∧ w1.frozen? ⟨w.heap.size + 1 + 1, 0, none⟩ = false ∧ w1.frozen? ⟨w.heap.size + 1 + 1, 1, none⟩ = false ∧ typOf w1 (w.heap.size + 1 + 1) = some 50 from by rw [hW1]; simp [go_sem]; exact typ_fresh (by simp))
  clear hW1
  obtain ⟨x0, x1, y0, y1⟩ := hX1
  have zx := cell_lt x0
  have zy := cell_lt y0
  have av := fun W => abs_v nx ax cx kx W
  have bv := fun W => abs_v ny ay cy ky W
  go_step3
  go_upto_region 1 with (fail)
  go_cut [5, 6] (fun s5 s6 wx => ∃ ab bb, s5 = .pointer (some ⟨ab, 0, none⟩) ∧ s6 = .pointer (some ⟨bb, 0, none⟩) ∧ ab ≠ bb ∧ w1.heap.size ≤ ab ∧ w1.heap.size ≤ bb ∧ Hid (VarI ab m wx) ∧ Hid (VarI bb n wx) ∧ Below w1.heap.size w1 wx)
  case first =>
    have hBj := Below.refl w1.heap.size w1
    have HS := Lib.hid (show ∀ W, Below w1.heap.size w1 W → W.cell? ⟨w.heap.size, 0, none⟩ = some (.bool nx) ∧ W.cell? ⟨w.heap.size, 1, none⟩ = some (.slice ax kx cx) ∧ W.cell? ⟨w.heap.size + 1, 0, none⟩ = some (.bool ny) ∧ W.cell? ⟨w.heap.size + 1, 1, none⟩ = some (.slice ay ky cy) from fun W q => ⟨bkeep q x0, bkeep q x1, bkeep q y0, bkeep q y1⟩)
    go_region_held3 (fun W => W.cell? ⟨w.heap.size, 0, none⟩ = some (.bool nx) ∧ W.cell? ⟨w.heap.size, 1, none⟩ = some (.slice ax kx cx) ∧ W.cell? ⟨w.heap.size + 1, 0, none⟩ = some (.bool ny) ∧ W.cell? ⟨w.heap.size + 1, 1, none⟩ = some (.slice ay ky cy))
      (first | (refine HS.out _ ?_; (repeat' (first | exact Below.refl _ _ | exact hBj | refine Below.drew ?_ | refine below_drewN ?_ _ | refine bal ?_ _ | refine bset ?_ ?_ _ | exact hla1 | exact Nat.le_trans hla1 (Nat.le_succ _) | exact hla2 | exact Nat.le_trans hla2 (Nat.le_succ _) | exact Nat.le_refl _ | exact Nat.le_succ _)); done) | fail)
      (first
      | (go_at_call 224; (with_reducible show Calls _ _ #[.agg #[.bool nx, _]] _ _); refine (av _).mono ?_; rintro e w11 ⟨rfl, hb11⟩; (have hBd : Below w1.heap.size w1 w11 := bthen (by repeat (first|exact bzR _ _|exact hBj|refine bzD ?_|refine bzN ?_|refine bzS ?_|refine bzA ?_)) hb11; clear hBj; have hBj := hBd; clear hBd); have hc11 := (bcell hb11).1; have hf11 := (bcell hb11).2; have ht11 := tcell hb11; have hla1 := hBj.size; have hs11 := hb11.size; (try simp [go_sem] at hs11); (try have qa : w1.heap.size < w11.heap.size := by omega); (try have qb : w1.heap.size + 1 < w11.heap.size := by omega); have zy11 := Nat.lt_of_lt_of_le zy hBj.size; have zy12 := Nat.lt_of_lt_of_le zx hBj.size)
      | (go_at_call 224; (with_reducible show Calls _ _ #[.agg #[.bool ny, _]] _ _); refine (bv _).mono ?_; rintro e w12 ⟨rfl, hb12⟩; (have hBd : Below w1.heap.size w1 w12 := bthen (by repeat (first|exact bzR _ _|exact hBj|refine bzD ?_|refine bzN ?_|refine bzS ?_|refine bzA ?_)) hb12; clear hBj; have hBj := hBd; clear hBd); have hc12 := (bcell hb12).1; have hf12 := (bcell hb12).2; have ht12 := tcell hb12; have hla2 := hBj.size; have hs12 := hb12.size; (try simp [go_sem] at hs12); (try have qc : w11.heap.size < w12.heap.size := by omega); (try have qd : w11.heap.size + 1 < w12.heap.size := by omega); (try have qe : w1.heap.size < w12.heap.size := by omega); (try have qf : w1.heap.size + 1 < w12.heap.size := by omega))
      | fail)
    all_goals
      go_wp2_with fail
      go_meet
      refine (fun hbx => ⟨_, _, rfl, rfl, by omega, by omega, by omega, Lib.hid ⟨?_, false, ax, kx, cx, ?_, ?_, ?_, ?_, HA.out.keep (bthen hB1 hbx)⟩, Lib.hid ⟨?_, false, ay, ky, cy, ?_, ?_, ?_, ?_, HB.out.keep (bthen hB1 hbx)⟩, hbx⟩ : Below w1.heap.size w1 _ → _) ?_
      all_goals first
        | (simp (disch := (first | (simp; done) | (simp; omega) | omega)) only [typ_set, typ_alloc_eq, typ_alloc_lt, ht12, ht11, typ_drew]; done)
        | (simp [go_sem, *]; done)
        | ((repeat' (first | exact Below.refl _ _ | exact hBj | refine Below.drew ?_ | refine below_drewN ?_ _ | refine bal ?_ _ | refine bset ?_ ?_ _ | exact hla1 | exact Nat.le_trans hla1 (Nat.le_succ _) | exact hla2 | exact Nat.le_trans hla2 (Nat.le_succ _) | exact Nat.le_refl _ | exact Nat.le_succ _)); done)
        | ((repeat (refine cell_far ?_ ?b _; case b => (first | (simp; done) | (simp; omega)))); (first | (refine cell_here (v := .bool false) ?_ _; (repeat (refine cell_far ?_ ?b _; case b => (first | (simp; done) | (simp; omega)))); (simp [go_sem, *]; done)) | (refine cell_here (v := .slice none 0 0) ?_ _; (repeat (refine cell_far ?_ ?b _; case b => (first | (simp; done) | (simp; omega)))); (simp [go_sem, *]; done))))
  case rest =>
    obtain ⟨ab, bb, rfl, rfl, hne, hla, hlb, hA, hBv, hbx⟩ := hcut
    have hb1c : Below w.heap.size w wc := bthen hB1 hbx
    have hrl : w.heap.size + 1 + 1 < w1.heap.size := cell_lt HR1.out.1
    have HR := Lib.hid (show wc.cell? ⟨w.heap.size + 1 + 1, 0, none⟩ = some (.bool false) ∧ wc.cell? ⟨w.heap.size + 1 + 1, 1, none⟩ = some (.slice none 0 0) ∧ wc.frozen? ⟨w.heap.size + 1 + 1, 0, none⟩ = false ∧ wc.frozen? ⟨w.heap.size + 1 + 1, 1, none⟩ = false from ⟨bkeep hbx HR1.out.1, bkeep hbx HR1.out.2.1, bkeepf hbx HR1.out.1 HR1.out.2.2.1, bkeepf hbx HR1.out.2.1 HR1.out.2.2.2.1⟩)
    have hws : w.heap.size ≤ w1.heap.size := hB1.size
    have H0 := Lib.hid (show VarI ab m wc ∧ VarI bb n wc ∧ Nat.gcd m n = Nat.gcd m n ∧ m < 2 ^ k ∧ n < 2 ^ k from ⟨hA.out, hBv.out, rfl, HBD.out.1, HBD.out.2⟩)
    clear av bv x0 x1 y0 y1 zx zy HR1 hB1 hbx hA hBv HA HB HBD hB
    go_wp2
    go_step3
    go_wp2
    go_loopg [] n (fun gk wr => ∃ m' : Nat, Hid (VarI ab m' wr ∧ VarI bb gk wr ∧ Nat.gcd m' gk = Nat.gcd m n ∧ m' < 2 ^ k ∧ gk < 2 ^ k) ∧ Hid (wr.cell? ⟨w.heap.size + 1 + 1, 0, none⟩ = some (.bool false) ∧ wr.cell? ⟨w.heap.size + 1 + 1, 1, none⟩ = some (.slice none 0 0) ∧ wr.frozen? ⟨w.heap.size + 1 + 1, 0, none⟩ = false ∧ wr.frozen? ⟨w.heap.size + 1 + 1, 1, none⟩ = false) ∧ Below w.heap.size w wr)
    case atStart => exact ⟨m, Lib.hid ⟨H0.out.1, H0.out.2.1, rfl, H0.out.2.2.2.1, H0.out.2.2.2.2⟩, HR, hb1c⟩
    case round =>
      obtain ⟨m', H, HR, hBr⟩ := hrel
      obtain ⟨-, n1, a1, l1, c1, a0, a1', -, -, aI⟩ := H.out.1
      obtain ⟨-, n2, a2, l2, c2, b0, b1, b0f, b1f, bI⟩ := H.out.2.1
      have HAI := Lib.hid aI
      have HBI := Lib.hid bI
      have sc := fun W (q : Below wr.heap.size wr W) => sign_c _ _ W (HBI.out.keep q)
      have za := cell_lt a0
      have zb := cell_lt b0
      have hBw := Below.refl wr.heap.size wr
      clear aI bI
      by_cases h0 : gk = 0
      · subst h0
        have hG : (m' : Int) = (Nat.gcd m n : Nat) := by rw [← H.out.2.2.1, Nat.gcd_zero_right]
        rw [show ((0 : Nat) : Int).sign = 0 from rfl] at sc
        go_wp2_with fail
        refine (sc _ (by repeat (first|exact bzR _ _|exact hBw|refine bzD ?_|refine bzN ?_|refine bzS ?_|refine bzA ?_))).mono ?_
        rintro e w5 ⟨rfl, hb5⟩
        have hb5' : Below wr.heap.size wr w5 := bthen (by repeat (first|exact bzR _ _|exact hBw|refine bzD ?_|refine bzN ?_|refine bzS ?_|refine bzA ?_)) hb5
        have r0f := bkeepf hb5' HR.out.1 HR.out.2.2.1
        have r1f := bkeepf hb5' HR.out.2.1 HR.out.2.2.2
        have r0 := bkeep hb5' HR.out.1
        have r1 := bkeep hb5' HR.out.2.1
        have a05 := bkeep hb5' a0
        have a15 := bkeep hb5' a1'
        have hp := Lib.hid ((HAI.out.keep hb5').put2 r0 r1 (.bool n1) (.slice a1 l1 c1))
        rw [hG] at hp
        have hB5 := bthen hBr hb5'
        clear sc H b0 b1 b0f b1f HBI a0 a1'
        go_wp2
        rw [Exit.noGoto_ret]
        refine bodyPost_ret (v := .agg #[.bool n1, .slice a1 l1 c1]) (by simp [results, Tryz.results161, go_sem, *]) rfl ⟨⟨_, rfl, hp.out⟩, ?_⟩
        repeat (first|exact bzR _ _|exact hB5|refine bzD ?_|refine bzN ?_|refine bzS ?_|refine bzA ?_)
      · obtain ⟨sg, hsg, hsgE⟩ : ∃ q : Int, q ≠ 0 ∧ (gk : Int).sign = q := ⟨_, (fun e => h0 (by have := Int.sign_eq_zero_iff_zero.1 e; omega)), rfl⟩
        rw [hsgE] at sc
        have hsb : (sg != 0) = true := by simpa using hsg
        have HM := Lib.hid h0
        have HBD := Lib.hid (And.intro H.out.2.2.2.1 (And.intro H.out.2.2.2.2 H.out.2.2.1))
        have HV := Lib.hid (And.intro H.out.1 H.out.2.1)
        clear hsgE hsg h0 H
        go_wp2_with fail
        refine (sc _ (by repeat (first|exact bzR _ _|exact hBw|refine bzD ?_|refine bzN ?_|refine bzS ?_|refine bzA ?_))).mono ?_
        rintro e w5 ⟨rfl, hb5⟩
        have hb5' : Below wr.heap.size wr w5 := bthen (by repeat (first|exact bzR _ _|exact hBw|refine bzD ?_|refine bzN ?_|refine bzS ?_|refine bzA ?_)) hb5
        have a05 := bkeep hb5' a0
        have a15 := bkeep hb5' a1'
        have b05 := bkeep hb5' b0
        have b15 := bkeep hb5' b1
        have HV5 := Lib.hid (And.intro (HV.out.1.keep hb5') (HV.out.2.keep hb5'))
        have HR5 := Lib.hid (show w5.cell? ⟨w.heap.size + 1 + 1, 0, none⟩ = some (.bool false) ∧ w5.cell? ⟨w.heap.size + 1 + 1, 1, none⟩ = some (.slice none 0 0) ∧ w5.frozen? ⟨w.heap.size + 1 + 1, 0, none⟩ = false ∧ w5.frozen? ⟨w.heap.size + 1 + 1, 1, none⟩ = false from ⟨bkeep hb5' HR.out.1, bkeep hb5' HR.out.2.1, bkeepf hb5' HR.out.1 HR.out.2.2.1, bkeepf hb5' HR.out.2.1 HR.out.2.2.2⟩)
        have dc := fun W (q : Below w5.heap.size w5 W) => divmod_c _ _ (m' : Int) (gk : Int) k W ((HAI.out.keep hb5').keep q) ((HBI.out.keep hb5').keep q) (by unfold Bd; rw [Int.natAbs_natCast]; exact HBD.out.1) (by unfold Bd; rw [Int.natAbs_natCast]; exact HBD.out.2.1) hk (by have := HM.out; omega)
        rw [show ((m' : Int) % (gk : Int)) = ((m' % gk : Nat) : Int) from (Int.natCast_emod m' gk).symm] at dc
        have hB5 := bthen hBr hb5'
        have za5 := cell_lt a05
        have zb5 := cell_lt b05
        have hBw5 := Below.refl w5.heap.size w5
        clear sc HV HR a0 a1' b0 b1 b0f b1f za zb hb5 hBr hBw
        go_wp2_with fail
        refine (dc _ (by repeat (first|exact bzR _ _|exact hBw5|refine bzD ?_|refine bzN ?_|refine bzS ?_|refine bzA ?_))).mono ?_
        rintro e w6 ⟨⟨u6, r6, rfl, hu6, hr6⟩, hb6⟩
        have hb6' : Below w5.heap.size w5 w6 := bthen (by repeat (first|exact bzR _ _|exact hBw5|refine bzD ?_|refine bzN ?_|refine bzS ?_|refine bzA ?_)) hb6
        have HR6 := Lib.hid hr6
        obtain ⟨n7, a7, c7, l7, rfl, -⟩ := hu6
        obtain ⟨n8, a8, c8, l8, rfl, -⟩ := hr6
        unfold iv at *
        have HV6 := Lib.hid (And.intro (HV5.out.1.keep hb6') (HV5.out.2.keep hb6'))
        have HRR6 := Lib.hid (show w6.cell? ⟨w.heap.size + 1 + 1, 0, none⟩ = some (.bool false) ∧ w6.cell? ⟨w.heap.size + 1 + 1, 1, none⟩ = some (.slice none 0 0) ∧ w6.frozen? ⟨w.heap.size + 1 + 1, 0, none⟩ = false ∧ w6.frozen? ⟨w.heap.size + 1 + 1, 1, none⟩ = false from ⟨bkeep hb6' HR5.out.1, bkeep hb6' HR5.out.2.1, bkeepf hb6' HR5.out.1 HR5.out.2.2.1, bkeepf hb6' HR5.out.2.1 HR5.out.2.2.2⟩)
        have hB6 := bthen hB5 hb6'
        clear dc a05 a15 b05 b15 HV5 HR5 za5 zb5 hb5' hb6 hB5 hBw5
        have hBw6 := Below.refl w6.heap.size w6
        go_wp2
        refine wp_name fun w7 hW7 => ?_
        have hb7 : Below w6.heap.size w6 w7 := by rw [hW7]; repeat (first|exact bzR _ _|exact hBw6|refine bzD ?_|refine bzN ?_|refine bzS ?_|refine bzA ?_)
        have HC7 := Lib.hid (show VarI (w6.heap.size + 1) ((m' % gk : Nat) : Int) w7 from by rw [hW7]; exact ⟨typ_fresh (by simp), n8, a8, l8.length, c8, by simp [go_sem], by simp [go_sem], by simp [go_sem], by simp [go_sem], HR6.out.keep (bal (bal (Below.refl _ _) _) _)⟩)
        have hs7 : w6.heap.size + 1 < w7.heap.size := typ_lt HC7.out.1
        have HV7 := Lib.hid (And.intro (HV6.out.1.keep hb7) (HV6.out.2.keep hb7))
        have HRR7 := Lib.hid (show w7.cell? ⟨w.heap.size + 1 + 1, 0, none⟩ = some (.bool false) ∧ w7.cell? ⟨w.heap.size + 1 + 1, 1, none⟩ = some (.slice none 0 0) ∧ w7.frozen? ⟨w.heap.size + 1 + 1, 0, none⟩ = false ∧ w7.frozen? ⟨w.heap.size + 1 + 1, 1, none⟩ = false from ⟨bkeep hb7 HRR6.out.1, bkeep hb7 HRR6.out.2.1, bkeepf hb7 HRR6.out.1 HRR6.out.2.2.1, bkeepf hb7 HRR6.out.2.1 HRR6.out.2.2.2⟩)
        have hB7 := bthen hB6 hb7
        have hxa : ab < w6.heap.size := typ_lt HV6.out.1.1
        have hxb : bb < w6.heap.size := typ_lt HV6.out.2.1
        clear hW7 HV6 HRR6 HR6 hBw6 hb6' hB6 hb7
        obtain ⟨cb, hcb⟩ : ∃ c, w6.heap.size + 1 = c := ⟨_, rfl⟩
        rw [hcb] at HC7 hs7 ⊢
        have hac : ab < cb := by omega
        have hbc : bb < cb := by omega
        clear hcb hxa hxb
        obtain ⟨-, m1, m2, m3, m4, q0, q1, q0f, q1f, qI⟩ := HV7.out.1
        obtain ⟨-, o1, o2, o3, o4, p0, p1, p0f, p1f, pI⟩ := HV7.out.2
        obtain ⟨-, s1, s2, s3, s4, t0, t1, t0f, t1f, tI⟩ := HC7.out
        have HPI := Lib.hid pI
        have HTI := Lib.hid tI
        have zq := cell_lt q0
        have zp := cell_lt p0
        clear qI pI tI
        go_region
        all_goals
          have HA1 := HV7.out.1.put HPI.out
          have HB1' := HV7.out.2.far HV7.out.1 (Ne.symm hne) o1 o2 o3 o4
          have HC1 := HC7.out.far HV7.out.1 (Ne.symm (Nat.ne_of_lt hac)) o1 o2 o3 o4
          have HT1 := HTI.out.put2 q0 q1 (.bool o1) (.slice o2 o3 o4)
          have HB2 := HB1'.put HT1
          have HA2 := HA1.far HB1' hne s1 s2 s3 s4
          have hnab : ¬ ab = w.heap.size + 1 + 1 := by omega
          have hnbb : ¬ bb = w.heap.size + 1 + 1 := by omega
          have hr0 := cell_far2 (cell_far2 HRR7.out.1 hnab o1 o2 o3 o4) hnbb s1 s2 s3 s4
          have hr1 := cell_far2 (cell_far2 HRR7.out.2.1 hnab o1 o2 o3 o4) hnbb s1 s2 s3 s4
          have HN := Lib.hid (And.intro HA2 (And.intro HB2 (And.intro hr0 hr1)))
          have hab : w.heap.size ≤ ab := by omega
          have hbb : w.heap.size ≤ bb := by omega
          have hBN : Below w.heap.size w ((((w7.setCell ⟨ab, 0, none⟩ (.bool o1)).setCell ⟨ab, 1, none⟩ (.slice o2 o3 o4)).setCell ⟨bb, 0, none⟩ (.bool s1)).setCell ⟨bb, 1, none⟩ (.slice s2 s3 s4)) := bset (bset (bset (bset hB7 hab _) hab _) hbb _) hbb _
          clear HA1 HB1' HC1 HT1 HB2 HA2 hr0 hr1 q0 q1 q0f q1f p0 p1 p0f p1f t0 t1 t0f t1f
          go_wp2
          go_roundg (m' % gk)
          case measure => exact Nat.mod_lt _ (Nat.pos_of_ne_zero HM.out)
          case rel => exact ⟨gk, Lib.hid ⟨HN.out.1.keep (Below.refl _ _).drew, HN.out.2.1.keep (Below.refl _ _).drew, by rw [gcd_step, HBD.out.2.2], HBD.out.2.1, Nat.lt_of_lt_of_le (Nat.mod_lt _ (Nat.pos_of_ne_zero HM.out)) (Nat.le_of_lt HBD.out.2.1)⟩, Lib.hid ⟨HN.out.2.2.1, HN.out.2.2.2, by show (World.drew _).frozen? _ = false; rw [show ∀ W : World, ∀ p, W.drew.frozen? p = W.frozen? p from fun _ _ => rfl, World.frozen?_setCell, World.frozen?_setCell, World.frozen?_setCell, World.frozen?_setCell]; exact HRR7.out.2.2.1, by show (World.drew _).frozen? _ = false; rw [show ∀ W : World, ∀ p, W.drew.frozen? p = W.frozen? p from fun _ _ => rfl, World.frozen?_setCell, World.frozen?_setCell, World.frozen?_setCell, World.frozen?_setCell]; exact HRR7.out.2.2.2⟩, hBN.drew⟩
end Go.Proofs.YtbmaffijncapiaaGreatDoor

/- matrix: Adjugate's function value. -/
namespace Go.Proofs.YtbmaffijncapiaaGreatDoor
open Num
open Go.ChangeShapes Go.WideShapes Go.ChangeAt Go.RowKit
set_option linter.unusedVariables false
set_option linter.unusedSimpArgs false
attribute [local go_sem ↓] Go.wp_at_zero Go.wp_at_succ
end Go.Proofs.YtbmaffijncapiaaGreatDoor

/- matrix: Det, Adjugate; row: Content. -/
namespace Go.Proofs.YtbmaffijncapiaaGreatDoor
open Num
open Go.ChangeShapes Go.WideShapes Go.ChangeAt Go.RowKit
set_option linter.unusedVariables false
set_option linter.unusedSimpArgs false
attribute [local go_sem ↓] Go.wp_at_zero Go.wp_at_succ
end Go.Proofs.YtbmaffijncapiaaGreatDoor

/- matrix: Inverse's function value. -/
namespace Go.Proofs.YtbmaffijncapiaaGreatDoor
open Num
open Go.ChangeShapes Go.WideShapes Go.ChangeAt Go.RowKit
set_option linter.unusedVariables false
set_option linter.unusedSimpArgs false
attribute [local go_sem ↓] Go.wp_at_zero Go.wp_at_succ
end Go.Proofs.YtbmaffijncapiaaGreatDoor

/- matrix: Inverse. -/
namespace Go.Proofs.YtbmaffijncapiaaGreatDoor
open Num
open Go.ChangeShapes Go.WideShapes Go.ChangeAt Go.RowKit
set_option linter.unusedVariables false
set_option linter.unusedSimpArgs false
attribute [local go_sem ↓] Go.wp_at_zero Go.wp_at_succ
theorem prow_out {base : Nat} {w w' : World} {v : Value} {l : List Int} {X : Nat → Prop} (h : PRow base w v l) (ho : Out X w w') (hx : ∀ k, base ≤ k → ¬ X k) (hl : Lim w w') : PRow base w' v l := by
  obtain ⟨a, c, e, h1, h2, h3⟩ := h
  refine ⟨a, c, e, h1, h2, ?_⟩
  rcases h3 with h3 | ⟨b, off, e2, hb, ht, hi⟩
  · exact .inl h3
  · exact .inr ⟨b, off, e2, hb, by rw [typ_of_block (w := w) (ho.block b (typ_lt ht) (hx b hb))]; exact ht, hi.out lims_int ho (hx b hb) hl⟩
theorem IsM.out {base : Nat} {w w' : World} {v : Value} {g : Grid} {X : Nat → Prop} (h : IsM base w v g) (ho : Out X w w') (hx : ∀ k, base ≤ k → ¬ X k) (hl : Lim w w') : IsM base w' v g := by
  obtain ⟨a, c, e, a', c', e2, h1, h2, h3⟩ := h
  refine ⟨a, c, e, a', c', e2, h1, h2, ?_⟩
  rcases h3 with h3 | ⟨b, off, e2, hb, ht, hi⟩
  · exact .inl h3
  · refine .inr ⟨b, off, e2, hb, by rw [typ_of_block (w := w) (ho.block b (typ_lt ht) (hx b hb))]; exact ht, fun k hk => ?_⟩
    obtain ⟨u, hu, hp⟩ := hi k hk
    exact ⟨u, okeep ho hu (hx b hb), prow_out hp ho hx hl⟩
structure InvB (w w1 : World) (ag : Option Addr) (N cg : Nat) (bv : Value) (db gb : Nat) (d S : Int) (W : World) : Prop where
  g : VarI gb S W
  dd : VarI db d W
  m0 : W.cell? ⟨w.heap.size, 0, none⟩ = some (.slice ag N cg)
  r0 : W.cell? ⟨w.heap.size + 1, 0, none⟩ = some (.slice none 0 0)
  r0f : W.frozen? ⟨w.heap.size + 1, 0, none⟩ = false
  s0 : W.cell? ⟨w.heap.size + 1 + 1, 0, none⟩ = some (.bool false)
  s1 : W.cell? ⟨w.heap.size + 1 + 1, 1, none⟩ = some (.slice none 0 0)
  s0f : W.frozen? ⟨w.heap.size + 1 + 1, 0, none⟩ = false
  s1f : W.frozen? ⟨w.heap.size + 1 + 1, 1, none⟩ = false
  b5 : W.cell? ⟨w1.heap.size, 0, none⟩ = some bv
  b1 : Below w1.heap.size w1 W
  bel : Below w.heap.size w W
section
variable {w w1 : World} {ag : Option Addr} {N cg : Nat} {bv : Value} {db gb : Nat} {d S : Int} {W W' : World}
theorem InvB.keep (h : InvB w w1 ag N cg bv db gb d S W) (k : Below W.heap.size W W') : InvB w w1 ag N cg bv db gb d S W' :=
  ⟨h.g.keep k, h.dd.keep k, bkeep k h.m0, bkeep k h.r0, bkeepf k h.r0 h.r0f, bkeep k h.s0, bkeep k h.s1, bkeepf k h.s0 h.s0f, bkeepf k h.s1 h.s1f, bkeep k h.b5, bthen h.b1 k, bthen h.bel k⟩
end
end Go.Proofs.YtbmaffijncapiaaGreatDoor

/- Plain: decimal digits, low one first; nine at a time; a number's text. -/
namespace Go.Proofs.YtbmaffijncapiaaGreatDoor.Num
def lowD : Nat → List Nat
  | 0 => []
  | n + 1 => (n + 1) % 10 :: lowD ((n + 1) / 10)
decreasing_by omega
theorem lowD_zero : lowD 0 = [] := by rw [lowD]
theorem lowD_pos {n : Nat} (h : 0 < n) : lowD n = n % 10 :: lowD (n / 10) := by
  cases n with
  | zero => omega
  | succ n => rw [lowD]
theorem lowD_lt (n : Nat) : ∀ d ∈ lowD n, d < 10 := by
  induction n using Nat.strongRecOn with
  | _ n ih =>
    intro d hd
    by_cases h : 0 < n
    · rw [lowD_pos h] at hd
      rcases List.mem_cons.1 hd with rfl | hd
      · omega
      · exact ih (n / 10) (by omega) d hd
    · obtain rfl : n = 0 := by omega
      rw [lowD_zero] at hd; cases hd
theorem lowD_ne {n : Nat} (h : 0 < n) : lowD n ≠ [] := by rw [lowD_pos h]; simp
theorem lowD_len (k : Nat) : ∀ n, n < 2 ^ k → (lowD n).length ≤ k := by
  induction k with
  | zero => intro n h; obtain rfl : n = 0 := by simpa using h
            rw [lowD_zero]; simp
  | succ k ih =>
    intro n h
    by_cases h0 : 0 < n
    · rw [lowD_pos h0]
      have := ih (n / 10) (by rw [Nat.pow_succ] at h; omega)
      simp; exact this
    · obtain rfl : n = 0 := by omega
      rw [lowD_zero]; simp
def padD : Nat → Nat → List Nat
  | 0, _ => []
  | k + 1, n => n % 10 :: padD k (n / 10)
theorem padD_len (k n : Nat) : (padD k n).length = k := by
  induction k generalizing n with
  | zero => rfl
  | succ k ih => simp [padD, ih]
theorem padD_snoc (k n : Nat) : padD (k + 1) n = padD k n ++ [n / 10 ^ k % 10] := by
  induction k generalizing n with
  | zero => simp [padD]
  | succ k ih =>
    rw [padD, ih (n / 10)]
    show _ = (n % 10 :: padD k (n / 10)) ++ _
    rw [List.cons_append, Nat.div_div_eq_div_mul, Nat.pow_succ, Nat.mul_comm 10]
theorem lowD_split (k : Nat) : ∀ n, 10 ^ k ≤ n → lowD n = padD k n ++ lowD (n / 10 ^ k) := by
  induction k with
  | zero => intro n _; simp [padD]
  | succ k ih =>
    intro n h
    have hp : 0 < 10 ^ k := Nat.pow_pos (by omega)
    rw [Nat.pow_succ] at h
    have hn : 0 < n := by omega
    rw [lowD_pos hn, ih (n / 10) (by rw [Nat.le_div_iff_mul_le (by omega)]; exact h), padD, Nat.div_div_eq_div_mul, Nat.pow_succ, Nat.mul_comm 10]
    rfl
theorem padD_low (k : Nat) : ∀ n, n < 10 ^ k → padD k n = lowD n ++ List.replicate (k - (lowD n).length) 0 ∧ (lowD n).length ≤ k := by
  induction k with
  | zero =>
    intro n h
    obtain rfl : n = 0 := by simpa using h
    simp [padD, lowD_zero]
  | succ k ih =>
    intro n h
    have h2 : n / 10 < 10 ^ k := by rw [Nat.pow_succ] at h; omega
    obtain ⟨e, hl⟩ := ih (n / 10) h2
    by_cases h0 : 0 < n
    · rw [padD, e, lowD_pos h0]
      refine ⟨?_, by simpa using hl⟩
      simp
    · obtain rfl : n = 0 := by omega
      rw [padD, e]
      simp [lowD_zero, List.replicate_succ]
theorem padD_mod (k : Nat) : ∀ n, padD k (n % 10 ^ k) = padD k n := by
  induction k with
  | zero => intro n; rfl
  | succ k ih =>
    intro n
    rw [padD, padD]
    have e1 : n % 10 ^ (k + 1) % 10 = n % 10 := by
      rw [Nat.pow_succ, Nat.mul_comm]
      exact Nat.mod_mul_right_mod n 10 (10 ^ k)
    have e2 : n % 10 ^ (k + 1) / 10 = n / 10 % 10 ^ k := by
      rw [Nat.pow_succ, Nat.mul_comm]
      exact Nat.mod_mul_right_div_self n 10 (10 ^ k)
    rw [e1, e2, ih]
def pcs : Nat → List Nat
  | 0 => []
  | n + 1 => (n + 1) % 1000000000 :: pcs ((n + 1) / 1000000000)
decreasing_by omega
theorem pcs_zero : pcs 0 = [] := by rw [pcs]
theorem pcs_pos {n : Nat} (h : 0 < n) : pcs n = n % 1000000000 :: pcs (n / 1000000000) := by
  cases n with
  | zero => omega
  | succ n => rw [pcs]
theorem pcs_lt (n : Nat) : ∀ d ∈ pcs n, d < 1000000000 := by
  induction n using Nat.strongRecOn with
  | _ n ih =>
    intro d hd
    by_cases h : 0 < n
    · rw [pcs_pos h] at hd
      rcases List.mem_cons.1 hd with rfl | hd
      · omega
      · exact ih (n / 1000000000) (by omega) d hd
    · obtain rfl : n = 0 := by omega
      rw [pcs_zero] at hd; cases hd
theorem pcs_ne {n : Nat} (h : 0 < n) : pcs n ≠ [] := by rw [pcs_pos h]; simp
def lowP : List Nat → List Nat
  | [] => []
  | [p] => lowD p
  | p :: q :: l => padD 9 p ++ lowP (q :: l)
theorem lowP_pcs (n : Nat) : lowP (pcs n) = lowD n := by
  induction n using Nat.strongRecOn with
  | _ n ih =>
    by_cases h : 0 < n
    · rw [pcs_pos h]
      by_cases h2 : 0 < n / 1000000000
      · have e := ih (n / 1000000000) (by omega)
        rw [pcs_pos h2] at e ⊢
        rw [lowP, e, lowD_split 9 n (by omega)]
        have := padD_mod 9 n
        rw [show (10 : Nat) ^ 9 = 1000000000 from rfl] at *
        rw [this]
      · have h3 : n / 1000000000 = 0 := by omega
        rw [h3, pcs_zero, lowP, Nat.mod_eq_of_lt (by omega)]
    · obtain rfl : n = 0 := by omega
      rw [pcs_zero, lowD_zero]; rfl
theorem pcs_last (n : Nat) : ∀ h : pcs n ≠ [], 0 < (pcs n).getLast h := by
  induction n using Nat.strongRecOn with
  | _ n ih =>
    intro h
    have hn : 0 < n := by
      rcases Nat.eq_zero_or_pos n with rfl | h'
      · exact absurd pcs_zero h
      · exact h'
    by_cases h2 : 0 < n / 1000000000
    · have h3 := ih (n / 1000000000) (by omega) (pcs_ne h2)
      have e : (pcs n).getLast h = (pcs (n / 1000000000)).getLast (pcs_ne h2) := by
        have : ∀ l (hl : l ≠ []), l = n % 1000000000 :: pcs (n / 1000000000) → l.getLast hl = (pcs (n / 1000000000)).getLast (pcs_ne h2) := by
          intro l hl el; subst el; exact List.getLast_cons (pcs_ne h2)
        exact this _ h (pcs_pos hn)
      rw [e]; exact h3
    · have e : (pcs n).getLast h = n % 1000000000 := by
        have : ∀ l (hl : l ≠ []), l = [n % 1000000000] → l.getLast hl = n % 1000000000 := by
          intro l hl el; subst el; rfl
        exact this _ h (by rw [pcs_pos hn, show n / 1000000000 = 0 by omega, pcs_zero])
      rw [e]
      have : n < 1000000000 := by omega
      rw [Nat.mod_eq_of_lt this]; exact hn
def asc (l : List Nat) : List UInt8 := l.reverse.map fun d => UInt8.ofNat (48 + d)
theorem asc_append (l m : List Nat) : asc (l ++ m) = asc m ++ asc l := by simp [asc]
theorem lowD_last (n : Nat) : ∀ h : lowD n ≠ [], 0 < (lowD n).getLast h := by
  induction n using Nat.strongRecOn with
  | _ n ih =>
    intro h
    have hn : 0 < n := by
      rcases Nat.eq_zero_or_pos n with rfl | h'
      · exact absurd lowD_zero h
      · exact h'
    by_cases h2 : 0 < n / 10
    · have h3 := ih (n / 10) (by omega) (lowD_ne h2)
      have e : (lowD n).getLast h = (lowD (n / 10)).getLast (lowD_ne h2) := by
        have : ∀ l (hl : l ≠ []), l = n % 10 :: lowD (n / 10) → l.getLast hl = (lowD (n / 10)).getLast (lowD_ne h2) := by
          intro l hl el; subst el; exact List.getLast_cons (lowD_ne h2)
        exact this _ h (lowD_pos hn)
      rw [e]; exact h3
    · have e : (lowD n).getLast h = n % 10 := by
        have : ∀ l (hl : l ≠ []), l = [n % 10] → l.getLast hl = n % 10 := by
          intro l hl el; subst el; rfl
        exact this _ h (by rw [lowD_pos hn, show n / 10 = 0 by omega, lowD_zero])
      rw [e]; omega
def natTxt (n : Nat) : List UInt8 := if n = 0 then [48] else asc (lowD n)
def intTxt (z : Int) : List UInt8 := (if z < 0 then [45] else []) ++ natTxt z.natAbs
theorem asc_pad_top {p : Nat} (h0 : 0 < p) (h : p < 1000000000) : (asc (padD 9 p)).dropWhile (· == 48) = asc (lowD p) := by
  obtain ⟨e, _⟩ := padD_low 9 p h
  rw [e, asc_append]
  have hz : asc (List.replicate (9 - (lowD p).length) 0) = List.replicate (9 - (lowD p).length) 48 := by simp [asc]
  rw [hz]
  have hd : ∀ (n : Nat) (l : List UInt8), (List.replicate n 48 ++ l).dropWhile (· == 48) = l.dropWhile (· == 48) := by
    intro n l
    induction n with
    | zero => rfl
    | succ n ih => rw [List.replicate_succ, List.cons_append, List.dropWhile_cons]; simp [ih]
  rw [hd]
  have hne := lowD_ne h0
  have hl := lowD_last p hne
  have hlt := lowD_lt p _ (List.getLast_mem hne)
  have e2 : asc (lowD p) = UInt8.ofNat (48 + (lowD p).getLast hne) :: asc (lowD p).dropLast := by
    conv => lhs; rw [← List.dropLast_concat_getLast hne]
    rw [asc_append]; rfl
  have h3 : (UInt8.ofNat (48 + (lowD p).getLast hne) == 48) = false := by
    rw [beq_eq_false_iff_ne]
    intro h
    have := congrArg UInt8.toNat h
    rw [UInt8.toNat_ofNat'] at this
    have h48 : (48 : UInt8).toNat = 48 := rfl
    rw [h48] at this
    omega
  rw [e2, List.dropWhile_cons, if_neg]
  intro h
  have h4 : (UInt8.ofNat (48 + (lowD p).getLast hne) == 48) = true := h
  rw [h3] at h4; cases h4
theorem lowP_cons {p : Nat} {l : List Nat} (h : l ≠ []) : lowP (p :: l) = padD 9 p ++ lowP l := by
  cases l with
  | nil => exact absurd rfl h
  | cons q l => rfl
theorem asc_len (l : List Nat) : (asc l).length = l.length := by simp [asc]
end Go.Proofs.YtbmaffijncapiaaGreatDoor.Num

/- Rows of bytes of the call's own; the reference's Text. -/
namespace Go.Proofs.YtbmaffijncapiaaGreatDoor
open Num
open Go.ChangeShapes Go.WideShapes Go.ChangeAt Go.RowKit
set_option linter.unusedVariables false
set_option linter.unusedSimpArgs false
theorem info8 : (Tryz.prog.info? 5).map (fun i => (i.zero, i.size, i.bytes)) = some (some (.int .u8 0), 1, 1) := by kernel_rfl
theorem el8 : Elt Tryz.prog 173 5 1 1 := Elt.mk' Tryz.underlying173 info8 rfl (by decide) (by decide)
def Own8 (w0 wr : World) (v : Value) (L : List UInt8) : Prop := OwnE 5 1 w0 wr v L.length (Lib.byteCells L)
theorem Own8.below {w0 wr w' : World} {v : Value} {L : List UInt8} (h : Own8 w0 wr v L) (hb : Below wr.heap.size wr w') : Own8 w0 w' v L := OwnE.below h hb
theorem bcells_app (l m : List UInt8) : Lib.byteCells (l ++ m) = Lib.byteCells l ++ Lib.byteCells m := by simp [Lib.byteCells]
theorem bcells_get (l : List UInt8) (k : Nat) (h : k < l.length) : (Lib.byteCells l)[k]? = some (.int .u8 ((l.getD k 0).toNat : Nat)) := by simp [Lib.byteCells, h]
theorem Own8.cell {w0 wr : World} {g cap : Nat} {L : List UInt8} (h : Own8 w0 wr (.slice (some ⟨g, 0, none⟩) L.length cap) L) (k : Nat) (hk : k < L.length) : wr.cell? ⟨g, k, none⟩ = some (.int .u8 ((L.getD k 0).toNat : Nat)) := by
  rw [World.ownsRow.cellAt h.1 k (by omega), bcells_get L k hk]
namespace Num
def dig (d : Nat) : UInt8 := UInt8.ofNat (48 + d)
theorem dig_nat {d : Nat} (h : d < 10) : (dig d).toNat = 48 + d := by
  unfold dig; rw [UInt8.toNat_ofNat']; omega
theorem asc_eq (l : List Nat) : asc l = (l.map dig).reverse := by unfold asc; rw [← List.map_reverse]; rfl
def turned (T : List UInt8) (i : Nat) : List UInt8 := (List.range T.length).map fun j => if j < i ∨ T.length - 1 - j < i then T.getD (T.length - 1 - j) 0 else T.getD j 0
end Num


end Go.Proofs.YtbmaffijncapiaaGreatDoor

/- strings.Join, laid from the shelf; lists of texts. -/
namespace Go.Proofs.YtbmaffijncapiaaGreatDoor
open Num
open Go.ChangeShapes Go.WideShapes Go.ChangeAt Go.RowKit
set_option linter.unusedVariables false
set_option linter.unusedSimpArgs false
def jn_lays156_ren : Go.Shelf.Ren := ⟨fun | 156 => 188 | 165 => 235 | 166 => 236 | 169 => 237 | 240 => 268 | 241 => 269 | 276 => 281 | 277 => 282 | n => n, fun | 0 => 0 | 3 => 3 | 4 => 4 | 5 => 5 | 9 => 9 | 20 => 20 | 31 => 243 | 37 => 173 | 70 => 284 | 72 => 286 | 75 => 289 | 76 => 290 | 80 => 59 | 127 => 308 | 164 => 321 | n => n, fun n => n⟩
theorem jn_lays156 : Go.Proofs.Lays.n156 Tryz.prog jn_lays156_ren := {
  mixed := by kernel_rfl
  f156 := Tryz.func188.trans (congrArg some (by kernel_rfl))
  f165 := Tryz.func235.trans (congrArg some (by kernel_rfl))
  f166 := Tryz.func236.trans (congrArg some (by kernel_rfl))
  f169 := Tryz.func237.trans (congrArg some (by kernel_rfl))
  f240 := Tryz.func268.trans (congrArg some (by kernel_rfl))
  f241 := Tryz.func269.trans (congrArg some (by kernel_rfl))
  f276 := Tryz.func281.trans (congrArg some (by kernel_rfl))
  f277 := Tryz.func282.trans (congrArg some (by kernel_rfl))
  t0 := Tryz.underlying0
  a0 := Tryz.isAgg0
  z0 := Tryz.sizeOf0
  v0 := Tryz.zeroValue0
  t3 := Tryz.underlying3
  a3 := Tryz.isAgg3
  z3 := Tryz.sizeOf3
  v3 := Tryz.zeroValue3
  t4 := Tryz.underlying4
  a4 := Tryz.isAgg4
  z4 := Tryz.sizeOf4
  v4 := Tryz.zeroValue4
  t9 := Tryz.underlying9
  a9 := Tryz.isAgg9
  z9 := Tryz.sizeOf9
  v9 := Tryz.zeroValue9
  t20 := Tryz.underlying20
  a20 := Tryz.isAgg20
  z20 := Tryz.sizeOf20
  v20 := Tryz.zeroValue20
  t31 := Tryz.underlying243
  a31 := Tryz.isAgg243
  z31 := Tryz.sizeOf243
  v31 := Tryz.zeroValue243
  t37 := Tryz.underlying173
  a37 := Tryz.isAgg173
  z37 := Tryz.sizeOf173
  v37 := Tryz.zeroValue173
  t70 := Tryz.underlying284
  a70 := Tryz.isAgg284
  z70 := Tryz.sizeOf284
  v70 := Tryz.zeroValue284
  t72 := Tryz.underlying286
  a72 := Tryz.isAgg286
  z72 := Tryz.sizeOf286
  v72 := Tryz.zeroValue286
  t75 := Tryz.underlying289
  a75 := Tryz.isAgg289
  z75 := Tryz.sizeOf289
  v75 := Tryz.zeroValue289
  t76 := Tryz.underlying290
  a76 := Tryz.isAgg290
  z76 := Tryz.sizeOf290
  v76 := Tryz.zeroValue290
  t127 := Tryz.underlying308
  a127 := Tryz.isAgg308
  z127 := Tryz.sizeOf308
  v127 := Tryz.zeroValue308
  t164 := Tryz.underlying321
  a164 := Tryz.isAgg321
  z164 := Tryz.sizeOf321
  v164 := Tryz.zeroValue321 }
theorem jn_Builder_Extra : Go.Proofs.Builder.Extra Tryz.prog jn_lays156_ren := {
  sizeBuilder := by kernel_rfl
  liesBuilder := by kernel_rfl
  t5 := Tryz.underlying5
  a5 := Tryz.isAgg5
  z5 := Tryz.sizeOf5
  v5 := Tryz.zeroValue5
  infoByte := by kernel_rfl
  cellsByte := by kernel_rfl
  sizeByte := by kernel_rfl
  neB5 := by decide }
def PTx (w : World) (u : Value) (x : List UInt8) : Prop := u = .string ⟨x.toArray⟩
theorem prs_ptx : Prs (fun _ => False) PTx := ⟨fun h => by cases h; rfl, fun h _ => h⟩
theorem infoStr : (Tryz.prog.info? 9).map (fun i => (i.zero, i.size, i.bytes)) = some (some (.string ⟨#[]⟩), 1, 16) := by kernel_rfl
theorem elStr : Elt Tryz.prog 243 9 1 16 := Elt.mk' Tryz.underlying243 infoStr rfl (by decide) (by decide)
theorem txt_back (L : List (List UInt8)) : (L.map fun x => (⟨x.toArray⟩ : ByteArray)).map (·.data.toList) = L := by
  rw [List.map_map]; conv => rhs; rw [← List.map_id L]
  rfl
theorem join_c (v : Value) (L : List (List UInt8)) (base : Nat) (w : World) (hv : IsL 9 PTx base w v L) (hN : L.length ≤ 140737488355328) (hlen : (Lib.join L [32]).length ≤ 140737488355328) :
    Calls Tryz.prog 188 #[v, .string ⟨#[32]⟩] w fun e w' => e = .returned (.string ⟨(Lib.join L [32]).toArray⟩) ∧ Below w.heap.size w w' := by
  obtain ⟨a, c, rfl, hcap, hvw⟩ := hv.view
  cases L with
  | nil =>
    have h := (Any.strings_Join_none jn_lays156 jn_Builder_Extra a c ⟨#[32]⟩ w).mono fun e w' ⟨he, hw⟩ => (⟨he, hw ▸ Below.refl _ _⟩ : _ ∧ Below w.heap.size w w')
    exact h
  | cons x L =>
    obtain ⟨b, off, u, rfl, hu, -⟩ := hvw 0 (by simp)
    have h := Any.strings_Join jn_lays156 jn_Builder_Extra b off c ((x :: L).map fun x => (⟨x.toArray⟩ : ByteArray)) ⟨#[32]⟩ w (fun j y hj => by
      rw [List.getElem?_map] at hj
      obtain ⟨z, hz, rfl⟩ := Option.map_eq_some_iff.1 hj
      obtain ⟨hj', rfl⟩ := List.getElem?_eq_some_iff.1 hz
      obtain ⟨b2, off2, u2, e2, hu2, hp⟩ := hvw j hj'
      cases e2
      rw [← show u2 = _ from hp]; exact hu2) (cell_lt hu) (by simpa using hN) (by simpa using hcap) (by rw [txt_back]; exact hlen)
    rw [txt_back, List.length_map] at h
    exact h
end Go.Proofs.YtbmaffijncapiaaGreatDoor

/- row: Cmp, Same; matrix: Same. -/
namespace Go.Proofs.YtbmaffijncapiaaGreatDoor
open Num
open Go.ChangeShapes Go.WideShapes Go.ChangeAt Go.RowKit
set_option linter.unusedVariables false
set_option linter.unusedSimpArgs false
attribute [local go_sem ↓] Go.wp_at_zero Go.wp_at_succ
end Go.Proofs.YtbmaffijncapiaaGreatDoor

/- matrix: Same. -/
namespace Go.Proofs.YtbmaffijncapiaaGreatDoor
open Num
open Go.ChangeShapes Go.WideShapes Go.ChangeAt Go.RowKit
set_option linter.unusedVariables false
set_option linter.unusedSimpArgs false
attribute [local go_sem ↓] Go.wp_at_zero Go.wp_at_succ
end Go.Proofs.YtbmaffijncapiaaGreatDoor

/- math/bits.Len32 (by the shelf's contract), limb: Bits. -/
namespace Go.Proofs.YtbmaffijncapiaaGreatDoor
open Num
open Go.ChangeShapes Go.WideShapes Go.ChangeAt Go.RowKit
set_option linter.unusedVariables false
set_option linter.unusedSimpArgs false

def lensRen : Go.Shelf.Ren := ⟨fun | 128 => 219 | n => n, fun | 3 => 3 | 4 => 4 | 5 => 5 | 9 => 9 | 46 => 194 | 51 => 177 | n => n, fun n => n⟩
theorem lens : Go.Proofs.Lays.n128 Tryz.prog lensRen := {
  mixed := by kernel_rfl
  f128 := Tryz.func219.trans (congrArg some (by kernel_rfl))
  t3 := Tryz.underlying3, a3 := Tryz.isAgg3, z3 := Tryz.sizeOf3, v3 := Tryz.zeroValue3
  t4 := Tryz.underlying4, a4 := Tryz.isAgg4, z4 := Tryz.sizeOf4, v4 := Tryz.zeroValue4
  t5 := Tryz.underlying5, a5 := Tryz.isAgg5, z5 := Tryz.sizeOf5, v5 := Tryz.zeroValue5
  t9 := Tryz.underlying9, a9 := Tryz.isAgg9, z9 := Tryz.sizeOf9, v9 := Tryz.zeroValue9
  t46 := Tryz.underlying194, a46 := Tryz.isAgg194, z46 := Tryz.sizeOf194, v46 := Tryz.zeroValue194
  t51 := Tryz.underlying177, a51 := Tryz.isAgg177, z51 := Tryz.sizeOf177, v51 := Tryz.zeroValue177 }
theorem len32_c (x : Nat) (w : World) (h : x < BB) :
    Calls Tryz.prog 219 #[.int .u32 (x : Int)] w fun e w' => e = .returned (.int .i64 (Lib.bitLen x)) ∧ w = w' := by
  unfold BB at h
  have := Go.Proofs.Any.bits_Len32 lens (x : Int) w (by omega) (by omega)
  rw [Int.toNat_natCast] at this
  refine this.mono ?_
  rintro e w' ⟨rfl, rfl⟩
  exact ⟨rfl, rfl⟩


set_option maxRecDepth 100000 in
set_option maxHeartbeats 1000000 in
theorem limbBits_c (a : Option Addr) (ca : Nat) (l : List Nat) (w : World) (ha : U32 w a ca l) (h1 : l.length ≤ 1099511627776) :
    Calls Tryz.prog 143 #[.slice a l.length ca] w fun e w' => e = .returned (.int .i64 (bitN (val l))) ∧ w = w' := by
  have tca := trim_c a ca l w ha
  have ha2 := ha.trim
  have na := trim_nrm l
  have h2 := Nat.le_trans (trim_len l) h1
  rw [← val_trim l]
  generalize trimL l = L at *
  obtain ⟨_, hLm, hL, hLc⟩ := ha2
  cases hLl : L.length with
  | zero =>
    have hnil : L = [] := List.length_eq_zero_iff.1 hLl
    subst hnil
    have HV := Lib.hid (show bitN (val []) = 0 from rfl)
    generalize bitN (val []) = v at *
    go_enter Tryz.func143, Tryz.ntmps143
    go_wp2_with fail
    refine tca.mono ?_
    rintro e w1 ⟨rfl, rfl⟩
    clear tca
    go_wp2
    go_ret
    exact ⟨by rw [HV.out]; rfl, rfl⟩
  | succ k =>
    have HB := Lib.hid (bitN_nrm hL na hLl)
    rcases hLc with rfl | ⟨ba, oa, rfl, hca⟩
    · simp at hLl
    have cj := hca k (by omega)
    have hx := limb_get hL k
    have lc := fun w => len32_c (L.getD k 0) w hx
    generalize L.getD k 0 = x at *
    generalize bitN (val L) = v at *
    rw [hLl] at tca h2
    have hb1 : bitN x ≤ 32 := by
      rw [← bitLen_eq x (by unfold BB at hx; omega)]
      exact Lib.bitLen_le x 32 (by omega) (by unfold BB at hx; omega)
    have HX := Lib.hid (bitLen_eq x (by unfold BB at hx; omega))
    clear hL na
    clear hLl hca
    generalize Lib.bitLen x = y at *
    have hy : y ≤ 32 := by rw [HX.out]; exact hb1
    clear hb1
    go_enter Tryz.func143, Tryz.ntmps143
    go_wp2_with fail
    refine tca.mono ?_
    rintro e w1 ⟨rfl, rfl⟩
    clear tca
    go_wp2_with fail
    refine (lc _).mono ?_
    rintro e w1 ⟨rfl, rfl⟩
    clear lc
    go_wp2
    go_ret
    refine ⟨?_, rfl⟩
    rw [HB.out, ← HX.out]
    simp [go_sem]
end Go.Proofs.YtbmaffijncapiaaGreatDoor

/- Elimination by fractions (each column is cleared but for one row), in plain Lean: the mirror of the reference's; determinants and what is solved. -/
set_option linter.unusedVariables false
set_option linter.unusedSimpArgs false
namespace Det
end Det

