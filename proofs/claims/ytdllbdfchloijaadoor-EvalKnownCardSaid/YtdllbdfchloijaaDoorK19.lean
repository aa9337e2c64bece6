/- Texts of this seat, laid together: EvI, EvW, EvP. Each opens with its own remark, which says what it proves, and under which conditions. -/
import Derived.Test.YtdllbdfchloijaaDoorK14
import Derived.Test.YtdllbdfchloijaaDoorK15
import Derived.Test.YtdllbdfchloijaaDoorK18
import Derived.Test.YtdllbdfchloijaaDoorK02
import Derived.Deep.RegionLaw
import Derived.Test.YtdllbdfchloijaaDoorK12
import Derived.Test.YtdllbdfchloijaaDoorK01
set_option linter.unusedVariables false
set_option linter.unusedSimpArgs false
/- eval: Value. -/
namespace Go.Proofs.YtdllbdfchloijaaDoor
open Pt
open Num
open Go.ChangeShapes Go.WideShapes Go.ChangeAt Go.RowKit
set_option linter.unusedVariables false
set_option linter.unusedSimpArgs false
attribute [local go_sem ↓] Go.wp_at_zero Go.wp_at_succ
theorem IsInt.litE {w : World} {v : Value} {z : Int} (h : IsInt w v z) : ∃ n a l c, v = .agg #[.bool n, .slice a l c] := by
  obtain ⟨n, a, c, l, rfl, -⟩ := h
  exact ⟨n, a, l.length, c, rfl⟩
/-- the value of coefficients at a point -/
def hvL (l : List Int) (a b : Int) : Int := Det.hv l.length (fun i => l.getD i 0) a b
/-- the first summands of it -/
def hvP (l : List Int) (a b : Int) (j : Nat) : Int := Det.isum j fun m => l.getD m 0 * Det.pf a b l.length m
theorem hvP_all (l : List Int) (a b : Int) : hvP l a b l.length = hvL l a b := rfl
theorem pf_bd {a b : Int} (h : PIn a b) {n : Nat} (hn : n ≤ 16) (i : Nat) (hi : i < n) : Bd 200 (Det.pf a b n i) := by
  unfold Det.pf
  exact ((bd_pt h.1 h.2.1).pow i).mul ((bd_pt h.2.2.1 h.2.2.2).pow (n - 1 - i)) |>.mono (by omega)
theorem hvP_bd {l : List Int} {a b : Int} {K : Nat} (h : PIn a b) (hl : l.length ≤ 16) (hb : ∀ j, Bd K (l.getD j 0)) : ∀ j, j ≤ l.length → Bd (K + 200 + j) (hvP l a b j) := by
  intro j
  induction j with
  | zero => intro _; exact bd_zero
  | succ j ih =>
    intro hj
    have h1 : Bd (K + 200 + j) (l.getD j 0 * Det.pf a b l.length j) := ((hb j).mul (pf_bd h hl j (by omega))).mono (by omega)
    exact Bd.add (ih (by omega)) h1
set_option maxRecDepth 100000 in
set_option maxHeartbeats 8000000 in
theorem value_no (v : Value) (l : List Int) (a b : Int) (w : World) (hv : PRow 0 w v l) (h : ¬ (1 ≤ l.length ∧ l.length ≤ 16 ∧ PIn a b)) :
    Calls Tryd.prog 11 #[v, pv a b] w fun e w' => e = .returned (.tuple #[.agg #[.bool false, .slice none 0 0], .int .i64 2]) ∧ Below w.heap.size w w' := by
  obtain ⟨va, vc, rfl, -, -⟩ := hv.view
  obtain ⟨n, hn⟩ : ∃ n, l.length = n := ⟨_, rfl⟩
  rw [hn] at h ⊢
  clear hv hn
  have hB := Below.refl w.heap.size w
  by_cases h1 : n < 1
  · have d1 : decide ((n : Int) < 1) = true := decide_eq_true (by omega)
    go_enter Tryd.func11, Tryd.ntmps11
    go_wp2
    refine bodyPost_ret (v := .tuple #[.agg #[.bool false, .slice none 0 0], .int .i64 2]) (by simp [results, Tryd.results11, go_sem, *]) rfl ⟨rfl, by repeat (first | exact Below.refl _ _ | exact hB | refine Below.drew ?_ | refine below_drewN ?_ _ | refine bset ?_ (by simp <;> omega) _ | refine bal ?_ _)⟩
  have d1 : decide ((n : Int) < 1) = false := decide_eq_false (by omega)
  by_cases h2 : 16 < n
  · have d2 : decide (16 < (n : Int)) = true := decide_eq_true (by omega)
    go_enter Tryd.func11, Tryd.ntmps11
    go_wp2
    refine bodyPost_ret (v := .tuple #[.agg #[.bool false, .slice none 0 0], .int .i64 2]) (by simp [results, Tryd.results11, go_sem, *]) rfl ⟨rfl, by repeat (first | exact Below.refl _ _ | exact hB | refine Below.drew ?_ | refine below_drewN ?_ _ | refine bset ?_ (by simp <;> omega) _ | refine bal ?_ _)⟩
  have d2 : decide (16 < (n : Int)) = false := decide_eq_false (by omega)
  have cc := fun W => ptIn_v a b false W (inB_no fun q => h ⟨by omega, by omega, q⟩)
  clear h
  go_enter Tryd.func11, Tryd.ntmps11
  go_wp2_with fail
  refine (cc _).mono ?_
  rintro e w1 ⟨rfl, hb1⟩
  have r0 : w1.cell? ⟨w.heap.size + 1, 0, none⟩ = some (.bool false) := bkc hb1
  have zr0 := cell_lt r0
  have r0f : w1.frozen? ⟨w.heap.size + 1, 0, none⟩ = false := bkcf (v := .bool false) hb1
  have r1 : w1.cell? ⟨w.heap.size + 1, 1, none⟩ = some (.slice none 0 0) := bkc hb1
  have r1f : w1.frozen? ⟨w.heap.size + 1, 1, none⟩ = false := bkcf (v := .slice none 0 0) hb1
  have hB : Below w.heap.size w w1 := bthen (by repeat (first | exact Below.refl _ _ | exact hB | refine Below.drew ?_ | refine below_drewN ?_ _ | refine bset ?_ (by simp <;> omega) _ | refine bal ?_ _)) hb1
  have hz : w.heap.size ≤ w1.heap.size := hB.size
  clear cc hb1
  go_wp2
  refine bodyPost_ret (v := .tuple #[.agg #[.bool false, .slice none 0 0], .int .i64 2]) (by simp [results, Tryd.results11, go_sem, *]) rfl ⟨rfl, by repeat (first | exact Below.refl _ _ | exact hB | refine Below.drew ?_ | refine below_drewN ?_ _ | refine bset ?_ (by simp <;> omega) _ | refine bal ?_ _)⟩
set_option maxRecDepth 100000 in
set_option maxHeartbeats 16000000 in
theorem value_c (v : Value) (l : List Int) (K : Nat) (a b : Int) (w : World) (hv : PRow 0 w v l) (h1 : 1 ≤ l.length) (h2 : l.length ≤ 16) (hp : PIn a b) (hb : ∀ j, Bd K (l.getD j 0)) (hK : K ≤ 1000000) :
    Calls Tryd.prog 11 #[v, pv a b] w fun e w' => (∃ u, e = .returned (.tuple #[u, .int .i64 0]) ∧ IsInt w' u (hvL l a b)) ∧ Below w.heap.size w w' := by
  have HV := Lib.hid hv
  obtain ⟨va, vc, rfl, -, -⟩ := hv.view
  have HBP := Lib.hid (hvP_bd hp h2 hb)
  have HBL := Lib.hid hb
  have HPF := Lib.hid (fun i (hi : i < l.length) => pf_bd hp h2 i hi)
  have HST := Lib.hid (fun j => (show hvP l a b (j + 1) = hvP l a b j + l.getD j 0 * Det.pf a b l.length j from rfl))
  have HAL := Lib.hid (hvP_all l a b)
  obtain ⟨n, hn⟩ : ∃ n, l.length = n := ⟨_, rfl⟩
  have HN := Lib.hid hn
  rw [hn] at HBP HPF HST HAL h1 h2 ⊢
  obtain ⟨S, hS⟩ : ∃ S, hvP l a b = S := ⟨_, rfl⟩
  have HS0 := Lib.hid (show S 0 = 0 by rw [← hS]; rfl)
  rw [hS] at HBP HST HAL
  clear hv hn hb hS
  have hB := Below.refl w.heap.size w
  have d1 : decide ((n : Int) < 1) = false := decide_eq_false (by omega)
  have d2 : decide (16 < (n : Int)) = false := decide_eq_false (by omega)
  have cc := fun W => ptIn_v a b true W (inB_yes hp)
  have pc := fun W => ptPow_yes a b n W hp h2
  go_enter Tryd.func11, Tryd.ntmps11
  go_wp2_with fail
  refine (cc _).mono ?_
  rintro e w1 ⟨rfl, hb1⟩
  have p0 : w1.cell? ⟨w.heap.size, 0, none⟩ = some (.int .i64 a) := bkc hb1
  have zp0 := cell_lt p0
  have p1 : w1.cell? ⟨w.heap.size, 1, none⟩ = some (.int .i64 b) := bkc hb1
  have r0 : w1.cell? ⟨w.heap.size + 1, 0, none⟩ = some (.bool false) := bkc hb1
  have zr0 := cell_lt r0
  have r0f : w1.frozen? ⟨w.heap.size + 1, 0, none⟩ = false := bkcf (v := .bool false) hb1
  have r1 : w1.cell? ⟨w.heap.size + 1, 1, none⟩ = some (.slice none 0 0) := bkc hb1
  have r1f : w1.frozen? ⟨w.heap.size + 1, 1, none⟩ = false := bkcf (v := .slice none 0 0) hb1
  have hB : Below w.heap.size w w1 := bthen (by repeat (first | exact Below.refl _ _ | exact hB | refine Below.drew ?_ | refine below_drewN ?_ _ | refine bset ?_ (by simp <;> omega) _ | refine bal ?_ _)) hb1
  have hz : w.heap.size ≤ w1.heap.size := hB.size
  clear cc hb1
  go_wp2_with fail
  refine (pc _).mono ?_
  rintro e w2 ⟨⟨g, rfl, hg⟩, hb2⟩
  have p0 : w2.cell? ⟨w.heap.size, 0, none⟩ = some (.int .i64 a) := bkc hb2
  have zp0 := cell_lt p0
  have p1 : w2.cell? ⟨w.heap.size, 1, none⟩ = some (.int .i64 b) := bkc hb2
  have r0 : w2.cell? ⟨w.heap.size + 1, 0, none⟩ = some (.bool false) := bkc hb2
  have zr0 := cell_lt r0
  have r0f : w2.frozen? ⟨w.heap.size + 1, 0, none⟩ = false := bkcf (v := .bool false) hb2
  have r1 : w2.cell? ⟨w.heap.size + 1, 1, none⟩ = some (.slice none 0 0) := bkc hb2
  have r1f : w2.frozen? ⟨w.heap.size + 1, 1, none⟩ = false := bkcf (v := .slice none 0 0) hb2
  have hB : Below w.heap.size w w2 := bthen (by repeat (first | exact Below.refl _ _ | exact hB | refine Below.drew ?_ | refine below_drewN ?_ _ | refine bset ?_ (by simp <;> omega) _ | refine bal ?_ _)) hb2
  have hz : w.heap.size ≤ w2.heap.size := hB.size
  have HG := Lib.hid hg
  have H2 := Lib.hid (And.intro hB (And.intro (And.intro r0 r1) (And.intro r0f r1f)))
  have hBw := Below.refl w2.heap.size w2
  clear pc hb2 hg hB p0 p1 r0 r1 r0f r1f
  go_wp2
  go_loopw [38] (fun x wr => ∃ j : Nat, j ≤ n ∧ x = .int .i64 j ∧ Below w2.heap.size w2 wr ∧ Hid (VarI w2.heap.size (S j) wr)) (fun x _ => n - (intOf x).toNat)
  case atStart => exact ⟨0, Nat.zero_le _, rfl, by repeat (first | exact Below.refl _ _ | exact hBw | refine Below.drew ?_ | refine below_drewN ?_ _ | refine bset ?_ (by simp <;> omega) _ | refine bal ?_ _), Lib.hid (by rw [HS0.out]; exact ⟨typ_fresh (by simp), false, none, 0, 0, by simp [go_sem], by simp [go_sem], by simp [go_sem], by simp [go_sem], isInt_zero _⟩)⟩
  case round =>
    obtain ⟨j, hj, rfl, hBr, hV⟩ := hrel
    by_cases hlt : j < n
    · have hltI : (j : Int) < (n : Int) := by omega
      have HLT := Lib.hid hlt
      obtain ⟨_, _, e, -, vr⟩ := (IsRow.keep lims_int HV.out (bthen H2.out.1 hBr)).view
      cases e
      obtain ⟨xb, xo, xn, xa, xl, xc, e, d0, d1, hx⟩ := vr j (by rw [HN.out]; exact hlt)
      cases e
      obtain ⟨gn, ga, gl, gc, g0, g1, hgi⟩ := (HG.out.keep lims_int hBr).at0 hlt
      have zd := cell_lt d0
      have zg := cell_lt g0
      have zv := typ_lt hV.out.1
      have hBw := Below.refl wr.heap.size wr
      clear vr
      go_wp2
      refine wp_name fun w4 hW4 => ?_
      have hk4 : Below wr.heap.size wr w4 := by rw [hW4]; repeat (first | exact Below.refl _ _ | exact hBw | refine Below.drew ?_ | refine below_drewN ?_ _ | refine bset ?_ (by simp <;> omega) _ | refine bal ?_ _)
      have x0 : w4.cell? ⟨wr.heap.size, 0, none⟩ = some (.bool xn) := by rw [hW4]; simp [go_sem]
      have x1 : w4.cell? ⟨wr.heap.size, 1, none⟩ = some (.slice xa xl xc) := by rw [hW4]; simp [go_sem]
      have HXI := Lib.hid (hx.lim (.of_below hk4))
      have HGI := Lib.hid (hgi.lim (.of_below hk4))
      have V4 := Lib.hid (hV.out.keep hk4)
      have hB4 := bthen hBr hk4
      replace g0 := bkeep hk4 g0
      replace g1 := bkeep hk4 g1
      obtain ⟨-, sn, sa, sl, sc, s0, s1, s0f, s1f, hs⟩ := V4.out
      have HSI := Lib.hid hs
      have HSE := Lib.hid (HST.out j)
      have HB1 := Lib.hid (And.intro (HBL.out j) (And.intro (HPF.out j hlt) (HBP.out j hj)))
      obtain ⟨xz, hxz⟩ : ∃ z, l.getD j 0 = z := ⟨_, rfl⟩
      obtain ⟨pz, hpz⟩ : ∃ z, Det.pf a b n j = z := ⟨_, rfl⟩
      rw [hxz] at HXI HSE HB1
      rw [hpz] at HSE HB1
      have hgz : powF a b n j = pz := hpz
      rw [hgz] at HGI
      have MC := Lib.hid (fun W (q : Below w4.heap.size w4 W) => mul_c (.agg #[.bool xn, .slice xa xl xc]) (.agg #[.bool gn, .slice ga gl gc]) xz pz K 200 W (HXI.out.keep q) (HGI.out.keep q) HB1.out.1 HB1.out.2.1 (by omega) (by decide))
      have AC := Lib.hid (fun u W (q : Below w4.heap.size w4 W) (hu : IsInt W u (xz * pz)) => addI_c (.agg #[.bool sn, .slice sa sl sc]) u (S j) (xz * pz) (K + 200 + j) W (HSI.out.keep q) hu HB1.out.2.2 ((HB1.out.1.mul HB1.out.2.1).mono (by omega)) (by omega))
      have HC := Lib.hid (show ∀ V, Below w4.heap.size w4 V → V.cell? ⟨w2.heap.size, 0, none⟩ = some (.bool sn) ∧ V.cell? ⟨w2.heap.size, 1, none⟩ = some (.slice sa sl sc) ∧ V.cell? ⟨wr.heap.size, 0, none⟩ = some (.bool xn) ∧ V.cell? ⟨wr.heap.size, 1, none⟩ = some (.slice xa xl xc) ∧ V.cell? ⟨g, j * 2, none⟩ = some (.bool gn) ∧ V.cell? ⟨g, j * 2 + 1, none⟩ = some (.slice ga gl gc) ∧ V.frozen? ⟨w2.heap.size, 0, none⟩ = false ∧ V.frozen? ⟨w2.heap.size, 1, none⟩ = false from fun V q => ⟨bkeep q s0, bkeep q s1, bkeep q x0, bkeep q x1, bkeep q g0, bkeep q g1, bkeepf q s0 s0f, bkeepf q s1 s1f⟩)
      clear hW4 hk4 hx hgi hs hxz hpz hgz hV d0 d1 zd hBw hBr
      have zs := cell_lt s0
      have zx := cell_lt x0
      have zg := cell_lt g0
      have hBw := Below.refl w4.heap.size w4
      go_region_law (go_simp; go_wp2_with (first
        | (go_at_call 10; (with_reducible refine (MC.out _ ?_).mono ?_); (repeat (first | exact Below.refl _ _ | exact hBw | refine Below.drew ?_ | refine below_drewN ?_ _ | refine bset ?_ (by simp <;> omega) _ | refine bal ?_ _)); rintro e w5 ⟨⟨u5, rfl, hu⟩, hb5⟩; (have hBd : Below w4.heap.size w4 w5 := bthen (by repeat (first | exact Below.refl _ _ | exact hBw | refine Below.drew ?_ | refine below_drewN ?_ _ | refine bset ?_ (by simp <;> omega) _ | refine bal ?_ _)) hb5; clear hBw; have hBw := hBd; clear hBd); obtain ⟨s0, s1, x0, x1, g0, g1, s0f, s1f⟩ := HC.out w5 hBw; have HU5 := Lib.hid hu; have hy5 := Below.refl w5.heap.size w5; have zs5 := cell_lt s0; have zx5 := cell_lt x0; have zg5 := cell_lt g0; obtain ⟨n5, a5, l5, k5, rfl⟩ := hu.litE; clear hu)
        | (go_at_call 9; (with_reducible refine (AC.out _ _ ?_ (HU5.out.keep ?_)).mono ?_); (repeat (first | exact Below.refl _ _ | exact hBw | refine Below.drew ?_ | refine below_drewN ?_ _ | refine bset ?_ (by simp <;> omega) _ | refine bal ?_ _)); (repeat (first | exact Below.refl _ _ | exact hy5 | refine Below.drew ?_ | refine below_drewN ?_ _ | refine bset ?_ (by simp <;> omega) _ | refine bal ?_ _)); rintro e w6 ⟨⟨u6, rfl, hu⟩, hb6⟩; (have hBd : Below w4.heap.size w4 w6 := bthen (by repeat (first | exact Below.refl _ _ | exact hBw | refine Below.drew ?_ | refine below_drewN ?_ _ | refine bset ?_ (by simp <;> omega) _ | refine bal ?_ _)) hb6; clear hBw; have hBw := hBd; clear hBd); obtain ⟨s0, s1, x0, x1, g0, g1, s0f, s1f⟩ := HC.out w6 hBw; have HU6 := Lib.hid hu; have zs6 := cell_lt s0; obtain ⟨n6, a6, l6, k6, rfl⟩ := hu.litE; clear hu)
        | fail))
      all_goals
        have HV6 := Lib.hid (show VarI w2.heap.size (S (j + 1)) ((w6.setCell ⟨w2.heap.size, 0, none⟩ (.bool n6)).setCell ⟨w2.heap.size, 1, none⟩ (.slice a6 l6 k6)) from ⟨by rw [typ_set, typ_set]; exact typ_keep V4.out.1 hBw, n6, a6, l6, k6, cell_far (cell_here s0 _) (by simp) _, cell_here (cell_far s1 (by simp) _) _, by simpa [go_sem] using s0f, by simpa [go_sem] using s1f, by rw [HSE.out]; exact HU6.out.put2 s0 s1 _ _⟩)
        have hB6 := bset (bset (bthen hB4 hBw) (p := ⟨w2.heap.size, 0, none⟩) (Nat.le_refl _) (.bool n6)) (p := ⟨w2.heap.size, 1, none⟩) (Nat.le_refl _) (.slice a6 l6 k6)
        have hlJ := HLT.out
        clear MC AC HC V4 HU5 HU6 HSE HSI HXI HGI x0 x1 g0 g1 zs zx zg hBw hB4
        go_wp2
        exact ⟨⟨j + 1, hlJ, by go_num, hB6, HV6⟩, measS hlJ (by go_num) rfl⟩
    · obtain rfl : n = j := by omega
      have hltI : ¬ (n : Int) < (n : Int) := by omega
      have r0 := bkeep hBr H2.out.2.1.1
      have r1 := bkeep hBr H2.out.2.1.2
      have r0f := bkeepf hBr H2.out.2.1.1 H2.out.2.2.1
      have r1f := bkeepf hBr H2.out.2.1.2 H2.out.2.2.2
      obtain ⟨-, sn, sa, sl, sc, s0, s1, s0f, s1f, hs⟩ := hV.out
      have hbt := bthen H2.out.1 hBr
      have HP := Lib.hid (hs.put2 r0 r1)
      have zr := cell_lt r0
      have zs := cell_lt s0
      have hB := hbt
      clear hs hbt hV
      go_wp2
      refine bodyPost_ret (v := .tuple #[.agg #[.bool sn, .slice sa sl sc], .int .i64 0]) (by simp [results, Tryd.results11, go_sem, *]) rfl ⟨⟨_, rfl, ?_⟩, ?_⟩
      · rw [← HAL.out]; exact HP.out _ _
      ·
        repeat (first | exact Below.refl _ _ | exact hB | refine Below.drew ?_ | refine below_drewN ?_ _ | refine bset ?_ (by simp <;> omega) _ | refine bal ?_ _)
end Go.Proofs.YtdllbdfchloijaaDoor

/- eval: Values. -/
namespace Go.Proofs.YtdllbdfchloijaaDoor
open Pt
open Num
open Go.ChangeShapes Go.WideShapes Go.ChangeAt Go.RowKit
set_option linter.unusedVariables false
set_option linter.unusedSimpArgs false
attribute [local go_sem ↓] Go.wp_at_zero Go.wp_at_succ
/-- the values at the points -/
def valsL (l : List Int) (n : Nat) (f : Nat → Int × Int) : List Int := (List.range n).map fun i => hvL l (f i).1 (f i).2
theorem valsL_len (l : List Int) (n : Nat) (f : Nat → Int × Int) : (valsL l n f).length = n := by simp [valsL]
theorem valsL_at {l : List Int} {n i : Nat} {f : Nat → Int × Int} (h : i < n) : (valsL l n f).getD i 0 = hvL l (f i).1 (f i).2 := by simp [valsL, h]
set_option maxRecDepth 100000 in
set_option maxHeartbeats 8000000 in
theorem values_c (v : Value) (l : List Int) (K : Nat) (a : Option Addr) (n cap : Nat) (f : Nat → Int × Int) (w : World) (hv : PRow 0 w v l) (h1 : 1 ≤ l.length) (h2 : l.length ≤ 16) (hp : PtsV w a n cap f) (hok : PtsOk n f) (hb : ∀ j, Bd K (l.getD j 0)) (hK : K ≤ 1000000) :
    Calls Tryd.prog 14 #[v, .slice a n cap] w fun e w' => (∃ va, e = .returned (.tuple #[va, .int .i64 0]) ∧ RowO IsInt 31 w.heap.size w' va (valsL l n f)) ∧ Below w.heap.size w w' := by
  have hB := Below.refl w.heap.size w
  have HV := Lib.hid hv
  have HP := Lib.hid hp
  have HK := Lib.hid hok
  have hn15 : n ≤ 15 := hok.2.1
  obtain ⟨va, vc, rfl, -, -⟩ := hv.view
  obtain ⟨P, hP⟩ : ∃ P, l.length = P := ⟨_, rfl⟩
  have HLN := Lib.hid hP
  rw [hP] at HV h1 h2 ⊢
  clear hP
  have PC := Lib.hid (fun V (q : Below w.heap.size w V) => evPoints_c a n cap f V (HP.out.keep q) (by omega))
  rw [(ptsB_iff n f).2 hok] at PC
  have HN := Lib.hid (valsL_len l n f)
  have HL := Lib.hid (fun i (h : i < n) => valsL_at (l := l) (f := f) h)
  have HVB := Lib.hid hb
  obtain ⟨G, hG⟩ : ∃ G, valsL l n f = G := ⟨_, rfl⟩
  rw [hG] at HN HL ⊢
  clear hv hp hok hb hG
  go_enter Tryd.func14, Tryd.ntmps14
  go_wp2_with fail
  (with_reducible refine (PC.out _ ?_).mono ?_); (repeat (first | exact Below.refl _ _ | exact hB | refine Below.drew ?_ | refine below_drewN ?_ _ | refine bset ?_ (by simp <;> omega) _ | refine bal ?_ _))
  rintro e w1 ⟨rfl, hb1⟩
  have hB1 : Below w.heap.size w w1 := bthen (by repeat (first | exact Below.refl _ _ | exact hB | refine Below.drew ?_ | refine below_drewN ?_ _ | refine bset ?_ (by simp <;> omega) _ | refine bal ?_ _)) hb1
  clear PC hb1 hB
  go_wp2
  go_loopw [6, 16] (fun vv x wr => ∃ j : Nat, j ≤ n ∧ x = .int .i64 j ∧ Hid (OwnF IsInt 31 w wr vv j (fun i => G.getD i 0))) (fun _ x _ => n - (intOf x).toNat)
  case atStart => exact ⟨0, Nat.zero_le _, rfl, Lib.hid (OwnF.nil _ _ _ hB1)⟩
  case round =>
    obtain ⟨j, hj, rfl, hF⟩ := hrel
    have hBr := hF.out.bel
    obtain ⟨fa, fc, hfv⟩ : ∃ a c, _ = Value.slice a j c := by obtain ⟨a, c, h, _⟩ := hF.out.view; exact ⟨a, c, h⟩
    subst hfv
    by_cases hlt : j < n
    · have hltI : (j : Int) < (n : Int) := by omega
      obtain ⟨b, off, rfl, hcap, c0, c1⟩ := (HP.out.keep hBr).atE hlt
      have zb := cell_lt c0
      have HPN := Lib.hid (show PIn (f j).1 (f j).2 from HK.out.2.2 j hlt)
      have HSN := Lib.hid (show ∀ i, i < j + 1 → (fun m => if m = j then hvL l (f j).1 (f j).2 else G.getD m 0) i = G.getD i 0 from fun i hi => by
        dsimp only
        by_cases e : i = j
        · subst e; rw [if_pos rfl, HL.out i hlt]
        · rw [if_neg e])
      obtain ⟨pa, hpa⟩ : ∃ x, (f j).1 = x := ⟨_, rfl⟩
      obtain ⟨pb, hpb⟩ : ∃ x, (f j).2 = x := ⟨_, rfl⟩
      rw [hpa] at c0 HPN HSN
      rw [hpb] at c1 HPN HSN
      have hBw := Below.refl wr.heap.size wr
      have TC := Lib.hid (fun V (qB : Below wr.heap.size wr V) => value_c (.slice va P vc) l K pa pb V (IsRow.keep lims_int HV.out (bthen hBr qB)) (by rw [HLN.out]; exact h1) (by rw [HLN.out]; exact h2) HPN.out HVB.out hK)
      have hlN := hlt
      clear hpa hpb hcap hlt
      go_wp2_with fail
      (with_reducible refine (TC.out _ ?_).mono ?_); (repeat (first | exact Below.refl _ _ | exact hBw | refine Below.drew ?_ | refine below_drewN ?_ _ | refine bset ?_ (by simp <;> omega) _ | refine bal ?_ _))
      rintro e w5 ⟨⟨u, rfl, hu⟩, hb5⟩
      have hk : Below wr.heap.size wr w5 := bthen (by repeat (first | exact Below.refl _ _ | exact hBw | refine Below.drew ?_ | refine below_drewN ?_ _ | refine bset ?_ (by simp <;> omega) _ | refine bal ?_ _)) hb5
      have HF5 := Lib.hid (hF.out.below lims_int hk)
      have HU := Lib.hid hu
      obtain ⟨un, ud, ul, uk, rfl⟩ := hu.litE
      clear TC hb5 hu hF
      have hBw5 := Below.refl w5.heap.size w5
      go_upto_region 10 with (fail)
      refine wp_name fun w6 hW6 => ?_
      have hk6 : Below w5.heap.size w5 w6 := by rw [hW6]; repeat (first | exact Below.refl _ _ | exact hBw5 | refine Below.drew ?_ | refine below_drewN ?_ _ | refine bset ?_ (by simp <;> omega) _ | refine bal ?_ _)
      have t0 : w6.cell? ⟨w5.heap.size, 0, none⟩ = some (.bool un) := by rw [hW6]; simp [go_sem]
      have t1 : w6.cell? ⟨w5.heap.size, 1, none⟩ = some (.slice ud ul uk) := by rw [hW6]; simp [go_sem]
      have zt := cell_lt t0
      have HF6 := Lib.hid (HF5.out.below lims_int hk6)
      have HU6 := Lib.hid (HU.out.keep hk6)
      clear hW6 HF5 HU hk hBw hBw5 c0 c1
      go_wp2_with (at_builtin; refine app_num elInt (by decide) lims_int (by rfl) (by rfl) HF6.out HU6.out (by rfl) (by rfl) (by omega) ?_)
      intro v8 w8 hF8 _ _
      have HF8 := Lib.hid (hF8.congr' HSN.out)
      clear hF8
      go_wp2
      exact ⟨⟨j + 1, by omega, by go_num, HF8⟩, by simp [intOf]; omega⟩
    · obtain rfl : j = n := by omega
      have HE := Lib.hid hF.out
      rw [← HN.out] at HE
      go_wp2
      refine bodyPost_ret (v := .tuple #[.slice fa j fc, .int .i64 0]) (by simp [results, Tryd.results14, go_sem, *]) rfl ?_
      exact ⟨⟨_, rfl, by rw [HN.out] at HE; exact OwnF.rowO (by rw [HN.out]; exact HE.out)⟩, hBr⟩
end Go.Proofs.YtdllbdfchloijaaDoor

/- eval, in plain Lean: the program that evaluates coefficients at points, and what it comes to. -/
namespace Go.Proofs.YtdllbdfchloijaaDoor
open Num
set_option linter.unusedVariables false
set_option linter.unusedSimpArgs false
/-- an instruction that is laid, if it does anything -/
def addI (i : Ins) : List Ins := if i.op = 1 ∧ i.to = i.a then [] else [i]
/-- times a small number that is not 0 -/
def timesI (t a c : Int) : Ins :=
  if c = 1 then ⟨1, t, a, 0, 0⟩ else if c = -1 then ⟨2, t, a, 0, 0⟩ else if c = 2 then ⟨7, t, a, 0, 1⟩ else if c = 4 then ⟨7, t, a, 0, 2⟩
  else if c = 8 then ⟨7, t, a, 0, 3⟩ else if c = 16 then ⟨7, t, a, 0, 4⟩ else ⟨5, t, a, 0, c⟩
/-- times so many powers of it -/
def scaledL (t : Int) : Nat → Int → Int → List Ins
  | 0, _, _ => []
  | n + 1, a, c => addI (timesI t a c) ++ scaledL t n t c
/-- the next coefficient is added -/
def addN (t j b term : Int) (n : Nat) : List Ins :=
  if b = 1 ∨ (b = -1 ∧ n % 2 = 0) then [⟨3, t, t, j, 0⟩] else if b = -1 then [⟨4, t, t, j, 0⟩] else scaledL term n j b ++ [⟨3, t, t, term, 0⟩]
def hornL (k : Nat) (t term a b : Int) : Nat → List Ins
  | 0 => []
  | s + 1 => hornL k t term a b s ++ (addI (timesI t (if s = 0 then ((k - 1 : Nat) : Int) else t) a) ++ addN t ((k - 2 - s : Nat) : Int) b term (s + 1))
def pointL (k : Nat) (t term : Int) (q : Int × Int) : List Ins :=
  if k = 1 then [] else if q.1 = 0 ∧ q.2 = 0 then [⟨4, t, 0, 0, 0⟩] else if q.1 = 0 then scaledL t (k - 1) 0 q.2
  else if q.2 = 0 then scaledL t (k - 1) ((k - 1 : Nat) : Int) q.1 else hornL k t term q.1 q.2 (k - 1)
def codeL (k n : Nat) (f : Nat → Int × Int) : Nat → List Ins
  | 0 => []
  | i + 1 => codeL k n f i ++ pointL k ((k + i : Nat) : Int) ((k + n : Nat) : Int) (f i)
def outL (k i : Nat) : Int := if k = 1 then 0 else ((k + i : Nat) : Int)
def outsL (k n : Nat) : List Int := (List.range n).map (outL k)
theorem outsL_len (k n : Nat) : (outsL k n).length = n := by simp [outsL]
theorem outsL_succ (k n : Nat) : outsL k (n + 1) = outsL k n ++ [outL k n] := by simp [outsL, List.range_succ]
theorem outsL_get {k n i : Nat} (h : i < n) : (outsL k n).getD i 0 = outL k i := by simp [outsL, h]
/-- a list of instructions, run on numbers -/
def runI : List Ins → List Int → Option (List Int)
  | [], s => some s
  | i :: L, s => (opI i (s.getD i.a.toNat 0) (s.getD i.b.toNat 0)).bind fun x => runI L (s.set i.to.toNat x)
theorem runI_app (L M : List Ins) : ∀ s, runI (L ++ M) s = (runI L s).bind (runI M) := by
  induction L with
  | nil => intro s; rfl
  | cons i L ih =>
    intro s
    show (opI i _ _).bind _ = ((opI i _ _).bind _).bind _
    cases opI i (s.getD i.a.toNat 0) (s.getD i.b.toNat 0) with
    | none => rfl
    | some x => exact ih _
theorem runI_then {L M : List Ins} {s t u : List Int} (h : runI L s = some t) (k : runI M t = some u) : runI (L ++ M) s = some u := by
  rw [runI_app, h]; exact k
theorem afterN_take (code : List Ins) (r : List Int) : ∀ n, n ≤ code.length → afterN code r n = runI (code.take n) r := by
  intro n
  induction n with
  | zero => intro _; rfl
  | succ n ih =>
    intro h
    rw [afterN, ih (by omega), List.take_succ_eq_append_getElem (by omega), runI_app]
    have e : code.getD n default = code[n] := by simp [show n < code.length by omega]
    rw [e]
    cases runI (code.take n) r with
    | none => rfl
    | some s =>
      show Option.map _ _ = runI [code[n]] s
      unfold runI
      cases opI code[n] (s.getD code[n].a.toNat 0) (s.getD code[n].b.toNat 0) <;> rfl
theorem afterN_run (code : List Ins) (r : List Int) : afterN code r code.length = runI code r := by
  rw [afterN_take code r _ (Nat.le_refl _), List.take_length]
theorem gset (s : List Int) {t : Nat} (x : Int) (j : Nat) (ht : t < s.length) : (s.set t x).getD j 0 = if j = t then x else s.getD j 0 := by
  by_cases e : j = t
  · subst e; simp [ht]
  · rw [if_neg e, List.getD_eq_getElem?_getD, List.getElem?_set_ne (fun h => e h.symm), ← List.getD_eq_getElem?_getD]
theorem set_same (s : List Int) (t : Nat) (ht : t < s.length) : s.set t (s.getD t 0) = s := by
  apply List.ext_getElem?
  intro j
  by_cases e : t = j
  · subst e; simp [ht]
  · rw [List.getElem?_set_ne e]
theorem run1 {i : Ins} {s : List Int} {x : Int} (h : opI i (s.getD i.a.toNat 0) (s.getD i.b.toNat 0) = some x) : runI [i] s = some (s.set i.to.toNat x) := by
  unfold runI; rw [h]; rfl
theorem add_run {i : Ins} (h : ¬ (i.op = 1 ∧ i.to = i.a)) : addI i = [i] := if_neg h
/-- a small number that is not 0 -/
def Smn (c : Int) : Prop := c ≠ 0 ∧ -16 ≤ c ∧ c ≤ 16
theorem times_run (t a : Nat) (c : Int) (s : List Int) (ht : t < s.length) : runI (addI (timesI t a c)) s = some (s.set t (s.getD a 0 * c)) := by
  unfold timesI
  split
  · rename_i h; subst h
    by_cases e : (t : Int) = (a : Int)
    · have : t = a := by omega
      subst this
      rw [show addI ⟨1, (t : Int), (t : Int), 0, 0⟩ = [] from if_pos ⟨rfl, rfl⟩, Int.mul_one, set_same s t ht]; rfl
    · rw [add_run (fun h => e h.2), run1 (x := s.getD a 0 * 1) (by simp [opI])]; rfl
  split
  · rename_i h; subst h
    rw [add_run (fun h => by cases h.1), run1 (x := s.getD a 0 * -1) (by simp [opI])]; rfl
  split
  · rename_i h; subst h
    rw [add_run (fun h => by cases h.1), run1 (x := s.getD a 0 * 2) (by simp [opI])]; rfl
  split
  · rename_i h; subst h
    rw [add_run (fun h => by cases h.1), run1 (x := s.getD a 0 * 4) (by simp [opI])]; rfl
  split
  · rename_i h; subst h
    rw [add_run (fun h => by cases h.1), run1 (x := s.getD a 0 * 8) (by simp [opI])]; rfl
  split
  · rename_i h; subst h
    rw [add_run (fun h => by cases h.1), run1 (x := s.getD a 0 * 16) (by simp [opI])]; rfl
  · rw [add_run (fun h => by cases h.1), run1 (x := s.getD a 0 * c) (by simp [opI])]; rfl
theorem scaled_run (t : Nat) (c : Int) : ∀ (n : Nat) (a : Nat) (s : List Int), t < s.length → runI (scaledL t (n + 1) a c) s = some (s.set t (s.getD a 0 * c ^ (n + 1))) := by
  intro n
  induction n with
  | zero =>
    intro a s ht
    refine runI_then (times_run t a c s ht) ?_
    rw [Int.pow_succ, Int.pow_zero, Int.one_mul]; rfl
  | succ n ih =>
    intro a s ht
    refine runI_then (times_run t a c s ht) ?_
    rw [ih t _ (by simpa using ht), gset _ _ _ ht, if_pos rfl, List.set_set, Int.mul_assoc, ← Int.pow_succ']
open Det (isum isum_congr hv pf is_rev is_one is_zero)
theorem neg_even (n : Nat) : (n % 2 = 0 → (-1 : Int) ^ n = 1) ∧ (¬ n % 2 = 0 → (-1 : Int) ^ n = -1) := by
  induction n with
  | zero => simp
  | succ n ih =>
    rw [Int.pow_succ]
    refine ⟨fun h => ?_, fun h => ?_⟩
    · rw [ih.2 (by omega)]; rfl
    · rw [ih.1 (by omega)]; rfl
/-- the values of two registers may have changed -/
def Off (t term : Nat) (s u : List Int) : Prop := u.length = s.length ∧ ∀ j, j ≠ t → j ≠ term → u.getD j 0 = s.getD j 0
theorem Off.refl (t term : Nat) (s : List Int) : Off t term s s := ⟨rfl, fun _ _ _ => rfl⟩
theorem Off.trans {t term : Nat} {s u v : List Int} (h : Off t term s u) (k : Off t term u v) : Off t term s v := ⟨k.1.trans h.1, fun j a b => (k.2 j a b).trans (h.2 j a b)⟩
theorem Off.set {t term : Nat} (s : List Int) {q : Nat} (x : Int) (hq : q = t ∨ q = term) : Off t term s (s.set q x) := by
  refine ⟨by simp, fun j a b => ?_⟩
  rw [List.getD_eq_getElem?_getD, List.getElem?_set_ne (by rcases hq with rfl | rfl <;> omega), ← List.getD_eq_getElem?_getD]
theorem addN_run (t term j n : Nat) (b : Int) (s : List Int) (ht : t < s.length) (hm : term < s.length) (hj : j ≠ t) (hj2 : j ≠ term) (h2 : t ≠ term) : ∃ u, runI (addN t j b term (n + 1)) s = some u ∧ Off t term s u ∧ u.getD t 0 = s.getD t 0 + s.getD j 0 * b ^ (n + 1) := by
  unfold addN
  split
  · rename_i h
    refine ⟨s.set t (s.getD t 0 + s.getD j 0), run1 (by simp [opI]), Off.set s _ (.inl rfl), ?_⟩
    rw [gset _ _ _ ht, if_pos rfl]
    rcases h with rfl | ⟨rfl, he⟩
    · rw [Int.one_pow, Int.mul_one]
    · rw [(neg_even _).1 he, Int.mul_one]
  split
  · rename_i h h1
    subst h1
    refine ⟨s.set t (s.getD t 0 - s.getD j 0), run1 (by simp [opI]), Off.set s _ (.inl rfl), ?_⟩
    rw [gset _ _ _ ht, if_pos rfl, (neg_even _).2 (fun e => h (.inr ⟨rfl, e⟩))]
    omega
  · refine ⟨(s.set term (s.getD j 0 * b ^ (n + 1))).set t (s.getD t 0 + s.getD j 0 * b ^ (n + 1)), runI_then (scaled_run term b n j s hm) (run1 ?_), (Off.set s _ (.inr rfl)).trans (Off.set _ _ (.inl rfl)), ?_⟩
    · show opI _ ((s.set term (s.getD j 0 * b ^ (n + 1))).getD t 0) ((s.set term (s.getD j 0 * b ^ (n + 1))).getD term 0) = _
      rw [gset _ _ _ hm, if_neg h2, gset _ _ _ hm, if_pos rfl]; simp [opI]
    · rw [gset _ _ _ (by simpa using ht), if_pos rfl]
/-- what stands after s steps -/
def hsum (k : Nat) (c : Nat → Int) (a b : Int) (s : Nat) : Int := isum (s + 1) fun i => c (k - 1 - i) * (a ^ (s - i) * b ^ i)
theorem hsum_succ (k : Nat) (c : Nat → Int) (a b : Int) (s : Nat) : hsum k c a b (s + 1) = hsum k c a b s * a + c (k - 1 - (s + 1)) * b ^ (s + 1) := by
  unfold hsum
  show isum (s + 1) _ + c (k - 1 - (s + 1)) * (a ^ (s + 1 - (s + 1)) * b ^ (s + 1)) = _
  rw [Nat.sub_self, Int.pow_zero, Int.one_mul, ← Det.is_mulR]
  congr 1
  refine isum_congr fun i hi => ?_
  rw [show s + 1 - i = (s - i) + 1 by omega, Int.pow_succ]
  grind
theorem hsum_last (k : Nat) (c : Nat → Int) (a b : Int) : hsum (k + 1) c a b k = hv (k + 1) c a b := by
  unfold hsum hv
  rw [is_rev (k + 1) fun m => c m * pf a b (k + 1) m]
  refine isum_congr fun i hi => ?_
  unfold pf
  rw [show k + 1 - 1 - (k + 1 - 1 - i) = i by omega, show k + 1 - 1 - i = k - i by omega]
theorem horn_run (k t term : Nat) (a b : Int) (c : Nat → Int) (s0 : List Int) (ht : t < s0.length) (hm : term < s0.length) (hkt : k ≤ t) (hkm : k ≤ term) (h2 : t ≠ term) (hc : ∀ j, j < k → s0.getD j 0 = c j) :
    ∀ s, s + 1 ≤ k → ∃ u, runI (hornL k t term a b s) s0 = some u ∧ Off t term s0 u ∧ u.getD (if s = 0 then k - 1 else t) 0 = hsum k c a b s := by
  intro s
  induction s with
  | zero =>
    intro hs
    refine ⟨s0, rfl, Off.refl _ _ _, ?_⟩
    rw [if_pos rfl, hc _ (by omega)]
    show _ = isum 1 _
    simp [isum]
  | succ s ih =>
    intro hs
    obtain ⟨u, hu, ho, hx⟩ := ih (by omega)
    have htu : t < u.length := by rw [ho.1]; exact ht
    have hmu : term < u.length := by rw [ho.1]; exact hm
    have e1 : (if s = 0 then ((k - 1 : Nat) : Int) else (t : Int)) = ((if s = 0 then k - 1 else t : Nat) : Int) := by split <;> rfl
    have h1 := times_run t (if s = 0 then k - 1 else t) a u htu
    rw [hx] at h1
    have ho1 : Off t term u (u.set t (hsum k c a b s * a)) := Off.set u _ (.inl rfl)
    obtain ⟨v, hv1, hv2, hv3⟩ := addN_run t term (k - 2 - s) s b (u.set t (hsum k c a b s * a)) (by simpa using htu) (by simpa using hmu) (by omega) (by omega) h2
    refine ⟨v, ?_, (ho.trans ho1).trans hv2, ?_⟩
    · unfold hornL
      rw [e1]
      exact runI_then hu (runI_then h1 hv1)
    · rw [if_neg (by omega), hv3, gset _ _ _ htu, if_pos rfl, hsum_succ, (ho.trans ho1).2 _ (by omega) (by omega), hc _ (by omega), show k - 2 - s = k - 1 - (s + 1) by omega]
theorem zpow {n : Nat} (h : 0 < n) : (0 : Int) ^ n = 0 := by obtain ⟨m, rfl⟩ := Nat.exists_eq_succ_of_ne_zero (Nat.ne_of_gt h); rw [Int.pow_succ, Int.mul_zero]
theorem hv_a0 (k : Nat) (c : Nat → Int) (b : Int) (hk : 1 ≤ k) : hv k c 0 b = c 0 * b ^ (k - 1) := by
  unfold hv
  rw [is_one (j := 0) hk (fun m h1 h2 => by unfold pf; rw [zpow (by omega), Int.zero_mul, Int.mul_zero])]
  unfold pf; rw [Int.pow_zero, Int.one_mul, Nat.sub_zero]
theorem hv_b0 (k : Nat) (c : Nat → Int) (a : Int) (hk : 1 ≤ k) : hv k c a 0 = c (k - 1) * a ^ (k - 1) := by
  unfold hv
  rw [is_one (j := k - 1) (by omega) (fun m h1 h2 => by unfold pf; rw [zpow (n := k - 1 - m) (by omega), Int.mul_zero, Int.mul_zero])]
  unfold pf; rw [Nat.sub_self, Int.pow_zero, Int.mul_one]
theorem hv_one (c : Nat → Int) (a b : Int) : hv 1 c a b = c 0 := by unfold hv isum; simp [isum, pf]
theorem point_run (k t term : Nat) (q : Int × Int) (c : Nat → Int) (s : List Int) (hk : 1 ≤ k) (ht : t < s.length) (hm : term < s.length) (hkt : k ≤ t) (hkm : k ≤ term) (h2 : t ≠ term) (hc : ∀ j, j < k → s.getD j 0 = c j) :
    ∃ u, runI (pointL k t term q) s = some u ∧ Off t term s u ∧ (k ≠ 1 → u.getD t 0 = hv k c q.1 q.2) := by
  unfold pointL
  by_cases h1 : k = 1
  · rw [if_pos h1]; exact ⟨s, rfl, Off.refl _ _ _, fun h => absurd h1 h⟩
  rw [if_neg h1]
  obtain ⟨m, rfl⟩ : ∃ m, k = m + 2 := ⟨k - 2, by omega⟩
  by_cases h0 : q.1 = 0 ∧ q.2 = 0
  · rw [if_pos h0]
    refine ⟨s.set t 0, run1 (by simp [opI]), Off.set s _ (.inl rfl), fun _ => ?_⟩
    rw [gset _ _ _ ht, if_pos rfl, h0.1, h0.2, hv_a0 _ _ _ hk, zpow (by omega), Int.mul_zero]
  rw [if_neg h0]
  by_cases ha : q.1 = 0
  · rw [if_pos ha]
    refine ⟨_, scaled_run t q.2 m 0 s ht, Off.set s _ (.inl rfl), fun _ => ?_⟩
    rw [gset _ _ _ ht, if_pos rfl, ha, hv_a0 _ _ _ hk, hc 0 (by omega)]; rfl
  rw [if_neg ha]
  by_cases hb : q.2 = 0
  · rw [if_pos hb]
    refine ⟨_, scaled_run t q.1 m (m + 2 - 1) s ht, Off.set s _ (.inl rfl), fun _ => ?_⟩
    rw [gset _ _ _ ht, if_pos rfl, hb, hv_b0 _ _ _ hk, hc _ (by omega)]; rfl
  rw [if_neg hb]
  obtain ⟨u, hu, ho, hx⟩ := horn_run (m + 2) t term q.1 q.2 c s ht hm hkt hkm h2 hc (m + 1) (by omega)
  refine ⟨u, hu, ho, fun _ => ?_⟩
  rw [if_neg (by omega)] at hx
  rw [hx, hsum_last]
theorem code_run (k n : Nat) (f : Nat → Int × Int) (c : Nat → Int) (s : List Int) (hk : 1 ≤ k) (hl : s.length = k + n + 1) (hc : ∀ j, j < k → s.getD j 0 = c j) :
    ∀ i, i ≤ n → ∃ u, runI (codeL k n f i) s = some u ∧ u.length = s.length ∧ (∀ j, j < k → u.getD j 0 = c j) ∧ (k ≠ 1 → ∀ j, j < i → u.getD (k + j) 0 = hv k c (f j).1 (f j).2) := by
  intro i
  induction i with
  | zero => intro _; exact ⟨s, rfl, rfl, hc, fun _ j h => by omega⟩
  | succ i ih =>
    intro hi
    obtain ⟨u, h1, h2, h3, h4⟩ := ih (by omega)
    obtain ⟨v, k1, k2, k3⟩ := point_run k (k + i) (k + n) (f i) c u hk (by omega) (by omega) (by omega) (by omega) (by omega) h3
    refine ⟨v, runI_then h1 k1, k2.1.trans h2, fun j hj => by rw [k2.2 j (by omega) (by omega)]; exact h3 j hj, fun hk1 j hj => ?_⟩
    by_cases e : j = i
    · subst e; exact k3 hk1
    · rw [k2.2 _ (by omega) (by omega)]; exact h4 hk1 j (by omega)
/-- what the outs hold at the end -/
theorem outs_run (k n : Nat) (f : Nat → Int × Int) (c : Nat → Int) (s : List Int) (hk : 1 ≤ k) (hl : s.length = k + n + 1) (hc : ∀ j, j < k → s.getD j 0 = c j) :
    ∃ u, afterN (codeL k n f n) s (codeL k n f n).length = some u ∧ ∀ i, i < n → u.getD (outL k i).toNat 0 = hv k c (f i).1 (f i).2 := by
  obtain ⟨u, h1, h2, h3, h4⟩ := code_run k n f c s hk hl hc n (Nat.le_refl _)
  refine ⟨u, by rw [afterN_run]; exact h1, fun i hi => ?_⟩
  unfold outL
  by_cases e : k = 1
  · subst e; rw [if_pos rfl, hv_one]; exact h3 0 (by omega)
  · rw [if_neg e]; exact h4 e i hi
/-- what each instruction is like -/
def Fine (R k : Nat) (i : Ins) : Prop := mayB i.op i.to i.a i.b i.c R = true ∧ i.op ≠ 6 ∧ i.op ≠ 8 ∧ (i.op = 5 → -16 ≤ i.c ∧ i.c ≤ 16) ∧ (i.op = 7 → i.c ≤ 4)
theorem fine_one {R k : Nat} (op c : Int) (t a : Nat) (ht : t < R) (ha : a < R) (h : ((op = 1 ∨ op = 2) ∧ c = 0) ∨ (op = 7 ∧ 1 ≤ c ∧ c ≤ 4) ∨ (op = 5 ∧ c ≠ 0 ∧ -16 ≤ c ∧ c ≤ 16)) : Fine R k ⟨op, t, a, 0, c⟩ := by
  refine ⟨?_, by dsimp only; omega, by dsimp only; omega, fun e => ?_, fun e => ?_⟩
  · rw [mayB_iff]
    dsimp only
    refine ⟨by omega, by omega, by omega, by omega, fun e => rfl, ?_, by omega, by omega, fun e => ?_⟩
    · rcases h with ⟨h, rfl⟩ | ⟨rfl, h1, h2⟩ | ⟨rfl, h0, h1, h2⟩
      · rw [constB_else (by omega) (by omega)]; rfl
      · rw [constB_shift (.inl rfl)]; exact decide_eq_true (by omega)
      · rw [constB_mul (.inl rfl)]; exact decide_eq_true (by omega)
    · unfold twoB at e; have := of_decide_eq_true e; omega
  · dsimp only at e; dsimp only; omega
  · dsimp only at e; dsimp only; omega
theorem fine_times {R k : Nat} (t a : Nat) (c : Int) (ht : t < R) (ha : a < R) (hc : Smn c) : Fine R k (timesI t a c) := by
  unfold Smn at hc
  unfold timesI
  repeat' split
  all_goals exact fine_one _ _ t a ht ha (by omega)
theorem fine_addI {R k : Nat} {i : Ins} (h : Fine R k i) : ∀ x ∈ addI i, Fine R k x := by
  intro x hx
  unfold addI at hx
  split at hx
  · simp at hx
  · simp at hx; subst hx; exact h
theorem fine_scaled {R k : Nat} (t : Nat) (c : Int) (ht : t < R) (hc : Smn c) : ∀ (n a : Nat), a < R → ∀ x ∈ scaledL t n a c, Fine R k x := by
  intro n
  induction n with
  | zero => intro a _ x hx; simp [scaledL] at hx
  | succ n ih =>
    intro a ha x hx
    rcases List.mem_append.1 hx with h | h
    · exact fine_addI (fine_times t a c ht ha hc) x h
    · exact ih t ht x h
theorem fine_two {R k : Nat} (op : Int) (t a b : Nat) (h : op = 3 ∨ op = 4) (ht : t < R) (ha : a < R) (hb : b < R) : Fine R k ⟨op, t, a, b, 0⟩ := by
  refine ⟨?_, by dsimp only; omega, by dsimp only; omega, fun e => ?_, fun e => ?_⟩
  · rw [mayB_iff]
    dsimp only
    refine ⟨by omega, by omega, by omega, by omega, fun e => (by unfold twoB at e; have := of_decide_eq_false e; omega), ?_, by omega, by omega, fun _ => ⟨by omega, by omega⟩⟩
    rw [constB_else (by omega) (by omega)]; rfl
  · dsimp only at e; omega
  · dsimp only at e; omega
theorem fine_addN {R k : Nat} (t j term n : Nat) (b : Int) (ht : t < R) (hj : j < R) (hm : term < R) (hb : b ≠ 0) (hb2 : -16 ≤ b ∧ b ≤ 16) : ∀ x ∈ addN t j b term n, Fine R k x := by
  intro x hx
  unfold addN at hx
  split at hx
  · simp at hx; subst hx; exact fine_two 3 t t j (.inl rfl) ht ht hj
  split at hx
  · simp at hx; subst hx; exact fine_two 4 t t j (.inr rfl) ht ht hj
  · rcases List.mem_append.1 hx with h | h
    · exact fine_scaled term b hm ⟨hb, hb2⟩ n j hj x h
    · simp at h; subst h; exact fine_two 3 t t term (.inl rfl) ht ht hm
theorem fine_horn {R k : Nat} (t term : Nat) (a b : Int) (ht : t < R) (hm : term < R) (hk : k < R) (ha : Smn a) (hb : Smn b) : ∀ s, ∀ x ∈ hornL k t term a b s, Fine R k x := by
  intro s
  induction s with
  | zero => intro x hx; simp [hornL] at hx
  | succ s ih =>
    intro x hx
    unfold hornL at hx
    rw [show (if s = 0 then ((k - 1 : Nat) : Int) else (t : Int)) = ((if s = 0 then k - 1 else t : Nat) : Int) by split <;> rfl] at hx
    rcases List.mem_append.1 hx with h | h
    · exact ih x h
    rcases List.mem_append.1 h with h | h
    · exact fine_addI (fine_times t _ a ht (by split <;> omega) ha) x h
    · exact fine_addN t _ term _ b ht (by omega) hm hb.1 hb.2 x h
theorem fine_point {R k : Nat} (t term : Nat) (q : Int × Int) (ht : t < R) (hm : term < R) (hk : k < R) (hq : Pt.PIn q.1 q.2) : ∀ x ∈ pointL k t term q, Fine R k x := by
  intro x hx
  obtain ⟨q1, q2⟩ := q
  unfold Pt.PIn at hq
  unfold pointL at hx
  split at hx
  · simp at hx
  split at hx
  · simp at hx; subst hx; exact fine_two 4 t 0 0 (.inr rfl) ht (by omega) (by omega)
  rename_i h0
  split at hx
  · rename_i ha
    exact fine_scaled t q2 ht ⟨fun e => h0 ⟨ha, e⟩, hq.2.2⟩ _ 0 (by omega) x hx
  rename_i ha
  split at hx
  · exact fine_scaled t q1 ht ⟨ha, hq.1, hq.2.1⟩ _ _ (by omega) x hx
  rename_i hb
  exact fine_horn t term q1 q2 ht hm hk ⟨ha, hq.1, hq.2.1⟩ ⟨hb, hq.2.2⟩ _ x hx
theorem fine_code {k n : Nat} (f : Nat → Int × Int) (hq : ∀ i, i < n → Pt.PIn (f i).1 (f i).2) : ∀ i, i ≤ n → ∀ x ∈ codeL k n f i, Fine (k + n + 1) k x := by
  intro i
  induction i with
  | zero => intro _ x hx; simp [codeL] at hx
  | succ i ih =>
    intro hi x hx
    rcases List.mem_append.1 hx with h | h
    · exact ih (by omega) x h
    · exact fine_point (k + i) (k + n) (f i) (by omega) (by omega) (by omega) (hq i (by omega)) x h
theorem addI_le (i : Ins) : (addI i).length ≤ 1 := by unfold addI; split <;> simp
theorem scaled_le (t c : Int) : ∀ (n : Nat) (a : Int), (scaledL t n a c).length ≤ n := by
  intro n
  induction n with
  | zero => intro a; simp [scaledL]
  | succ n ih =>
    intro a
    unfold scaledL
    rw [List.length_append]
    have := addI_le (timesI t a c)
    have := ih t
    omega
theorem addN_le (t j b term : Int) (n : Nat) : (addN t j b term n).length ≤ n + 1 := by
  unfold addN
  split
  · simp
  split
  · simp
  · rw [List.length_append]
    have := scaled_le term b n j
    simp; omega
theorem horn_le (k : Nat) (t term a b : Int) : ∀ s, (hornL k t term a b s).length * 2 ≤ s * (s + 5) := by
  intro s
  induction s with
  | zero => simp [hornL]
  | succ s ih =>
    unfold hornL
    rw [List.length_append, List.length_append]
    have h1 := addI_le (timesI t (if s = 0 then ((k - 1 : Nat) : Int) else t) a)
    have h2 := addN_le t ((k - 2 - s : Nat) : Int) b term (s + 1)
    have h3 : (s + 1) * (s + 1 + 5) = s * (s + 5) + 2 * s + 6 := by grind
    omega
theorem point_le (k : Nat) (t term : Int) (q : Int × Int) (hk : 1 ≤ k) : (pointL k t term q).length * 2 ≤ k * (k + 3) := by
  obtain ⟨m, rfl⟩ : ∃ m, k = m + 1 := ⟨k - 1, by omega⟩
  have h3 : (m + 1) * (m + 1 + 3) = m * (m + 5) + 4 := by grind
  have h4 : 2 * m ≤ m * (m + 5) := by
    have : m * 2 ≤ m * (m + 5) := Nat.mul_le_mul (Nat.le_refl _) (by omega)
    omega
  unfold pointL
  split
  · simp
  split
  · simp; omega
  split
  · have := scaled_le t q.2 (m + 1 - 1) 0; omega
  split
  · have := scaled_le t q.1 (m + 1 - 1) ((m + 1 - 1 : Nat) : Int); omega
  · have := horn_le (m + 1) t term q.1 q.2 (m + 1 - 1)
    rw [show m + 1 - 1 = m by omega] at this ⊢
    omega
theorem code_le (k n : Nat) (f : Nat → Int × Int) (hk : 1 ≤ k) : ∀ i, (codeL k n f i).length * 2 ≤ i * (k * (k + 3)) := by
  intro i
  induction i with
  | zero => simp [codeL]
  | succ i ih =>
    unfold codeL
    rw [List.length_append, Nat.succ_mul]
    have := point_le k ((k + i : Nat) : Int) ((k + n : Nat) : Int) (f i) hk
    omega
/-- the program may be -/
theorem code_ok {k n : Nat} {f : Nat → Int × Int} (hk : 1 ≤ k) (hk8 : k ≤ 8) (hn : 1 ≤ n) (hn15 : n ≤ 15) (hq : ∀ i, i < n → Pt.PIn (f i).1 (f i).2) : ProgOk k (k + n + 1 : Nat) (codeL k n f n) (outsL k n) := by
  have h1 := code_le k n f hk n
  have h2 : k * (k + 3) ≤ 8 * 11 := Nat.mul_le_mul hk8 (by omega)
  have h3 : n * (k * (k + 3)) ≤ 15 * (8 * 11) := Nat.mul_le_mul hn15 h2
  refine ⟨by omega, by omega, by omega, by omega, by rw [outsL_len]; omega, by rw [outsL_len]; omega, fun i hi => ?_, fun i hi => ?_⟩
  · rw [outsL_len] at hi
    rw [outsL_get hi]
    unfold outL
    split <;> omega
  · have e : (codeL k n f n).getD i default = (codeL k n f n)[i] := by simp [hi]
    rw [e]
    exact (fine_code f hq n (Nat.le_refl _) _ (List.getElem_mem hi)).1
end Go.Proofs.YtdllbdfchloijaaDoor

