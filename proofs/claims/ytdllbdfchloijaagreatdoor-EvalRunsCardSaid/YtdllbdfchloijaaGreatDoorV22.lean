/- Texts of this seat, laid together: EvI, EvW, EvO, MxG. Each opens with its own remark, which says what it proves, and under which conditions. -/
import Derived.Test.YtdllbdfchloijaaGreatDoorV15
import Derived.Test.YtdllbdfchloijaaGreatDoorV18
import Derived.Test.YtdllbdfchloijaaGreatDoorV21
import Derived.Test.YtdllbdfchloijaaGreatDoorV02
import Derived.Deep.RegionLaw
import Derived.Test.YtdllbdfchloijaaGreatDoorV17
import Derived.Test.YtdllbdfchloijaaGreatDoorV11
set_option linter.unusedVariables false
set_option linter.unusedSimpArgs false
/- eval: Value. -/
namespace Go.Proofs.YtdllbdfchloijaaGreatDoor
open Pt
open Num
open Go.ChangeShapes Go.WideShapes Go.ChangeAt Go.RowKit
set_option linter.unusedVariables false
set_option linter.unusedSimpArgs false
attribute [local go_sem ↓] Go.wp_at_zero Go.wp_at_succ
theorem IsInt.litE {w : World} {v : Value} {z : Int} (h : IsInt w v z) : ∃ n a l c, v = .agg #[.bool n, .slice a l c] := by
  obtain ⟨n, a, c, l, rfl, -⟩ := h
  exact ⟨n, a, l.length, c, rfl⟩
/-- the value of coefficients at a point -/
def hvL (l : List Int) (a b : Int) : Int := Det.hv l.length (fun i => l.getD i 0) a b
/-- the first summands of it -/
def hvP (l : List Int) (a b : Int) (j : Nat) : Int := Det.isum j fun m => l.getD m 0 * Det.pf a b l.length m
theorem hvP_all (l : List Int) (a b : Int) : hvP l a b l.length = hvL l a b := rfl
theorem pf_bd {a b : Int} (h : PIn a b) {n : Nat} (hn : n ≤ 16) (i : Nat) (hi : i < n) : Bd 200 (Det.pf a b n i) := by
  unfold Det.pf
  exact ((bd_pt h.1 h.2.1).pow i).mul ((bd_pt h.2.2.1 h.2.2.2).pow (n - 1 - i)) |>.mono (by omega)
theorem hvP_bd {l : List Int} {a b : Int} {K : Nat} (h : PIn a b) (hl : l.length ≤ 16) (hb : ∀ j, Bd K (l.getD j 0)) : ∀ j, j ≤ l.length → Bd (K + 200 + j) (hvP l a b j) := by
  intro j
  induction j with
  | zero => intro _; exact bd_zero
  | succ j ih =>
    intro hj
    have h1 : Bd (K + 200 + j) (l.getD j 0 * Det.pf a b l.length j) := ((hb j).mul (pf_bd h hl j (by omega))).mono (by omega)
    exact Bd.add (ih (by omega)) h1
set_option maxRecDepth 100000 in
set_option maxHeartbeats 8000000 in
theorem value_no (v : Value) (l : List Int) (a b : Int) (w : World) (hv : PRow 0 w v l) (h : ¬ (1 ≤ l.length ∧ l.length ≤ 16 ∧ PIn a b)) :
    Calls Tryz.prog 22 #[v, pv a b] w fun e w' => e = .returned (.tuple #[.agg #[.bool false, .slice none 0 0], .int .i64 2]) ∧ Below w.heap.size w w' := by
  obtain ⟨va, vc, rfl, -, -⟩ := hv.view
  obtain ⟨n, hn⟩ : ∃ n, l.length = n := ⟨_, rfl⟩
  rw [hn] at h ⊢
  clear hv hn
  have hB := Below.refl w.heap.size w
  by_cases h1 : n < 1
  · have d1 : decide ((n : Int) < 1) = true := decide_eq_true (by omega)
    go_enter Tryz.func22, Tryz.ntmps22
    go_wp2
    refine bodyPost_ret (v := .tuple #[.agg #[.bool false, .slice none 0 0], .int .i64 2]) (by simp [results, Tryz.results22, go_sem, *]) rfl ⟨rfl, by repeat (first | exact Below.refl _ _ | exact hB | refine Below.drew ?_ | refine below_drewN ?_ _ | refine bset ?_ (by simp <;> omega) _ | refine bal ?_ _)⟩
  have d1 : decide ((n : Int) < 1) = false := decide_eq_false (by omega)
  by_cases h2 : 16 < n
  · have d2 : decide (16 < (n : Int)) = true := decide_eq_true (by omega)
    go_enter Tryz.func22, Tryz.ntmps22
    go_wp2
    refine bodyPost_ret (v := .tuple #[.agg #[.bool false, .slice none 0 0], .int .i64 2]) (by simp [results, Tryz.results22, go_sem, *]) rfl ⟨rfl, by repeat (first | exact Below.refl _ _ | exact hB | refine Below.drew ?_ | refine below_drewN ?_ _ | refine bset ?_ (by simp <;> omega) _ | refine bal ?_ _)⟩
  have d2 : decide (16 < (n : Int)) = false := decide_eq_false (by omega)
  have cc := fun W => ptIn_v a b false W (inB_no fun q => h ⟨by omega, by omega, q⟩)
  clear h
  go_enter Tryz.func22, Tryz.ntmps22
  go_wp2_with fail
  refine (cc _).mono ?_
  rintro e w1 ⟨rfl, hb1⟩
  have r0 : w1.cell? ⟨w.heap.size + 1, 0, none⟩ = some (.bool false) := bkc hb1
  have zr0 := cell_lt r0
  have r0f : w1.frozen? ⟨w.heap.size + 1, 0, none⟩ = false := bkcf (v := .bool false) hb1
  have r1 : w1.cell? ⟨w.heap.size + 1, 1, none⟩ = some (.slice none 0 0) := bkc hb1
  have r1f : w1.frozen? ⟨w.heap.size + 1, 1, none⟩ = false := bkcf (v := .slice none 0 0) hb1
  have hB : Below w.heap.size w w1 := bthen (by repeat (first | exact Below.refl _ _ | exact hB | refine Below.drew ?_ | refine below_drewN ?_ _ | refine bset ?_ (by simp <;> omega) _ | refine bal ?_ _)) hb1
  have hz : w.heap.size ≤ w1.heap.size := hB.size
  clear cc hb1
  go_wp2
  refine bodyPost_ret (v := .tuple #[.agg #[.bool false, .slice none 0 0], .int .i64 2]) (by simp [results, Tryz.results22, go_sem, *]) rfl ⟨rfl, by repeat (first | exact Below.refl _ _ | exact hB | refine Below.drew ?_ | refine below_drewN ?_ _ | refine bset ?_ (by simp <;> omega) _ | refine bal ?_ _)⟩
set_option maxRecDepth 100000 in
set_option maxHeartbeats 16000000 in
theorem value_c (v : Value) (l : List Int) (K : Nat) (a b : Int) (w : World) (hv : PRow 0 w v l) (h1 : 1 ≤ l.length) (h2 : l.length ≤ 16) (hp : PIn a b) (hb : ∀ j, Bd K (l.getD j 0)) (hK : K ≤ 1000000) :
    Calls Tryz.prog 22 #[v, pv a b] w fun e w' => (∃ u, e = .returned (.tuple #[u, .int .i64 0]) ∧ IsInt w' u (hvL l a b)) ∧ Below w.heap.size w w' := by
  have HV := Lib.hid hv
  obtain ⟨va, vc, rfl, -, -⟩ := hv.view
  have HBP := Lib.hid (hvP_bd hp h2 hb)
  have HBL := Lib.hid hb
  have HPF := Lib.hid (fun i (hi : i < l.length) => pf_bd hp h2 i hi)
  have HST := Lib.hid (fun j => (show hvP l a b (j + 1) = hvP l a b j + l.getD j 0 * Det.pf a b l.length j from rfl))
  have HAL := Lib.hid (hvP_all l a b)
  obtain ⟨n, hn⟩ : ∃ n, l.length = n := ⟨_, rfl⟩
  have HN := Lib.hid hn
  rw [hn] at HBP HPF HST HAL h1 h2 ⊢
  obtain ⟨S, hS⟩ : ∃ S, hvP l a b = S := ⟨_, rfl⟩
  have HS0 := Lib.hid (show S 0 = 0 by rw [← hS]; rfl)
  rw [hS] at HBP HST HAL
  clear hv hn hb hS
  have hB := Below.refl w.heap.size w
  have d1 : decide ((n : Int) < 1) = false := decide_eq_false (by omega)
  have d2 : decide (16 < (n : Int)) = false := decide_eq_false (by omega)
  have cc := fun W => ptIn_v a b true W (inB_yes hp)
  have pc := fun W => ptPow_yes a b n W hp h2
  go_enter Tryz.func22, Tryz.ntmps22
  go_wp2_with fail
  refine (cc _).mono ?_
  rintro e w1 ⟨rfl, hb1⟩
  have p0 : w1.cell? ⟨w.heap.size, 0, none⟩ = some (.int .i64 a) := bkc hb1
  have zp0 := cell_lt p0
  have p1 : w1.cell? ⟨w.heap.size, 1, none⟩ = some (.int .i64 b) := bkc hb1
  have r0 : w1.cell? ⟨w.heap.size + 1, 0, none⟩ = some (.bool false) := bkc hb1
  have zr0 := cell_lt r0
  have r0f : w1.frozen? ⟨w.heap.size + 1, 0, none⟩ = false := bkcf (v := .bool false) hb1
  have r1 : w1.cell? ⟨w.heap.size + 1, 1, none⟩ = some (.slice none 0 0) := bkc hb1
  have r1f : w1.frozen? ⟨w.heap.size + 1, 1, none⟩ = false := bkcf (v := .slice none 0 0) hb1
  have hB : Below w.heap.size w w1 := bthen (by repeat (first | exact Below.refl _ _ | exact hB | refine Below.drew ?_ | refine below_drewN ?_ _ | refine bset ?_ (by simp <;> omega) _ | refine bal ?_ _)) hb1
  have hz : w.heap.size ≤ w1.heap.size := hB.size
  clear cc hb1
  go_wp2_with fail
  refine (pc _).mono ?_
  rintro e w2 ⟨⟨g, rfl, hg⟩, hb2⟩
  have p0 : w2.cell? ⟨w.heap.size, 0, none⟩ = some (.int .i64 a) := bkc hb2
  have zp0 := cell_lt p0
  have p1 : w2.cell? ⟨w.heap.size, 1, none⟩ = some (.int .i64 b) := bkc hb2
  have r0 : w2.cell? ⟨w.heap.size + 1, 0, none⟩ = some (.bool false) := bkc hb2
  have zr0 := cell_lt r0
  have r0f : w2.frozen? ⟨w.heap.size + 1, 0, none⟩ = false := bkcf (v := .bool false) hb2
  have r1 : w2.cell? ⟨w.heap.size + 1, 1, none⟩ = some (.slice none 0 0) := bkc hb2
  have r1f : w2.frozen? ⟨w.heap.size + 1, 1, none⟩ = false := bkcf (v := .slice none 0 0) hb2
  have hB : Below w.heap.size w w2 := bthen (by repeat (first | exact Below.refl _ _ | exact hB | refine Below.drew ?_ | refine below_drewN ?_ _ | refine bset ?_ (by simp <;> omega) _ | refine bal ?_ _)) hb2
  have hz : w.heap.size ≤ w2.heap.size := hB.size
  have HG := Lib.hid hg
  have H2 := Lib.hid (And.intro hB (And.intro (And.intro r0 r1) (And.intro r0f r1f)))
  have hBw := Below.refl w2.heap.size w2
  clear pc hb2 hg hB p0 p1 r0 r1 r0f r1f
  go_wp2
  go_loopw [38] (fun x wr => ∃ j : Nat, j ≤ n ∧ x = .int .i64 j ∧ Below w2.heap.size w2 wr ∧ Hid (VarI w2.heap.size (S j) wr)) (fun x _ => n - (intOf x).toNat)
  case atStart => exact ⟨0, Nat.zero_le _, rfl, by repeat (first | exact Below.refl _ _ | exact hBw | refine Below.drew ?_ | refine below_drewN ?_ _ | refine bset ?_ (by simp <;> omega) _ | refine bal ?_ _), Lib.hid (by rw [HS0.out]; exact ⟨typ_fresh (by simp), false, none, 0, 0, by simp [go_sem], by simp [go_sem], by simp [go_sem], by simp [go_sem], isInt_zero _⟩)⟩
  case round =>
    obtain ⟨j, hj, rfl, hBr, hV⟩ := hrel
    by_cases hlt : j < n
    · have hltI : (j : Int) < (n : Int) := by omega
      have HLT := Lib.hid hlt
      obtain ⟨_, _, e, -, vr⟩ := (IsRow.keep lims_int HV.out (bthen H2.out.1 hBr)).view
      cases e
      obtain ⟨xb, xo, xn, xa, xl, xc, e, d0, d1, hx⟩ := vr j (by rw [HN.out]; exact hlt)
      cases e
      obtain ⟨gn, ga, gl, gc, g0, g1, hgi⟩ := (HG.out.keep lims_int hBr).at0 hlt
      have zd := cell_lt d0
      have zg := cell_lt g0
      have zv := typ_lt hV.out.1
      have hBw := Below.refl wr.heap.size wr
      clear vr
      go_wp2
      refine wp_name fun w4 hW4 => ?_
      have hk4 : Below wr.heap.size wr w4 := by rw [hW4]; repeat (first | exact Below.refl _ _ | exact hBw | refine Below.drew ?_ | refine below_drewN ?_ _ | refine bset ?_ (by simp <;> omega) _ | refine bal ?_ _)
      have x0 : w4.cell? ⟨wr.heap.size, 0, none⟩ = some (.bool xn) := by rw [hW4]; simp [go_sem]
      have x1 : w4.cell? ⟨wr.heap.size, 1, none⟩ = some (.slice xa xl xc) := by rw [hW4]; simp [go_sem]
      have HXI := Lib.hid (hx.lim (.of_below hk4))
      have HGI := Lib.hid (hgi.lim (.of_below hk4))
      have V4 := Lib.hid (hV.out.keep hk4)
      have hB4 := bthen hBr hk4
      replace g0 := bkeep hk4 g0
      replace g1 := bkeep hk4 g1
      obtain ⟨-, sn, sa, sl, sc, s0, s1, s0f, s1f, hs⟩ := V4.out
      have HSI := Lib.hid hs
      have HSE := Lib.hid (HST.out j)
      have HB1 := Lib.hid (And.intro (HBL.out j) (And.intro (HPF.out j hlt) (HBP.out j hj)))
      obtain ⟨xz, hxz⟩ : ∃ z, l.getD j 0 = z := ⟨_, rfl⟩
      obtain ⟨pz, hpz⟩ : ∃ z, Det.pf a b n j = z := ⟨_, rfl⟩
      rw [hxz] at HXI HSE HB1
      rw [hpz] at HSE HB1
      have hgz : powF a b n j = pz := hpz
      rw [hgz] at HGI
      have MC := Lib.hid (fun W (q : Below w4.heap.size w4 W) => mul_c (.agg #[.bool xn, .slice xa xl xc]) (.agg #[.bool gn, .slice ga gl gc]) xz pz K 200 W (HXI.out.keep q) (HGI.out.keep q) HB1.out.1 HB1.out.2.1 (by omega) (by decide))
      have AC := Lib.hid (fun u W (q : Below w4.heap.size w4 W) (hu : IsInt W u (xz * pz)) => addI_c (.agg #[.bool sn, .slice sa sl sc]) u (S j) (xz * pz) (K + 200 + j) W (HSI.out.keep q) hu HB1.out.2.2 ((HB1.out.1.mul HB1.out.2.1).mono (by omega)) (by omega))
      have HC := Lib.hid (show ∀ V, Below w4.heap.size w4 V → V.cell? ⟨w2.heap.size, 0, none⟩ = some (.bool sn) ∧ V.cell? ⟨w2.heap.size, 1, none⟩ = some (.slice sa sl sc) ∧ V.cell? ⟨wr.heap.size, 0, none⟩ = some (.bool xn) ∧ V.cell? ⟨wr.heap.size, 1, none⟩ = some (.slice xa xl xc) ∧ V.cell? ⟨g, j * 2, none⟩ = some (.bool gn) ∧ V.cell? ⟨g, j * 2 + 1, none⟩ = some (.slice ga gl gc) ∧ V.frozen? ⟨w2.heap.size, 0, none⟩ = false ∧ V.frozen? ⟨w2.heap.size, 1, none⟩ = false from fun V q => ⟨bkeep q s0, bkeep q s1, bkeep q x0, bkeep q x1, bkeep q g0, bkeep q g1, bkeepf q s0 s0f, bkeepf q s1 s1f⟩)
      clear hW4 hk4 hx hgi hs hxz hpz hgz hV d0 d1 zd hBw hBr
      have zs := cell_lt s0
      have zx := cell_lt x0
      have zg := cell_lt g0
      have hBw := Below.refl w4.heap.size w4
      go_region_law (go_simp; go_wp2_with (first
        | (go_at_call 57; (with_reducible refine (MC.out _ ?_).mono ?_); (repeat (first | exact Below.refl _ _ | exact hBw | refine Below.drew ?_ | refine below_drewN ?_ _ | refine bset ?_ (by simp <;> omega) _ | refine bal ?_ _)); rintro e w5 ⟨⟨u5, rfl, hu⟩, hb5⟩; (have hBd : Below w4.heap.size w4 w5 := bthen (by repeat (first | exact Below.refl _ _ | exact hBw | refine Below.drew ?_ | refine below_drewN ?_ _ | refine bset ?_ (by simp <;> omega) _ | refine bal ?_ _)) hb5; clear hBw; have hBw := hBd; clear hBd); obtain ⟨s0, s1, x0, x1, g0, g1, s0f, s1f⟩ := HC.out w5 hBw; have HU5 := Lib.hid hu; have hy5 := Below.refl w5.heap.size w5; have zs5 := cell_lt s0; have zx5 := cell_lt x0; have zg5 := cell_lt g0; obtain ⟨n5, a5, l5, k5, rfl⟩ := hu.litE; clear hu)
        | (go_at_call 56; (with_reducible refine (AC.out _ _ ?_ (HU5.out.keep ?_)).mono ?_); (repeat (first | exact Below.refl _ _ | exact hBw | refine Below.drew ?_ | refine below_drewN ?_ _ | refine bset ?_ (by simp <;> omega) _ | refine bal ?_ _)); (repeat (first | exact Below.refl _ _ | exact hy5 | refine Below.drew ?_ | refine below_drewN ?_ _ | refine bset ?_ (by simp <;> omega) _ | refine bal ?_ _)); rintro e w6 ⟨⟨u6, rfl, hu⟩, hb6⟩; (have hBd : Below w4.heap.size w4 w6 := bthen (by repeat (first | exact Below.refl _ _ | exact hBw | refine Below.drew ?_ | refine below_drewN ?_ _ | refine bset ?_ (by simp <;> omega) _ | refine bal ?_ _)) hb6; clear hBw; have hBw := hBd; clear hBd); obtain ⟨s0, s1, x0, x1, g0, g1, s0f, s1f⟩ := HC.out w6 hBw; have HU6 := Lib.hid hu; have zs6 := cell_lt s0; obtain ⟨n6, a6, l6, k6, rfl⟩ := hu.litE; clear hu)
        | fail))
      all_goals
        have HV6 := Lib.hid (show VarI w2.heap.size (S (j + 1)) ((w6.setCell ⟨w2.heap.size, 0, none⟩ (.bool n6)).setCell ⟨w2.heap.size, 1, none⟩ (.slice a6 l6 k6)) from ⟨by rw [typ_set, typ_set]; exact typ_keep V4.out.1 hBw, n6, a6, l6, k6, cell_far (cell_here s0 _) (by simp) _, cell_here (cell_far s1 (by simp) _) _, by simpa [go_sem] using s0f, by simpa [go_sem] using s1f, by rw [HSE.out]; exact HU6.out.put2 s0 s1 _ _⟩)
        have hB6 := bset (bset (bthen hB4 hBw) (p := ⟨w2.heap.size, 0, none⟩) (Nat.le_refl _) (.bool n6)) (p := ⟨w2.heap.size, 1, none⟩) (Nat.le_refl _) (.slice a6 l6 k6)
        have hlJ := HLT.out
        clear MC AC HC V4 HU5 HU6 HSE HSI HXI HGI x0 x1 g0 g1 zs zx zg hBw hB4
        go_wp2
        exact ⟨⟨j + 1, hlJ, by go_num, hB6, HV6⟩, measS hlJ (by go_num) rfl⟩
    · obtain rfl : n = j := by omega
      have hltI : ¬ (n : Int) < (n : Int) := by omega
      have r0 := bkeep hBr H2.out.2.1.1
      have r1 := bkeep hBr H2.out.2.1.2
      have r0f := bkeepf hBr H2.out.2.1.1 H2.out.2.2.1
      have r1f := bkeepf hBr H2.out.2.1.2 H2.out.2.2.2
      obtain ⟨-, sn, sa, sl, sc, s0, s1, s0f, s1f, hs⟩ := hV.out
      have hbt := bthen H2.out.1 hBr
      have HP := Lib.hid (hs.put2 r0 r1)
      have zr := cell_lt r0
      have zs := cell_lt s0
      have hB := hbt
      clear hs hbt hV
      go_wp2
      refine bodyPost_ret (v := .tuple #[.agg #[.bool sn, .slice sa sl sc], .int .i64 0]) (by simp [results, Tryz.results22, go_sem, *]) rfl ⟨⟨_, rfl, ?_⟩, ?_⟩
      · rw [← HAL.out]; exact HP.out _ _
      ·
        repeat (first | exact Below.refl _ _ | exact hB | refine Below.drew ?_ | refine below_drewN ?_ _ | refine bset ?_ (by simp <;> omega) _ | refine bal ?_ _)
end Go.Proofs.YtdllbdfchloijaaGreatDoor

/- eval: Values. -/
namespace Go.Proofs.YtdllbdfchloijaaGreatDoor
open Pt
open Num
open Go.ChangeShapes Go.WideShapes Go.ChangeAt Go.RowKit
set_option linter.unusedVariables false
set_option linter.unusedSimpArgs false
attribute [local go_sem ↓] Go.wp_at_zero Go.wp_at_succ
/-- the values at the points -/
def valsL (l : List Int) (n : Nat) (f : Nat → Int × Int) : List Int := (List.range n).map fun i => hvL l (f i).1 (f i).2
theorem valsL_len (l : List Int) (n : Nat) (f : Nat → Int × Int) : (valsL l n f).length = n := by simp [valsL]
theorem valsL_at {l : List Int} {n i : Nat} {f : Nat → Int × Int} (h : i < n) : (valsL l n f).getD i 0 = hvL l (f i).1 (f i).2 := by simp [valsL, h]
set_option maxRecDepth 100000 in
set_option maxHeartbeats 8000000 in
theorem values_c (v : Value) (l : List Int) (K : Nat) (a : Option Addr) (n cap : Nat) (f : Nat → Int × Int) (w : World) (hv : PRow 0 w v l) (h1 : 1 ≤ l.length) (h2 : l.length ≤ 16) (hp : PtsV w a n cap f) (hok : PtsOk n f) (hb : ∀ j, Bd K (l.getD j 0)) (hK : K ≤ 1000000) :
    Calls Tryz.prog 15 #[v, .slice a n cap] w fun e w' => (∃ va, e = .returned (.tuple #[va, .int .i64 0]) ∧ RowO IsInt 50 w.heap.size w' va (valsL l n f)) ∧ Below w.heap.size w w' := by
  have hB := Below.refl w.heap.size w
  have HV := Lib.hid hv
  have HP := Lib.hid hp
  have HK := Lib.hid hok
  have hn15 : n ≤ 15 := hok.2.1
  obtain ⟨va, vc, rfl, -, -⟩ := hv.view
  obtain ⟨P, hP⟩ : ∃ P, l.length = P := ⟨_, rfl⟩
  have HLN := Lib.hid hP
  rw [hP] at HV h1 h2 ⊢
  clear hP
  have PC := Lib.hid (fun V (q : Below w.heap.size w V) => evPoints_c a n cap f V (HP.out.keep q) (by omega))
  rw [(ptsB_iff n f).2 hok] at PC
  have HN := Lib.hid (valsL_len l n f)
  have HL := Lib.hid (fun i (h : i < n) => valsL_at (l := l) (f := f) h)
  have HVB := Lib.hid hb
  obtain ⟨G, hG⟩ : ∃ G, valsL l n f = G := ⟨_, rfl⟩
  rw [hG] at HN HL ⊢
  clear hv hp hok hb hG
  go_enter Tryz.func15, Tryz.ntmps15
  go_wp2_with fail
  (with_reducible refine (PC.out _ ?_).mono ?_); (repeat (first | exact Below.refl _ _ | exact hB | refine Below.drew ?_ | refine below_drewN ?_ _ | refine bset ?_ (by simp <;> omega) _ | refine bal ?_ _))
  rintro e w1 ⟨rfl, hb1⟩
  have hB1 : Below w.heap.size w w1 := bthen (by repeat (first | exact Below.refl _ _ | exact hB | refine Below.drew ?_ | refine below_drewN ?_ _ | refine bset ?_ (by simp <;> omega) _ | refine bal ?_ _)) hb1
  clear PC hb1 hB
  go_wp2
  go_loopw [6, 16] (fun vv x wr => ∃ j : Nat, j ≤ n ∧ x = .int .i64 j ∧ Hid (OwnF IsInt 50 w wr vv j (fun i => G.getD i 0))) (fun _ x _ => n - (intOf x).toNat)
  case atStart => exact ⟨0, Nat.zero_le _, rfl, Lib.hid (OwnF.nil _ _ _ hB1)⟩
  case round =>
    obtain ⟨j, hj, rfl, hF⟩ := hrel
    have hBr := hF.out.bel
    obtain ⟨fa, fc, hfv⟩ : ∃ a c, _ = Value.slice a j c := by obtain ⟨a, c, h, _⟩ := hF.out.view; exact ⟨a, c, h⟩
    subst hfv
    by_cases hlt : j < n
    · have hltI : (j : Int) < (n : Int) := by omega
      obtain ⟨b, off, rfl, hcap, c0, c1⟩ := (HP.out.keep hBr).atE hlt
      have zb := cell_lt c0
      have HPN := Lib.hid (show PIn (f j).1 (f j).2 from HK.out.2.2 j hlt)
      have HSN := Lib.hid (show ∀ i, i < j + 1 → (fun m => if m = j then hvL l (f j).1 (f j).2 else G.getD m 0) i = G.getD i 0 from fun i hi => by
        dsimp only
        by_cases e : i = j
        · subst e; rw [if_pos rfl, HL.out i hlt]
        · rw [if_neg e])
      obtain ⟨pa, hpa⟩ : ∃ x, (f j).1 = x := ⟨_, rfl⟩
      obtain ⟨pb, hpb⟩ : ∃ x, (f j).2 = x := ⟨_, rfl⟩
      rw [hpa] at c0 HPN HSN
      rw [hpb] at c1 HPN HSN
      have hBw := Below.refl wr.heap.size wr
      have TC := Lib.hid (fun V (qB : Below wr.heap.size wr V) => value_c (.slice va P vc) l K pa pb V (IsRow.keep lims_int HV.out (bthen hBr qB)) (by rw [HLN.out]; exact h1) (by rw [HLN.out]; exact h2) HPN.out HVB.out hK)
      have hlN := hlt
      clear hpa hpb hcap hlt
      go_wp2_with fail
      (with_reducible refine (TC.out _ ?_).mono ?_); (repeat (first | exact Below.refl _ _ | exact hBw | refine Below.drew ?_ | refine below_drewN ?_ _ | refine bset ?_ (by simp <;> omega) _ | refine bal ?_ _))
      rintro e w5 ⟨⟨u, rfl, hu⟩, hb5⟩
      have hk : Below wr.heap.size wr w5 := bthen (by repeat (first | exact Below.refl _ _ | exact hBw | refine Below.drew ?_ | refine below_drewN ?_ _ | refine bset ?_ (by simp <;> omega) _ | refine bal ?_ _)) hb5
      have HF5 := Lib.hid (hF.out.below lims_int hk)
      have HU := Lib.hid hu
      obtain ⟨un, ud, ul, uk, rfl⟩ := hu.litE
      clear TC hb5 hu hF
      have hBw5 := Below.refl w5.heap.size w5
      go_upto_region 10 with (fail)
      refine wp_name fun w6 hW6 => ?_
      have hk6 : Below w5.heap.size w5 w6 := by rw [hW6]; repeat (first | exact Below.refl _ _ | exact hBw5 | refine Below.drew ?_ | refine below_drewN ?_ _ | refine bset ?_ (by simp <;> omega) _ | refine bal ?_ _)
      have t0 : w6.cell? ⟨w5.heap.size, 0, none⟩ = some (.bool un) := by rw [hW6]; simp [go_sem]
      have t1 : w6.cell? ⟨w5.heap.size, 1, none⟩ = some (.slice ud ul uk) := by rw [hW6]; simp [go_sem]
      have zt := cell_lt t0
      have HF6 := Lib.hid (HF5.out.below lims_int hk6)
      have HU6 := Lib.hid (HU.out.keep hk6)
      clear hW6 HF5 HU hk hBw hBw5 c0 c1
      go_wp2_with (at_builtin; refine app_num elInt (by decide) lims_int (by rfl) (by rfl) HF6.out HU6.out (by rfl) (by rfl) (by omega) ?_)
      intro v8 w8 hF8 _ _
      have HF8 := Lib.hid (hF8.congr' HSN.out)
      clear hF8
      go_wp2
      exact ⟨⟨j + 1, by omega, by go_num, HF8⟩, by simp [intOf]; omega⟩
    · obtain rfl : j = n := by omega
      have HE := Lib.hid hF.out
      rw [← HN.out] at HE
      go_wp2
      refine bodyPost_ret (v := .tuple #[.slice fa j fc, .int .i64 0]) (by simp [results, Tryz.results15, go_sem, *]) rfl ?_
      exact ⟨⟨_, rfl, by rw [HN.out] at HE; exact OwnF.rowO (by rw [HN.out]; exact HE.out)⟩, hBr⟩
set_option maxRecDepth 100000 in
set_option maxHeartbeats 8000000 in
theorem values_no (v : Value) (l : List Int) (a : Option Addr) (n cap : Nat) (f : Nat → Int × Int) (w : World) (hv : PRow 0 w v l) (hp : PtsV w a n cap f) (hn : n ≤ 4611686018427387904) (hno : ¬ (1 ≤ l.length ∧ l.length ≤ 16 ∧ PtsOk n f)) :
    Calls Tryz.prog 15 #[v, .slice a n cap] w fun e w' => e = .returned (.tuple #[.slice none 0 0, .int .i64 2]) ∧ Below w.heap.size w w' := by
  have hB := Below.refl w.heap.size w
  have HV := Lib.hid hv
  have HP := Lib.hid hp
  obtain ⟨va, vc, rfl, -, -⟩ := hv.view
  obtain ⟨P, hP⟩ : ∃ P, l.length = P := ⟨_, rfl⟩
  have HLN := Lib.hid hP
  rw [hP] at HV hno ⊢
  clear hv hp hP
  by_cases hok : PtsOk n f
  rotate_left
  · have PC := Lib.hid (fun V (q : Below w.heap.size w V) => evPoints_c a n cap f V (HP.out.keep q) hn)
    rw [ptsB_no hok] at PC
    clear hok hno
    go_enter Tryz.func15, Tryz.ntmps15
    go_wp2_with fail
    (with_reducible refine (PC.out _ ?_).mono ?_); (repeat (first | exact Below.refl _ _ | exact hB | refine Below.drew ?_ | refine below_drewN ?_ _ | refine bset ?_ (by simp <;> omega) _ | refine bal ?_ _))
    rintro e w1 ⟨rfl, hb1⟩
    have hB1 : Below w.heap.size w w1 := bthen (by repeat (first | exact Below.refl _ _ | exact hB | refine Below.drew ?_ | refine below_drewN ?_ _ | refine bset ?_ (by simp <;> omega) _ | refine bal ?_ _)) hb1
    clear PC hb1 hB
    go_wp2
    refine bodyPost_ret (v := .tuple #[.slice none 0 0, .int .i64 2]) (by simp [results, Tryz.results15, go_sem, *]) rfl ⟨rfl, by repeat (first | exact Below.refl _ _ | exact hB1 | refine Below.drew ?_ | refine below_drewN ?_ _ | refine bset ?_ (by simp <;> omega) _ | refine bal ?_ _)⟩
  have HK := Lib.hid hok
  have hn1 : 1 ≤ n := hok.1
  have HNO := Lib.hid (show ¬ (1 ≤ P ∧ P ≤ 16) from fun q => hno ⟨q.1, q.2, hok⟩)
  have PC := Lib.hid (fun V (q : Below w.heap.size w V) => evPoints_c a n cap f V (HP.out.keep q) hn)
  rw [(ptsB_iff n f).2 hok] at PC
  clear hok hno
  go_enter Tryz.func15, Tryz.ntmps15
  go_wp2_with fail
  (with_reducible refine (PC.out _ ?_).mono ?_); (repeat (first | exact Below.refl _ _ | exact hB | refine Below.drew ?_ | refine below_drewN ?_ _ | refine bset ?_ (by simp <;> omega) _ | refine bal ?_ _))
  rintro e w1 ⟨rfl, hb1⟩
  have hB1 : Below w.heap.size w w1 := bthen (by repeat (first | exact Below.refl _ _ | exact hB | refine Below.drew ?_ | refine below_drewN ?_ _ | refine bset ?_ (by simp <;> omega) _ | refine bal ?_ _)) hb1
  clear PC hb1 hB
  have HB1 := Lib.hid hB1
  have hBr := hB1
  clear hB1
  obtain ⟨b, off, rfl, hcap, c0, c1⟩ := (HP.out.keep hBr).atE (i := 0) (by omega)
  clear c0 c1
  go_wp2
  go_loopw [6, 16] (fun vv x wr => vv = .slice none 0 0 ∧ x = .int .i64 ((0 : Nat) : Int) ∧ Below w.heap.size w wr) (fun _ x _ => 0)
  case atStart => exact ⟨rfl, rfl, HB1.out⟩
  case round =>
    obtain ⟨rfl, rfl, hBr⟩ := hrel
    have hltI : ((0 : Nat) : Int) < (n : Int) := by omega
    obtain ⟨_, _, e, -, c0, c1⟩ := (HP.out.keep hBr).atE (i := 0) (by omega)
    cases e
    simp only [Nat.zero_mul, Nat.add_zero] at c0 c1
    have zb := cell_lt c0
    obtain ⟨pa, hpa⟩ : ∃ x, (f 0).1 = x := ⟨_, rfl⟩
    obtain ⟨pb, hpb⟩ : ∃ x, (f 0).2 = x := ⟨_, rfl⟩
    rw [hpa] at c0
    rw [hpb] at c1
    have hBw := Below.refl wr.heap.size wr
    have TC := Lib.hid (fun V (qB : Below wr.heap.size wr V) => value_no (.slice va P vc) l pa pb V (IsRow.keep lims_int HV.out (bthen hBr qB)) (by rw [HLN.out]; exact fun q => HNO.out ⟨q.1, q.2.1⟩))
    clear hpa hpb hcap
    go_wp2_with fail
    (with_reducible refine (TC.out _ ?_).mono ?_); (repeat (first | exact Below.refl _ _ | exact hBw | refine Below.drew ?_ | refine below_drewN ?_ _ | refine bset ?_ (by simp <;> omega) _ | refine bal ?_ _))
    rintro e w5 ⟨rfl, hb5⟩
    have hB1 : Below w.heap.size w w5 := bthen hBr (bthen (show Below wr.heap.size wr _ by repeat (first | exact Below.refl _ _ | exact hBw | refine Below.drew ?_ | refine below_drewN ?_ _ | refine bset ?_ (by simp <;> omega) _ | refine bal ?_ _)) hb5)
    clear TC hb5 c0 c1
    go_wp2
    refine bodyPost_ret (v := .tuple #[.slice none 0 0, .int .i64 2]) (by simp [results, Tryz.results15, go_sem, *]) rfl ⟨rfl, by repeat (first | exact Below.refl _ _ | exact hB1 | refine Below.drew ?_ | refine below_drewN ?_ _ | refine bset ?_ (by simp <;> omega) _ | refine bal ?_ _)⟩
end Go.Proofs.YtdllbdfchloijaaGreatDoor

/- the coefficients of a product, plain; numbers that came in are of 64 bits. -/
namespace Go.Proofs.YtdllbdfchloijaaGreatDoor
open Num
set_option linter.unusedVariables false
set_option linter.unusedSimpArgs false
theorem rowI_bdE {w : World} {v : Value} {l : List Int} (h : RowI w v l) : ∀ j, Bd 64 (l.getD j 0) := fun j => by
  obtain ⟨a, c, -, h⟩ := h
  by_cases hj : j < l.length
  · obtain ⟨b, off, -, -, h5⟩ := h j hj
    unfold I64 at h5; unfold Bd; omega
  · rw [List.getD_eq_getElem?_getD, List.getElem?_eq_none (by omega)]; exact bd_zero
end Go.Proofs.YtdllbdfchloijaaGreatDoor

/- matrix: New. -/
namespace Go.Proofs.YtdllbdfchloijaaGreatDoor
open Num
open Go.ChangeShapes Go.WideShapes Go.ChangeAt Go.RowKit
set_option linter.unusedVariables false
set_option linter.unusedSimpArgs false
attribute [local go_sem ↓] Go.wp_at_zero Go.wp_at_succ
/-- a variable that holds a matrix -/
structure VarMx (b : Nat) (w : World) (v : Value) : Prop where
  ty : typOf w b = some 73
  c : w.cell? ⟨b, 0, none⟩ = some v
  f : w.frozen? ⟨b, 0, none⟩ = false
theorem VarMx.keep {b : Nat} {w w' : World} {v : Value} (h : VarMx b w v) (k : Below w.heap.size w w') : VarMx b w' v := ⟨typ_keep h.ty k, bkeep k h.c, bkeepf k h.c h.f⟩
theorem VarMx.kp {b : Nat} {S : TypeId → Prop} {w w' : World} {v : Value} (h : VarMx b w v) (k : Kp S w w') (hs : S 73) : VarMx b w' v := ⟨k.typ h.ty hs, k.cell h.ty hs h.c, k.frz h.ty hs h.f⟩
theorem VarMx.set {b : Nat} {w : World} {v : Value} (h : VarMx b w v) (u : Value) : VarMx b (w.setCell ⟨b, 0, none⟩ u) u := ⟨by rw [typ_set]; exact h.ty, cell_here h.c u, by rw [World.frozen?_setCell]; exact h.f⟩
theorem VarMx.far {b : Nat} {w : World} {v : Value} (h : VarMx b w v) {p : Addr} (hp : p.block ≠ b) (u : Value) : VarMx b (w.setCell p u) v := ⟨by rw [typ_set]; exact h.ty, cell_far h.c (fun e => hp (by rw [e])) u, by rw [World.frozen?_setCell]; exact h.f⟩
/-- what New says of rows -/
def fitsE (g : Grid) : Int := if g.length = 0 ∨ cols g = 0 then 2 else if 16 < g.length ∨ 16 < cols g then 3 else if ∀ i, i < g.length → (g.getD i []).length = cols g then 0 else 5
/-- what New answers -/
def NewMPost (g : Grid) (w : World) (e : Ending) (w' : World) : Prop :=
  ((fitsE g = 0 ∧ ∃ v, e = .returned (.tuple #[v, .int .i64 0]) ∧ IsM w.heap.size w' v g) ∨ (fitsE g ≠ 0 ∧ e = .returned (.tuple #[.agg #[.slice none 0 0], .int .i64 (fitsE g)]))) ∧ Below w.heap.size w w'
theorem newM_no {g : Grid} {w w' : World} {k : Int} (h : fitsE g = k) (hk : k ≠ 0) (hb : Below w.heap.size w w') : NewMPost g w (.returned (.tuple #[.agg #[.slice none 0 0], .int .i64 k])) w' := by
  subst h; exact ⟨.inr ⟨hk, rfl⟩, hb⟩
theorem newM_yes {g : Grid} {w w' : World} {v : Value} (h : fitsE g = 0) (hv : IsM w.heap.size w' v g) (hb : Below w.heap.size w w') : NewMPost g w (.returned (.tuple #[v, .int .i64 0])) w' := ⟨.inl ⟨h, _, rfl, hv⟩, hb⟩
set_option maxRecDepth 100000 in
set_option maxHeartbeats 16000000 in
theorem newM_c (v : Value) (g : Grid) (w : World) (hv : IsL 43 (PRow 0) 0 w v g) (hl : ∀ i, i < g.length → (g.getD i []).length ≤ 1099511627775) :
    Calls Tryz.prog 109 #[v] w (NewMPost g w) := by
  have HV := Lib.hid hv
  obtain ⟨ga, gc, rfl, -⟩ := hv
  have hB := Below.refl w.heap.size w
  by_cases h0 : g.length = 0
  · have HEE : Hid (fitsE g = 2) := Lib.hid (by unfold fitsE; rw [if_pos (.inl h0)])
    rw [h0] at *
    have hnI : ((0 : Int) == 0) = true := rfl
    clear HV hl
    go_enter Tryz.func109, Tryz.ntmps109
    go_wp2
    refine bodyPost_ret (v := .tuple #[.agg #[.slice none 0 0], .int .i64 2]) (by simp [results, Tryz.results109, go_sem, *]) rfl (newM_no HEE.out (by decide) ?_)
    repeat (first | exact Below.refl _ _ | exact hB | refine Below.drew ?_ | refine below_drewN ?_ _ | refine bset ?_ (by simp <;> omega) _ | refine bal ?_ _)
  · obtain ⟨c', gb, go, ra, rc, e, hu, hp⟩ := HV.out.row (show 0 < g.length by omega)
    obtain ⟨rfl, -, rfl⟩ := Value.slice.inj e
    rw [Nat.add_zero] at hu
    have zu := cell_lt hu
    have zu1 : gb < w.heap.size + 1 := by omega
    have hnI : ((g.length : Int) == 0) = false := beq_eq_false_iff_ne.2 (by omega)
    have hn0 : (0 : Int) < (g.length : Int) := by omega
    have hcol : (g.getD 0 []).length = cols g := rfl
    rw [hcol] at hu
    clear hcol e hp
    obtain ⟨m, hm⟩ : ∃ m, cols g = m := ⟨_, rfl⟩
    rw [hm] at hu
    have HM := Lib.hid hm
    clear hm
    by_cases h1 : m = 0
    · subst h1
      have HEE : Hid (fitsE g = 2) := Lib.hid (by unfold fitsE; rw [if_pos (.inr HM.out)])
      clear HV hl HM
      go_enter Tryz.func109, Tryz.ntmps109
      go_wp2
      refine bodyPost_ret (v := .tuple #[.agg #[.slice none 0 0], .int .i64 2]) (by simp [results, Tryz.results109, go_sem, *]) rfl (newM_no HEE.out (by decide) ?_)
      repeat (first | exact Below.refl _ _ | exact hB | refine Below.drew ?_ | refine below_drewN ?_ _ | refine bset ?_ (by simp <;> omega) _ | refine bal ?_ _)
    · have hmI : ((m : Int) == 0) = false := by simp; omega
      have hne : ¬ (g.length = 0 ∨ cols g = 0) := by rw [HM.out]; omega
      by_cases h2 : 16 < g.length
      · have HEE : Hid (fitsE g = 3) := Lib.hid (by unfold fitsE; rw [if_neg hne, if_pos (.inl h2)])
        have hb1 : (16 : Int) < (g.length : Int) := by omega
        clear HV hl HM hne
        go_enter Tryz.func109, Tryz.ntmps109
        go_wp2
        refine bodyPost_ret (v := .tuple #[.agg #[.slice none 0 0], .int .i64 3]) (by simp [results, Tryz.results109, go_sem, *]) rfl (newM_no HEE.out (by decide) ?_)
        repeat (first | exact Below.refl _ _ | exact hB | refine Below.drew ?_ | refine below_drewN ?_ _ | refine bset ?_ (by simp <;> omega) _ | refine bal ?_ _)
      · have hb1 : ¬ (16 : Int) < (g.length : Int) := by omega
        by_cases h3 : 16 < m
        · have HEE : Hid (fitsE g = 3) := Lib.hid (by unfold fitsE; rw [if_neg hne, if_pos (.inr (by rw [HM.out]; exact h3))])
          have hb2 : (16 : Int) < (m : Int) := by omega
          clear HV hl HM hne
          go_enter Tryz.func109, Tryz.ntmps109
          go_wp2
          refine bodyPost_ret (v := .tuple #[.agg #[.slice none 0 0], .int .i64 3]) (by simp [results, Tryz.results109, go_sem, *]) rfl (newM_no HEE.out (by decide) ?_)
          repeat (first | exact Below.refl _ _ | exact hB | refine Below.drew ?_ | refine below_drewN ?_ _ | refine bset ?_ (by simp <;> omega) _ | refine bal ?_ _)
        · have hb2 : ¬ (16 : Int) < (m : Int) := by omega
          have HE := Lib.hid (show fitsE g = if ∀ i, i < g.length → (g.getD i []).length = m then 0 else 5 from by
            unfold fitsE; rw [if_neg hne, if_neg (by rw [HM.out]; omega), HM.out])
          clear hne hl
          go_enter Tryz.func109, Tryz.ntmps109
          go_wp2
          refine wp_name fun w0 hW0 => ?_
          have hB0 : Below w.heap.size w w0 := by rw [hW0]; repeat (first | exact Below.refl _ _ | exact hB | refine Below.drew ?_ | refine below_drewN ?_ _ | refine bset ?_ (by simp <;> omega) _ | refine bal ?_ _)
          have HR0 := Lib.hid (show VarMx w.heap.size w0 (.slice none 0 0) ∧ VarMx (w.heap.size + 1) w0 (.slice none 0 0) from by
            rw [hW0]
            exact ⟨⟨typ_alloc (typ_fresh rfl), by simp [go_sem], by simp [go_sem]⟩, ⟨typ_fresh (by simp), by simp [go_sem], by simp [go_sem]⟩⟩)
          clear hW0
          go_loopw [31] (fun x wr => ∃ k : Nat, k ≤ g.length ∧ x = .int .i64 k ∧ Below w.heap.size w wr ∧ Hid (VarMx w.heap.size wr (.slice none 0 0) ∧ (∃ rv, VarMx (w.heap.size + 1) wr rv ∧ OwnL 43 (PRow w.heap.size) w wr rv (g.take k))) ∧ Hid (∀ j, j < k → (g.getD j []).length = m)) (fun x _ => g.length - (intOf x).toNat)
          case atStart => exact ⟨0, Nat.zero_le _, rfl, hB0, Lib.hid ⟨HR0.out.1, _, HR0.out.2, OwnL.nil _ _ hB0⟩, Lib.hid (fun j hj => by omega)⟩
          case round =>
            obtain ⟨k, hk, rfl, hBr, hrel, hall⟩ := hrel
            obtain ⟨hR, rv, hM, hO⟩ := hrel.out
            have r0 := hR.c
            have r0f := hR.f
            have zr := cell_lt r0
            by_cases hlt : k < g.length
            · have hltI : (k : Int) < (g.length : Int) := by omega
              obtain ⟨c2, gb2, go2, ra2, rc2, e2, hu2, hp2⟩ := (HV.out.keep (prs_prow 0) hBr).row hlt
              obtain ⟨⟨rfl, rfl⟩, -, rfl⟩ : (gb = gb2 ∧ go = go2) ∧ True ∧ gc = c2 := by
                have := Value.slice.inj e2
                simp at this
                exact ⟨this.1, trivial, this.2⟩
              have hu0 := bkeep hBr hu
              have zu2 := cell_lt hu0
              have zu3 := cell_lt hu2
              obtain ⟨lk, hlk⟩ : ∃ n, (g.getD k []).length = n := ⟨_, rfl⟩
              have HP2 := Lib.hid hp2
              rw [hlk] at hu2 HP2
              have HLK := Lib.hid hlk
              clear e2 hp2 hlk
              by_cases e1 : lk = m
              · subst e1
                have hq1 : ((lk : Int) != (lk : Int)) = false := by simp
                have HAL := Lib.hid (show ∀ j, j < k + 1 → (g.getD j []).length = lk from fun j hj => by
                  by_cases e : j = k
                  · subst e; exact HLK.out
                  · exact hall.out j (by omega))
                have kcl := fun W (h : Below wr.heap.size wr W) => cloneRow_c 0 (.slice ra2 lk rc2) (g.getD k []) W (HP2.out.keep lims_int h) (by rw [HLK.out]; omega)
                have HTK := Lib.hid (take_getD [] hlt)
                obtain ⟨row, hrow⟩ : ∃ row, g.getD k [] = row := ⟨_, rfl⟩
                rw [hrow] at HTK kcl
                clear hrow
                have hlen : (g.take k).length = k := by rw [List.length_take]; omega
                obtain ⟨oa, oc, hrv⟩ := hO.ex
                rw [hlen] at hrv
                subst hrv
                have HMM := Lib.hid hM
                have HRR := Lib.hid hR
                have HOO := Lib.hid hO
                have m0 := hM.c
                have m0f := hM.f
                have zm := cell_lt m0
                have HLEN := Lib.hid hlen
                clear hM hO hR hlen hrel hall
                go_upto_region 11 with (fail)
                have hBw := Below.refl wr.heap.size wr
                go_region_law (first
                  | (refine stepL elRow (prs_prow _) (by decide) (by rfl) (by rfl) (HO5.out.below (prs_prow _) (bal (Below.refl _ _) _)) ((prs_prow _).kp HR5.out (Kp.of_below _ (bal (Below.refl _ _) _))) (by rfl) (by rfl) (cell_new rfl rfl) (by rw [HLEN.out]; omega) (by rw [HLEN.out]; unfold maxLen; omega) ?_; intro v' w8 hO8 hk8; have HO8 := Lib.hid hO8; have HM8 := Lib.hid ((HM5.out.keep (bal (Below.refl _ _) _)).kp hk8 (by decide)); have HR8 := Lib.hid ((HRR5.out.keep (bal (Below.refl _ _) _)).kp hk8 (by decide)); have d4 := HM8.out.c; have df4 := HM8.out.f; have zd4 := cell_lt d4; obtain ⟨a8, c8, hv8⟩ := hO8.ex; rw [List.length_append, HLEN.out] at hv8; subst hv8; clear hO8 hk8)
                  | (go_simp; go_wp2_with (go_at_call 83; refine (kcl _ ?_).mono ?_; (repeat (first | exact Below.refl _ _ | exact hBw | refine Below.drew ?_ | refine below_drewN ?_ _ | refine bset ?_ (by simp <;> omega) _ | refine bal ?_ _)); rintro e w5 ⟨⟨v5, rfl, hr5⟩, hb5⟩; have hB5 : Below wr.heap.size wr w5 := bthen (by repeat (first | exact Below.refl _ _ | exact hBw | refine Below.drew ?_ | refine below_drewN ?_ _ | refine bset ?_ (by simp <;> omega) _ | refine bal ?_ _)) hb5; have hs5 := hB5.size; have HR5 := Lib.hid (show PRow w.heap.size w5 v5 row from hr5.row.rebase (show w.heap.size ≤ _ from hBr.size)); have HM5 := Lib.hid (HMM.out.keep hB5); have HRR5 := Lib.hid (HRR.out.keep hB5); have HO5 := Lib.hid (HOO.out.below (prs_prow _) hB5); have b4 := HM5.out.c; have b4f := HM5.out.f; have zb4 := cell_lt b4; obtain ⟨a5, c5, rfl⟩ := hr5.ex)))
                all_goals
                  have HEND := Lib.hid (show VarMx w.heap.size (w8.setCell ⟨w.heap.size + 1, 0, none⟩ (.slice a8 (k + 1) c8)) (.slice none 0 0) ∧ ∃ rv, VarMx (w.heap.size + 1) (w8.setCell ⟨w.heap.size + 1, 0, none⟩ (.slice a8 (k + 1) c8)) rv ∧ OwnL 43 (PRow w.heap.size) w (w8.setCell ⟨w.heap.size + 1, 0, none⟩ (.slice a8 (k + 1) c8)) rv (g.take (k + 1)) from
                    ⟨HR8.out.far (by show w.heap.size + 1 ≠ w.heap.size; omega) _, _, HM8.out.set _, by rw [HTK.out]; exact HO8.out.set (prs_prow _) HM8.out.ty (by decide) (by decide) (by show w.heap.size ≤ w.heap.size + 1; omega) _⟩)
                  have hB8 := bset HO8.out.bel (p := ⟨w.heap.size + 1, 0, none⟩) (by show w.heap.size ≤ w.heap.size + 1; omega) (.slice a8 (k + 1) c8)
                  go_wp2
                  exact ⟨⟨k + 1, by omega, by go_num, hB8, HEND, HAL⟩, by simp [intOf]; omega⟩
              · have hq1 : ((lk : Int) != (m : Int)) = true := by simp; omega
                have HEE : Hid (fitsE g = 5) := Lib.hid (by rw [HE.out, if_neg (fun h => e1 (by rw [← h k hlt]; exact HLK.out.symm))])
                clear hM hO hR hrel
                go_wp2
                refine bodyPost_ret (v := .tuple #[.agg #[.slice none 0 0], .int .i64 5]) (by simp [results, Tryz.results109, go_sem, *]) rfl (newM_no HEE.out (by decide) ?_)
                repeat (first | exact Below.refl _ _ | exact hBr | refine Below.drew ?_ | refine below_drewN ?_ _ | refine bset ?_ (by simp <;> omega) _ | refine bal ?_ _)
            · obtain rfl : k = g.length := by omega
              rw [List.take_length] at hO
              have HEE : Hid (fitsE g = 0) := Lib.hid (by rw [HE.out, if_pos hall.out])
              have HL := Lib.hid hO.isL
              have m0 := hM.c
              have zm := cell_lt m0
              have HTR := Lib.hid hR.ty
              obtain ⟨oa, oc, rfl⟩ := hO.ex
              have HIM := Lib.hid (show IsM w.heap.size wr (.agg #[.slice oa g.length oc]) g from ⟨oa, oc, rfl, HL.out⟩)
              clear hM hO hR hrel HE
              go_wp2
              refine bodyPost_ret (v := .tuple #[.agg #[.slice oa g.length oc], .int .i64 0]) (by simp [results, Tryz.results109, go_sem, *]) rfl (newM_yes HEE.out (HIM.out.setM HTR.out _) ?_)
              repeat (first | exact Below.refl _ _ | exact hBr | refine Below.drew ?_ | refine below_drewN ?_ _ | refine bset ?_ (by simp <;> omega) _ | refine bal ?_ _)
end Go.Proofs.YtdllbdfchloijaaGreatDoor

