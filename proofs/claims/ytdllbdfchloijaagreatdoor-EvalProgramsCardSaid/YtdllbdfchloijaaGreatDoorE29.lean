/- Texts of this seat, laid together: EvI, EvQ, EvJ. Each opens with its own remark, which says what it proves, and under which conditions. -/
import Derived.Test.YtdllbdfchloijaaGreatDoorE13
import Derived.Test.YtdllbdfchloijaaGreatDoorE22
import Derived.Test.YtdllbdfchloijaaGreatDoorE28
import Derived.Test.YtdllbdfchloijaaGreatDoorE07
import Derived.Deep.RegionLaw
import Derived.Test.YtdllbdfchloijaaGreatDoorE10
import Derived.Test.YtdllbdfchloijaaGreatDoorE25
import Derived.Test.YtdllbdfchloijaaGreatDoorE16
import Derived.Test.YtdllbdfchloijaaGreatDoorE17
set_option linter.unusedVariables false
set_option linter.unusedSimpArgs false
/- eval: Value. -/
namespace Go.Proofs.YtdllbdfchloijaaGreatDoor
open Pt
open Num
open Go.ChangeShapes Go.WideShapes Go.ChangeAt Go.RowKit
set_option linter.unusedVariables false
set_option linter.unusedSimpArgs false
attribute [local go_sem ↓] Go.wp_at_zero Go.wp_at_succ
theorem IsInt.litE {w : World} {v : Value} {z : Int} (h : IsInt w v z) : ∃ n a l c, v = .agg #[.bool n, .slice a l c] := by
  obtain ⟨n, a, c, l, rfl, -⟩ := h
  exact ⟨n, a, l.length, c, rfl⟩
/-- the value of coefficients at a point -/
def hvL (l : List Int) (a b : Int) : Int := Det.hv l.length (fun i => l.getD i 0) a b
/-- the first summands of it -/
def hvP (l : List Int) (a b : Int) (j : Nat) : Int := Det.isum j fun m => l.getD m 0 * Det.pf a b l.length m
theorem hvP_all (l : List Int) (a b : Int) : hvP l a b l.length = hvL l a b := rfl
theorem pf_bd {a b : Int} (h : PIn a b) {n : Nat} (hn : n ≤ 16) (i : Nat) (hi : i < n) : Bd 200 (Det.pf a b n i) := by
  unfold Det.pf
  exact ((bd_pt h.1 h.2.1).pow i).mul ((bd_pt h.2.2.1 h.2.2.2).pow (n - 1 - i)) |>.mono (by omega)
theorem hvP_bd {l : List Int} {a b : Int} {K : Nat} (h : PIn a b) (hl : l.length ≤ 16) (hb : ∀ j, Bd K (l.getD j 0)) : ∀ j, j ≤ l.length → Bd (K + 200 + j) (hvP l a b j) := by
  intro j
  induction j with
  | zero => intro _; exact bd_zero
  | succ j ih =>
    intro hj
    have h1 : Bd (K + 200 + j) (l.getD j 0 * Det.pf a b l.length j) := ((hb j).mul (pf_bd h hl j (by omega))).mono (by omega)
    exact Bd.add (ih (by omega)) h1
set_option maxRecDepth 100000 in
set_option maxHeartbeats 16000000 in
theorem value_c (v : Value) (l : List Int) (K : Nat) (a b : Int) (w : World) (hv : PRow 0 w v l) (h1 : 1 ≤ l.length) (h2 : l.length ≤ 16) (hp : PIn a b) (hb : ∀ j, Bd K (l.getD j 0)) (hK : K ≤ 1000000) :
    Calls Tryz.prog 22 #[v, pv a b] w fun e w' => (∃ u, e = .returned (.tuple #[u, .int .i64 0]) ∧ IsInt w' u (hvL l a b)) ∧ Below w.heap.size w w' := by
  have HV := Lib.hid hv
  obtain ⟨va, vc, rfl, -, -⟩ := hv.view
  have HBP := Lib.hid (hvP_bd hp h2 hb)
  have HBL := Lib.hid hb
  have HPF := Lib.hid (fun i (hi : i < l.length) => pf_bd hp h2 i hi)
  have HST := Lib.hid (fun j => (show hvP l a b (j + 1) = hvP l a b j + l.getD j 0 * Det.pf a b l.length j from rfl))
  have HAL := Lib.hid (hvP_all l a b)
  obtain ⟨n, hn⟩ : ∃ n, l.length = n := ⟨_, rfl⟩
  have HN := Lib.hid hn
  rw [hn] at HBP HPF HST HAL h1 h2 ⊢
  obtain ⟨S, hS⟩ : ∃ S, hvP l a b = S := ⟨_, rfl⟩
  have HS0 := Lib.hid (show S 0 = 0 by rw [← hS]; rfl)
  rw [hS] at HBP HST HAL
  clear hv hn hb hS
  have hB := Below.refl w.heap.size w
  have d1 : decide ((n : Int) < 1) = false := decide_eq_false (by omega)
  have d2 : decide (16 < (n : Int)) = false := decide_eq_false (by omega)
  have cc := fun W => ptIn_v a b true W (inB_yes hp)
  have pc := fun W => ptPow_yes a b n W hp h2
  go_enter Tryz.func22, Tryz.ntmps22
  go_wp2_with fail
  refine (cc _).mono ?_
  rintro e w1 ⟨rfl, hb1⟩
  have p0 : w1.cell? ⟨w.heap.size, 0, none⟩ = some (.int .i64 a) := bkc hb1
  have zp0 := cell_lt p0
  have p1 : w1.cell? ⟨w.heap.size, 1, none⟩ = some (.int .i64 b) := bkc hb1
  have r0 : w1.cell? ⟨w.heap.size + 1, 0, none⟩ = some (.bool false) := bkc hb1
  have zr0 := cell_lt r0
  have r0f : w1.frozen? ⟨w.heap.size + 1, 0, none⟩ = false := bkcf (v := .bool false) hb1
  have r1 : w1.cell? ⟨w.heap.size + 1, 1, none⟩ = some (.slice none 0 0) := bkc hb1
  have r1f : w1.frozen? ⟨w.heap.size + 1, 1, none⟩ = false := bkcf (v := .slice none 0 0) hb1
  have hB : Below w.heap.size w w1 := bthen (by repeat (first | exact Below.refl _ _ | exact hB | refine Below.drew ?_ | refine below_drewN ?_ _ | refine bset ?_ (by simp <;> omega) _ | refine bal ?_ _)) hb1
  have hz : w.heap.size ≤ w1.heap.size := hB.size
  clear cc hb1
  go_wp2_with fail
  refine (pc _).mono ?_
  rintro e w2 ⟨⟨g, rfl, hg⟩, hb2⟩
  have p0 : w2.cell? ⟨w.heap.size, 0, none⟩ = some (.int .i64 a) := bkc hb2
  have zp0 := cell_lt p0
  have p1 : w2.cell? ⟨w.heap.size, 1, none⟩ = some (.int .i64 b) := bkc hb2
  have r0 : w2.cell? ⟨w.heap.size + 1, 0, none⟩ = some (.bool false) := bkc hb2
  have zr0 := cell_lt r0
  have r0f : w2.frozen? ⟨w.heap.size + 1, 0, none⟩ = false := bkcf (v := .bool false) hb2
  have r1 : w2.cell? ⟨w.heap.size + 1, 1, none⟩ = some (.slice none 0 0) := bkc hb2
  have r1f : w2.frozen? ⟨w.heap.size + 1, 1, none⟩ = false := bkcf (v := .slice none 0 0) hb2
  have hB : Below w.heap.size w w2 := bthen (by repeat (first | exact Below.refl _ _ | exact hB | refine Below.drew ?_ | refine below_drewN ?_ _ | refine bset ?_ (by simp <;> omega) _ | refine bal ?_ _)) hb2
  have hz : w.heap.size ≤ w2.heap.size := hB.size
  have HG := Lib.hid hg
  have H2 := Lib.hid (And.intro hB (And.intro (And.intro r0 r1) (And.intro r0f r1f)))
  have hBw := Below.refl w2.heap.size w2
  clear pc hb2 hg hB p0 p1 r0 r1 r0f r1f
  go_wp2
  go_loopw [38] (fun x wr => ∃ j : Nat, j ≤ n ∧ x = .int .i64 j ∧ Below w2.heap.size w2 wr ∧ Hid (VarI w2.heap.size (S j) wr)) (fun x _ => n - (intOf x).toNat)
  case atStart => exact ⟨0, Nat.zero_le _, rfl, by repeat (first | exact Below.refl _ _ | exact hBw | refine Below.drew ?_ | refine below_drewN ?_ _ | refine bset ?_ (by simp <;> omega) _ | refine bal ?_ _), Lib.hid (by rw [HS0.out]; exact ⟨typ_fresh (by simp), false, none, 0, 0, by simp [go_sem], by simp [go_sem], by simp [go_sem], by simp [go_sem], isInt_zero _⟩)⟩
  case round =>
    obtain ⟨j, hj, rfl, hBr, hV⟩ := hrel
    by_cases hlt : j < n
    · have hltI : (j : Int) < (n : Int) := by omega
      have HLT := Lib.hid hlt
      obtain ⟨_, _, e, -, vr⟩ := (IsRow.keep lims_int HV.out (bthen H2.out.1 hBr)).view
      cases e
      obtain ⟨xb, xo, xn, xa, xl, xc, e, d0, d1, hx⟩ := vr j (by rw [HN.out]; exact hlt)
      cases e
      obtain ⟨gn, ga, gl, gc, g0, g1, hgi⟩ := (HG.out.keep lims_int hBr).at0 hlt
      have zd := cell_lt d0
      have zg := cell_lt g0
      have zv := typ_lt hV.out.1
      have hBw := Below.refl wr.heap.size wr
      clear vr
      go_wp2
      refine wp_name fun w4 hW4 => ?_
      have hk4 : Below wr.heap.size wr w4 := by rw [hW4]; repeat (first | exact Below.refl _ _ | exact hBw | refine Below.drew ?_ | refine below_drewN ?_ _ | refine bset ?_ (by simp <;> omega) _ | refine bal ?_ _)
      have x0 : w4.cell? ⟨wr.heap.size, 0, none⟩ = some (.bool xn) := by rw [hW4]; simp [go_sem]
      have x1 : w4.cell? ⟨wr.heap.size, 1, none⟩ = some (.slice xa xl xc) := by rw [hW4]; simp [go_sem]
      have HXI := Lib.hid (hx.lim (.of_below hk4))
      have HGI := Lib.hid (hgi.lim (.of_below hk4))
      have V4 := Lib.hid (hV.out.keep hk4)
      have hB4 := bthen hBr hk4
      replace g0 := bkeep hk4 g0
      replace g1 := bkeep hk4 g1
      obtain ⟨-, sn, sa, sl, sc, s0, s1, s0f, s1f, hs⟩ := V4.out
      have HSI := Lib.hid hs
      have HSE := Lib.hid (HST.out j)
      have HB1 := Lib.hid (And.intro (HBL.out j) (And.intro (HPF.out j hlt) (HBP.out j hj)))
      obtain ⟨xz, hxz⟩ : ∃ z, l.getD j 0 = z := ⟨_, rfl⟩
      obtain ⟨pz, hpz⟩ : ∃ z, Det.pf a b n j = z := ⟨_, rfl⟩
      rw [hxz] at HXI HSE HB1
      rw [hpz] at HSE HB1
      have hgz : powF a b n j = pz := hpz
      rw [hgz] at HGI
      have MC := Lib.hid (fun W (q : Below w4.heap.size w4 W) => mul_c (.agg #[.bool xn, .slice xa xl xc]) (.agg #[.bool gn, .slice ga gl gc]) xz pz K 200 W (HXI.out.keep q) (HGI.out.keep q) HB1.out.1 HB1.out.2.1 (by omega) (by decide))
      have AC := Lib.hid (fun u W (q : Below w4.heap.size w4 W) (hu : IsInt W u (xz * pz)) => addI_c (.agg #[.bool sn, .slice sa sl sc]) u (S j) (xz * pz) (K + 200 + j) W (HSI.out.keep q) hu HB1.out.2.2 ((HB1.out.1.mul HB1.out.2.1).mono (by omega)) (by omega))
      have HC := Lib.hid (show ∀ V, Below w4.heap.size w4 V → V.cell? ⟨w2.heap.size, 0, none⟩ = some (.bool sn) ∧ V.cell? ⟨w2.heap.size, 1, none⟩ = some (.slice sa sl sc) ∧ V.cell? ⟨wr.heap.size, 0, none⟩ = some (.bool xn) ∧ V.cell? ⟨wr.heap.size, 1, none⟩ = some (.slice xa xl xc) ∧ V.cell? ⟨g, j * 2, none⟩ = some (.bool gn) ∧ V.cell? ⟨g, j * 2 + 1, none⟩ = some (.slice ga gl gc) ∧ V.frozen? ⟨w2.heap.size, 0, none⟩ = false ∧ V.frozen? ⟨w2.heap.size, 1, none⟩ = false from fun V q => ⟨bkeep q s0, bkeep q s1, bkeep q x0, bkeep q x1, bkeep q g0, bkeep q g1, bkeepf q s0 s0f, bkeepf q s1 s1f⟩)
      clear hW4 hk4 hx hgi hs hxz hpz hgz hV d0 d1 zd hBw hBr
      have zs := cell_lt s0
      have zx := cell_lt x0
      have zg := cell_lt g0
      have hBw := Below.refl w4.heap.size w4
      go_region_law (go_simp; go_wp2_with (first
        | (go_at_call 57; (with_reducible refine (MC.out _ ?_).mono ?_); (repeat (first | exact Below.refl _ _ | exact hBw | refine Below.drew ?_ | refine below_drewN ?_ _ | refine bset ?_ (by simp <;> omega) _ | refine bal ?_ _)); rintro e w5 ⟨⟨u5, rfl, hu⟩, hb5⟩; (have hBd : Below w4.heap.size w4 w5 := bthen (by repeat (first | exact Below.refl _ _ | exact hBw | refine Below.drew ?_ | refine below_drewN ?_ _ | refine bset ?_ (by simp <;> omega) _ | refine bal ?_ _)) hb5; clear hBw; have hBw := hBd; clear hBd); obtain ⟨s0, s1, x0, x1, g0, g1, s0f, s1f⟩ := HC.out w5 hBw; have HU5 := Lib.hid hu; have hy5 := Below.refl w5.heap.size w5; have zs5 := cell_lt s0; have zx5 := cell_lt x0; have zg5 := cell_lt g0; obtain ⟨n5, a5, l5, k5, rfl⟩ := hu.litE; clear hu)
        | (go_at_call 56; (with_reducible refine (AC.out _ _ ?_ (HU5.out.keep ?_)).mono ?_); (repeat (first | exact Below.refl _ _ | exact hBw | refine Below.drew ?_ | refine below_drewN ?_ _ | refine bset ?_ (by simp <;> omega) _ | refine bal ?_ _)); (repeat (first | exact Below.refl _ _ | exact hy5 | refine Below.drew ?_ | refine below_drewN ?_ _ | refine bset ?_ (by simp <;> omega) _ | refine bal ?_ _)); rintro e w6 ⟨⟨u6, rfl, hu⟩, hb6⟩; (have hBd : Below w4.heap.size w4 w6 := bthen (by repeat (first | exact Below.refl _ _ | exact hBw | refine Below.drew ?_ | refine below_drewN ?_ _ | refine bset ?_ (by simp <;> omega) _ | refine bal ?_ _)) hb6; clear hBw; have hBw := hBd; clear hBd); obtain ⟨s0, s1, x0, x1, g0, g1, s0f, s1f⟩ := HC.out w6 hBw; have HU6 := Lib.hid hu; have zs6 := cell_lt s0; obtain ⟨n6, a6, l6, k6, rfl⟩ := hu.litE; clear hu)
        | fail))
      all_goals
        have HV6 := Lib.hid (show VarI w2.heap.size (S (j + 1)) ((w6.setCell ⟨w2.heap.size, 0, none⟩ (.bool n6)).setCell ⟨w2.heap.size, 1, none⟩ (.slice a6 l6 k6)) from ⟨by rw [typ_set, typ_set]; exact typ_keep V4.out.1 hBw, n6, a6, l6, k6, cell_far (cell_here s0 _) (by simp) _, cell_here (cell_far s1 (by simp) _) _, by simpa [go_sem] using s0f, by simpa [go_sem] using s1f, by rw [HSE.out]; exact HU6.out.put2 s0 s1 _ _⟩)
        have hB6 := bset (bset (bthen hB4 hBw) (p := ⟨w2.heap.size, 0, none⟩) (Nat.le_refl _) (.bool n6)) (p := ⟨w2.heap.size, 1, none⟩) (Nat.le_refl _) (.slice a6 l6 k6)
        have hlJ := HLT.out
        clear MC AC HC V4 HU5 HU6 HSE HSI HXI HGI x0 x1 g0 g1 zs zx zg hBw hB4
        go_wp2
        exact ⟨⟨j + 1, hlJ, by go_num, hB6, HV6⟩, measS hlJ (by go_num) rfl⟩
    · obtain rfl : n = j := by omega
      have hltI : ¬ (n : Int) < (n : Int) := by omega
      have r0 := bkeep hBr H2.out.2.1.1
      have r1 := bkeep hBr H2.out.2.1.2
      have r0f := bkeepf hBr H2.out.2.1.1 H2.out.2.2.1
      have r1f := bkeepf hBr H2.out.2.1.2 H2.out.2.2.2
      obtain ⟨-, sn, sa, sl, sc, s0, s1, s0f, s1f, hs⟩ := hV.out
      have hbt := bthen H2.out.1 hBr
      have HP := Lib.hid (hs.put2 r0 r1)
      have zr := cell_lt r0
      have zs := cell_lt s0
      have hB := hbt
      clear hs hbt hV
      go_wp2
      refine bodyPost_ret (v := .tuple #[.agg #[.bool sn, .slice sa sl sc], .int .i64 0]) (by simp [results, Tryz.results22, go_sem, *]) rfl ⟨⟨_, rfl, ?_⟩, ?_⟩
      · rw [← HAL.out]; exact HP.out _ _
      ·
        repeat (first | exact Below.refl _ _ | exact hB | refine Below.drew ?_ | refine below_drewN ?_ _ | refine bset ?_ (by simp <;> omega) _ | refine bal ?_ _)
end Go.Proofs.YtdllbdfchloijaaGreatDoor

/- eval, in plain Lean: whether a program evaluates; the one that is told does. -/
namespace Go.Proofs.YtdllbdfchloijaaGreatDoor
open Num
open Det (isum isum_congr hv pf is_one)
set_option linter.unusedVariables false
set_option linter.unusedSimpArgs false
/-- rows with a 1 each -/
def unitG (k : Nat) : Grid := (List.range k).map fun i => (List.range k).map fun j => if j = i then (1 : Int) else 0
theorem unitG_len (k : Nat) : (unitG k).length = k := by simp [unitG]
theorem unitG_row {k i : Nat} (h : i < k) : (unitG k).getD i [] = (List.range k).map fun j => if j = i then (1 : Int) else 0 := by simp [unitG, h]
theorem unitG_rect (k : Nat) : Rect k (unitG k) := fun i hi => by
  rw [unitG_len] at hi
  rw [unitG_row hi]; simp
theorem unitG_bd (k : Nat) : BdG 1 (unitG k) := fun i j => by
  by_cases hi : i < k
  · rw [unitG_row hi]
    by_cases hj : j < k
    · rw [show ((List.range k).map fun j => if j = i then (1 : Int) else 0).getD j 0 = if j = i then 1 else 0 by simp [hj]]
      unfold Bd; split <;> decide
    · rw [List.getD_eq_getElem?_getD, List.getElem?_eq_none (by simp; omega)]; exact bd_zero
  · rw [List.getD_eq_getElem?_getD (l := unitG k), List.getElem?_eq_none (by rw [unitG_len]; omega)]; exact bd_zero
theorem start_rect {m R : Nat} {g : Grid} (h : Rect m g) (hl : g.length ≤ R) : Rect m (startG g R m) := fun i hi => by
  unfold startG at hi ⊢
  by_cases e : i < g.length
  · rw [List.getD_eq_getElem?_getD, List.getElem?_append_left e, ← List.getD_eq_getElem?_getD]; exact h i e
  · rw [List.length_append, List.length_replicate] at hi
    rw [List.getD_eq_getElem?_getD, List.getElem?_append_right (by omega), List.getElem?_replicate, if_pos (by omega)]; simp
theorem start_col {m R j : Nat} {g : Grid} (hj : j < m) : colG (startG g R m) j = startN (colG g j) R := by
  unfold colG startG startN
  rw [List.map_append, List.map_replicate, List.length_map]
  congr 2
  simp [hj]
/-- no instruction that may fail -/
def NoDiv (code : List Ins) : Prop := ∀ n, n < code.length → (code.getD n default).op ≠ 6 ∧ (code.getD n default).op ≠ 8
theorem opI_some (i : Ins) (a b : Int) (h : i.op ≠ 6 ∧ i.op ≠ 8) : ∃ x, opI i a b = some x := by
  unfold opI
  repeat' split
  all_goals first | exact ⟨_, rfl⟩ | (exfalso; omega)
theorem nodiv_after {code : List Ins} (g : Grid) (h : NoDiv code) : ∀ n, n ≤ code.length → ∃ s, after code g n = some s := by
  intro n
  induction n with
  | zero => intro _; exact ⟨g, rfl⟩
  | succ n ih =>
    intro hn
    obtain ⟨s, hs⟩ := ih (by omega)
    rw [after, hs, Option.bind_some]
    cases e : stepR (code.getD n default) (s.getD (code.getD n default).a.toNat []) (s.getD (code.getD n default).b.toNat []) with
    | some r => exact ⟨_, rfl⟩
    | none =>
      obtain ⟨k, _, h2⟩ := stepR_none e
      obtain ⟨x, hx⟩ := opI_some (code.getD n default) _ _ (h n (by omega))
      rw [hx] at h2; cases h2
/-- whether a program's outs are the powers of the points -/
def Evs (code : List Ins) (outs : List Int) (R k n : Nat) (f : Nat → Int × Int) : Prop :=
  ∀ s, after code (startG (unitG k) R k) code.length = some s → ∀ i, i < n → ∀ j, j < k → gat (outsG outs s) i j = pf (f i).1 (f i).2 k j
theorem hv_unit {k j : Nat} (hj : j < k) (a b : Int) : hv k (fun i => if j = i then 1 else 0) a b = pf a b k j := by
  unfold hv
  rw [is_one hj (fun m _ h => by dsimp only; rw [if_neg (Ne.symm h), Int.zero_mul])]
  dsimp only; rw [if_pos rfl, Int.one_mul]
theorem colG_unit {k j : Nat} (hj : j < k) : colG (unitG k) j = (List.range k).map fun i => if j = i then (1 : Int) else 0 := by
  unfold colG unitG
  rw [List.map_map]
  apply List.map_congr_left
  intro i _
  simp [hj]
theorem fine_all {k n : Nat} {f : Nat → Int × Int} (hq : ∀ i, i < n → Pt.PIn (f i).1 (f i).2) : ∀ m, m < (codeL k n f n).length → Fine (k + n + 1) k ((codeL k n f n).getD m default) := fun m hm => by
  rw [show (codeL k n f n).getD m default = (codeL k n f n)[m] by simp [hm]]
  exact fine_code f hq n (Nat.le_refl _) _ (List.getElem_mem hm)
theorem code_nodiv {k n : Nat} {f : Nat → Int × Int} (hq : ∀ i, i < n → Pt.PIn (f i).1 (f i).2) : NoDiv (codeL k n f n) := fun m hm => ⟨(fine_all hq m hm).2.1, (fine_all hq m hm).2.2.1⟩
/-- the program that is told evaluates -/
theorem code_evs {k n : Nat} {f : Nat → Int × Int} (hk : 1 ≤ k) (hq : ∀ i, i < n → Pt.PIn (f i).1 (f i).2) : Evs (codeL k n f n) (outsL k n) (k + n + 1) k n f := by
  intro s hs i hi j hj
  have hgl : (startG (unitG k) (k + n + 1) k).length = k + n + 1 := startG_len (by rw [unitG_len]; omega)
  have hc := col_after (start_rect (unitG_rect k) (by rw [unitG_len]; omega)) hgl (fun m hm => by
    have := (mayB_iff ..).1 (fine_all hq m hm).1
    omega) hj (Nat.le_refl _) hs
  rw [start_col hj, colG_unit hj] at hc
  obtain ⟨u, h1, h2⟩ := outs_run k n f (fun i => if j = i then 1 else 0) (startN ((List.range k).map fun i => if j = i then (1 : Int) else 0) (k + n + 1)) hk (by simp [startN]; omega) (fun i hi => by
    unfold startN
    rw [List.getD_eq_getElem?_getD, List.getElem?_append_left (by simpa using hi)]
    simp [hi])
  rw [hc] at h1
  cases h1
  have := h2 i hi
  rw [hv_unit hj, colG_get] at this
  rw [← this]
  unfold gat outsG
  rw [show ((outsL k n).map fun k => s.getD k.toNat []).getD i [] = s.getD ((outsL k n).getD i 0).toNat [] by simp [outsL_len, hi], outsL_get hi]
end Go.Proofs.YtdllbdfchloijaaGreatDoor

/- eval: units; the reference's Units. -/
namespace Go.Proofs.YtdllbdfchloijaaGreatDoor
open Pt
open Num
open Go.ChangeShapes Go.WideShapes Go.ChangeAt Go.RowKit
set_option linter.unusedVariables false
set_option linter.unusedSimpArgs false
attribute [local go_sem ↓] Go.wp_at_zero Go.wp_at_succ
theorem unit_take {k i : Nat} (h : i < k) : (unitG k).take i ++ [(unitG k).getD i []] = (unitG k).take (i + 1) := by
  have hl : i < (unitG k).length := by rw [unitG_len]; exact h
  rw [List.take_succ_eq_append_getElem hl]
  simp [hl]
theorem unit_at {k i : Nat} (h : i < k) : ∀ j, j < k → (fun m => if m = i then (1 : Int) else 0) j = ((unitG k).getD i []).getD j 0 := fun j hj => by
  rw [unitG_row h]; simp [hj]
theorem unit_rl {k i : Nat} (h : i < k) : ((unitG k).getD i []).length = k := by rw [unitG_row h]; simp
/-- a row of a made block -/
theorem row_made {R : World → Value → Int → Prop} {E : TypeId} {w : World} {base g k : Nat} {F : Nat → Int} {l : List Int} (h : IntsF R w g 0 k F) (ht : typOf w g = some E) (hk : k ≤ maxLen) (hg : base ≤ g) (hl : l.length = k) (he : ∀ j, j < k → F j = l.getD j 0) : IsRow R E base w (.slice (some ⟨g, 0, none⟩) k k) l := by
  subst hl
  exact ⟨_, _, rfl, Nat.le_refl _, hk, .inr ⟨g, 0, rfl, hg, ht, h.congr he⟩⟩
set_option maxRecDepth 100000 in
set_option maxHeartbeats 8000000 in
theorem units_c (k : Nat) (w : World) (hk : k ≤ 8) :
    Calls Tryz.prog 46 #[.int .i64 (k : Int)] w fun e w' => (∃ v, e = .returned v ∧ OwnL 43 (PRow w.heap.size) w w' v (unitG k)) ∧ Below w.heap.size w w' := by
  have hmk := mkInts k (by omega)
  have oc := fun W => of_c 1 W (by decide) (by decide)
  have HU := Lib.hid (unitG_len k)
  have HP := Lib.hid (prs_row lims_int 50 w.heap.size)
  have hB := Below.refl w.heap.size w
  go_enter Tryz.func46, Tryz.ntmps46
  go_wp2
  go_loopw [3, 7] (fun v x wr => ∃ i : Nat, i ≤ k ∧ x = .int .i64 i ∧ Hid (OwnL 43 (PRow w.heap.size) w wr v ((unitG k).take i))) (fun _ x _ => k - (intOf x).toNat)
  case atStart => exact ⟨0, Nat.zero_le _, rfl, Lib.hid (OwnL.nil _ _ hB)⟩
  case round =>
    obtain ⟨i, hi, rfl, hO⟩ := hrel
    obtain ⟨va, vc, hv⟩ := hO.out.ex
    have hl : ((unitG k).take i).length = i := by rw [List.length_take, HU.out]; omega
    rw [hl] at hv
    subst hv
    by_cases hlt : i < k
    · have hltI : (i : Int) < (k : Int) := by omega
      have HLT := Lib.hid hlt
      have HT := Lib.hid (unit_take hlt)
      have HRL := Lib.hid (And.intro (unit_rl hlt) (unit_at hlt))
      obtain ⟨row, hrow⟩ : ∃ r, (unitG k).getD i [] = r := ⟨_, rfl⟩
      rw [hrow] at HT HRL
      clear hrow
      have hBr := hO.out.bel
      have hBq := Below.refl wr.heap.size wr
      clear hl
      go_wp2_with fail
      refine (oc _).mono ?_
      rintro e w5 ⟨⟨v5, rfl, hi5⟩, hb5⟩
      have hk5 : Below wr.heap.size wr w5 := bthen (by repeat (first | exact Below.refl _ _ | exact hBq | refine Below.drew ?_ | refine below_drewN ?_ _ | refine bset ?_ (by simp <;> omega) _ | refine bal ?_ _)) hb5
      have HI := IntsF.keep lims_int (zcel_ints isInt_zero wr k 50 rfl) hb5
      have HF := (Free.new (w := wr) (c := zcel k) (t := 50) rfl).keep hb5
      have HTy := typ_keep (typ_fresh (w := wr) (c := zcel k) (t := 50) rfl) hb5
      obtain ⟨zn, za, zl, zc, z0, z1, -⟩ := HI.at0 hlt
      have z0f := HF.2 (i * 2)
      have z1f := HF.2 (i * 2 + 1)
      have zz := cell_lt z0
      have HX := Lib.hid (show ∀ (n : Bool) a l c, IsInt w5 (.agg #[.bool n, .slice a l c]) 1 → OwnL 43 (PRow w.heap.size) w ((w5.setCell ⟨wr.heap.size, i * 2, none⟩ (.bool n)).setCell ⟨wr.heap.size, i * 2 + 1, none⟩ (.slice a l c)) (.slice va i vc) ((unitG k).take i) ∧ PRow w.heap.size ((w5.setCell ⟨wr.heap.size, i * 2, none⟩ (.bool n)).setCell ⟨wr.heap.size, i * 2 + 1, none⟩ (.slice a l c)) (.slice (some ⟨wr.heap.size, 0, none⟩) k k) row from fun n a l c h => by
        have hbb : Below wr.heap.size wr ((w5.setCell ⟨wr.heap.size, i * 2, none⟩ (.bool n)).setCell ⟨wr.heap.size, i * 2 + 1, none⟩ (.slice a l c)) := bset (bset hk5 (p := ⟨wr.heap.size, i * 2, none⟩) (Nat.le_refl _) _) (p := ⟨wr.heap.size, i * 2 + 1, none⟩) (Nat.le_refl _) _
        exact ⟨hO.out.below HP.out hbb, row_made (HI.store0 lims_int hlt h) (by rw [typ_set, typ_set]; exact HTy) (by unfold maxLen; omega) hBr.size HRL.out.1 HRL.out.2⟩)
      have HI5 := Lib.hid hi5
      obtain ⟨n5, a5, c5, l5, rfl, -⟩ := hi5
      unfold iv at *
      obtain ⟨hO6, hR6⟩ := HX.out _ _ _ _ HI5.out
      have HO6 := Lib.hid hO6
      have HR6 := Lib.hid hR6
      have HLL := Lib.hid (show ((unitG k).take i).length = i by rw [List.length_take, HU.out]; omega)
      clear hO6 hR6 HX hO HI HF HTy hb5 hk5 hBq
      go_wp2_with (at_builtin; refine appL elRow HP.out (by decide) (by rfl) (by rfl) (HO6.out.below HP.out (bal (Below.refl _ _) _)) (HP.out.kp HR6.out (Kp.of_below _ (bal (Below.refl _ _) _))) (by rfl) (by rfl) (cell_new (by simp) rfl) (by rw [HLL.out]; omega) (by rw [HLL.out]; unfold maxLen; omega) ?_)
      intro v8 w8 hO8 _
      have HO8 := Lib.hid hO8
      rw [HT.out] at HO8
      have hlK := HLT.out
      clear hO8 HO6 HR6
      go_wp2
      exact ⟨⟨i + 1, hlK, by go_num, HO8⟩, measS hlK (by go_num) rfl⟩
    · obtain rfl : i = k := by omega
      have hltI : ¬ (i : Int) < (i : Int) := by omega
      have HE := Lib.hid (show (unitG i).take i = unitG i by rw [← HU.out]; rw [HU.out]; exact List.take_of_length_le (by rw [HU.out]; exact Nat.le_refl _))
      rw [HE.out] at hO
      go_wp2
      go_ret
      exact ⟨⟨_, rfl, hO.out⟩, hO.out.bel⟩
set_option maxRecDepth 100000 in
set_option maxHeartbeats 8000000 in
theorem runits_c (k : Nat) (w : World) (hk : k ≤ 8) :
    Calls Tryz.prog 41 #[.int .i64 (k : Int)] w fun e w' => (∃ v, e = .returned v ∧ OwnL 91 (RRow w.heap.size) w w' v (unitG k)) ∧ Below w.heap.size w w' := by
  have hmk := mkRw k (by omega)
  have oc := fun W => rof_c 1 W (by decide) (by decide)
  have HU := Lib.hid (unitG_len k)
  have HP := Lib.hid (prs_row lims_ref 54 w.heap.size)
  have hB := Below.refl w.heap.size w
  go_enter Tryz.func41, Tryz.ntmps41
  go_wp2
  go_loopw [3, 4] (fun v x wr => ∃ i : Nat, i ≤ k ∧ x = .int .i64 i ∧ Hid (OwnL 91 (RRow w.heap.size) w wr v ((unitG k).take i))) (fun _ x _ => k - (intOf x).toNat)
  case atStart => exact ⟨0, Nat.zero_le _, rfl, Lib.hid (OwnL.nil _ _ hB)⟩
  case round =>
    obtain ⟨i, hi, rfl, hO⟩ := hrel
    obtain ⟨va, vc, hv⟩ := hO.out.ex
    have hl : ((unitG k).take i).length = i := by rw [List.length_take, HU.out]; omega
    rw [hl] at hv
    subst hv
    by_cases hlt : i < k
    · have hltI : (i : Int) < (k : Int) := by omega
      have HLT := Lib.hid hlt
      have HT := Lib.hid (unit_take hlt)
      have HRL := Lib.hid (And.intro (unit_rl hlt) (unit_at hlt))
      obtain ⟨row, hrow⟩ : ∃ r, (unitG k).getD i [] = r := ⟨_, rfl⟩
      rw [hrow] at HT HRL
      clear hrow
      have hBr := hO.out.bel
      have hBq := Below.refl wr.heap.size wr
      clear hl
      go_wp2_with fail
      refine (oc _).mono ?_
      rintro e w5 ⟨⟨v5, rfl, hi5⟩, hb5⟩
      have hk5 : Below wr.heap.size wr w5 := bthen (by repeat (first | exact Below.refl _ _ | exact hBq | refine Below.drew ?_ | refine below_drewN ?_ _ | refine bset ?_ (by simp <;> omega) _ | refine bal ?_ _)) hb5
      have HI := IntsF.keep lims_ref (zcel_ints isRef_zero wr k 54 rfl) hb5
      have HF := (Free.new (w := wr) (c := zcel k) (t := 54) rfl).keep hb5
      have HTy := typ_keep (typ_fresh (w := wr) (c := zcel k) (t := 54) rfl) hb5
      obtain ⟨zn, za, zl, zc, z0, z1, -⟩ := HI.at0 hlt
      have z0f := HF.2 (i * 2)
      have z1f := HF.2 (i * 2 + 1)
      have zz := cell_lt z0
      have HX := Lib.hid (show ∀ (n : Bool) a l c, IsRef w5 (.agg #[.bool n, .slice a l c]) 1 → OwnL 91 (RRow w.heap.size) w ((w5.setCell ⟨wr.heap.size, i * 2, none⟩ (.bool n)).setCell ⟨wr.heap.size, i * 2 + 1, none⟩ (.slice a l c)) (.slice va i vc) ((unitG k).take i) ∧ RRow w.heap.size ((w5.setCell ⟨wr.heap.size, i * 2, none⟩ (.bool n)).setCell ⟨wr.heap.size, i * 2 + 1, none⟩ (.slice a l c)) (.slice (some ⟨wr.heap.size, 0, none⟩) k k) row from fun n a l c h => by
        have hbb : Below wr.heap.size wr ((w5.setCell ⟨wr.heap.size, i * 2, none⟩ (.bool n)).setCell ⟨wr.heap.size, i * 2 + 1, none⟩ (.slice a l c)) := bset (bset hk5 (p := ⟨wr.heap.size, i * 2, none⟩) (Nat.le_refl _) _) (p := ⟨wr.heap.size, i * 2 + 1, none⟩) (Nat.le_refl _) _
        exact ⟨hO.out.below HP.out hbb, row_made (HI.store0 lims_ref hlt h) (by rw [typ_set, typ_set]; exact HTy) (by unfold maxLen; omega) hBr.size HRL.out.1 HRL.out.2⟩)
      have HI5 := Lib.hid hi5
      obtain ⟨n5, a5, c5, l5, rfl, -⟩ := hi5
      unfold iv at *
      obtain ⟨hO6, hR6⟩ := HX.out _ _ _ _ HI5.out
      have HO6 := Lib.hid hO6
      have HR6 := Lib.hid hR6
      have HLL := Lib.hid (show ((unitG k).take i).length = i by rw [List.length_take, HU.out]; omega)
      clear hO6 hR6 HX hO HI HF HTy hb5 hk5 hBq
      go_wp2_with (at_builtin; refine appL elRws HP.out (by decide) (by rfl) (by rfl) (HO6.out.below HP.out (bal (Below.refl _ _) _)) (HP.out.kp HR6.out (Kp.of_below _ (bal (Below.refl _ _) _))) (by rfl) (by rfl) (cell_new (by simp) rfl) (by rw [HLL.out]; omega) (by rw [HLL.out]; unfold maxLen; omega) ?_)
      intro v8 w8 hO8 _
      have HO8 := Lib.hid hO8
      rw [HT.out] at HO8
      have hlK := HLT.out
      clear hO8 HO6 HR6
      go_wp2
      exact ⟨⟨i + 1, hlK, by go_num, HO8⟩, measS hlK (by go_num) rfl⟩
    · obtain rfl : i = k := by omega
      have hltI : ¬ (i : Int) < (i : Int) := by omega
      have HE := Lib.hid (show (unitG i).take i = unitG i by rw [← HU.out]; rw [HU.out]; exact List.take_of_length_le (by rw [HU.out]; exact Nat.le_refl _))
      rw [HE.out] at hO
      go_wp2
      go_ret
      exact ⟨⟨_, rfl, hO.out⟩, hO.out.bel⟩
end Go.Proofs.YtdllbdfchloijaaGreatDoor

