/- Texts of this seat, laid together: MxO, MxT, MwA, MwB, MwC, MwJ, MwK. Each opens with its own remark, which says what it proves, and under which conditions. -/
import Derived.Test.YthaohpfbengabaaDoorR13
import Derived.Test.YthaohpfbengabaaDoorR11
import Derived.Test.YthaohpfbengabaaDoorR10
set_option linter.unusedVariables false
set_option linter.unusedSimpArgs false
/- matrix: Inverse. -/
namespace Go.Proofs.YthaohpfbengabaaDoor
open Num
open Go.ChangeShapes Go.WideShapes Go.ChangeAt Go.RowKit
set_option linter.unusedVariables false
set_option linter.unusedSimpArgs false
attribute [local go_sem ↓] Go.wp_at_zero Go.wp_at_succ
/-- what divides a number and all of a grid -/
def comG (d : Int) (a : Grid) : Int := a.foldl (fun c r => gcdI c (contL r)) d
theorem comG_take {d : Int} {a : Grid} {j : Nat} (hj : j < a.length) : comG d (a.take (j + 1)) = gcdI (comG d (a.take j)) (contL (a.getD j [])) := by
  unfold comG
  rw [take_getD [] hj, List.foldl_append]; rfl
theorem contL_all {k : Nat} {l : List Int} (h : ∀ j, Bd k (l.getD j 0)) : Bd k (contL l) := by
  have := contL_bd h l.length (Nat.le_refl _)
  rwa [List.take_length] at this
theorem comG_bd {k : Nat} {d : Int} {a : Grid} (hd : Bd k d) (ha : BdM k a) : ∀ j, j ≤ a.length → Bd k (comG d (a.take j)) := by
  intro j
  induction j with
  | zero => intro _; exact hd
  | succ j ih =>
    intro hj
    rw [comG_take (by omega)]
    exact gcdI_bd (ih (by omega)) (contL_all fun i => ha j i)
theorem gcdI_nz {x y : Int} (h : x ≠ 0) : gcdI x y ≠ 0 := by
  unfold gcdI
  have : 0 < Nat.gcd x.natAbs y.natAbs := Nat.gcd_pos_of_pos_left _ (by omega)
  omega
theorem comG_nz {a : Grid} : ∀ {d : Int}, d ≠ 0 → comG d a ≠ 0 := by
  induction a with
  | nil => intro d h; exact h
  | cons r a ih => intro d h; exact ih (d := gcdI d (contL r)) (gcdI_nz h)
/-- the inverse's divisor, its numbers -/
def invS (g : Grid) : Int := if Det.detE g.length (gat g) < 0 then - comG (Det.detE g.length (gat g)) (adjG g) else comG (Det.detE g.length (gat g)) (adjG g)
def invG (g : Grid) : Grid := tab g.length g.length fun i j => gat (adjG g) i j / invS g
def invD (g : Grid) : Int := Det.detE g.length (gat g) / invS g
theorem adj_len (g : Grid) : (adjG g).length = g.length := tab_len _ _ _
theorem bd_neg {k : Nat} {x : Int} (h : Bd k x) : Bd k (-x) := by unfold Bd at *; rwa [Int.natAbs_neg]
theorem adj_bd {g : Grid} {K : Nat} (hK1 : 1 ≤ K) (h : BdM K g) : BdM (kb K g.length) (adjG g) := by
  intro i j
  unfold adjG
  by_cases e : i < g.length ∧ j < g.length
  · rw [tab_gat e.1 e.2]
    have h1 := detE_bd hK1 (left_bd (i := i) e.2 h) (left_all e.2)
    rw [left_det e.2] at h1
    have h2 := h1.mono (kb_mono K (show g.length - 1 ≤ g.length by omega))
    unfold Det.iadj
    split
    · exact bd_neg h2
    · exact h2
  · have h0 : gat (tab g.length g.length (Det.iadj g.length (gat g))) i j = 0 := by
      show ((tab g.length g.length (Det.iadj g.length (gat g))).getD i []).getD j 0 = 0
      by_cases e1 : i < g.length
      · rw [List.getD_eq_getElem?_getD, List.getElem?_eq_none (by rw [tab_rowlen e1]; omega)]; rfl
      · have h3 : (tab g.length g.length (Det.iadj g.length (gat g))).getD i [] = [] := by rw [List.getD_eq_getElem?_getD, List.getElem?_eq_none (by rw [tab_len]; omega)]; rfl
        rw [h3]; rfl
    rw [h0]; exact bd_zero
theorem IsM.rowAt {base : Nat} {w : World} {a : Option Addr} {n c : Nat} {g : Grid} (h : IsM base w (.agg #[.slice a n c]) g) {i : Nat} (hi : i < g.length) :
    ∃ gb go ra rc, a = some ⟨gb, go, none⟩ ∧ w.cell? ⟨gb, go + i, none⟩ = some (.slice ra (g.getD i []).length rc) ∧ PRow base w (.slice ra (g.getD i []).length rc) (g.getD i []) := by
  obtain ⟨a', c', e, hl⟩ := h
  cases e
  obtain ⟨c2, gb, go, ra, rc, e2, hu, hp⟩ := hl.row hi
  exact ⟨gb, go, ra, rc, (Value.slice.inj e2).1, hu, hp⟩
theorem prow_out {base : Nat} {w w' : World} {v : Value} {l : List Int} {X : Nat → Prop} (h : PRow base w v l) (ho : Out X w w') (hx : ∀ k, base ≤ k → ¬ X k) (hl : Lim w w') : PRow base w' v l := by
  obtain ⟨a, c, e, h1, h2, h3⟩ := h
  refine ⟨a, c, e, h1, h2, ?_⟩
  rcases h3 with h3 | ⟨b, off, e2, hb, ht, hi⟩
  · exact .inl h3
  · exact .inr ⟨b, off, e2, hb, by rw [typ_of_block (w := w) (ho.block b (typ_lt ht) (hx b hb))]; exact ht, hi.out lims_int ho (hx b hb) hl⟩
theorem IsM.out {base : Nat} {w w' : World} {v : Value} {g : Grid} {X : Nat → Prop} (h : IsM base w v g) (ho : Out X w w') (hx : ∀ k, base ≤ k → ¬ X k) (hl : Lim w w') : IsM base w' v g := by
  obtain ⟨a, c, e, a', c', e2, h1, h2, h3⟩ := h
  refine ⟨a, c, e, a', c', e2, h1, h2, ?_⟩
  rcases h3 with h3 | ⟨b, off, e2, hb, ht, hi⟩
  · exact .inl h3
  · refine .inr ⟨b, off, e2, hb, by rw [typ_of_block (w := w) (ho.block b (typ_lt ht) (hx b hb))]; exact ht, fun k hk => ?_⟩
    obtain ⟨u, hu, hp⟩ := hi k hk
    exact ⟨u, okeep ho hu (hx b hb), prow_out hp ho hx hl⟩
/-- what Inverse holds -/
structure InvB (w w1 : World) (ag : Option Addr) (N cg : Nat) (bv : Value) (db gb : Nat) (d S : Int) (W : World) : Prop where
  g : VarI gb S W
  dd : VarI db d W
  m0 : W.cell? ⟨w.heap.size, 0, none⟩ = some (.slice ag N cg)
  r0 : W.cell? ⟨w.heap.size + 1, 0, none⟩ = some (.slice none 0 0)
  r0f : W.frozen? ⟨w.heap.size + 1, 0, none⟩ = false
  s0 : W.cell? ⟨w.heap.size + 1 + 1, 0, none⟩ = some (.bool false)
  s1 : W.cell? ⟨w.heap.size + 1 + 1, 1, none⟩ = some (.slice none 0 0)
  s0f : W.frozen? ⟨w.heap.size + 1 + 1, 0, none⟩ = false
  s1f : W.frozen? ⟨w.heap.size + 1 + 1, 1, none⟩ = false
  b5 : W.cell? ⟨w1.heap.size, 0, none⟩ = some bv
  b1 : Below w1.heap.size w1 W
  bel : Below w.heap.size w W
section
variable {w w1 : World} {ag : Option Addr} {N cg : Nat} {bv : Value} {db gb : Nat} {d S : Int} {W W' : World}
theorem InvB.keep (h : InvB w w1 ag N cg bv db gb d S W) (k : Below W.heap.size W W') : InvB w w1 ag N cg bv db gb d S W' :=
  ⟨h.g.keep k, h.dd.keep k, bkeep k h.m0, bkeep k h.r0, bkeepf k h.r0 h.r0f, bkeep k h.s0, bkeep k h.s1, bkeepf k h.s0 h.s0f, bkeepf k h.s1 h.s1f, bkeep k h.b5, bthen h.b1 k, bthen h.bel k⟩
theorem frz2 {W : World} {vb : Nat} {x : Bool} {y : Option Addr} {p r : Nat} {a : Addr} (h : W.frozen? a = false) : ((W.setCell ⟨vb, 0, none⟩ (.bool x)).setCell ⟨vb, 1, none⟩ (.slice y p r)).frozen? a = false := by
  rw [World.frozen?_setCell, World.frozen?_setCell]; exact h
theorem InvB.putG (h : InvB w w1 ag N cg bv db gb d S W) (h1 : w.heap.size + 1 + 1 < w1.heap.size) (h2 : w1.heap.size < db) (h3 : db < gb) {n : Bool} {a : Option Addr} {l c : Nat} {z : Int} (hi : IsInt W (.agg #[.bool n, .slice a l c]) z) : InvB w w1 ag N cg bv db gb d z ((W.setCell ⟨gb, 0, none⟩ (.bool n)).setCell ⟨gb, 1, none⟩ (.slice a l c)) := by
  have n0 : ¬ gb = w.heap.size := by omega
  have n1 : ¬ gb = w.heap.size + 1 := by omega
  have n2 : ¬ gb = w.heap.size + 1 + 1 := by omega
  have n3 : ¬ gb = w1.heap.size := by omega
  exact ⟨h.g.put hi, h.dd.far h.g (by omega) _ _ _ _, cell_far2 h.m0 n0 _ _ _ _, cell_far2 h.r0 n1 _ _ _ _, frz2 h.r0f, cell_far2 h.s0 n2 _ _ _ _, cell_far2 h.s1 n2 _ _ _ _, frz2 h.s0f, frz2 h.s1f, cell_far2 h.b5 n3 _ _ _ _, bset (bset h.b1 (by show w1.heap.size ≤ gb; omega) _) (by show w1.heap.size ≤ gb; omega) _, bset (bset h.bel (by show w.heap.size ≤ gb; omega) _) (by show w.heap.size ≤ gb; omega) _⟩
theorem InvB.putD (h : InvB w w1 ag N cg bv db gb d S W) (h1 : w.heap.size + 1 + 1 < w1.heap.size) (h2 : w1.heap.size < db) (h3 : db < gb) {n : Bool} {a : Option Addr} {l c : Nat} {z : Int} (hi : IsInt W (.agg #[.bool n, .slice a l c]) z) : InvB w w1 ag N cg bv db gb z S ((W.setCell ⟨db, 0, none⟩ (.bool n)).setCell ⟨db, 1, none⟩ (.slice a l c)) := by
  have n0 : ¬ db = w.heap.size := by omega
  have n1 : ¬ db = w.heap.size + 1 := by omega
  have n2 : ¬ db = w.heap.size + 1 + 1 := by omega
  have n3 : ¬ db = w1.heap.size := by omega
  exact ⟨h.g.far h.dd (by omega) _ _ _ _, h.dd.put hi, cell_far2 h.m0 n0 _ _ _ _, cell_far2 h.r0 n1 _ _ _ _, frz2 h.r0f, cell_far2 h.s0 n2 _ _ _ _, cell_far2 h.s1 n2 _ _ _ _, frz2 h.s0f, frz2 h.s1f, cell_far2 h.b5 n3 _ _ _ _, bset (bset h.b1 (by show w1.heap.size ≤ db; omega) _) (by show w1.heap.size ≤ db; omega) _, bset (bset h.bel (by show w.heap.size ≤ db; omega) _) (by show w.heap.size ≤ db; omega) _⟩
end
theorem IsM.boxM {w : World} {b : Nat} {a : Option Addr} {n c : Nat} {g : Grid} (h : IsM 0 w (.agg #[.slice a n c]) g) (hc : w.cell? ⟨b, 0, none⟩ = some (.slice a n c)) : BoxM b w g := by
  obtain ⟨a', c', e, hl⟩ := h
  cases e
  exact ⟨_, _, hc, hl⟩
theorem three_far {W : World} {p : Addr} (v : Value) {a1 a2 a3 : Addr} {v1 v2 v3 : Value} (h : W.cell? a1 = some v1 ∧ W.cell? a2 = some v2 ∧ W.cell? a3 = some v3) (n1 : p ≠ a1) (n2 : p ≠ a2) (n3 : p ≠ a3) :
    (W.setCell p v).cell? a1 = some v1 ∧ (W.setCell p v).cell? a2 = some v2 ∧ (W.setCell p v).cell? a3 = some v3 := ⟨cell_far h.1 n1 v, cell_far h.2.1 n2 v, cell_far h.2.2 n3 v⟩
/-- what Inverse answers -/
def InvPost (g : Grid) (w : World) (e : Ending) (w' : World) : Prop :=
  ((sqB g = true ∧ Det.detE g.length (gat g) ≠ 0 ∧ ∃ v u, e = .returned (.tuple #[v, u, .int .i64 0]) ∧ IsM w.heap.size w' v (invG g) ∧ IsInt w' u (invD g)) ∨
   (sqB g = true ∧ Det.detE g.length (gat g) = 0 ∧ e = .returned (.tuple #[.agg #[.slice none 0 0], .agg #[.bool false, .slice none 0 0], .int .i64 50])) ∨
   (sqB g = false ∧ e = .returned (.tuple #[.agg #[.slice none 0 0], .agg #[.bool false, .slice none 0 0], .int .i64 5]))) ∧ Below w.heap.size w w'
set_option maxRecDepth 100000 in
set_option maxHeartbeats 16000000 in
theorem invM_c (v : Value) (g : Grid) (K : Nat) (w : World) (hv : IsM 0 w v g) (hr : Rct g (cols g)) (hn : g.length ≤ 65536) (hK1 : 1 ≤ K) (hbd : BdM K g) (hK : kb K g.length ≤ 4294967296) :
    Calls Tryd.prog 33 #[v] w (InvPost g w) := by
  have AC := Lib.hid (fun W (q : Below w.heap.size w W) => adjM_c v g K W (hv.keep q) hr hn hK1 hbd (Nat.le_trans (kb_mono K (Nat.sub_le _ _)) hK))
  have DC := Lib.hid (fun W (q : Below w.heap.size w W) => detM_c v g K W (hv.keep q) hr hn hK1 hbd hK)
  have HAB := Lib.hid (adj_bd hK1 hbd)
  have HDB := Lib.hid (detE_bd hK1 hbd rfl)
  obtain ⟨ag, cg, rfl, -⟩ := hv
  have RC := Lib.hid (fun V => rowsM_c ag g.length cg V)
  have HAL := Lib.hid (adj_len g)
  have HAR := Lib.hid (show Rct (adjG g) g.length from tab_rect _ _ _)
  clear hr hbd
  unfold InvPost
  have HIS := Lib.hid (show invS g = if Det.detE g.length (gat g) < 0 then - comG (Det.detE g.length (gat g)) (adjG g) else comG (Det.detE g.length (gat g)) (adjG g) from rfl)
  have HIG := Lib.hid (show invG g = tab g.length g.length fun i j => gat (adjG g) i j / invS g from rfl)
  have HNP := Lib.hid (fun (h : sqB g = true) => sq_pos h)
  have HID := Lib.hid (show invD g = Det.detE g.length (gat g) / invS g from rfl)
  obtain ⟨N, hN⟩ : ∃ N, g.length = N := ⟨_, rfl⟩
  obtain ⟨kk, hkk⟩ : ∃ x, kb K g.length = x := ⟨_, rfl⟩
  obtain ⟨A, hA⟩ : ∃ A, adjG g = A := ⟨_, rfl⟩
  unfold DetPost at DC
  rw [hkk] at HAB HDB hK
  rw [hA] at HAB AC HIS HIG HAL HAR
  try rw [hN] at AC
  try rw [hN] at DC
  try rw [hN] at RC
  try rw [hN] at HAB
  try rw [hN] at HDB
  try rw [hN] at HIS
  try rw [hN] at HIG
  try rw [hN] at HID
  try rw [hN] at HAL
  try rw [hN] at HAR
  try rw [hN] at hn
  try rw [hN] at HNP
  try rw [hN]
  obtain ⟨d, hd⟩ : ∃ d, Det.detE N (gat g) = d := ⟨_, rfl⟩
  try rw [hd] at DC
  try rw [hd] at HDB
  try rw [hd] at HIS
  try rw [hd] at HID
  try rw [hd]
  clear hN hkk hA hd
  obtain ⟨S, hS⟩ : ∃ s, invS g = s := ⟨_, rfl⟩
  rw [hS] at HIS HIG HID
  clear hS
  have hB := Below.refl w.heap.size w
  obtain ⟨b, hb⟩ : ∃ b, sqB g = b := ⟨_, rfl⟩
  have HBQ := Lib.hid hb
  cases b with
  | false =>
    go_enter Tryd.func33, Tryd.ntmps33
    go_wp2_with fail
    refine (AC.out _ (by repeat (first | exact Below.refl _ _ | exact hB | refine Below.drew ?_ | refine below_drewN ?_ _ | refine bset ?_ (by simp <;> omega) _ | refine bal ?_ _))).mono ?_
    rintro e w1 ⟨(⟨hs, -⟩ | ⟨-, rfl⟩), hb1⟩
    · rw [HBQ.out] at hs; cases hs
    have m0 : w1.cell? ⟨w.heap.size, 0, none⟩ = some (.slice ag N cg) := bkc hb1
    have zm0 := cell_lt m0
    have r0 : w1.cell? ⟨w.heap.size + 1, 0, none⟩ = some (.slice none 0 0) := bkc hb1
    have zr0 := cell_lt r0
    have r0f : w1.frozen? ⟨w.heap.size + 1, 0, none⟩ = false := bkcf (v := .slice none 0 0) hb1
    have s0 : w1.cell? ⟨w.heap.size + 1 + 1, 0, none⟩ = some (.bool false) := bkc hb1
    have zs0 := cell_lt s0
    have s0f : w1.frozen? ⟨w.heap.size + 1 + 1, 0, none⟩ = false := bkcf (v := .bool false) hb1
    have s1 : w1.cell? ⟨w.heap.size + 1 + 1, 1, none⟩ = some (.slice none 0 0) := bkc hb1
    have s1f : w1.frozen? ⟨w.heap.size + 1 + 1, 1, none⟩ = false := bkcf (v := .slice none 0 0) hb1
    have hB : Below w.heap.size w w1 := bthen (by repeat (first | exact Below.refl _ _ | exact hB | refine Below.drew ?_ | refine below_drewN ?_ _ | refine bset ?_ (by simp <;> omega) _ | refine bal ?_ _)) hb1
    have hz : w.heap.size ≤ w1.heap.size := hB.size
    clear AC DC
    go_wp2
    refine bodyPost_ret (v := .tuple #[.agg #[.slice none 0 0], .agg #[.bool false, .slice none 0 0], .int .i64 5]) (by simp [results, Tryd.results33, go_sem, *]) rfl ⟨.inr (.inr ⟨HBQ.out, rfl⟩), ?_⟩
    repeat (first | exact Below.refl _ _ | exact hB | refine Below.drew ?_ | refine below_drewN ?_ _ | refine bset ?_ (by simp <;> omega) _ | refine bal ?_ _)
  | true =>
    clear hb
    go_enter Tryd.func33, Tryd.ntmps33
    go_wp2_with fail
    refine (AC.out _ (by repeat (first | exact Below.refl _ _ | exact hB | refine Below.drew ?_ | refine below_drewN ?_ _ | refine bset ?_ (by simp <;> omega) _ | refine bal ?_ _))).mono ?_
    rintro e w1 ⟨(⟨-, v1, rfl, hv1⟩ | ⟨hs, -⟩), hb1⟩
    rotate_left
    · exact absurd HBQ.out hs
    have m0 : w1.cell? ⟨w.heap.size, 0, none⟩ = some (.slice ag N cg) := bkc hb1
    have zm0 := cell_lt m0
    have r0 : w1.cell? ⟨w.heap.size + 1, 0, none⟩ = some (.slice none 0 0) := bkc hb1
    have zr0 := cell_lt r0
    have r0f : w1.frozen? ⟨w.heap.size + 1, 0, none⟩ = false := bkcf (v := .slice none 0 0) hb1
    have s0 : w1.cell? ⟨w.heap.size + 1 + 1, 0, none⟩ = some (.bool false) := bkc hb1
    have zs0 := cell_lt s0
    have s0f : w1.frozen? ⟨w.heap.size + 1 + 1, 0, none⟩ = false := bkcf (v := .bool false) hb1
    have s1 : w1.cell? ⟨w.heap.size + 1 + 1, 1, none⟩ = some (.slice none 0 0) := bkc hb1
    have s1f : w1.frozen? ⟨w.heap.size + 1 + 1, 1, none⟩ = false := bkcf (v := .slice none 0 0) hb1
    have hB : Below w.heap.size w w1 := bthen (by repeat (first | exact Below.refl _ _ | exact hB | refine Below.drew ?_ | refine below_drewN ?_ _ | refine bset ?_ (by simp <;> omega) _ | refine bal ?_ _)) hb1
    have hz : w.heap.size ≤ w1.heap.size := hB.size
    have HV1 := Lib.hid (hv1.rebase (Nat.zero_le _))
    obtain ⟨a1, c1, rfl⟩ := hv1.lit
    rw [HAL.out] at HV1 ⊢
    clear hv1 AC
    go_wp2_with fail
    (with_reducible refine (DC.out _ ?_).mono ?_); (repeat (first | exact Below.refl _ _ | exact hB | refine Below.drew ?_ | refine below_drewN ?_ _ | refine bset ?_ (by simp <;> omega) _ | refine bal ?_ _))
    rintro e w2 ⟨(⟨-, u, rfl, hu⟩ | ⟨hs, -⟩), hb2⟩
    rotate_left
    · rw [HBQ.out] at hs; cases hs
    have m0 : w2.cell? ⟨w.heap.size, 0, none⟩ = some (.slice ag N cg) := bkc hb2
    have zm0 := cell_lt m0
    have r0 : w2.cell? ⟨w.heap.size + 1, 0, none⟩ = some (.slice none 0 0) := bkc hb2
    have zr0 := cell_lt r0
    have r0f : w2.frozen? ⟨w.heap.size + 1, 0, none⟩ = false := bkcf (v := .slice none 0 0) hb2
    have s0 : w2.cell? ⟨w.heap.size + 1 + 1, 0, none⟩ = some (.bool false) := bkc hb2
    have zs0 := cell_lt s0
    have s0f : w2.frozen? ⟨w.heap.size + 1 + 1, 0, none⟩ = false := bkcf (v := .bool false) hb2
    have s1 : w2.cell? ⟨w.heap.size + 1 + 1, 1, none⟩ = some (.slice none 0 0) := bkc hb2
    have s1f : w2.frozen? ⟨w.heap.size + 1 + 1, 1, none⟩ = false := bkcf (v := .slice none 0 0) hb2
    have hB : Below w.heap.size w w2 := bthen (by repeat (first | exact Below.refl _ _ | exact hB | refine Below.drew ?_ | refine below_drewN ?_ _ | refine bset ?_ (by simp <;> omega) _ | refine bal ?_ _)) hb2
    have hz : w.heap.size ≤ w2.heap.size := hB.size
    have hb12 : Below w1.heap.size w1 w2 := bthen (bal (Below.refl _ _) _) hb2
    have b5 : w2.cell? ⟨w1.heap.size, 0, none⟩ = some (.slice a1 N c1) := bkeep hb2 (cell_new rfl rfl)
    have HU := Lib.hid hu
    obtain ⟨nu, au, cu, lu, rfl, -⟩ := hu
    unfold iv at *
    clear DC
    have sc := fun W (q : Below w2.heap.size w2 W) => sign_c _ d W (HU.out.keep q)
    have hBw := Below.refl w2.heap.size w2
    by_cases hd0 : d = 0
    · have HD0 := Lib.hid hd0
      rw [hd0, Int.sign_zero] at sc
      clear hd0
      go_wp2_with fail
      (with_reducible refine (sc _ ?_).mono ?_); (repeat (first | exact Below.refl _ _ | exact hBw | refine Below.drew ?_ | refine below_drewN ?_ _ | refine bset ?_ (by simp <;> omega) _ | refine bal ?_ _))
      rintro e w3 ⟨rfl, hb3⟩
      have m0 : w3.cell? ⟨w.heap.size, 0, none⟩ = some (.slice ag N cg) := bkc hb3
      have zm0 := cell_lt m0
      have r0 : w3.cell? ⟨w.heap.size + 1, 0, none⟩ = some (.slice none 0 0) := bkc hb3
      have zr0 := cell_lt r0
      have r0f : w3.frozen? ⟨w.heap.size + 1, 0, none⟩ = false := bkcf (v := .slice none 0 0) hb3
      have s0 : w3.cell? ⟨w.heap.size + 1 + 1, 0, none⟩ = some (.bool false) := bkc hb3
      have zs0 := cell_lt s0
      have s0f : w3.frozen? ⟨w.heap.size + 1 + 1, 0, none⟩ = false := bkcf (v := .bool false) hb3
      have s1 : w3.cell? ⟨w.heap.size + 1 + 1, 1, none⟩ = some (.slice none 0 0) := bkc hb3
      have s1f : w3.frozen? ⟨w.heap.size + 1 + 1, 1, none⟩ = false := bkcf (v := .slice none 0 0) hb3
      have hB : Below w.heap.size w w3 := bthen (by repeat (first | exact Below.refl _ _ | exact hB | refine Below.drew ?_ | refine below_drewN ?_ _ | refine bset ?_ (by simp <;> omega) _ | refine bal ?_ _)) hb3
      have hz : w.heap.size ≤ w3.heap.size := hB.size
      clear sc
      go_wp2
      refine bodyPost_ret (v := .tuple #[.agg #[.slice none 0 0], .agg #[.bool false, .slice none 0 0], .int .i64 50]) (by simp [results, Tryd.results33, go_sem, *]) rfl ⟨.inr (.inl ⟨HBQ.out, HD0.out, rfl⟩), ?_⟩
      repeat (first | exact Below.refl _ _ | exact hB | refine Below.drew ?_ | refine below_drewN ?_ _ | refine bset ?_ (by simp <;> omega) _ | refine bal ?_ _)
    · obtain ⟨sg, hsg, hsgE⟩ : ∃ q : Int, q ≠ 0 ∧ d.sign = q := ⟨_, (fun e => hd0 (Int.sign_eq_zero_iff_zero.1 e)), rfl⟩
      rw [hsgE] at sc
      have hsb : (sg == 0) = false := by simpa using hsg
      have HD0 := Lib.hid hd0
      clear hsgE hsg hd0
      go_wp2_with fail
      (with_reducible refine (sc _ ?_).mono ?_); (repeat (first | exact Below.refl _ _ | exact hBw | refine Below.drew ?_ | refine below_drewN ?_ _ | refine bset ?_ (by simp <;> omega) _ | refine bal ?_ _))
      rintro e w3 ⟨rfl, hb3⟩
      have m0 : w3.cell? ⟨w.heap.size, 0, none⟩ = some (.slice ag N cg) := bkc hb3
      have zm0 := cell_lt m0
      have r0 : w3.cell? ⟨w.heap.size + 1, 0, none⟩ = some (.slice none 0 0) := bkc hb3
      have zr0 := cell_lt r0
      have r0f : w3.frozen? ⟨w.heap.size + 1, 0, none⟩ = false := bkcf (v := .slice none 0 0) hb3
      have s0 : w3.cell? ⟨w.heap.size + 1 + 1, 0, none⟩ = some (.bool false) := bkc hb3
      have zs0 := cell_lt s0
      have s0f : w3.frozen? ⟨w.heap.size + 1 + 1, 0, none⟩ = false := bkcf (v := .bool false) hb3
      have s1 : w3.cell? ⟨w.heap.size + 1 + 1, 1, none⟩ = some (.slice none 0 0) := bkc hb3
      have s1f : w3.frozen? ⟨w.heap.size + 1 + 1, 1, none⟩ = false := bkcf (v := .slice none 0 0) hb3
      have hB : Below w.heap.size w w3 := bthen (by repeat (first | exact Below.refl _ _ | exact hB | refine Below.drew ?_ | refine below_drewN ?_ _ | refine bset ?_ (by simp <;> omega) _ | refine bal ?_ _)) hb3
      have hz : w.heap.size ≤ w3.heap.size := hB.size
      have hba : Below w2.heap.size w2 (w2.alloc (.cells #[.bool nu, .slice au lu.length cu] 33)) := bal (Below.refl _ _) _
      have hb23 : Below w2.heap.size w2 w3 := bthen hba hb3
      have HD3 := Lib.hid ((show VarI w2.heap.size d (w2.alloc (.cells #[.bool nu, .slice au lu.length cu] 33)) from ⟨typ_fresh rfl, nu, au, lu.length, cu, by simp [go_sem], by simp [go_sem], by simp [go_sem], by simp [go_sem], HU.out.keep hba⟩).keep hb3)
      have hb13 := bthen hb12 hb23
      replace b5 := bkeep hb23 b5
      obtain ⟨-, n3, d3, l3, c3, e0, e1, -, -, eI⟩ := HD3.out
      have HE3 := Lib.hid eI
      have ze := cell_lt e0
      have zb5 := cell_lt b5
      clear sc eI hba
      go_wp2
      refine wp_name fun w4 hW4 => ?_
      have hb34 : Below w3.heap.size w3 w4 := by rw [hW4]; (have hBy := Below.refl w3.heap.size w3; repeat (first | exact Below.refl _ _ | exact hBy | refine Below.drew ?_ | refine below_drewN ?_ _ | refine bset ?_ (by simp <;> omega) _ | refine bal ?_ _))
      have HG4 := Lib.hid (show VarI w3.heap.size d w4 from by rw [hW4]; exact ⟨typ_fresh rfl, n3, d3, l3, c3, by simp [go_sem], by simp [go_sem], by simp [go_sem], by simp [go_sem], HE3.out.keep (bal (Below.refl _ _) _)⟩)
      have HD4 := Lib.hid (HD3.out.keep hb34)
      have hb14 := bthen hb13 hb34
      have hdb : w2.heap.size < w3.heap.size := ze
      have ha5 : w1.heap.size < w3.heap.size := zb5
      have h12 : w1.heap.size < w2.heap.size := by have := cell_lt (bkeep (Below.refl _ _) b5); exact Nat.lt_of_lt_of_le (Nat.lt_succ_self _) (Nat.le_trans (by simp [go_sem]) hb2.size)
      have hw1 : w.heap.size + 1 + 1 < w1.heap.size := by have := hb1.size; simp [go_sem] at this; omega
      replace b5 := bkeep hb34 b5
      have hB4 : Below w.heap.size w w4 := bthen hB hb34
      have HF4 := Lib.hid (show w4.cell? ⟨w.heap.size, 0, none⟩ = some (.slice ag N cg) ∧ w4.cell? ⟨w.heap.size + 1, 0, none⟩ = some (.slice none 0 0) ∧ w4.frozen? ⟨w.heap.size + 1, 0, none⟩ = false ∧ w4.cell? ⟨w.heap.size + 1 + 1, 0, none⟩ = some (.bool false) ∧ w4.cell? ⟨w.heap.size + 1 + 1, 1, none⟩ = some (.slice none 0 0) ∧ w4.frozen? ⟨w.heap.size + 1 + 1, 0, none⟩ = false ∧ w4.frozen? ⟨w.heap.size + 1 + 1, 1, none⟩ = false from
        ⟨bkeep hb34 m0, bkeep hb34 r0, bkeepf hb34 r0 r0f, bkeep hb34 s0, bkeep hb34 s1, bkeepf hb34 s0 s0f, bkeepf hb34 s1 s1f⟩)
      have hN0 := HNP.out HBQ.out
      obtain ⟨mb, mo, rfl⟩ : ∃ b o, a1 = some ⟨b, o, none⟩ := by
        obtain ⟨gb, go, ra, rc, e, -⟩ := HV1.out.rowAt (i := 0) (by rw [HAL.out]; exact hN0)
        exact ⟨gb, go, e⟩
      obtain ⟨gb, hgb⟩ : ∃ x, w3.heap.size = x := ⟨_, rfl⟩
      obtain ⟨db, hdbE⟩ : ∃ x, w2.heap.size = x := ⟨_, rfl⟩
      rw [hgb] at HG4 hdb ha5
      rw [hdbE] at HD4 hdb h12
      rw [hgb, hdbE]
      have hkk : kk ≤ 17179869184 := Nat.le_trans hK (by decide)
      have hN1 : N ≤ 1099511627775 := Nat.le_trans hn (by decide)
      clear hW4 hgb hdbE hb34 hb13 hb23 hb3 hb12 hb2 hb1 ze zb5 e0 e1 HE3 HD3 HU m0 r0 r0f s0 s0f s1 s1f hB hBw hsb
      have zb5 := cell_lt b5
      go_wp2
      go_loopw [36] (fun x wr => ∃ j : Nat, j ≤ N ∧ x = .int .i64 j ∧ Out (fun q => q = gb) w4 wr ∧ Hid (Lim w4 wr) ∧ Hid (VarI gb (comG d (A.take j)) wr)) (fun x _ => N - (intOf x).toNat)
      case atStart => exact ⟨0, Nat.zero_le _, rfl, Out.refl _ _, Lib.hid (Lim.refl _), HG4⟩
      case round =>
        obtain ⟨j, hj, rfl, hO, HL, hG⟩ := hrel
        have hb1r : Below w1.heap.size w1 wr := hb14.trans (hO.to_below (fun k hk _ e => absurd (e ▸ hk) (Nat.not_lt.2 (Nat.le_of_lt ha5))) hb14.size)
        by_cases hlt : j < N
        · have hltI : (j : Int) < (N : Int) := by omega
          obtain ⟨mb2, mo2, ra, rc, e2, hu, hp⟩ := (HV1.out.keep hb1r).rowAt (i := j) (by rw [HAL.out]; exact hlt)
          obtain ⟨rfl, rfl⟩ : mb = mb2 ∧ mo = mo2 := by simp at e2; exact e2
          have hrl := HAR.out j (by rw [HAL.out]; exact hlt)
          have hbj : ∀ i, Bd kk ((A.getD j []).getD i 0) := fun i => HAB.out j i
          have HCT := Lib.hid (comG_take (d := d) (show j < A.length by rw [HAL.out]; exact hlt))
          have hbc := comG_bd HDB.out HAB.out j (by rw [HAL.out]; exact hj)
          have hbl := contL_all hbj
          obtain ⟨row, hrow⟩ : ∃ row, A.getD j [] = row := ⟨_, rfl⟩
          rw [hrow] at hu hp hrl hbj HCT hbl
          rw [hrl] at hu hp
          obtain ⟨cur, hcur⟩ : ∃ x, comG d (A.take j) = x := ⟨_, rfl⟩
          rw [hcur] at hG HCT hbc
          obtain ⟨-, n3, a3, l3, c3, q0, q1, q0f, q1f, qI⟩ := hG.out
          have HQ := Lib.hid qI
          have HP := Lib.hid hp
          have HRL := Lib.hid hrl
          have cc := fun W (q : Below wr.heap.size wr W) => content_c (.slice ra N rc) row kk W (HP.out.keep lims_int q) (by rw [HRL.out]; exact hN1) hbj hkk
          have gc := fun vy W (q : Below wr.heap.size wr W) (hy : IsInt W vy (contL row)) => gcdI_c (.agg #[.bool n3, .slice a3 l3 c3]) vy cur (contL row) kk W (HQ.out.keep q) hy hbc hbl hkk
          have zq := cell_lt q0
          have zu := cell_lt hu
          have hBw := Below.refl wr.heap.size wr
          clear e2 hp qI hrow hcur hrl hbc hbl hbj
          go_wp2
          go_region_law (go_simp; go_wp2_with (first
            | (go_at_call 65; (with_reducible refine (cc _ ?_).mono ?_); (repeat (first | exact Below.refl _ _ | exact hBw | refine Below.drew ?_ | refine below_drewN ?_ _ | refine bset ?_ (by simp <;> omega) _ | refine bal ?_ _)); rintro e w5 ⟨⟨v5, rfl, hi5⟩, hb5⟩; have hB5 : Below wr.heap.size wr w5 := bthen (by repeat (first | exact Below.refl _ _ | exact hBw | refine Below.drew ?_ | refine below_drewN ?_ _ | refine bset ?_ (by simp <;> omega) _ | refine bal ?_ _)) hb5; have HI5 := Lib.hid hi5; have q05 := bkeep hB5 q0; have q15 := bkeep hB5 q1; have zq5 := cell_lt q05; obtain ⟨n5, a5, c5, l5, rfl, -⟩ := hi5; unfold iv at *)
            | (go_at_call 64; (with_reducible refine (gc _ _ ?_ ?_).mono ?_); (repeat (first | exact Below.refl _ _ | exact hB5 | refine Below.drew ?_ | refine below_drewN ?_ _ | refine bset ?_ (by simp <;> omega) _ | refine bal ?_ _)); (refine HI5.out.keep ?_; have hBz := Below.refl w5.heap.size w5; (repeat (first | exact Below.refl _ _ | exact hBz | refine Below.drew ?_ | refine below_drewN ?_ _ | refine bset ?_ (by simp <;> omega) _ | refine bal ?_ _))); rintro e w6 ⟨⟨v6, rfl, hi6⟩, hb6⟩; have hB6 : Below wr.heap.size wr w6 := bthen (by repeat (first | exact Below.refl _ _ | exact hB5 | refine Below.drew ?_ | refine below_drewN ?_ _ | refine bset ?_ (by simp <;> omega) _ | refine bal ?_ _)) hb6; have HI6 := Lib.hid hi6; have q06 := bkeep hB6 q0; have q16 := bkeep hB6 q1; have q06f := bkeepf hB6 q0 q0f; have q16f := bkeepf hB6 q1 q1f; have zq6 := cell_lt q06; obtain ⟨n6, a6, c6, l6, rfl, -⟩ := hi6; unfold iv at *)))
          all_goals
            have HG6 := Lib.hid ((hG.out.keep hB6).put HI6.out)
            rw [← HCT.out] at HG6
            have HL6 := Lib.hid ((HL.out.below hB6).trans (Lim.set2 q06 q16 (.bool n6) (.slice a6 l6.length c6)))
            have hO6 : Out (fun q => q = gb) w4 ((w6.setCell ⟨gb, 0, none⟩ (.bool n6)).setCell ⟨gb, 1, none⟩ (.slice a6 l6.length c6)) := (hO.below hB6).set2 (fun _ => rfl) _ _
            clear HG4 hO HL hG cc gc HQ HP HCT q0 q1 q0f q1f q05 q15 q06 q16 q06f q16f hu hb5 hb6 hB5 hB6 HI5 HI6 hb1r hBw
            go_wp2
            exact ⟨⟨j + 1, hlt, by go_num, hO6, HL6, HG6⟩, meas hlt (by go_num) rfl⟩
        · obtain rfl : j = N := Nat.le_antisymm hj (Nat.le_of_not_lt hlt)
          have hltI : ¬ (j : Int) < (j : Int) := Int.lt_irrefl _
          rw [show A.take j = A from by rw [← HAL.out, List.take_length]] at hG
          have hcn := comG_nz (a := A) HD0.out
          have hcb : Bd kk (comG d A) := by have h := comG_bd HDB.out HAB.out A.length (Nat.le_refl _); rwa [List.take_length] at h
          obtain ⟨c, hc⟩ : ∃ c, comG d A = c := ⟨_, rfl⟩
          rw [hc] at hG hcn hcb HIS
          have hwg : w.heap.size + 1 + 1 < gb := Nat.lt_trans hw1 ha5
          have n0 : ¬ w.heap.size = gb := Nat.ne_of_lt (Nat.lt_of_succ_lt (Nat.lt_of_succ_lt hwg))
          have n1 : ¬ w.heap.size + 1 = gb := Nat.ne_of_lt (Nat.lt_of_succ_lt hwg)
          have n2 : ¬ w.heap.size + 1 + 1 = gb := Nat.ne_of_lt hwg
          obtain ⟨f1, f2, f3, f4, f5, f6, f7⟩ := HF4.out
          have HI := Lib.hid (show InvB w w1 ag j cg (.slice (some ⟨mb, mo, none⟩) j c1) db gb d c wr from ⟨hG.out, HD4.out.out hO (Nat.ne_of_lt hdb) HL.out, okeep hO f1 n0, okeep hO f2 n1, okeepf hO f2 f3 n1, okeep hO f4 n2, okeep hO f5 n2, okeepf hO f4 f6 n2, okeepf hO f5 f7 n2, okeep hO b5 (Nat.ne_of_lt ha5), hb1r, hB4.trans (hO.to_below (fun k hk _ e => absurd (e ▸ hk) (Nat.not_lt.2 (Nat.le_of_lt (Nat.lt_of_succ_lt (Nat.lt_of_succ_lt hwg))))) hB4.size)⟩)
          have HCN := Lib.hid (And.intro hcn hcb)
          clear HF4 HG4 HD4 hG hO HL hb1r f1 f2 f3 f4 f5 f6 f7 n0 n1 n2 hcn hcb hc b5 zb5 hb14 hB4
          have HI0 := HI
          obtain ⟨-, nd, ad, ld, cd, e0, e1, -, -, eI⟩ := HI.out.dd
          have hBw := Below.refl wr.heap.size wr
          have HEI := Lib.hid eI
          have ze := cell_lt e0
          have sc := fun W (q : Below wr.heap.size wr W) => sign_c _ d W (HEI.out.keep q)
          clear eI
          by_cases hneg : d < 0
          · rw [Int.sign_eq_neg_one_of_neg hneg] at sc
            have HSE := Lib.hid (show S = -c from by rw [HIS.out, if_pos hneg])
            clear hneg
            go_wp2_with fail
            (with_reducible refine (sc _ ?_).mono ?_); (repeat (first | exact Below.refl _ _ | exact hBw | refine Below.drew ?_ | refine below_drewN ?_ _ | refine bset ?_ (by simp <;> omega) _ | refine bal ?_ _))
            rintro e w5 ⟨rfl, hb5⟩
            have hb5' : Below wr.heap.size wr w5 := bthen (by repeat (first | exact Below.refl _ _ | exact hBw | refine Below.drew ?_ | refine below_drewN ?_ _ | refine bset ?_ (by simp <;> omega) _ | refine bal ?_ _)) hb5
            have HI5 := Lib.hid (HI.out.keep hb5')
            obtain ⟨-, ng, ag', lg, cg', q0, q1, q0f, q1f, qI⟩ := HI5.out.g
            have HQI := Lib.hid qI
            have zq := cell_lt q0
            have nc := fun W (q : Below w5.heap.size w5 W) => neg_c _ c W (HQI.out.keep q)
            have hBw5 := Below.refl w5.heap.size w5
            clear sc HI HI0 qI e0 e1 ze HEI hb5 hb5' hBw
            go_wp2_with fail
            (with_reducible refine (nc _ ?_).mono ?_); (repeat (first | exact Below.refl _ _ | exact hBw5 | refine Below.drew ?_ | refine below_drewN ?_ _ | refine bset ?_ (by simp <;> omega) _ | refine bal ?_ _))
            rintro e w6 ⟨⟨v6, rfl, hv6⟩, hb6⟩
            have hb6' : Below w5.heap.size w5 w6 := bthen (by repeat (first | exact Below.refl _ _ | exact hBw5 | refine Below.drew ?_ | refine below_drewN ?_ _ | refine bset ?_ (by simp <;> omega) _ | refine bal ?_ _)) hb6
            have HI6 := Lib.hid (HI5.out.keep hb6')
            have HV6 := Lib.hid hv6
            obtain ⟨n6, a6, c6, l6, rfl, -⟩ := hv6
            unfold iv at *
            replace q0f := bkeepf hb6' q0 q0f
            replace q1f := bkeepf hb6' q1 q1f
            replace q0 := bkeep hb6' q0
            replace q1 := bkeep hb6' q1
            replace zq := cell_lt q0
            have HI7 := Lib.hid (HI6.out.putG hw1 h12 hdb HV6.out)
            rw [← HSE.out] at HI7
            have HSB := Lib.hid (show S ≠ 0 ∧ Bd kk S from by rw [HSE.out]; exact ⟨by have := HCN.out.1; omega, bd_neg HCN.out.2⟩)
            clear nc HI5 HI6 HQI hb6 hb6' hBw5 HV6
            go_upto_region 15 with (fail)
            refine wp_name fun w7 hW7 => ?_
            rw [← hW7] at HI7
            clear hW7 q0 q1 q0f q1f zq
            obtain ⟨-, nd, ad, ld, cd, e0, e1, e0f, e1f, eI⟩ := HI7.out.dd
            obtain ⟨-, ng, ag', lg, cg', q0, q1, -, -, qI⟩ := HI7.out.g
            have HEI := Lib.hid (And.intro eI qI)
            have ze := cell_lt e0
            have zq := cell_lt q0
            have dc := fun W (q : Below w7.heap.size w7 W) => divmod_c (.agg #[.bool nd, .slice ad ld cd]) (.agg #[.bool ng, .slice ag' lg cg']) d S kk W (HEI.out.1.keep q) (HEI.out.2.keep q) HDB.out HSB.out.2 hkk HSB.out.1
            have hBx := Below.refl w7.heap.size w7
            clear eI qI
            go_wp2_with fail
            (with_reducible refine (dc _ ?_).mono ?_); (repeat (first | exact Below.refl _ _ | exact hBx | refine Below.drew ?_ | refine below_drewN ?_ _ | refine bset ?_ (by simp <;> omega) _ | refine bal ?_ _))
            rintro e w8 ⟨⟨u8, r8, rfl, hu8, hr8⟩, hb8⟩
            have hb8' : Below w7.heap.size w7 w8 := bthen (by repeat (first | exact Below.refl _ _ | exact hBx | refine Below.drew ?_ | refine below_drewN ?_ _ | refine bset ?_ (by simp <;> omega) _ | refine bal ?_ _)) hb8
            have HU8 := Lib.hid hu8
            obtain ⟨n8, a8, c8, l8, rfl, -⟩ := hu8
            obtain ⟨n9, a9, c9, l9, rfl, -⟩ := hr8
            unfold iv at *
            replace e0f := bkeepf hb8' e0 e0f
            replace e1f := bkeepf hb8' e1 e1f
            replace e0 := bkeep hb8' e0
            replace e1 := bkeep hb8' e1
            replace ze := cell_lt e0
            have HI9 := Lib.hid ((HI7.out.keep hb8').putD hw1 h12 hdb HU8.out)
            clear dc HEI HI7 q0 q1 zq hb8 hb8' hBx
            go_upto_region 16 with (fail)
            refine wp_name fun w9 hW9 => ?_
            rw [← hW9] at HI9
            clear hW9 e0 e1 e0f e1f ze HU8
            obtain ⟨-, nd, ad, ld, cd, e0, e1, -, -, eI⟩ := HI9.out.dd
            have HEI := Lib.hid eI
            have m0 := HI9.out.m0
            have r0 := HI9.out.r0
            have r0f := HI9.out.r0f
            have s0 := HI9.out.s0
            have s1 := HI9.out.s1
            have s0f := HI9.out.s0f
            have s1f := HI9.out.s1f
            have zm := cell_lt m0
            have ze := cell_lt e0
            have zr := cell_lt r0
            have zs := cell_lt s0
            have FCL := Lib.hid (fun V (q : Below w9.heap.size w9 V) => filled_c j j (fun i k => gat A i k / S) 67 #[.pointer (some ⟨w1.heap.size, 0, none⟩), .pointer (some ⟨gb, 0, none⟩)] V (inv1_c w1.heap.size gb A j j kk S V ((HV1.out.keep (bthen HI9.out.b1 q)).boxM (bkeep q HI9.out.b5)) (HI9.out.g.keep q) HAL.out HAR.out HAB.out HSB.out.2 hkk HSB.out.1) (ens Tryd.func67 (by kernel_rfl) rfl) (Nat.le_trans hN1 (by decide)) hN1)
            rw [← HIG.out] at FCL
            have HS := Lib.hid (show ∀ V, Below w9.heap.size w9 V → V.cell? ⟨w.heap.size, 0, none⟩ = some (.slice ag j cg) ∧ V.cell? ⟨db, 0, none⟩ = some (.bool nd) ∧ V.cell? ⟨db, 1, none⟩ = some (.slice ad ld cd) from fun V q => ⟨bkeep q m0, bkeep q e0, bkeep q e1⟩)
            have hwd : w.heap.size + 1 + 1 < db := Nat.lt_trans hw1 h12
            have nr0 : w.heap.size + 1 ≠ w.heap.size := Nat.succ_ne_self _
            have ns0 : w.heap.size + 1 + 1 ≠ w.heap.size := Nat.ne_of_gt (Nat.lt_succ_of_lt (Nat.lt_succ_self _))
            have nrd : w.heap.size + 1 ≠ db := Nat.ne_of_lt (Nat.lt_of_succ_lt hwd)
            have nsd : w.heap.size + 1 + 1 ≠ db := Nat.ne_of_lt hwd
            have hBx := Below.refl w9.heap.size w9
            clear eI
            go_region_held3 (fun V => V.cell? ⟨w.heap.size, 0, none⟩ = some (.slice ag j cg) ∧ V.cell? ⟨db, 0, none⟩ = some (.bool nd) ∧ V.cell? ⟨db, 1, none⟩ = some (.slice ad ld cd))
              (first | ((repeat (first | (with_reducible refine three_far _ ?_ (addr_ne nr0) (addr_ne nrd) (addr_ne nrd)) | (with_reducible refine three_far _ ?_ (addr_ne ns0) (addr_ne nsd) (addr_ne nsd)))); (with_reducible refine HS.out _ ?_); (repeat (first | exact Below.refl _ _ | exact hBx | refine Below.drew ?_ | refine below_drewN ?_ _ | refine bal ?_ _)); done) | fail)
              (first
              | (go_at_call 9; (with_reducible refine (RC.out _).mono ?_); rintro e w10 ⟨rfl, hb10⟩; (have hBd : Below w9.heap.size w9 w10 := bthen (by repeat (first | exact Below.refl _ _ | exact hBx | refine Below.drew ?_ | refine below_drewN ?_ _ | refine bset ?_ (by simp <;> omega) _ | refine bal ?_ _)) hb10; clear hBx; have hBx := hBd; clear hBd))
              | (go_at_call 37; (with_reducible refine (FCL.out _ ?_).mono ?_); (repeat (first | exact Below.refl _ _ | exact hBx | refine Below.drew ?_ | refine below_drewN ?_ _ | refine bset ?_ (by simp <;> omega) _ | refine bal ?_ _)); rintro e w11 ⟨⟨v11, rfl, hv11⟩, hb11⟩; have HV11 := Lib.hid (hv11.rebase (show w9.heap.size ≤ _ from (show Below w9.heap.size w9 _ by repeat (first | exact Below.refl _ _ | exact hBx | refine Below.drew ?_ | refine below_drewN ?_ _ | refine bset ?_ (by simp <;> omega) _ | refine bal ?_ _)).size)); (have hBd : Below w9.heap.size w9 w11 := bthen (by repeat (first | exact Below.refl _ _ | exact hBx | refine Below.drew ?_ | refine below_drewN ?_ _ | refine bset ?_ (by simp <;> omega) _ | refine bal ?_ _)) hb11; clear hBx; have hBx := hBd; clear hBd); obtain ⟨a11, c11, rfl⟩ := hv11.lit; obtain ⟨L11, hL11⟩ : ∃ x, (invG g).length = x := ⟨_, rfl⟩; rw [hL11] at HV11 ⊢; clear hL11 hv11 hb11; have r011 := bkeep hBx r0; have r0f11 := bkeepf hBx r0 r0f; have s011 := bkeep hBx s0; have s111 := bkeep hBx s1; have s0f11 := bkeepf hBx s0 s0f; have s1f11 := bkeepf hBx s1 s1f; have zr11 := cell_lt r011; have zs11 := cell_lt s011)
              | fail)
            all_goals
              go_wp2
              have hs0 : (w11.setCell ⟨w.heap.size + 1, 0, none⟩ (.slice a11 L11 c11)).cell? ⟨w.heap.size + 1 + 1, 0, none⟩ = some (.bool false) := cell_far s011 (addr_ne (Nat.ne_of_lt (Nat.lt_succ_self _))) _
              have hs1 : (w11.setCell ⟨w.heap.size + 1, 0, none⟩ (.slice a11 L11 c11)).cell? ⟨w.heap.size + 1 + 1, 1, none⟩ = some (.slice none 0 0) := cell_far s111 (addr_ne (Nat.ne_of_lt (Nat.lt_succ_self _))) _
              have hLM := ((Lim.refl w11).slice r011 (.slice a11 L11 c11)).trans (Lim.set2 hs0 hs1 (.bool nd) (.slice ad ld cd))
              have hOT := ((Out.refl (fun q => q = w.heap.size + 1 ∨ q = w.heap.size + 1 + 1) w11).set (p := ⟨w.heap.size + 1, 0, none⟩) (fun _ => .inl rfl) (.slice a11 L11 c11)).set2 (g := w.heap.size + 1 + 1) (o := 0) (fun _ => .inr rfl) (.bool nd) (.slice ad ld cd)
              have HMF := Lib.hid ((HV11.out.out hOT (fun k hk h => h.elim (fun e => absurd hk (Nat.not_le.2 (by rw [e]; exact Nat.lt_of_succ_lt zs))) (fun e => absurd hk (Nat.not_le.2 (by rw [e]; exact zs)))) hLM).rebase (Nat.le_of_lt zm))
              have HIF := Lib.hid ((HEI.out.keep hBx).lim hLM)
              have hBF : Below w.heap.size w w11 := bthen HI9.out.bel hBx
              clear hs0 hs1 hLM hOT
              refine bodyPost_ret (v := .tuple #[.agg #[.slice a11 L11 c11], .agg #[.bool nd, .slice ad ld cd], .int .i64 0]) (by simp [results, Tryd.results33, go_sem, *]) rfl ⟨.inl ⟨HBQ.out, HD0.out, _, _, rfl, HMF.out, by rw [HID.out]; exact HIF.out⟩, ?_⟩
              repeat (first | exact Below.refl _ _ | exact hBF | refine Below.drew ?_ | refine below_drewN ?_ _ | refine bset ?_ (by simp <;> omega) _ | refine bal ?_ _)
          · have hpos : 0 < d := by have := HD0.out; omega
            rw [Int.sign_eq_one_of_pos hpos] at sc
            have HSE := Lib.hid (show S = c from by rw [HIS.out, if_neg hneg])
            have HI7 := HI
            rw [← HSE.out] at HI7
            have HSB := Lib.hid (show S ≠ 0 ∧ Bd kk S from by rw [HSE.out]; exact HCN.out)
            clear hneg hpos HI HI0
            go_wp2_with fail
            (with_reducible refine (sc _ ?_).mono ?_); (repeat (first | exact Below.refl _ _ | exact hBw | refine Below.drew ?_ | refine below_drewN ?_ _ | refine bset ?_ (by simp <;> omega) _ | refine bal ?_ _))
            rintro e w5 ⟨rfl, hb5⟩
            have hb5' : Below wr.heap.size wr w5 := bthen (by repeat (first | exact Below.refl _ _ | exact hBw | refine Below.drew ?_ | refine below_drewN ?_ _ | refine bset ?_ (by simp <;> omega) _ | refine bal ?_ _)) hb5
            have HI8 := Lib.hid (HI7.out.keep hb5')
            clear HI7 sc e0 e1 ze HEI hb5 hb5' hBw
            have HI7 := HI8
            clear HI8
            go_upto_region 15 with (fail)
            refine wp_name fun w7 hW7 => ?_
            rw [← hW7] at HI7
            clear hW7
            obtain ⟨-, nd, ad, ld, cd, e0, e1, e0f, e1f, eI⟩ := HI7.out.dd
            obtain ⟨-, ng, ag', lg, cg', q0, q1, -, -, qI⟩ := HI7.out.g
            have HEI := Lib.hid (And.intro eI qI)
            have ze := cell_lt e0
            have zq := cell_lt q0
            have dc := fun W (q : Below w7.heap.size w7 W) => divmod_c (.agg #[.bool nd, .slice ad ld cd]) (.agg #[.bool ng, .slice ag' lg cg']) d S kk W (HEI.out.1.keep q) (HEI.out.2.keep q) HDB.out HSB.out.2 hkk HSB.out.1
            have hBx := Below.refl w7.heap.size w7
            clear eI qI
            go_wp2_with fail
            (with_reducible refine (dc _ ?_).mono ?_); (repeat (first | exact Below.refl _ _ | exact hBx | refine Below.drew ?_ | refine below_drewN ?_ _ | refine bset ?_ (by simp <;> omega) _ | refine bal ?_ _))
            rintro e w8 ⟨⟨u8, r8, rfl, hu8, hr8⟩, hb8⟩
            have hb8' : Below w7.heap.size w7 w8 := bthen (by repeat (first | exact Below.refl _ _ | exact hBx | refine Below.drew ?_ | refine below_drewN ?_ _ | refine bset ?_ (by simp <;> omega) _ | refine bal ?_ _)) hb8
            have HU8 := Lib.hid hu8
            obtain ⟨n8, a8, c8, l8, rfl, -⟩ := hu8
            obtain ⟨n9, a9, c9, l9, rfl, -⟩ := hr8
            unfold iv at *
            replace e0f := bkeepf hb8' e0 e0f
            replace e1f := bkeepf hb8' e1 e1f
            replace e0 := bkeep hb8' e0
            replace e1 := bkeep hb8' e1
            replace ze := cell_lt e0
            have HI9 := Lib.hid ((HI7.out.keep hb8').putD hw1 h12 hdb HU8.out)
            clear dc HEI HI7 q0 q1 zq hb8 hb8' hBx
            go_upto_region 16 with (fail)
            refine wp_name fun w9 hW9 => ?_
            rw [← hW9] at HI9
            clear hW9 e0 e1 e0f e1f ze HU8
            obtain ⟨-, nd, ad, ld, cd, e0, e1, -, -, eI⟩ := HI9.out.dd
            have HEI := Lib.hid eI
            have m0 := HI9.out.m0
            have r0 := HI9.out.r0
            have r0f := HI9.out.r0f
            have s0 := HI9.out.s0
            have s1 := HI9.out.s1
            have s0f := HI9.out.s0f
            have s1f := HI9.out.s1f
            have zm := cell_lt m0
            have ze := cell_lt e0
            have zr := cell_lt r0
            have zs := cell_lt s0
            have FCL := Lib.hid (fun V (q : Below w9.heap.size w9 V) => filled_c j j (fun i k => gat A i k / S) 67 #[.pointer (some ⟨w1.heap.size, 0, none⟩), .pointer (some ⟨gb, 0, none⟩)] V (inv1_c w1.heap.size gb A j j kk S V ((HV1.out.keep (bthen HI9.out.b1 q)).boxM (bkeep q HI9.out.b5)) (HI9.out.g.keep q) HAL.out HAR.out HAB.out HSB.out.2 hkk HSB.out.1) (ens Tryd.func67 (by kernel_rfl) rfl) (Nat.le_trans hN1 (by decide)) hN1)
            rw [← HIG.out] at FCL
            have HS := Lib.hid (show ∀ V, Below w9.heap.size w9 V → V.cell? ⟨w.heap.size, 0, none⟩ = some (.slice ag j cg) ∧ V.cell? ⟨db, 0, none⟩ = some (.bool nd) ∧ V.cell? ⟨db, 1, none⟩ = some (.slice ad ld cd) from fun V q => ⟨bkeep q m0, bkeep q e0, bkeep q e1⟩)
            have hwd : w.heap.size + 1 + 1 < db := Nat.lt_trans hw1 h12
            have nr0 : w.heap.size + 1 ≠ w.heap.size := Nat.succ_ne_self _
            have ns0 : w.heap.size + 1 + 1 ≠ w.heap.size := Nat.ne_of_gt (Nat.lt_succ_of_lt (Nat.lt_succ_self _))
            have nrd : w.heap.size + 1 ≠ db := Nat.ne_of_lt (Nat.lt_of_succ_lt hwd)
            have nsd : w.heap.size + 1 + 1 ≠ db := Nat.ne_of_lt hwd
            have hBx := Below.refl w9.heap.size w9
            clear eI
            go_region_held3 (fun V => V.cell? ⟨w.heap.size, 0, none⟩ = some (.slice ag j cg) ∧ V.cell? ⟨db, 0, none⟩ = some (.bool nd) ∧ V.cell? ⟨db, 1, none⟩ = some (.slice ad ld cd))
              (first | ((repeat (first | (with_reducible refine three_far _ ?_ (addr_ne nr0) (addr_ne nrd) (addr_ne nrd)) | (with_reducible refine three_far _ ?_ (addr_ne ns0) (addr_ne nsd) (addr_ne nsd)))); (with_reducible refine HS.out _ ?_); (repeat (first | exact Below.refl _ _ | exact hBx | refine Below.drew ?_ | refine below_drewN ?_ _ | refine bal ?_ _)); done) | fail)
              (first
              | (go_at_call 9; (with_reducible refine (RC.out _).mono ?_); rintro e w10 ⟨rfl, hb10⟩; (have hBd : Below w9.heap.size w9 w10 := bthen (by repeat (first | exact Below.refl _ _ | exact hBx | refine Below.drew ?_ | refine below_drewN ?_ _ | refine bset ?_ (by simp <;> omega) _ | refine bal ?_ _)) hb10; clear hBx; have hBx := hBd; clear hBd))
              | (go_at_call 37; (with_reducible refine (FCL.out _ ?_).mono ?_); (repeat (first | exact Below.refl _ _ | exact hBx | refine Below.drew ?_ | refine below_drewN ?_ _ | refine bset ?_ (by simp <;> omega) _ | refine bal ?_ _)); rintro e w11 ⟨⟨v11, rfl, hv11⟩, hb11⟩; have HV11 := Lib.hid (hv11.rebase (show w9.heap.size ≤ _ from (show Below w9.heap.size w9 _ by repeat (first | exact Below.refl _ _ | exact hBx | refine Below.drew ?_ | refine below_drewN ?_ _ | refine bset ?_ (by simp <;> omega) _ | refine bal ?_ _)).size)); (have hBd : Below w9.heap.size w9 w11 := bthen (by repeat (first | exact Below.refl _ _ | exact hBx | refine Below.drew ?_ | refine below_drewN ?_ _ | refine bset ?_ (by simp <;> omega) _ | refine bal ?_ _)) hb11; clear hBx; have hBx := hBd; clear hBd); obtain ⟨a11, c11, rfl⟩ := hv11.lit; obtain ⟨L11, hL11⟩ : ∃ x, (invG g).length = x := ⟨_, rfl⟩; rw [hL11] at HV11 ⊢; clear hL11 hv11 hb11; have r011 := bkeep hBx r0; have r0f11 := bkeepf hBx r0 r0f; have s011 := bkeep hBx s0; have s111 := bkeep hBx s1; have s0f11 := bkeepf hBx s0 s0f; have s1f11 := bkeepf hBx s1 s1f; have zr11 := cell_lt r011; have zs11 := cell_lt s011)
              | fail)
            all_goals
              go_wp2
              have hs0 : (w11.setCell ⟨w.heap.size + 1, 0, none⟩ (.slice a11 L11 c11)).cell? ⟨w.heap.size + 1 + 1, 0, none⟩ = some (.bool false) := cell_far s011 (addr_ne (Nat.ne_of_lt (Nat.lt_succ_self _))) _
              have hs1 : (w11.setCell ⟨w.heap.size + 1, 0, none⟩ (.slice a11 L11 c11)).cell? ⟨w.heap.size + 1 + 1, 1, none⟩ = some (.slice none 0 0) := cell_far s111 (addr_ne (Nat.ne_of_lt (Nat.lt_succ_self _))) _
              have hLM := ((Lim.refl w11).slice r011 (.slice a11 L11 c11)).trans (Lim.set2 hs0 hs1 (.bool nd) (.slice ad ld cd))
              have hOT := ((Out.refl (fun q => q = w.heap.size + 1 ∨ q = w.heap.size + 1 + 1) w11).set (p := ⟨w.heap.size + 1, 0, none⟩) (fun _ => .inl rfl) (.slice a11 L11 c11)).set2 (g := w.heap.size + 1 + 1) (o := 0) (fun _ => .inr rfl) (.bool nd) (.slice ad ld cd)
              have HMF := Lib.hid ((HV11.out.out hOT (fun k hk h => h.elim (fun e => absurd hk (Nat.not_le.2 (by rw [e]; exact Nat.lt_of_succ_lt zs))) (fun e => absurd hk (Nat.not_le.2 (by rw [e]; exact zs)))) hLM).rebase (Nat.le_of_lt zm))
              have HIF := Lib.hid ((HEI.out.keep hBx).lim hLM)
              have hBF : Below w.heap.size w w11 := bthen HI9.out.bel hBx
              clear hs0 hs1 hLM hOT
              refine bodyPost_ret (v := .tuple #[.agg #[.slice a11 L11 c11], .agg #[.bool nd, .slice ad ld cd], .int .i64 0]) (by simp [results, Tryd.results33, go_sem, *]) rfl ⟨.inl ⟨HBQ.out, HD0.out, _, _, rfl, HMF.out, by rw [HID.out]; exact HIF.out⟩, ?_⟩
              repeat (first | exact Below.refl _ _ | exact hBF | refine Below.drew ?_ | refine below_drewN ?_ _ | refine bset ?_ (by simp <;> omega) _ | refine bal ?_ _)
end Go.Proofs.YthaohpfbengabaaDoor

/- row: Text; matrix: Text. -/
namespace Go.Proofs.YthaohpfbengabaaDoor
open Num
open Go.ChangeShapes Go.WideShapes Go.ChangeAt Go.RowKit
set_option linter.unusedVariables false
set_option linter.unusedSimpArgs false
attribute [local go_sem ↓] Go.wp_at_zero Go.wp_at_succ
/-- a list's text -/
def brTxt (L : List (List UInt8)) : List UInt8 := 91 :: (Lib.join L [32] ++ [93])
/-- a row's text -/
def rowTxt (l : List Int) : List UInt8 := brTxt (l.map intTxt)
/-- a matrix's text -/
def matTxt (g : Grid) : List UInt8 := brTxt (g.map rowTxt)
theorem brTxt_arr (L : List (List UInt8)) : (⟨#[91]⟩ : ByteArray) ++ ⟨(Lib.join L [32]).toArray⟩ ++ ⟨#[93]⟩ = ⟨(brTxt L).toArray⟩ := by
  apply ByteArray.ext
  simp [brTxt, ByteArray.data_append]
set_option maxRecDepth 100000 in
set_option maxHeartbeats 4000000 in
theorem rowText_c (v : Value) (l : List Int) (k : Nat) (w : World) (hv : PRow 0 w v l) (hl : l.length ≤ 1099511627775) (hb : ∀ j, Bd k (l.getD j 0)) (hk : k ≤ 2147483648) (hlen : (Lib.join (l.map intTxt) [32]).length ≤ 140737488355328) :
    Calls Tryd.prog 59 #[v] w fun e w' => e = .returned (.string ⟨(rowTxt l).toArray⟩) ∧ Below w.heap.size w w' := by
  have HV := Lib.hid hv
  have HBD := Lib.hid hb
  have HLEN := Lib.hid hlen
  obtain ⟨va, vc, rfl, -⟩ := hv
  clear hb hlen
  have hB := Below.refl w.heap.size w
  go_enter Tryd.func59, Tryd.ntmps59
  go_wp2
  go_loopw [3, 8] (fun v x wr => ∃ j : Nat, j ≤ l.length ∧ x = .int .i64 j ∧ Hid (OwnL 9 PTx w wr v ((l.take j).map intTxt))) (fun _ x _ => l.length - (intOf x).toNat)
  case atStart => exact ⟨0, Nat.zero_le _, rfl, Lib.hid (OwnL.nil _ _ hB)⟩
  case round =>
    obtain ⟨j, hj, rfl, hO⟩ := hrel
    have hBr := hO.out.bel
    obtain ⟨oa, oc, hvv⟩ := hO.out.ex
    rw [List.length_map, List.length_take, Nat.min_eq_left hj] at hvv
    subst hvv
    by_cases hlt : j < l.length
    · have hltI : (j : Int) < (l.length : Int) := by omega
      obtain ⟨a', c', he, -, vr⟩ := (HV.out.keep lims_int hBr).view
      obtain ⟨rfl, -, rfl⟩ := Value.slice.inj he
      obtain ⟨b, off, n2, a2, l2, cc2, rfl, d0, d1, hi⟩ := vr j hlt
      have bj := HBD.out j
      have HTK := Lib.hid (take_getD 0 hlt)
      obtain ⟨x, hx⟩ : ∃ x, l.getD j 0 = x := ⟨_, rfl⟩
      rw [hx] at hi bj HTK
      have tc := fun W (h : Below wr.heap.size wr W) => intText_c _ x k W (hi.keep h) bj hk
      have zd := cell_lt d0
      have hBw := Below.refl wr.heap.size wr
      clear hx he vr hi bj
      go_wp2_with fail
      refine (tc _ (by repeat (first | exact Below.refl _ _ | exact hBw | refine Below.drew ?_ | refine below_drewN ?_ _ | refine bset ?_ (by simp <;> omega) _ | refine bal ?_ _))).mono ?_
      rintro e w2 ⟨rfl, hb2⟩
      have hb2' : Below wr.heap.size wr w2 := bthen (by repeat (first | exact Below.refl _ _ | exact hBw | refine Below.drew ?_ | refine below_drewN ?_ _ | refine bset ?_ (by simp <;> omega) _ | refine bal ?_ _)) hb2
      have HO2 := Lib.hid (hO.out.below prs_ptx hb2')
      clear tc hO d0 d1
      go_wp2_with (at_builtin; refine appL elStr prs_ptx (fun h => h) (by rfl) (by rfl) (HO2.out.below prs_ptx (bal (Below.refl _ _) _)) (show PTx _ (.string ⟨(intTxt x).toArray⟩) (intTxt x) from rfl) (by rfl) (by rfl) (cell_new rfl rfl) (by rw [List.length_map, List.length_take]; omega) (by rw [List.length_map, List.length_take]; unfold maxLen; omega) ?_)
      intro v' w8 hO8 hk8
      have HO8 := Lib.hid (show OwnL 9 PTx w w8 v' ((l.take (j + 1)).map intTxt) from by rw [HTK.out, List.map_append, List.map_take]; exact hO8)
      clear hO8 hk8
      go_wp2
      exact ⟨⟨j + 1, by omega, by go_num, HO8⟩, by simp [intOf]; omega⟩
    · obtain rfl : j = l.length := by omega
      have hltI : ¬ (l.length : Int) < (l.length : Int) := by omega
      have HEQ := Lib.hid (brTxt_arr (l.map intTxt))
      have jc := fun W (h : Below wr.heap.size wr W) => join_c (.slice oa l.length oc) (l.map intTxt) w.heap.size W ((by have h2 := hO.out.isL; rw [List.take_length] at h2; exact h2 : IsL 9 PTx w.heap.size wr _ _).keep prs_ptx h) (by rw [List.length_map]; omega) HLEN.out
      have hJ := HLEN.out
      obtain ⟨J, hJE⟩ : ∃ J, Lib.join (l.map intTxt) [32] = J := ⟨_, rfl⟩
      rw [hJE] at jc HEQ hJ
      clear hJE hO
      have hJ1 : ¬ 9223372036854775807 < 1 + J.length := by omega
      have hJ2 : ¬ 9223372036854775807 < 1 + J.length + 1 := by omega
      have hBw := Below.refl wr.heap.size wr
      go_wp2_with fail
      refine (jc _ (by repeat (first | exact Below.refl _ _ | exact hBw | refine Below.drew ?_ | refine below_drewN ?_ _ | refine bset ?_ (by simp <;> omega) _ | refine bal ?_ _))).mono ?_
      rintro e w2 ⟨rfl, hb2⟩
      have hb3 := bthen hBr (bthen (by repeat (first | exact Below.refl _ _ | exact hBw | refine Below.drew ?_ | refine below_drewN ?_ _ | refine bset ?_ (by simp <;> omega) _ | refine bal ?_ _)) hb2)
      clear jc
      go_wp2
      go_ret
      exact ⟨congrArg (fun s => Ending.returned (.string s)) HEQ.out, by repeat (first | exact Below.refl _ _ | exact hb3 | refine Below.drew ?_ | refine below_drewN ?_ _ | refine bset ?_ (by simp <;> omega) _ | refine bal ?_ _)⟩
set_option maxRecDepth 100000 in
set_option maxHeartbeats 4000000 in
theorem matText_c (v : Value) (g : Grid) (k : Nat) (w : World) (hv : IsM 0 w v g) (hg : g.length ≤ 1099511627775) (hl : ∀ i, i < g.length → (g.getD i []).length ≤ 1099511627775) (hb : BdM k g) (hk : k ≤ 2147483648) (h1 : ∀ i, i < g.length → (Lib.join ((g.getD i []).map intTxt) [32]).length ≤ 140737488355328) (h2 : (Lib.join (g.map rowTxt) [32]).length ≤ 140737488355328) :
    Calls Tryd.prog 31 #[v] w fun e w' => e = .returned (.string ⟨(matTxt g).toArray⟩) ∧ Below w.heap.size w w' := by
  obtain ⟨ga, gc, rfl, hv⟩ := hv
  have HV := Lib.hid hv
  have HBD := Lib.hid hb
  have HLEN := Lib.hid (And.intro hl (And.intro h1 h2))
  clear hb hl h1 h2 hv
  have hB := Below.refl w.heap.size w
  go_enter Tryd.func31, Tryd.ntmps31
  go_wp2
  refine wp_name fun w1 hW1 => ?_
  have hB1 : Below w.heap.size w w1 := by rw [hW1]; repeat (first | exact Below.refl _ _ | exact hB | refine Below.drew ?_ | refine below_drewN ?_ _ | refine bset ?_ (by simp <;> omega) _ | refine bal ?_ _)
  clear hW1
  go_loopw [3, 9] (fun v x wr => ∃ j : Nat, j ≤ g.length ∧ x = .int .i64 j ∧ Hid (OwnL 9 PTx w wr v ((g.take j).map rowTxt))) (fun _ x _ => g.length - (intOf x).toNat)
  case atStart => exact ⟨0, Nat.zero_le _, rfl, Lib.hid (OwnL.nil _ _ hB1)⟩
  case round =>
    obtain ⟨j, hj, rfl, hO⟩ := hrel
    have hBr := hO.out.bel
    obtain ⟨oa, oc, hvv⟩ := hO.out.ex
    rw [List.length_map, List.length_take, Nat.min_eq_left hj] at hvv
    subst hvv
    by_cases hlt : j < g.length
    · have hltI : (j : Int) < (g.length : Int) := by omega
      obtain ⟨c', gb, go, ra, rc, e2, hu, hp⟩ := (HV.out.keep (prs_prow 0) hBr).row hlt
      obtain ⟨rfl, -, rfl⟩ := Value.slice.inj e2
      have bj := HBD.out j
      have HTK := Lib.hid (take_getD [] hlt)
      have hlj := HLEN.out.1 j hlt
      have h1j := HLEN.out.2.1 j hlt
      obtain ⟨x, hx⟩ : ∃ x, g.getD j [] = x := ⟨_, rfl⟩
      rw [hx] at hu hp HTK hlj h1j
      have bj2 : ∀ i, Bd k (x.getD i 0) := fun i => by rw [← hx]; exact bj i
      have tc := fun W (h : Below wr.heap.size wr W) => rowText_c _ x k W (hp.keep lims_int h) hlj bj2 hk h1j
      have zd := cell_lt hu
      have hBw := Below.refl wr.heap.size wr
      clear hx e2 hp bj bj2 hlj h1j
      go_wp2_with fail
      refine (tc _ (by repeat (first | exact Below.refl _ _ | exact hBw | refine Below.drew ?_ | refine below_drewN ?_ _ | refine bset ?_ (by simp <;> omega) _ | refine bal ?_ _))).mono ?_
      rintro e w2 ⟨rfl, hb2⟩
      have hb2' : Below wr.heap.size wr w2 := bthen (by repeat (first | exact Below.refl _ _ | exact hBw | refine Below.drew ?_ | refine below_drewN ?_ _ | refine bset ?_ (by simp <;> omega) _ | refine bal ?_ _)) hb2
      have HO2 := Lib.hid (hO.out.below prs_ptx hb2')
      clear tc hO hu
      go_wp2_with (at_builtin; refine appL elStr prs_ptx (fun h => h) (by rfl) (by rfl) (HO2.out.below prs_ptx (bal (Below.refl _ _) _)) (show PTx _ (.string ⟨(rowTxt x).toArray⟩) (rowTxt x) from rfl) (by rfl) (by rfl) (cell_new rfl rfl) (by rw [List.length_map, List.length_take]; omega) (by rw [List.length_map, List.length_take]; unfold maxLen; omega) ?_)
      intro v' w8 hO8 hk8
      have HO8 := Lib.hid (show OwnL 9 PTx w w8 v' ((g.take (j + 1)).map rowTxt) from by rw [HTK.out, List.map_append, List.map_take]; exact hO8)
      clear hO8 hk8
      go_wp2
      exact ⟨⟨j + 1, by omega, by go_num, HO8⟩, by simp [intOf]; omega⟩
    · obtain rfl : j = g.length := by omega
      have hltI : ¬ (g.length : Int) < (g.length : Int) := by omega
      have HEQ := Lib.hid (brTxt_arr (g.map rowTxt))
      have jc := fun W (h : Below wr.heap.size wr W) => join_c (.slice oa g.length oc) (g.map rowTxt) w.heap.size W ((by have h2 := hO.out.isL; rw [List.take_length] at h2; exact h2 : IsL 9 PTx w.heap.size wr _ _).keep prs_ptx h) (by rw [List.length_map]; omega) HLEN.out.2.2
      have hJ := HLEN.out.2.2
      obtain ⟨J, hJE⟩ : ∃ J, Lib.join (g.map rowTxt) [32] = J := ⟨_, rfl⟩
      rw [hJE] at jc HEQ hJ
      clear hJE hO
      have hJ1 : ¬ 9223372036854775807 < 1 + J.length := by omega
      have hJ2 : ¬ 9223372036854775807 < 1 + J.length + 1 := by omega
      have hBw := Below.refl wr.heap.size wr
      go_wp2_with fail
      refine (jc _ (by repeat (first | exact Below.refl _ _ | exact hBw | refine Below.drew ?_ | refine below_drewN ?_ _ | refine bset ?_ (by simp <;> omega) _ | refine bal ?_ _))).mono ?_
      rintro e w2 ⟨rfl, hb2⟩
      have hb3 := bthen hBr (bthen (by repeat (first | exact Below.refl _ _ | exact hBw | refine Below.drew ?_ | refine below_drewN ?_ _ | refine bset ?_ (by simp <;> omega) _ | refine bal ?_ _)) hb2)
      clear jc
      go_wp2
      go_ret
      exact ⟨congrArg (fun s => Ending.returned (.string s)) HEQ.out, by repeat (first | exact Below.refl _ _ | exact hb3 | refine Below.drew ?_ | refine below_drewN ?_ _ | refine bset ?_ (by simp <;> omega) _ | refine bal ?_ _)⟩
end Go.Proofs.YthaohpfbengabaaDoor

/- matrix's laws: list; Pivots as a value; works answers true. -/
namespace Go.Proofs.YthaohpfbengabaaDoor
open Num
open Go.ChangeShapes Go.WideShapes Go.ChangeAt Go.RowKit
set_option linter.unusedVariables false
set_option linter.unusedSimpArgs false
attribute [local go_sem ↓] Go.wp_at_zero Go.wp_at_succ
set_option maxRecDepth 100000 in
set_option maxHeartbeats 4000000 in
theorem list_c (v : Value) (l : List Int) (w : World) (hv : RowI w v l) (hl : l.length ≤ 1099511627000) :
    Calls Tryd.prog 29 #[v] w fun e w' => (∃ v', e = .returned v' ∧ RowO IsInt 33 w.heap.size w' v' l) ∧ Below w.heap.size w w' := by
  obtain ⟨ra, rc, rfl, hr⟩ := hv
  have HR := Lib.hid hr
  clear hr
  have hB := Below.refl w.heap.size w
  have hmk : ∀ w, (Instr.makeSlice 40 (.int .i64 0) (.int .i64 ((l.length : Int) + 2))).run Tryd.prog w = .ok (.slice (some ⟨w.heap.size, 0, none⟩) 0 (l.length + 2)) (w.alloc (.cells (zcel (l.length + 2)) 33)) := mkCap (l.length + 2) (by omega)
  go_enter Tryd.func29, Tryd.ntmps29
  go_wp2
  refine wp_name fun w3 hW3 => ?_
  have hO3 : Hid (OwnF IsInt 33 w w3 (.slice (some ⟨w.heap.size, 0, none⟩) 0 (l.length + 2)) 0 (fun i => l.getD i 0)) := Lib.hid (by rw [hW3]; exact ownF_cap w _ (by unfold maxLen; omega) _)
  clear hW3 hmk
  go_loopw [3, 12] (fun v x wr => ∃ j : Nat, j ≤ l.length ∧ x = .int .i64 j ∧ Hid (OwnF IsInt 33 w wr v j (fun i => l.getD i 0))) (fun _ x _ => l.length - (intOf x).toNat)
  case atStart => exact ⟨0, Nat.zero_le _, rfl, hO3⟩
  case round =>
    obtain ⟨j, hj, rfl, hF⟩ := hrel
    obtain ⟨fa, fc, hfv⟩ : ∃ a c, _ = Value.slice a j c := by obtain ⟨a, c, h, _⟩ := hF.out.view; exact ⟨a, c, h⟩
    subst hfv
    by_cases hlt2 : j < l.length
    · have hltJ : (j : Int) < (l.length : Int) := by omega
      obtain ⟨rb, ro, rfl, hc, hI⟩ := HR.out j hlt2
      have hc2 := bkeep hF.out.bel hc
      have zc := cell_lt hc2
      have oc := fun W => of_c (l.getD j 0) W hI.1 hI.2
      have HSN := Lib.hid (snoc_fun l j hlt2)
      obtain ⟨z, hz⟩ : ∃ z, l.getD j 0 = z := ⟨_, rfl⟩
      rw [hz] at hc2 oc HSN
      clear hc hI hz
      go_wp2_with fail
      refine (oc _).mono ?_
      rintro e w5 ⟨⟨v5, rfl, hi5⟩, hb5⟩
      have HF5 := Lib.hid (hF.out.below lims_int hb5)
      have HI5 := Lib.hid hi5
      obtain ⟨n5, a5, c5, l5, rfl, -⟩ := hi5
      unfold iv at *
      clear oc
      go_wp2_with (at_builtin; refine app_num elInt (by decide) lims_int (by rfl) (by rfl) HF5.out HI5.out (by rfl) (by rfl) (by omega) ?_)
      intro v' w8 hF8 _ _
      have HF8 := Lib.hid (hF8.congr' HSN.out)
      clear hF8
      go_wp2
      exact ⟨⟨j + 1, by omega, by go_num, HF8⟩, meas hlt2 (by go_num) rfl⟩
    · obtain rfl : j = l.length := by omega
      have HRO := Lib.hid hF.out.rowO
      have hBr := hF.out.bel
      go_wp2
      go_ret
      exact ⟨⟨_, rfl, HRO.out⟩, hBr⟩
set_option maxRecDepth 100000 in
theorem pivots_v (v : Value) (a : Option Addr) (n c : Nat) (w : World) (hv : v = .agg #[.slice a n c]) : Calls Tryd.prog 32 #[v] w fun e w' => e = .returned (.func (.func 61) #[] #[.pointer (some ⟨w.heap.size, 0, none⟩)]) ∧ Below w.heap.size w w' := by
  subst hv
  have hB := Below.refl w.heap.size w
  go_enter Tryd.func32, Tryd.ntmps32
  go_wp2
  go_ret
  exact ⟨rfl, by repeat (first | exact Below.refl _ _ | exact hB | refine Below.drew ?_ | refine below_drewN ?_ _ | refine bset ?_ (by simp <;> omega) _ | refine bal ?_ _)⟩
theorem rowI_two {w : World} {b : Nat} {x y : Int} {c : Nat} (h1 : w.cell? ⟨b, 0, none⟩ = some (.int .i64 x)) (h2 : w.cell? ⟨b, 1, none⟩ = some (.int .i64 y)) (hx : I64 x) (hy : I64 y) : RowI w (.slice (some ⟨b, 0, none⟩) 2 c) [x, y] := by
  refine ⟨_, c, rfl, fun k hk => ⟨b, 0, rfl, ?_⟩⟩
  match k, hk with
  | 0, _ => exact ⟨by simpa using h1, hx⟩
  | 1, _ => exact ⟨by simpa using h2, hy⟩
theorem isL_rows2 {w : World} {b : Nat} {u1 u2 : Value} {l1 l2 : List Int} {c : Nat} (h1 : w.cell? ⟨b, 0, none⟩ = some u1) (h2 : w.cell? ⟨b, 1, none⟩ = some u2) (hc : 2 ≤ c) (hc2 : c ≤ maxLen) (ht : typOf w b = some 40) (p1 : PRow 0 w u1 l1) (p2 : PRow 0 w u2 l2) :
    IsL 40 (PRow 0) 0 w (.slice (some ⟨b, 0, none⟩) 2 c) [l1, l2] := by
  refine ⟨_, c, rfl, hc, hc2, .inr ⟨b, 0, rfl, Nat.zero_le _, ht, fun k hk => ?_⟩⟩
  match k, hk with
  | 0, _ => exact ⟨u1, by simpa using h1, p1⟩
  | 1, _ => exact ⟨u2, by simpa using h2, p2⟩
theorem bdM_of {k : Nat} {g : Grid} (h : ∀ r ∈ g, ∀ x ∈ r, x.natAbs < 2 ^ k) : BdM k g := by
  intro i j
  unfold gat
  by_cases hi : i < g.length
  · have e : g.getD i [] = g[i] := by simp [hi]
    rw [e]
    by_cases hj : j < g[i].length
    · have e2 : g[i].getD j 0 = g[i][j] := by simp [hj]
      rw [e2]; exact h _ (List.getElem_mem _) _ (List.getElem_mem _)
    · rw [List.getD_eq_getElem?_getD, List.getElem?_eq_none (by omega)]; exact bd_zero
  · have e : g.getD i [] = [] := by rw [List.getD_eq_getElem?_getD, List.getElem?_eq_none (by omega)]; rfl
    rw [e]; exact bd_zero
/-- the example's matrices -/
def wG : Grid := [[1, 2], [3, 4]]
theorem wG_fits : fitsE wG = 0 := by decide
theorem wG_times : timesG wG wG = [[7, 10], [15, 22]] := by kernel_rfl
theorem wG_sq : sqB wG = true := by kernel_rfl
theorem wG_det : Det.detE wG.length (gat wG) = -2 := by kernel_rfl
theorem wG_inv : invG wG = [[-4, 2], [3, -1]] := by kernel_rfl
theorem wG_invD : invD wG = 2 := by kernel_rfl
theorem wG_txt1 : matTxt [[7, 10], [15, 22]] = [91, 91, 55, 32, 49, 48, 93, 32, 91, 49, 53, 32, 50, 50, 93, 93] := by kernel_rfl
theorem wG_txt2 : matTxt [[-4, 2], [3, -1]] = [91, 91, 45, 52, 32, 50, 93, 32, 91, 51, 32, 45, 49, 93, 93] := by kernel_rfl
theorem wG_txt3 : intTxt 2 = [50] := by kernel_rfl
end Go.Proofs.YthaohpfbengabaaDoor

/- matrix's laws: works answers true. -/
namespace Go.Proofs.YthaohpfbengabaaDoor
open Num
open Go.ChangeShapes Go.WideShapes Go.ChangeAt Go.RowKit
set_option linter.unusedVariables false
set_option linter.unusedSimpArgs false
attribute [local go_sem ↓] Go.wp_at_zero Go.wp_at_succ
theorem equalIn_func_nil {P : Program} (w : World) (d : Nat) (t : TypeId) {ps rs : Array TypeId} {v : Bool} (f : Fn) (bs cs : Array Value) (h : P.underlying t = some (.func ps rs v)) : (Op.equalIn (d + 1) t (.func f bs cs) .nilFunc).run P w = .ok false w := by
  simp [Op.equalIn, run_underlying h]
theorem eql_func_nil {P : Program} (w : World) (t : TypeId) {ps rs : Array TypeId} {v : Bool} (f : Fn) (bs cs : Array Value) (h : P.underlying t = some (.func ps rs v)) : (binOp .eql t (.func f bs cs) .nilFunc).run P w = .ok (.bool false) w := by
  simp only [binOp]
  simp [Op.equal, Op.maxDepth, equalIn_func_nil w 9999 t f bs cs h]
theorem wt1_r : ∀ i, i < ([[7, 10], [15, 22]] : Grid).length → (Lib.join ((([[7, 10], [15, 22]] : Grid).getD i []).map intTxt) [32]).length ≤ 140737488355328 := by
  intro i hi
  have h2 : i < 2 := hi
  have e0 : (Lib.join (([7, 10] : List Int).map intTxt) [32]).length = 4 := by kernel_rfl
  have e1 : (Lib.join (([15, 22] : List Int).map intTxt) [32]).length = 5 := by kernel_rfl
  rcases (show i = 0 ∨ i = 1 by omega) with rfl | rfl
  · exact Nat.le_trans (Nat.le_of_eq e0) (by decide)
  · exact Nat.le_trans (Nat.le_of_eq e1) (by decide)
theorem wt1_m : (Lib.join (([[7, 10], [15, 22]] : Grid).map rowTxt) [32]).length ≤ 140737488355328 := by
  have e : (Lib.join (([[7, 10], [15, 22]] : Grid).map rowTxt) [32]).length = 14 := by kernel_rfl
  exact Nat.le_trans (Nat.le_of_eq e) (by decide)
theorem wt2_r : ∀ i, i < ([[-4, 2], [3, -1]] : Grid).length → (Lib.join ((([[-4, 2], [3, -1]] : Grid).getD i []).map intTxt) [32]).length ≤ 140737488355328 := by
  intro i hi
  have h2 : i < 2 := hi
  have e0 : (Lib.join (([-4, 2] : List Int).map intTxt) [32]).length = 4 := by kernel_rfl
  have e1 : (Lib.join (([3, -1] : List Int).map intTxt) [32]).length = 4 := by kernel_rfl
  rcases (show i = 0 ∨ i = 1 by omega) with rfl | rfl
  · exact Nat.le_trans (Nat.le_of_eq e0) (by decide)
  · exact Nat.le_trans (Nat.le_of_eq e1) (by decide)
theorem wt2_m : (Lib.join (([[-4, 2], [3, -1]] : Grid).map rowTxt) [32]).length ≤ 140737488355328 := by
  have e : (Lib.join (([[-4, 2], [3, -1]] : Grid).map rowTxt) [32]).length = 13 := by kernel_rfl
  exact Nat.le_trans (Nat.le_of_eq e) (by decide)
set_option maxRecDepth 100000 in
set_option maxHeartbeats 8000000 in
theorem works_c (w : World) : Calls Tryd.prog 7 #[] w fun e w' => e = .returned (.bool true) ∧ Below w.heap.size w w' := by
  have hB := Below.refl w.heap.size w
  go_enter Tryd.func7, Tryd.ntmps7
  go_wp2_with fail
  refine (list_c _ [1, 2] _ (rowI_two (cell_new rfl rfl) (cell_new rfl rfl) (by unfold I64; omega) (by unfold I64; omega)) (by decide)).mono ?_
  rintro e w1 ⟨⟨v1, rfl, hv1⟩, hb1⟩
  have hB1 : Below w.heap.size w w1 := bthen (by repeat (first | exact Below.refl _ _ | exact hB | refine Below.drew ?_ | refine below_drewN ?_ _ | refine bset ?_ (by simp <;> omega) _ | refine bal ?_ _)) hb1
  have HV1 := Lib.hid (show PRow 0 w1 v1 [1, 2] from hv1.row.rebase (Nat.zero_le _))
  obtain ⟨a1, c1, hv1e⟩ := hv1.ex
  replace hv1e : v1 = .slice a1 2 c1 := hv1e
  subst hv1e
  have hBw1 := Below.refl w1.heap.size w1
  clear hv1 hb1
  go_wp2_with fail
  refine (list_c _ [3, 4] _ (rowI_two (cell_new rfl rfl) (cell_new rfl rfl) (by unfold I64; omega) (by unfold I64; omega)) (by decide)).mono ?_
  rintro e w2 ⟨⟨v2, rfl, hv2⟩, hb2⟩
  have hb12 : Below w1.heap.size w1 w2 := bthen (by repeat (first | exact Below.refl _ _ | exact hBw1 | refine Below.drew ?_ | refine below_drewN ?_ _ | refine bset ?_ (by simp <;> omega) _ | refine bal ?_ _)) hb2
  have hB2 := bthen hB1 hb12
  have HV2 := Lib.hid (show PRow 0 w2 v2 [3, 4] from hv2.row.rebase (Nat.zero_le _))
  have HV12 := Lib.hid (HV1.out.keep lims_int hb12)
  obtain ⟨a2, c2, hv2e⟩ := hv2.ex
  replace hv2e : v2 = .slice a2 2 c2 := hv2e
  subst hv2e
  have hBw2 := Below.refl w2.heap.size w2
  clear hv2 hb2 HV1
  go_wp2_with fail
  refine (newM_c _ wG _ (isL_rows2 (cell_new rfl rfl) (cell_new rfl rfl) (by decide) (by unfold maxLen; decide) (typ_fresh rfl) (HV12.out.keep lims_int (bal (Below.refl _ _) _)) (HV2.out.keep lims_int (bal (Below.refl _ _) _))) (by unfold wG; decide)).mono ?_
  rintro e w3 ⟨(⟨-, v3, rfl, hv3⟩ | ⟨hs, -⟩), hb3⟩
  rotate_left
  · exact absurd wG_fits hs
  have hb23 : Below w2.heap.size w2 w3 := bthen (by repeat (first | exact Below.refl _ _ | exact hBw2 | refine Below.drew ?_ | refine below_drewN ?_ _ | refine bset ?_ (by simp <;> omega) _ | refine bal ?_ _)) hb3
  have hB3 := bthen hB2 hb23
  have HV3 := Lib.hid (hv3.rebase (Nat.zero_le _))
  obtain ⟨a3, c3, hv3e⟩ := hv3.lit
  replace hv3e : v3 = .agg #[.slice a3 2 c3] := hv3e
  subst hv3e
  have hBw3 := Below.refl w3.heap.size w3
  clear hv3 hb3 HV2 HV12
  go_wp2_with fail
  refine (rowsM_c a3 2 c3 _).mono ?_
  rintro e w4 ⟨rfl, hb4⟩
  have hb34 : Below w3.heap.size w3 w4 := bthen (by repeat (first | exact Below.refl _ _ | exact hBw3 | refine Below.drew ?_ | refine below_drewN ?_ _ | refine bset ?_ (by simp <;> omega) _ | refine bal ?_ _)) hb4
  have m0 : w4.cell? ⟨w3.heap.size, 0, none⟩ = some (.slice a3 2 c3) := bkeep hb4 (cell_new rfl rfl)
  have HV4 := Lib.hid (HV3.out.keep hb34)
  have hB4 := bthen hB3 hb34
  have zm := cell_lt m0
  have hBw4 := Below.refl w4.heap.size w4
  clear hb4
  go_wp2_with fail
  have hc5 : ∀ W, Below w4.heap.size w4 W → Calls Tryd.prog 10 #[.agg #[.slice a3 2 c3]] W fun e w' => e = .returned (.int .i64 2) ∧ Below W.heap.size W w' := fun W q => by
    obtain ⟨a', c', e, hl⟩ := HV4.out.keep q
    cases e
    exact colsM_c _ _ wG W hl
  refine (hc5 _ (by repeat (first | exact Below.refl _ _ | exact hBw4 | refine Below.drew ?_ | refine below_drewN ?_ _ | refine bset ?_ (by simp <;> omega) _ | refine bal ?_ _))).mono ?_
  rintro e w5 ⟨rfl, hb5⟩
  have hb45 : Below w4.heap.size w4 w5 := bthen (by repeat (first | exact Below.refl _ _ | exact hBw4 | refine Below.drew ?_ | refine below_drewN ?_ _ | refine bset ?_ (by simp <;> omega) _ | refine bal ?_ _)) hb5
  replace m0 := bkeep hb45 m0
  have HV5 := Lib.hid (HV4.out.keep hb45)
  have hB5 := bthen hB4 hb45
  replace zm := cell_lt m0
  have hBw5 := Below.refl w5.heap.size w5
  clear hb5 hc5 HV4 HV3
  go_wp2_with fail
  refine (pivots_v _ a3 2 c3 _ rfl).mono ?_
  rintro e w6 ⟨rfl, hb6⟩
  have hb56 : Below w5.heap.size w5 w6 := bthen (by repeat (first | exact Below.refl _ _ | exact hBw5 | refine Below.drew ?_ | refine below_drewN ?_ _ | refine bset ?_ (by simp <;> omega) _ | refine bal ?_ _)) hb6
  replace m0 := bkeep hb56 m0
  have HV6 := Lib.hid (HV5.out.keep hb56)
  have hB6 := bthen hB5 hb56
  replace zm := cell_lt m0
  have hBw6 := Below.refl w6.heap.size w6
  clear hb6 HV5
  have hrc : Rct wG (cols wG) := by intro i hi; have h2 : i < 2 := hi; rcases (show i = 0 ∨ i = 1 by omega) with rfl | rfl <;> rfl
  have HRC := Lib.hid hrc
  clear hrc
  have hfn := fun W f bs cs => eql_func_nil (P := Tryd.prog) W 68 f bs cs Tryd.underlying68
  go_wp2_with fail
  refine (timesM_c _ _ wG wG 3 3 _ (HV6.out.keep (by repeat (first | exact Below.refl _ _ | exact hBw6 | refine Below.drew ?_ | refine below_drewN ?_ _ | refine bset ?_ (by simp <;> omega) _ | refine bal ?_ _))) (HV6.out.keep (by repeat (first | exact Below.refl _ _ | exact hBw6 | refine Below.drew ?_ | refine below_drewN ?_ _ | refine bset ?_ (by simp <;> omega) _ | refine bal ?_ _))) HRC.out HRC.out (bdM_of (by unfold wG; decide)) (bdM_of (by unfold wG; decide)) (by decide) (by decide) (by decide) (by decide)).mono ?_
  rintro e w7 ⟨(⟨-, v7, rfl, hv7⟩ | ⟨hs, -⟩), hb7⟩
  rotate_left
  · exact absurd ⟨rfl, by decide⟩ hs
  have hb67 : Below w6.heap.size w6 w7 := bthen (by repeat (first | exact Below.refl _ _ | exact hBw6 | refine Below.drew ?_ | refine below_drewN ?_ _ | refine bset ?_ (by simp <;> omega) _ | refine bal ?_ _)) hb7
  replace m0 := bkeep hb67 m0
  rw [wG_times] at hv7
  have HP7 := Lib.hid (hv7.rebase (Nat.zero_le _))
  have HV7 := Lib.hid (HV6.out.keep hb67)
  have hB7 := bthen hB6 hb67
  replace zm := cell_lt m0
  obtain ⟨a7, c7, hv7e⟩ := hv7.lit
  replace hv7e : v7 = .agg #[.slice a7 2 c7] := hv7e
  subst hv7e
  have hBw7 := Below.refl w7.heap.size w7
  clear hv7 hb7 HV6
  go_wp2_with fail
  refine (invM_c _ wG 3 _ (HV7.out.keep (by repeat (first | exact Below.refl _ _ | exact hBw7 | refine Below.drew ?_ | refine below_drewN ?_ _ | refine bset ?_ (by simp <;> omega) _ | refine bal ?_ _))) HRC.out (by decide) (by decide) (bdM_of (by unfold wG; decide)) (by decide)).mono ?_
  rintro e w8 ⟨(⟨-, -, v8, u8, rfl, hv8, hu8⟩ | ⟨-, hs, -⟩ | ⟨hs, -⟩), hb8⟩
  rotate_left
  · rw [wG_det] at hs; cases hs
  · rw [wG_sq] at hs; cases hs
  rw [wG_inv] at hv8
  rw [wG_invD] at hu8
  have hb78 : Below w7.heap.size w7 w8 := bthen (by repeat (first | exact Below.refl _ _ | exact hBw7 | refine Below.drew ?_ | refine below_drewN ?_ _ | refine bset ?_ (by simp <;> omega) _ | refine bal ?_ _)) hb8
  have p0 : w8.cell? ⟨w7.heap.size, 0, none⟩ = some (.slice a7 2 c7) := bkeep hb8 (cell_new rfl rfl)
  have HP8 := Lib.hid (HP7.out.keep hb78)
  have HW8 := Lib.hid (hv8.rebase (Nat.zero_le _))
  have HU8 := Lib.hid hu8
  have hB8 := bthen hB7 hb78
  have zp := cell_lt p0
  obtain ⟨a8, c8, hv8e⟩ := hv8.lit
  replace hv8e : v8 = .agg #[.slice a8 2 c8] := hv8e
  subst hv8e
  obtain ⟨n9, a9, c9, l9, rfl, -⟩ := hu8
  unfold iv at *
  have hBw8 := Below.refl w8.heap.size w8
  clear hv8 hb8 HP7 HV7 m0 zm
  go_wp2_with fail
  refine (matText_c _ [[7, 10], [15, 22]] 8 _ (HP8.out.keep (by repeat (first | exact Below.refl _ _ | exact hBw8 | refine Below.drew ?_ | refine below_drewN ?_ _ | refine bset ?_ (by simp <;> omega) _ | refine bal ?_ _))) (by decide) (by decide) (bdM_of (by decide)) (by decide) wt1_r wt1_m).mono ?_
  rw [wG_txt1]
  rintro e w9 ⟨rfl, hb9⟩
  have hb89 : Below w8.heap.size w8 w9 := bthen (by repeat (first | exact Below.refl _ _ | exact hBw8 | refine Below.drew ?_ | refine below_drewN ?_ _ | refine bset ?_ (by simp <;> omega) _ | refine bal ?_ _)) hb9
  have q0 : w9.cell? ⟨w8.heap.size, 0, none⟩ = some (.slice a8 2 c8) := bkeep hb9 (by simp [go_sem])
  have u0 : w9.cell? ⟨w8.heap.size + 1, 0, none⟩ = some (.bool n9) := bkeep hb9 (by simp [go_sem])
  have u1 : w9.cell? ⟨w8.heap.size + 1, 1, none⟩ = some (.slice a9 l9.length c9) := bkeep hb9 (by simp [go_sem])
  have HW9 := Lib.hid (HW8.out.keep hb89)
  have HU9 := Lib.hid (HU8.out.keep hb89)
  have hB9 := bthen hB8 hb89
  have zq := cell_lt q0
  have zu := cell_lt u0
  have hBw9 := Below.refl w9.heap.size w9
  clear hb9 HP8 HW8 HU8 p0 zp
  go_wp2_with fail
  refine (matText_c _ [[-4, 2], [3, -1]] 8 _ (HW9.out.keep (by repeat (first | exact Below.refl _ _ | exact hBw9 | refine Below.drew ?_ | refine below_drewN ?_ _ | refine bset ?_ (by simp <;> omega) _ | refine bal ?_ _))) (by decide) (by decide) (bdM_of (by decide)) (by decide) wt2_r wt2_m).mono ?_
  rw [wG_txt2]
  rintro e w10 ⟨rfl, hb10⟩
  have hb910 : Below w9.heap.size w9 w10 := bthen (by repeat (first | exact Below.refl _ _ | exact hBw9 | refine Below.drew ?_ | refine below_drewN ?_ _ | refine bset ?_ (by simp <;> omega) _ | refine bal ?_ _)) hb10
  replace u0 := bkeep hb910 u0
  replace u1 := bkeep hb910 u1
  have HU10 := Lib.hid (HU9.out.keep hb910)
  have hB10 := bthen hB9 hb910
  replace zu := cell_lt u0
  have hBw10 := Below.refl w10.heap.size w10
  clear hb10 HW9 HU9 q0 zq
  go_wp2_with fail
  refine (intText_c _ 2 8 _ (HU10.out.keep (by repeat (first | exact Below.refl _ _ | exact hBw10 | refine Below.drew ?_ | refine below_drewN ?_ _ | refine bset ?_ (by simp <;> omega) _ | refine bal ?_ _))) (by unfold Bd; decide) (by decide)).mono ?_
  rw [wG_txt3]
  rintro e w11 ⟨rfl, hb11⟩
  have hB11 := bthen hB10 (bthen (show Below w10.heap.size w10 _ by repeat (first | exact Below.refl _ _ | exact hBw10 | refine Below.drew ?_ | refine below_drewN ?_ _ | refine bset ?_ (by simp <;> omega) _ | refine bal ?_ _)) hb11)
  clear HU10 u0 u1
  go_wp2
  go_ret
  exact ⟨rfl, hB11⟩
end Go.Proofs.YthaohpfbengabaaDoor

/- matrix's laws: same, line, is, comes; the matrix's Row; the reference's Cols. -/
namespace Go.Proofs.YthaohpfbengabaaDoor
open Num
open Go.ChangeShapes Go.WideShapes Go.ChangeAt Go.RowKit
set_option linter.unusedVariables false
set_option linter.unusedSimpArgs false
attribute [local go_sem ↓] Go.wp_at_zero Go.wp_at_succ
end Go.Proofs.YthaohpfbengabaaDoor

/- matrix: Apply. -/
namespace Go.Proofs.YthaohpfbengabaaDoor
open Num
open Go.ChangeShapes Go.WideShapes Go.ChangeAt Go.RowKit
set_option linter.unusedVariables false
set_option linter.unusedSimpArgs false
attribute [local go_sem ↓] Go.wp_at_zero Go.wp_at_succ
/-- what a matrix turns numbers into -/
def applyG (g : Grid) (l : List Int) : List Int := g.map fun r => dotL r l
/-- what Apply answers -/
def AppPost (g : Grid) (l : List Int) (w : World) (e : Ending) (w' : World) : Prop :=
  ((cols g ≠ 0 ∧ l.length = cols g ∧ ∃ v, e = .returned (.tuple #[v, .int .i64 0]) ∧ RowO IsInt 33 w.heap.size w' v (applyG g l)) ∨ (¬ (cols g ≠ 0 ∧ l.length = cols g) ∧ e = .returned (.tuple #[.slice none 0 0, .int .i64 5]))) ∧ Below w.heap.size w w'
theorem app_get {g : Grid} {l : List Int} {i : Nat} (h : i < g.length) : (applyG g l).getD i 0 = dotL (g.getD i []) l := by simp [applyG, h]
set_option maxRecDepth 100000 in
set_option maxHeartbeats 8000000 in
theorem applyM_c (vm vl : Value) (g : Grid) (l : List Int) (k m : Nat) (w : World) (hm : IsM 0 w vm g) (hv : PRow 0 w vl l) (rg : Rct g (cols g)) (hn : g.length ≤ 65536) (hc : cols g ≤ 65536) (hl : l.length ≤ 1099511627775) (bg : BdM k g) (bl : ∀ j, Bd m (l.getD j 0)) (hk : k + m + cols g ≤ 17179869184) :
    Calls Tryd.prog 28 #[vm, vl] w (AppPost g l w) := by
  have HM := Lib.hid hm
  have HV := Lib.hid hv
  have HRG := Lib.hid rg
  have HBD := Lib.hid (And.intro bg bl)
  obtain ⟨a, c, rfl, -⟩ := hm
  obtain ⟨la, lc, rfl, -⟩ := hv
  have COC := Lib.hid (fun V (q : Below w.heap.size w V) => (show Calls Tryd.prog 10 #[.agg #[.slice a g.length c]] V fun e w' => e = .returned (.int .i64 (cols g : Nat)) ∧ Below V.heap.size V w' from by
    obtain ⟨a', c', e, hl⟩ := HM.out.keep q
    cases e
    exact colsM_c _ _ g V hl))
  have hzg : g.length = 0 → cols g = 0 := fun h => by rw [List.length_eq_zero_iff.1 h]; rfl
  have HZG := Lib.hid hzg
  have HAP := Lib.hid (fun i (h : i < g.length) => app_get (l := l) h)
  have HAL := Lib.hid (show (applyG g l).length = g.length by simp [applyG])
  unfold AppPost
  obtain ⟨n, hnE⟩ : ∃ n, g.length = n := ⟨_, rfl⟩
  have HN := Lib.hid hnE
  obtain ⟨cc, hcE⟩ : ∃ n, cols g = n := ⟨_, rfl⟩
  rw [hnE] at COC hn HZG
  rw [hcE] at COC hc hk HRG HZG
  have HCC := Lib.hid hcE
  rw [hnE]
  clear rg bg bl hnE hcE hzg
  have hB := Below.refl w.heap.size w
  by_cases h0 : cc = 0
  · have hI : ((cc : Int) == 0) = true := by simp [h0]
    have HNO := Lib.hid (show ¬ (cols g ≠ 0 ∧ l.length = cols g) from fun h => h.1 (by rw [HCC.out]; exact h0))
    clear h0
    go_enter Tryd.func28, Tryd.ntmps28
    go_wp2_with fail
    (with_reducible refine (COC.out _ ?_).mono ?_); (repeat (first | exact Below.refl _ _ | exact hB | refine Below.drew ?_ | refine below_drewN ?_ _ | refine bset ?_ (by simp <;> omega) _ | refine bal ?_ _))
    rintro e w1 ⟨rfl, hb1⟩
    have hB1 : Below w.heap.size w w1 := bthen (by repeat (first | exact Below.refl _ _ | exact hB | refine Below.drew ?_ | refine below_drewN ?_ _ | refine bset ?_ (by simp <;> omega) _ | refine bal ?_ _)) hb1
    clear COC
    go_wp2
    refine bodyPost_ret (v := .tuple #[.slice none 0 0, .int .i64 5]) (by simp [results, Tryd.results28, go_sem, *]) rfl ⟨.inr ⟨HNO.out, rfl⟩, hB1⟩
  · have hI : ((cc : Int) == 0) = false := by simp; omega
    by_cases hlc : l.length = cc
    · have HYES := Lib.hid (show cols g ≠ 0 ∧ l.length = cols g from by rw [HCC.out]; exact ⟨h0, hlc⟩)
      have hI2 : ((l.length : Int) != (cc : Int)) = false := by simp [hlc]
      have HLC := Lib.hid hlc
      obtain ⟨ll, hll⟩ : ∃ x, l.length = x := ⟨_, rfl⟩
      rw [hll] at hI2 hl HLC
      have HLL := Lib.hid hll
      have hnp : 0 < n := Nat.pos_of_ne_zero fun e => h0 (HZG.out e)
      rw [hll] at hlc
      rw [hll]
      clear h0 hlc hll
      go_enter Tryd.func28, Tryd.ntmps28
      go_wp2_with fail
      (with_reducible refine (COC.out _ ?_).mono ?_); (repeat (first | exact Below.refl _ _ | exact hB | refine Below.drew ?_ | refine below_drewN ?_ _ | refine bset ?_ (by simp <;> omega) _ | refine bal ?_ _))
      rintro e w1 ⟨rfl, hb1⟩
      have m0 : w1.cell? ⟨w.heap.size, 0, none⟩ = some (.slice a n c) := bkc hb1
      have zm0 := cell_lt m0
      have hB : Below w.heap.size w w1 := bthen (by repeat (first | exact Below.refl _ _ | exact hB | refine Below.drew ?_ | refine below_drewN ?_ _ | refine bset ?_ (by simp <;> omega) _ | refine bal ?_ _)) hb1
      have hz : w.heap.size ≤ w1.heap.size := hB.size
      go_wp2_with fail
      (with_reducible refine (COC.out _ ?_).mono ?_); (repeat (first | exact Below.refl _ _ | exact hB | refine Below.drew ?_ | refine below_drewN ?_ _ | refine bset ?_ (by simp <;> omega) _ | refine bal ?_ _))
      rintro e w2 ⟨rfl, hb2⟩
      have m0 : w2.cell? ⟨w.heap.size, 0, none⟩ = some (.slice a n c) := bkc hb2
      have zm0 := cell_lt m0
      have hB : Below w.heap.size w w2 := bthen (by repeat (first | exact Below.refl _ _ | exact hB | refine Below.drew ?_ | refine below_drewN ?_ _ | refine bset ?_ (by simp <;> omega) _ | refine bal ?_ _)) hb2
      have hz : w.heap.size ≤ w2.heap.size := hB.size
      have HM2 := Lib.hid (HM.out.keep hB)
      have HV2 := Lib.hid (HV.out.keep lims_int hB)
      obtain ⟨gb, go, rfl⟩ : ∃ gb go, a = some ⟨gb, go, none⟩ := by
        obtain ⟨gb, go, ra, rc, e, -⟩ := HM.out.rowAt (i := 0) (by rw [HN.out]; exact hnp)
        exact ⟨gb, go, e⟩
      have hB22 := Below.refl w2.heap.size w2
      clear COC hb1 hb2
      go_wp2
      go_loopw [6, 24] (fun v x wr => ∃ i : Nat, i ≤ n ∧ x = .int .i64 i ∧ Hid (OwnF IsInt 33 w2 wr v ((applyG g l).take i).length (fun t => ((applyG g l).take i).getD t 0))) (fun _ x _ => n - (intOf x).toNat)
      case atStart => exact ⟨0, Nat.zero_le _, rfl, Lib.hid (OwnF.nil _ _ _ hB22)⟩
      case round =>
        obtain ⟨i, hi, rfl, hF⟩ := hrel
        have hBr := hF.out.bel
        have hlt' : ((applyG g l).take i).length = i := by rw [List.length_take, HAL.out, HN.out]; omega
        have HLT := Lib.hid hlt'
        obtain ⟨fa, fc, hfv⟩ : ∃ a c, _ = Value.slice a i c := by obtain ⟨a, c, h, _⟩ := hF.out.view; rw [hlt'] at h; exact ⟨a, c, h⟩
        subst hfv
        clear hlt'
        by_cases hlt : i < n
        · have hltI : (i : Int) < (n : Int) := by omega
          have hig : i < g.length := by rw [HN.out]; exact hlt
          obtain ⟨gb2, go2, ra, rc, e2, hu, hp⟩ := (HM2.out.keep hBr).rowAt hig
          obtain ⟨rfl, rfl⟩ : gb = gb2 ∧ go = go2 := by simp at e2; exact e2
          have hrl := HRG.out i hig
          have hbj : ∀ t, Bd k ((g.getD i []).getD t 0) := fun t => HBD.out.1 i t
          have HAI := Lib.hid (HAP.out i hig)
          obtain ⟨row, hrow⟩ : ∃ r, g.getD i [] = r := ⟨_, rfl⟩
          rw [hrow] at hu hp hrl hbj HAI
          have DC := Lib.hid (fun W (q : Below wr.heap.size wr W) => dot_c (.slice ra row.length rc) (.slice la ll lc) row l k m W (hp.keep lims_int q) (by rw [← HLL.out]; exact (HV2.out.keep lims_int (bthen hBr q))) (by rw [hrl]; omega) (by rw [hrl, HLL.out, HLC.out]) hbj HBD.out.2 (by rw [hrl]; exact hk))
          have HTK := Lib.hid (take_getD (l := applyG g l) (k := i) 0 (by rw [HAL.out]; exact hig))
          rw [HAI.out] at HTK
          obtain ⟨z, hz⟩ : ∃ z, dotL row l = z := ⟨_, rfl⟩
          rw [hz] at DC HTK
          rw [hrl] at hu DC
          have zu := cell_lt hu
          have hBw := Below.refl wr.heap.size wr
          clear e2 hp hrow hbj hz hrl
          go_wp2_with fail
          (with_reducible refine (DC.out _ ?_).mono ?_); (repeat (first | exact Below.refl _ _ | exact hBw | refine Below.drew ?_ | refine below_drewN ?_ _ | refine bset ?_ (by simp <;> omega) _ | refine bal ?_ _))
          rintro e w5 ⟨⟨v5, rfl, hi5⟩, hb5⟩
          have hb5' : Below wr.heap.size wr w5 := bthen (by repeat (first | exact Below.refl _ _ | exact hBw | refine Below.drew ?_ | refine below_drewN ?_ _ | refine bset ?_ (by simp <;> omega) _ | refine bal ?_ _)) hb5
          have HF5 := Lib.hid (hF.out.below lims_int hb5')
          have HI5 := Lib.hid hi5
          obtain ⟨n5, a5, c5, l5, rfl, -⟩ := hi5
          unfold iv at *
          clear DC hu hF
          obtain ⟨L, hL⟩ : ∃ L, (applyG g l).take i = L := ⟨_, rfl⟩
          rw [hL] at HF5 HTK HLT
          have hLn : L.length + [z].length ≤ 1099511627776 := by rw [HLT.out]; simp; omega
          clear hL
          go_wp2_with (at_builtin; refine app_cat (l := [z]) (b := w5.heap.size + 1) (off := 0) (by rfl) (by rfl) (HF5.out.below lims_int (bal (bal (Below.refl _ _) _) _)) (fun k hk => by
            have hk0 : k = 0 := by simpa using hk
            subst hk0
            exact ⟨n5, a5, l5.length, c5, cell_new (by simp) rfl, cell_new (by simp) rfl, HI5.out.keep (bal (bal (Below.refl _ _) _) _)⟩) (by rfl) (by rfl) hLn ?_)
          intro v' w8 HO7
          have HF8 := Lib.hid (show OwnF IsInt 33 w2 w8 v' (L ++ [z]).length (fun t => (L ++ [z]).getD t 0) from by rw [List.length_append]; exact HO7.out)
          rw [← HTK.out] at HF8
          clear HO7
          go_wp2
          exact ⟨⟨i + 1, hlt, by go_num, HF8⟩, meas hlt (by go_num) rfl⟩
        · obtain rfl : i = n := by omega
          have HRO := Lib.hid (show RowO IsInt 33 w.heap.size wr _ (applyG g l) from (OwnF.rowO (w0 := w2) (by have h := hF.out; rw [List.take_of_length_le (by rw [HAL.out, HN.out]; exact Nat.le_refl _)] at h; exact h)).rebase hB.size)
          have hB5 := bthen hB hBr
          clear hF
          go_wp2
          refine bodyPost_ret (v := .tuple #[.slice fa i fc, .int .i64 0]) (by simp [results, Tryd.results28, go_sem, *]) rfl ⟨.inl ⟨HYES.out.1, by rw [← HYES.out.2, HLL.out], _, rfl, HRO.out⟩, hB5⟩
    · have hI2 : ((l.length : Int) != (cc : Int)) = true := by simp; omega
      have HNO := Lib.hid (show ¬ (cols g ≠ 0 ∧ l.length = cols g) from fun h => hlc (by rw [← HCC.out]; exact h.2))
      clear h0 hlc
      go_enter Tryd.func28, Tryd.ntmps28
      go_wp2_with fail
      (with_reducible refine (COC.out _ ?_).mono ?_); (repeat (first | exact Below.refl _ _ | exact hB | refine Below.drew ?_ | refine below_drewN ?_ _ | refine bset ?_ (by simp <;> omega) _ | refine bal ?_ _))
      rintro e w1 ⟨rfl, hb1⟩
      have m0 : w1.cell? ⟨w.heap.size, 0, none⟩ = some (.slice a n c) := bkc hb1
      have zm0 := cell_lt m0
      have hB : Below w.heap.size w w1 := bthen (by repeat (first | exact Below.refl _ _ | exact hB | refine Below.drew ?_ | refine below_drewN ?_ _ | refine bset ?_ (by simp <;> omega) _ | refine bal ?_ _)) hb1
      have hz : w.heap.size ≤ w1.heap.size := hB.size
      go_wp2_with fail
      (with_reducible refine (COC.out _ ?_).mono ?_); (repeat (first | exact Below.refl _ _ | exact hB | refine Below.drew ?_ | refine below_drewN ?_ _ | refine bset ?_ (by simp <;> omega) _ | refine bal ?_ _))
      rintro e w2 ⟨rfl, hb2⟩
      have m0 : w2.cell? ⟨w.heap.size, 0, none⟩ = some (.slice a n c) := bkc hb2
      have zm0 := cell_lt m0
      have hB : Below w.heap.size w w2 := bthen (by repeat (first | exact Below.refl _ _ | exact hB | refine Below.drew ?_ | refine below_drewN ?_ _ | refine bset ?_ (by simp <;> omega) _ | refine bal ?_ _)) hb2
      have hz : w.heap.size ≤ w2.heap.size := hB.size
      clear COC
      go_wp2
      refine bodyPost_ret (v := .tuple #[.slice none 0 0, .int .i64 5]) (by simp [results, Tryd.results28, go_sem, *]) rfl ⟨.inr ⟨HNO.out, rfl⟩, hB⟩
end Go.Proofs.YthaohpfbengabaaDoor

/- matrices, plain: the laws of sums and products. -/
namespace Go.Proofs.YthaohpfbengabaaDoor
open Num
set_option linter.unusedVariables false
set_option linter.unusedSimpArgs false
theorem isum_zero (n : Nat) : Det.isum n (fun _ => 0) = 0 := by
  induction n with
  | zero => rfl
  | succ n ih => show Det.isum n _ + 0 = 0; rw [ih]; rfl
theorem isum_add (n : Nat) (f g : Nat → Int) : Det.isum n (fun i => f i + g i) = Det.isum n f + Det.isum n g := by
  induction n with
  | zero => rfl
  | succ n ih => show Det.isum n _ + (f n + g n) = (Det.isum n f + f n) + (Det.isum n g + g n); rw [ih]; omega
theorem isum_mulL (n : Nat) (f : Nat → Int) (c : Int) : Det.isum n (fun i => c * f i) = c * Det.isum n f := by
  induction n with
  | zero => show (0 : Int) = c * 0; rw [Int.mul_zero]
  | succ n ih => show Det.isum n _ + c * f n = c * (Det.isum n f + f n); rw [ih, Int.mul_add]
theorem isum_mulR (n : Nat) (f : Nat → Int) (c : Int) : Det.isum n (fun i => f i * c) = Det.isum n f * c := by
  rw [Int.mul_comm, ← isum_mulL]; exact Det.isum_congr fun i _ => Int.mul_comm _ _
theorem isum_comm (n m : Nat) (f : Nat → Nat → Int) : Det.isum n (fun i => Det.isum m fun j => f i j) = Det.isum m fun j => Det.isum n fun i => f i j := by
  induction n with
  | zero => show (0 : Int) = _; exact (isum_zero m).symm
  | succ n ih => show Det.isum n _ + Det.isum m _ = _; rw [ih, ← isum_add]; rfl
theorem times_len (g h : Grid) : (timesG g h).length = g.length := tab_len _ _ _
theorem times_cols {g h : Grid} (hg : 0 < g.length) : cols (timesG g h) = cols h := tab_cols _ hg
theorem times_gat {g h : Grid} {i j : Nat} (hi : i < g.length) (hj : j < cols h) : gat (timesG g h) i j = Det.isum (cols g) fun t => gat g i t * gat h t j := tab_gat hi hj
theorem times_rct (g h : Grid) : Rct (timesG g h) (cols h) := tab_rect _ _ _
theorem times_assoc {x y z : Grid} (hx : 0 < x.length) (hy : 0 < y.length) (h1 : cols x = y.length) (h2 : cols y = z.length) : timesG (timesG x y) z = timesG x (timesG y z) := by
  unfold timesG
  rw [tab_len, tab_cols _ hx, tab_cols _ hy]
  refine tab_congr fun i j hi hj => ?_
  have e1 : Det.isum (cols y) (fun t => gat (tab x.length (cols y) fun i j => Det.isum (cols x) fun t => gat x i t * gat y t j) i t * gat z t j) = Det.isum (cols y) fun t => Det.isum (cols x) fun s => gat x i s * gat y s t * gat z t j :=
    Det.isum_congr fun t ht => by rw [tab_gat hi ht, isum_mulR]
  have e2 : Det.isum (cols x) (fun s => gat x i s * gat (tab y.length (cols z) fun i j => Det.isum (cols y) fun t => gat y i t * gat z t j) s j) = Det.isum (cols x) fun s => Det.isum (cols y) fun t => gat x i s * gat y s t * gat z t j :=
    Det.isum_congr fun s hs => by
      rw [tab_gat (by omega) hj, ← isum_mulL]
      exact Det.isum_congr fun t _ => (Int.mul_assoc _ _ _).symm
  rw [e1, e2, isum_comm]
theorem turn_len (g : Grid) : (turnG g).length = cols g := tab_len _ _ _
theorem turn_cols {g : Grid} (h : 0 < cols g) : cols (turnG g) = g.length := tab_cols _ h
theorem times_turn {x y : Grid} (hx : 0 < x.length) (hy : 0 < y.length) (h1 : cols x = y.length) (hc : 0 < cols y) : timesG (turnG y) (turnG x) = turnG (timesG x y) := by
  have hcx : 0 < cols x := by omega
  unfold timesG turnG
  rw [tab_len, tab_cols _ hcx, tab_cols _ hc, tab_len, tab_cols _ hx]
  refine tab_congr fun i j hi hj => ?_
  rw [tab_gat hj hi, h1]
  refine Det.isum_congr fun t ht => ?_
  rw [tab_gat hi ht, tab_gat (by omega) hj, Int.mul_comm]
theorem plus_len (g h : Grid) : (plusG g h).length = g.length := tab_len _ _ _
theorem plus_cols {g h : Grid} (hg : 0 < g.length) : cols (plusG g h) = cols g := tab_cols _ hg
/-- a matrix with itself and itself again -/
theorem plus_three {y : Grid} (hy : 0 < y.length) : plusG y (plusG y y) = scaleG y 3 := by
  unfold plusG scaleG
  refine tab_congr fun i j hi hj => ?_
  rw [tab_gat hi hj]; omega
theorem times_scale {x y : Grid} (hx : 0 < x.length) (hy : 0 < y.length) (h1 : cols x = y.length) (c : Int) : timesG x (scaleG y c) = scaleG (timesG x y) c := by
  unfold timesG scaleG
  rw [tab_len, tab_cols _ hy, tab_cols _ hx]
  refine tab_congr fun i j hi hj => ?_
  rw [tab_gat hi hj, ← isum_mulR]
  refine Det.isum_congr fun t ht => ?_
  rw [tab_gat (by omega) hj, Int.mul_assoc]
/-- the sum of products, by places -/
theorem dotL_isum : ∀ (a b : List Int), a.length = b.length → dotL a b = Det.isum a.length fun t => a.getD t 0 * b.getD t 0 := by
  intro a b h
  have key : ∀ n, n ≤ a.length → dotL (a.take n) (b.take n) = Det.isum n fun t => a.getD t 0 * b.getD t 0 := by
    intro n
    induction n with
    | zero => intro _; rfl
    | succ n ih =>
      intro hn
      have e1 : a.take (n + 1) = a.take n ++ [a.getD n 0] := take_getD 0 (by omega)
      have e2 : b.take (n + 1) = b.take n ++ [b.getD n 0] := take_getD 0 (by omega)
      show dotL (a.take (n + 1)) (b.take (n + 1)) = Det.isum n _ + a.getD n 0 * b.getD n 0
      rw [e1, e2, ← ih (by omega)]
      unfold dotL
      rw [List.zipWith_append (by rw [List.length_take, List.length_take, h])]
      show sumL (_ ++ [a.getD n 0 * b.getD n 0]) = _
      rw [sumL_snoc]
  have := key a.length (Nat.le_refl _)
  rw [List.take_length, h, List.take_length] at this
  rw [h]; exact this
theorem app_len (g : Grid) (l : List Int) : (applyG g l).length = g.length := by simp [applyG]
theorem app_at {g : Grid} {l : List Int} {m i : Nat} (hr : Rct g m) (hl : l.length = m) (hi : i < g.length) : (applyG g l).getD i 0 = Det.isum m fun t => gat g i t * l.getD t 0 := by
  rw [app_get hi, dotL_isum _ _ (by rw [hr i hi, hl]), hr i hi]; rfl
theorem app_times {x y : Grid} {l : List Int} (hx : 0 < x.length) (hy : 0 < y.length) (rx : Rct x (cols x)) (ry : Rct y (cols y)) (h1 : cols x = y.length) (hl : l.length = cols y) : applyG x (applyG y l) = applyG (timesG x y) l := by
  refine List.ext_getElem (by rw [app_len, app_len, times_len]) fun i h2 h3 => ?_
  rw [app_len] at h2
  have e1 : (applyG x (applyG y l))[i] = (applyG x (applyG y l)).getD i 0 := by simp [applyG, h2]
  have e2 : (applyG (timesG x y) l)[i] = (applyG (timesG x y) l).getD i 0 := by simp [applyG, times_len, h2]
  rw [e1, e2, app_at rx (by rw [app_len, h1]) h2, app_at (times_rct x y) hl (by rw [times_len]; exact h2)]
  have a1 : Det.isum (cols x) (fun s => gat x i s * (applyG y l).getD s 0) = Det.isum (cols x) fun s => Det.isum (cols y) fun t => gat x i s * gat y s t * l.getD t 0 :=
    Det.isum_congr fun s hs => by
      rw [app_at ry hl (by omega), ← isum_mulL]
      exact Det.isum_congr fun t _ => (Int.mul_assoc _ _ _).symm
  have a2 : Det.isum (cols y) (fun t => gat (timesG x y) i t * l.getD t 0) = Det.isum (cols y) fun t => Det.isum (cols x) fun s => gat x i s * gat y s t * l.getD t 0 :=
    Det.isum_congr fun t ht => by rw [times_gat h2 ht, isum_mulR]
  rw [a1, a2, isum_comm]
end Go.Proofs.YthaohpfbengabaaDoor

