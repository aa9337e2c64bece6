/- Texts of this seat, laid together: MxO, TxtI, TxtJ, MxT, MwA. Each opens with its own remark, which says what it proves, and under which conditions. -/
import Derived.Test.YthaohpfbengabaaDoorQ13
import Derived.Test.YthaohpfbengabaaDoorQ07
import Derived.Laws.RangeString
import Derived.Lib.OthersKept
import Derived.Test.YthaohpfbengabaaDoorQ01
import Derived.Maps.AppendAt
import Derived.Test.YthaohpfbengabaaDoorQ03
import Derived.Test.YthaohpfbengabaaDoorQ10
import Derived.Test.YthaohpfbengabaaDoorQ11
set_option linter.unusedVariables false
set_option linter.unusedSimpArgs false
/- matrix: Inverse. -/
namespace Go.Proofs.YthaohpfbengabaaDoor
open Num
open Go.ChangeShapes Go.WideShapes Go.ChangeAt Go.RowKit
set_option linter.unusedVariables false
set_option linter.unusedSimpArgs false
attribute [local go_sem ↓] Go.wp_at_zero Go.wp_at_succ
/-- what divides a number and all of a grid -/
def comG (d : Int) (a : Grid) : Int := a.foldl (fun c r => gcdI c (contL r)) d
theorem comG_take {d : Int} {a : Grid} {j : Nat} (hj : j < a.length) : comG d (a.take (j + 1)) = gcdI (comG d (a.take j)) (contL (a.getD j [])) := by
  unfold comG
  rw [take_getD [] hj, List.foldl_append]; rfl
theorem contL_all {k : Nat} {l : List Int} (h : ∀ j, Bd k (l.getD j 0)) : Bd k (contL l) := by
  have := contL_bd h l.length (Nat.le_refl _)
  rwa [List.take_length] at this
theorem comG_bd {k : Nat} {d : Int} {a : Grid} (hd : Bd k d) (ha : BdM k a) : ∀ j, j ≤ a.length → Bd k (comG d (a.take j)) := by
  intro j
  induction j with
  | zero => intro _; exact hd
  | succ j ih =>
    intro hj
    rw [comG_take (by omega)]
    exact gcdI_bd (ih (by omega)) (contL_all fun i => ha j i)
theorem gcdI_nz {x y : Int} (h : x ≠ 0) : gcdI x y ≠ 0 := by
  unfold gcdI
  have : 0 < Nat.gcd x.natAbs y.natAbs := Nat.gcd_pos_of_pos_left _ (by omega)
  omega
theorem comG_nz {a : Grid} : ∀ {d : Int}, d ≠ 0 → comG d a ≠ 0 := by
  induction a with
  | nil => intro d h; exact h
  | cons r a ih => intro d h; exact ih (d := gcdI d (contL r)) (gcdI_nz h)
/-- the inverse's divisor, its numbers -/
def invS (g : Grid) : Int := if Det.detE g.length (gat g) < 0 then - comG (Det.detE g.length (gat g)) (adjG g) else comG (Det.detE g.length (gat g)) (adjG g)
def invG (g : Grid) : Grid := tab g.length g.length fun i j => gat (adjG g) i j / invS g
def invD (g : Grid) : Int := Det.detE g.length (gat g) / invS g
theorem adj_len (g : Grid) : (adjG g).length = g.length := tab_len _ _ _
theorem bd_neg {k : Nat} {x : Int} (h : Bd k x) : Bd k (-x) := by unfold Bd at *; rwa [Int.natAbs_neg]
theorem adj_bd {g : Grid} {K : Nat} (hK1 : 1 ≤ K) (h : BdM K g) : BdM (kb K g.length) (adjG g) := by
  intro i j
  unfold adjG
  by_cases e : i < g.length ∧ j < g.length
  · rw [tab_gat e.1 e.2]
    have h1 := detE_bd hK1 (left_bd (i := i) e.2 h) (left_all e.2)
    rw [left_det e.2] at h1
    have h2 := h1.mono (kb_mono K (show g.length - 1 ≤ g.length by omega))
    unfold Det.iadj
    split
    · exact bd_neg h2
    · exact h2
  · have h0 : gat (tab g.length g.length (Det.iadj g.length (gat g))) i j = 0 := by
      show ((tab g.length g.length (Det.iadj g.length (gat g))).getD i []).getD j 0 = 0
      by_cases e1 : i < g.length
      · rw [List.getD_eq_getElem?_getD, List.getElem?_eq_none (by rw [tab_rowlen e1]; omega)]; rfl
      · have h3 : (tab g.length g.length (Det.iadj g.length (gat g))).getD i [] = [] := by rw [List.getD_eq_getElem?_getD, List.getElem?_eq_none (by rw [tab_len]; omega)]; rfl
        rw [h3]; rfl
    rw [h0]; exact bd_zero
theorem IsM.rowAt {base : Nat} {w : World} {a : Option Addr} {n c : Nat} {g : Grid} (h : IsM base w (.agg #[.slice a n c]) g) {i : Nat} (hi : i < g.length) :
    ∃ gb go ra rc, a = some ⟨gb, go, none⟩ ∧ w.cell? ⟨gb, go + i, none⟩ = some (.slice ra (g.getD i []).length rc) ∧ PRow base w (.slice ra (g.getD i []).length rc) (g.getD i []) := by
  obtain ⟨a', c', e, hl⟩ := h
  cases e
  obtain ⟨c2, gb, go, ra, rc, e2, hu, hp⟩ := hl.row hi
  exact ⟨gb, go, ra, rc, (Value.slice.inj e2).1, hu, hp⟩
theorem prow_out {base : Nat} {w w' : World} {v : Value} {l : List Int} {X : Nat → Prop} (h : PRow base w v l) (ho : Out X w w') (hx : ∀ k, base ≤ k → ¬ X k) (hl : Lim w w') : PRow base w' v l := by
  obtain ⟨a, c, e, h1, h2, h3⟩ := h
  refine ⟨a, c, e, h1, h2, ?_⟩
  rcases h3 with h3 | ⟨b, off, e2, hb, ht, hi⟩
  · exact .inl h3
  · exact .inr ⟨b, off, e2, hb, by rw [typ_of_block (w := w) (ho.block b (typ_lt ht) (hx b hb))]; exact ht, hi.out lims_int ho (hx b hb) hl⟩
theorem IsM.out {base : Nat} {w w' : World} {v : Value} {g : Grid} {X : Nat → Prop} (h : IsM base w v g) (ho : Out X w w') (hx : ∀ k, base ≤ k → ¬ X k) (hl : Lim w w') : IsM base w' v g := by
  obtain ⟨a, c, e, a', c', e2, h1, h2, h3⟩ := h
  refine ⟨a, c, e, a', c', e2, h1, h2, ?_⟩
  rcases h3 with h3 | ⟨b, off, e2, hb, ht, hi⟩
  · exact .inl h3
  · refine .inr ⟨b, off, e2, hb, by rw [typ_of_block (w := w) (ho.block b (typ_lt ht) (hx b hb))]; exact ht, fun k hk => ?_⟩
    obtain ⟨u, hu, hp⟩ := hi k hk
    exact ⟨u, okeep ho hu (hx b hb), prow_out hp ho hx hl⟩
/-- what Inverse holds -/
structure InvB (w w1 : World) (ag : Option Addr) (N cg : Nat) (bv : Value) (db gb : Nat) (d S : Int) (W : World) : Prop where
  g : VarI gb S W
  dd : VarI db d W
  m0 : W.cell? ⟨w.heap.size, 0, none⟩ = some (.slice ag N cg)
  r0 : W.cell? ⟨w.heap.size + 1, 0, none⟩ = some (.slice none 0 0)
  r0f : W.frozen? ⟨w.heap.size + 1, 0, none⟩ = false
  s0 : W.cell? ⟨w.heap.size + 1 + 1, 0, none⟩ = some (.bool false)
  s1 : W.cell? ⟨w.heap.size + 1 + 1, 1, none⟩ = some (.slice none 0 0)
  s0f : W.frozen? ⟨w.heap.size + 1 + 1, 0, none⟩ = false
  s1f : W.frozen? ⟨w.heap.size + 1 + 1, 1, none⟩ = false
  b5 : W.cell? ⟨w1.heap.size, 0, none⟩ = some bv
  b1 : Below w1.heap.size w1 W
  bel : Below w.heap.size w W
section
variable {w w1 : World} {ag : Option Addr} {N cg : Nat} {bv : Value} {db gb : Nat} {d S : Int} {W W' : World}
theorem InvB.keep (h : InvB w w1 ag N cg bv db gb d S W) (k : Below W.heap.size W W') : InvB w w1 ag N cg bv db gb d S W' :=
  ⟨h.g.keep k, h.dd.keep k, bkeep k h.m0, bkeep k h.r0, bkeepf k h.r0 h.r0f, bkeep k h.s0, bkeep k h.s1, bkeepf k h.s0 h.s0f, bkeepf k h.s1 h.s1f, bkeep k h.b5, bthen h.b1 k, bthen h.bel k⟩
theorem frz2 {W : World} {vb : Nat} {x : Bool} {y : Option Addr} {p r : Nat} {a : Addr} (h : W.frozen? a = false) : ((W.setCell ⟨vb, 0, none⟩ (.bool x)).setCell ⟨vb, 1, none⟩ (.slice y p r)).frozen? a = false := by
  rw [World.frozen?_setCell, World.frozen?_setCell]; exact h
theorem InvB.putG (h : InvB w w1 ag N cg bv db gb d S W) (h1 : w.heap.size + 1 + 1 < w1.heap.size) (h2 : w1.heap.size < db) (h3 : db < gb) {n : Bool} {a : Option Addr} {l c : Nat} {z : Int} (hi : IsInt W (.agg #[.bool n, .slice a l c]) z) : InvB w w1 ag N cg bv db gb d z ((W.setCell ⟨gb, 0, none⟩ (.bool n)).setCell ⟨gb, 1, none⟩ (.slice a l c)) := by
  have n0 : ¬ gb = w.heap.size := by omega
  have n1 : ¬ gb = w.heap.size + 1 := by omega
  have n2 : ¬ gb = w.heap.size + 1 + 1 := by omega
  have n3 : ¬ gb = w1.heap.size := by omega
  exact ⟨h.g.put hi, h.dd.far h.g (by omega) _ _ _ _, cell_far2 h.m0 n0 _ _ _ _, cell_far2 h.r0 n1 _ _ _ _, frz2 h.r0f, cell_far2 h.s0 n2 _ _ _ _, cell_far2 h.s1 n2 _ _ _ _, frz2 h.s0f, frz2 h.s1f, cell_far2 h.b5 n3 _ _ _ _, bset (bset h.b1 (by show w1.heap.size ≤ gb; omega) _) (by show w1.heap.size ≤ gb; omega) _, bset (bset h.bel (by show w.heap.size ≤ gb; omega) _) (by show w.heap.size ≤ gb; omega) _⟩
theorem InvB.putD (h : InvB w w1 ag N cg bv db gb d S W) (h1 : w.heap.size + 1 + 1 < w1.heap.size) (h2 : w1.heap.size < db) (h3 : db < gb) {n : Bool} {a : Option Addr} {l c : Nat} {z : Int} (hi : IsInt W (.agg #[.bool n, .slice a l c]) z) : InvB w w1 ag N cg bv db gb z S ((W.setCell ⟨db, 0, none⟩ (.bool n)).setCell ⟨db, 1, none⟩ (.slice a l c)) := by
  have n0 : ¬ db = w.heap.size := by omega
  have n1 : ¬ db = w.heap.size + 1 := by omega
  have n2 : ¬ db = w.heap.size + 1 + 1 := by omega
  have n3 : ¬ db = w1.heap.size := by omega
  exact ⟨h.g.far h.dd (by omega) _ _ _ _, h.dd.put hi, cell_far2 h.m0 n0 _ _ _ _, cell_far2 h.r0 n1 _ _ _ _, frz2 h.r0f, cell_far2 h.s0 n2 _ _ _ _, cell_far2 h.s1 n2 _ _ _ _, frz2 h.s0f, frz2 h.s1f, cell_far2 h.b5 n3 _ _ _ _, bset (bset h.b1 (by show w1.heap.size ≤ db; omega) _) (by show w1.heap.size ≤ db; omega) _, bset (bset h.bel (by show w.heap.size ≤ db; omega) _) (by show w.heap.size ≤ db; omega) _⟩
end
theorem IsM.boxM {w : World} {b : Nat} {a : Option Addr} {n c : Nat} {g : Grid} (h : IsM 0 w (.agg #[.slice a n c]) g) (hc : w.cell? ⟨b, 0, none⟩ = some (.slice a n c)) : BoxM b w g := by
  obtain ⟨a', c', e, hl⟩ := h
  cases e
  exact ⟨_, _, hc, hl⟩
theorem three_far {W : World} {p : Addr} (v : Value) {a1 a2 a3 : Addr} {v1 v2 v3 : Value} (h : W.cell? a1 = some v1 ∧ W.cell? a2 = some v2 ∧ W.cell? a3 = some v3) (n1 : p ≠ a1) (n2 : p ≠ a2) (n3 : p ≠ a3) :
    (W.setCell p v).cell? a1 = some v1 ∧ (W.setCell p v).cell? a2 = some v2 ∧ (W.setCell p v).cell? a3 = some v3 := ⟨cell_far h.1 n1 v, cell_far h.2.1 n2 v, cell_far h.2.2 n3 v⟩
/-- what Inverse answers -/
def InvPost (g : Grid) (w : World) (e : Ending) (w' : World) : Prop :=
  ((sqB g = true ∧ Det.detE g.length (gat g) ≠ 0 ∧ ∃ v u, e = .returned (.tuple #[v, u, .int .i64 0]) ∧ IsM w.heap.size w' v (invG g) ∧ IsInt w' u (invD g)) ∨
   (sqB g = true ∧ Det.detE g.length (gat g) = 0 ∧ e = .returned (.tuple #[.agg #[.slice none 0 0], .agg #[.bool false, .slice none 0 0], .int .i64 50])) ∨
   (sqB g = false ∧ e = .returned (.tuple #[.agg #[.slice none 0 0], .agg #[.bool false, .slice none 0 0], .int .i64 5]))) ∧ Below w.heap.size w w'
set_option maxRecDepth 100000 in
set_option maxHeartbeats 16000000 in
theorem invM_c (v : Value) (g : Grid) (K : Nat) (w : World) (hv : IsM 0 w v g) (hr : Rct g (cols g)) (hn : g.length ≤ 65536) (hK1 : 1 ≤ K) (hbd : BdM K g) (hK : kb K g.length ≤ 4294967296) :
    Calls Tryd.prog 33 #[v] w (InvPost g w) := by
  have AC := Lib.hid (fun W (q : Below w.heap.size w W) => adjM_c v g K W (hv.keep q) hr hn hK1 hbd (Nat.le_trans (kb_mono K (Nat.sub_le _ _)) hK))
  have DC := Lib.hid (fun W (q : Below w.heap.size w W) => detM_c v g K W (hv.keep q) hr hn hK1 hbd hK)
  have HAB := Lib.hid (adj_bd hK1 hbd)
  have HDB := Lib.hid (detE_bd hK1 hbd rfl)
  obtain ⟨ag, cg, rfl, -⟩ := hv
  have RC := Lib.hid (fun V => rowsM_c ag g.length cg V)
  have HAL := Lib.hid (adj_len g)
  have HAR := Lib.hid (show Rct (adjG g) g.length from tab_rect _ _ _)
  clear hr hbd
  unfold InvPost
  have HIS := Lib.hid (show invS g = if Det.detE g.length (gat g) < 0 then - comG (Det.detE g.length (gat g)) (adjG g) else comG (Det.detE g.length (gat g)) (adjG g) from rfl)
  have HIG := Lib.hid (show invG g = tab g.length g.length fun i j => gat (adjG g) i j / invS g from rfl)
  have HNP := Lib.hid (fun (h : sqB g = true) => sq_pos h)
  have HID := Lib.hid (show invD g = Det.detE g.length (gat g) / invS g from rfl)
  obtain ⟨N, hN⟩ : ∃ N, g.length = N := ⟨_, rfl⟩
  obtain ⟨kk, hkk⟩ : ∃ x, kb K g.length = x := ⟨_, rfl⟩
  obtain ⟨A, hA⟩ : ∃ A, adjG g = A := ⟨_, rfl⟩
  unfold DetPost at DC
  rw [hkk] at HAB HDB hK
  rw [hA] at HAB AC HIS HIG HAL HAR
  try rw [hN] at AC
  try rw [hN] at DC
  try rw [hN] at RC
  try rw [hN] at HAB
  try rw [hN] at HDB
  try rw [hN] at HIS
  try rw [hN] at HIG
  try rw [hN] at HID
  try rw [hN] at HAL
  try rw [hN] at HAR
  try rw [hN] at hn
  try rw [hN] at HNP
  try rw [hN]
  obtain ⟨d, hd⟩ : ∃ d, Det.detE N (gat g) = d := ⟨_, rfl⟩
  try rw [hd] at DC
  try rw [hd] at HDB
  try rw [hd] at HIS
  try rw [hd] at HID
  try rw [hd]
  clear hN hkk hA hd
  obtain ⟨S, hS⟩ : ∃ s, invS g = s := ⟨_, rfl⟩
  rw [hS] at HIS HIG HID
  clear hS
  have hB := Below.refl w.heap.size w
  obtain ⟨b, hb⟩ : ∃ b, sqB g = b := ⟨_, rfl⟩
  have HBQ := Lib.hid hb
  cases b with
  | false =>
    go_enter Tryd.func33, Tryd.ntmps33
    go_wp2_with fail
    refine (AC.out _ (by repeat (first | exact Below.refl _ _ | exact hB | refine Below.drew ?_ | refine below_drewN ?_ _ | refine bset ?_ (by simp <;> omega) _ | refine bal ?_ _))).mono ?_
    rintro e w1 ⟨(⟨hs, -⟩ | ⟨-, rfl⟩), hb1⟩
    · rw [HBQ.out] at hs; cases hs
    have m0 : w1.cell? ⟨w.heap.size, 0, none⟩ = some (.slice ag N cg) := bkc hb1
    have zm0 := cell_lt m0
    have r0 : w1.cell? ⟨w.heap.size + 1, 0, none⟩ = some (.slice none 0 0) := bkc hb1
    have zr0 := cell_lt r0
    have r0f : w1.frozen? ⟨w.heap.size + 1, 0, none⟩ = false := bkcf (v := .slice none 0 0) hb1
    have s0 : w1.cell? ⟨w.heap.size + 1 + 1, 0, none⟩ = some (.bool false) := bkc hb1
    have zs0 := cell_lt s0
    have s0f : w1.frozen? ⟨w.heap.size + 1 + 1, 0, none⟩ = false := bkcf (v := .bool false) hb1
    have s1 : w1.cell? ⟨w.heap.size + 1 + 1, 1, none⟩ = some (.slice none 0 0) := bkc hb1
    have s1f : w1.frozen? ⟨w.heap.size + 1 + 1, 1, none⟩ = false := bkcf (v := .slice none 0 0) hb1
    have hB : Below w.heap.size w w1 := bthen (by repeat (first | exact Below.refl _ _ | exact hB | refine Below.drew ?_ | refine below_drewN ?_ _ | refine bset ?_ (by simp <;> omega) _ | refine bal ?_ _)) hb1
    have hz : w.heap.size ≤ w1.heap.size := hB.size
    clear AC DC
    go_wp2
    refine bodyPost_ret (v := .tuple #[.agg #[.slice none 0 0], .agg #[.bool false, .slice none 0 0], .int .i64 5]) (by simp [results, Tryd.results33, go_sem, *]) rfl ⟨.inr (.inr ⟨HBQ.out, rfl⟩), ?_⟩
    repeat (first | exact Below.refl _ _ | exact hB | refine Below.drew ?_ | refine below_drewN ?_ _ | refine bset ?_ (by simp <;> omega) _ | refine bal ?_ _)
  | true =>
    clear hb
    go_enter Tryd.func33, Tryd.ntmps33
    go_wp2_with fail
    refine (AC.out _ (by repeat (first | exact Below.refl _ _ | exact hB | refine Below.drew ?_ | refine below_drewN ?_ _ | refine bset ?_ (by simp <;> omega) _ | refine bal ?_ _))).mono ?_
    rintro e w1 ⟨(⟨-, v1, rfl, hv1⟩ | ⟨hs, -⟩), hb1⟩
    rotate_left
    · exact absurd HBQ.out hs
    have m0 : w1.cell? ⟨w.heap.size, 0, none⟩ = some (.slice ag N cg) := bkc hb1
    have zm0 := cell_lt m0
    have r0 : w1.cell? ⟨w.heap.size + 1, 0, none⟩ = some (.slice none 0 0) := bkc hb1
    have zr0 := cell_lt r0
    have r0f : w1.frozen? ⟨w.heap.size + 1, 0, none⟩ = false := bkcf (v := .slice none 0 0) hb1
    have s0 : w1.cell? ⟨w.heap.size + 1 + 1, 0, none⟩ = some (.bool false) := bkc hb1
    have zs0 := cell_lt s0
    have s0f : w1.frozen? ⟨w.heap.size + 1 + 1, 0, none⟩ = false := bkcf (v := .bool false) hb1
    have s1 : w1.cell? ⟨w.heap.size + 1 + 1, 1, none⟩ = some (.slice none 0 0) := bkc hb1
    have s1f : w1.frozen? ⟨w.heap.size + 1 + 1, 1, none⟩ = false := bkcf (v := .slice none 0 0) hb1
    have hB : Below w.heap.size w w1 := bthen (by repeat (first | exact Below.refl _ _ | exact hB | refine Below.drew ?_ | refine below_drewN ?_ _ | refine bset ?_ (by simp <;> omega) _ | refine bal ?_ _)) hb1
    have hz : w.heap.size ≤ w1.heap.size := hB.size
    have HV1 := Lib.hid (hv1.rebase (Nat.zero_le _))
    obtain ⟨a1, c1, rfl⟩ := hv1.lit
    rw [HAL.out] at HV1 ⊢
    clear hv1 AC
    go_wp2_with fail
    (with_reducible refine (DC.out _ ?_).mono ?_); (repeat (first | exact Below.refl _ _ | exact hB | refine Below.drew ?_ | refine below_drewN ?_ _ | refine bset ?_ (by simp <;> omega) _ | refine bal ?_ _))
    rintro e w2 ⟨(⟨-, u, rfl, hu⟩ | ⟨hs, -⟩), hb2⟩
    rotate_left
    · rw [HBQ.out] at hs; cases hs
    have m0 : w2.cell? ⟨w.heap.size, 0, none⟩ = some (.slice ag N cg) := bkc hb2
    have zm0 := cell_lt m0
    have r0 : w2.cell? ⟨w.heap.size + 1, 0, none⟩ = some (.slice none 0 0) := bkc hb2
    have zr0 := cell_lt r0
    have r0f : w2.frozen? ⟨w.heap.size + 1, 0, none⟩ = false := bkcf (v := .slice none 0 0) hb2
    have s0 : w2.cell? ⟨w.heap.size + 1 + 1, 0, none⟩ = some (.bool false) := bkc hb2
    have zs0 := cell_lt s0
    have s0f : w2.frozen? ⟨w.heap.size + 1 + 1, 0, none⟩ = false := bkcf (v := .bool false) hb2
    have s1 : w2.cell? ⟨w.heap.size + 1 + 1, 1, none⟩ = some (.slice none 0 0) := bkc hb2
    have s1f : w2.frozen? ⟨w.heap.size + 1 + 1, 1, none⟩ = false := bkcf (v := .slice none 0 0) hb2
    have hB : Below w.heap.size w w2 := bthen (by repeat (first | exact Below.refl _ _ | exact hB | refine Below.drew ?_ | refine below_drewN ?_ _ | refine bset ?_ (by simp <;> omega) _ | refine bal ?_ _)) hb2
    have hz : w.heap.size ≤ w2.heap.size := hB.size
    have hb12 : Below w1.heap.size w1 w2 := bthen (bal (Below.refl _ _) _) hb2
    have b5 : w2.cell? ⟨w1.heap.size, 0, none⟩ = some (.slice a1 N c1) := bkeep hb2 (cell_new rfl rfl)
    have HU := Lib.hid hu
    obtain ⟨nu, au, cu, lu, rfl, -⟩ := hu
    unfold iv at *
    clear DC
    have sc := fun W (q : Below w2.heap.size w2 W) => sign_c _ d W (HU.out.keep q)
    have hBw := Below.refl w2.heap.size w2
    by_cases hd0 : d = 0
    · have HD0 := Lib.hid hd0
      rw [hd0, Int.sign_zero] at sc
      clear hd0
      go_wp2_with fail
      (with_reducible refine (sc _ ?_).mono ?_); (repeat (first | exact Below.refl _ _ | exact hBw | refine Below.drew ?_ | refine below_drewN ?_ _ | refine bset ?_ (by simp <;> omega) _ | refine bal ?_ _))
      rintro e w3 ⟨rfl, hb3⟩
      have m0 : w3.cell? ⟨w.heap.size, 0, none⟩ = some (.slice ag N cg) := bkc hb3
      have zm0 := cell_lt m0
      have r0 : w3.cell? ⟨w.heap.size + 1, 0, none⟩ = some (.slice none 0 0) := bkc hb3
      have zr0 := cell_lt r0
      have r0f : w3.frozen? ⟨w.heap.size + 1, 0, none⟩ = false := bkcf (v := .slice none 0 0) hb3
      have s0 : w3.cell? ⟨w.heap.size + 1 + 1, 0, none⟩ = some (.bool false) := bkc hb3
      have zs0 := cell_lt s0
      have s0f : w3.frozen? ⟨w.heap.size + 1 + 1, 0, none⟩ = false := bkcf (v := .bool false) hb3
      have s1 : w3.cell? ⟨w.heap.size + 1 + 1, 1, none⟩ = some (.slice none 0 0) := bkc hb3
      have s1f : w3.frozen? ⟨w.heap.size + 1 + 1, 1, none⟩ = false := bkcf (v := .slice none 0 0) hb3
      have hB : Below w.heap.size w w3 := bthen (by repeat (first | exact Below.refl _ _ | exact hB | refine Below.drew ?_ | refine below_drewN ?_ _ | refine bset ?_ (by simp <;> omega) _ | refine bal ?_ _)) hb3
      have hz : w.heap.size ≤ w3.heap.size := hB.size
      clear sc
      go_wp2
      refine bodyPost_ret (v := .tuple #[.agg #[.slice none 0 0], .agg #[.bool false, .slice none 0 0], .int .i64 50]) (by simp [results, Tryd.results33, go_sem, *]) rfl ⟨.inr (.inl ⟨HBQ.out, HD0.out, rfl⟩), ?_⟩
      repeat (first | exact Below.refl _ _ | exact hB | refine Below.drew ?_ | refine below_drewN ?_ _ | refine bset ?_ (by simp <;> omega) _ | refine bal ?_ _)
    · obtain ⟨sg, hsg, hsgE⟩ : ∃ q : Int, q ≠ 0 ∧ d.sign = q := ⟨_, (fun e => hd0 (Int.sign_eq_zero_iff_zero.1 e)), rfl⟩
      rw [hsgE] at sc
      have hsb : (sg == 0) = false := by simpa using hsg
      have HD0 := Lib.hid hd0
      clear hsgE hsg hd0
      go_wp2_with fail
      (with_reducible refine (sc _ ?_).mono ?_); (repeat (first | exact Below.refl _ _ | exact hBw | refine Below.drew ?_ | refine below_drewN ?_ _ | refine bset ?_ (by simp <;> omega) _ | refine bal ?_ _))
      rintro e w3 ⟨rfl, hb3⟩
      have m0 : w3.cell? ⟨w.heap.size, 0, none⟩ = some (.slice ag N cg) := bkc hb3
      have zm0 := cell_lt m0
      have r0 : w3.cell? ⟨w.heap.size + 1, 0, none⟩ = some (.slice none 0 0) := bkc hb3
      have zr0 := cell_lt r0
      have r0f : w3.frozen? ⟨w.heap.size + 1, 0, none⟩ = false := bkcf (v := .slice none 0 0) hb3
      have s0 : w3.cell? ⟨w.heap.size + 1 + 1, 0, none⟩ = some (.bool false) := bkc hb3
      have zs0 := cell_lt s0
      have s0f : w3.frozen? ⟨w.heap.size + 1 + 1, 0, none⟩ = false := bkcf (v := .bool false) hb3
      have s1 : w3.cell? ⟨w.heap.size + 1 + 1, 1, none⟩ = some (.slice none 0 0) := bkc hb3
      have s1f : w3.frozen? ⟨w.heap.size + 1 + 1, 1, none⟩ = false := bkcf (v := .slice none 0 0) hb3
      have hB : Below w.heap.size w w3 := bthen (by repeat (first | exact Below.refl _ _ | exact hB | refine Below.drew ?_ | refine below_drewN ?_ _ | refine bset ?_ (by simp <;> omega) _ | refine bal ?_ _)) hb3
      have hz : w.heap.size ≤ w3.heap.size := hB.size
      have hba : Below w2.heap.size w2 (w2.alloc (.cells #[.bool nu, .slice au lu.length cu] 33)) := bal (Below.refl _ _) _
      have hb23 : Below w2.heap.size w2 w3 := bthen hba hb3
      have HD3 := Lib.hid ((show VarI w2.heap.size d (w2.alloc (.cells #[.bool nu, .slice au lu.length cu] 33)) from ⟨typ_fresh rfl, nu, au, lu.length, cu, by simp [go_sem], by simp [go_sem], by simp [go_sem], by simp [go_sem], HU.out.keep hba⟩).keep hb3)
      have hb13 := bthen hb12 hb23
      replace b5 := bkeep hb23 b5
      obtain ⟨-, n3, d3, l3, c3, e0, e1, -, -, eI⟩ := HD3.out
      have HE3 := Lib.hid eI
      have ze := cell_lt e0
      have zb5 := cell_lt b5
      clear sc eI hba
      go_wp2
      refine wp_name fun w4 hW4 => ?_
      have hb34 : Below w3.heap.size w3 w4 := by rw [hW4]; (have hBy := Below.refl w3.heap.size w3; repeat (first | exact Below.refl _ _ | exact hBy | refine Below.drew ?_ | refine below_drewN ?_ _ | refine bset ?_ (by simp <;> omega) _ | refine bal ?_ _))
      have HG4 := Lib.hid (show VarI w3.heap.size d w4 from by rw [hW4]; exact ⟨typ_fresh rfl, n3, d3, l3, c3, by simp [go_sem], by simp [go_sem], by simp [go_sem], by simp [go_sem], HE3.out.keep (bal (Below.refl _ _) _)⟩)
      have HD4 := Lib.hid (HD3.out.keep hb34)
      have hb14 := bthen hb13 hb34
      have hdb : w2.heap.size < w3.heap.size := ze
      have ha5 : w1.heap.size < w3.heap.size := zb5
      have h12 : w1.heap.size < w2.heap.size := by have := cell_lt (bkeep (Below.refl _ _) b5); exact Nat.lt_of_lt_of_le (Nat.lt_succ_self _) (Nat.le_trans (by simp [go_sem]) hb2.size)
      have hw1 : w.heap.size + 1 + 1 < w1.heap.size := by have := hb1.size; simp [go_sem] at this; omega
      replace b5 := bkeep hb34 b5
      have hB4 : Below w.heap.size w w4 := bthen hB hb34
      have HF4 := Lib.hid (show w4.cell? ⟨w.heap.size, 0, none⟩ = some (.slice ag N cg) ∧ w4.cell? ⟨w.heap.size + 1, 0, none⟩ = some (.slice none 0 0) ∧ w4.frozen? ⟨w.heap.size + 1, 0, none⟩ = false ∧ w4.cell? ⟨w.heap.size + 1 + 1, 0, none⟩ = some (.bool false) ∧ w4.cell? ⟨w.heap.size + 1 + 1, 1, none⟩ = some (.slice none 0 0) ∧ w4.frozen? ⟨w.heap.size + 1 + 1, 0, none⟩ = false ∧ w4.frozen? ⟨w.heap.size + 1 + 1, 1, none⟩ = false from
        ⟨bkeep hb34 m0, bkeep hb34 r0, bkeepf hb34 r0 r0f, bkeep hb34 s0, bkeep hb34 s1, bkeepf hb34 s0 s0f, bkeepf hb34 s1 s1f⟩)
      have hN0 := HNP.out HBQ.out
      obtain ⟨mb, mo, rfl⟩ : ∃ b o, a1 = some ⟨b, o, none⟩ := by
        obtain ⟨gb, go, ra, rc, e, -⟩ := HV1.out.rowAt (i := 0) (by rw [HAL.out]; exact hN0)
        exact ⟨gb, go, e⟩
      obtain ⟨gb, hgb⟩ : ∃ x, w3.heap.size = x := ⟨_, rfl⟩
      obtain ⟨db, hdbE⟩ : ∃ x, w2.heap.size = x := ⟨_, rfl⟩
      rw [hgb] at HG4 hdb ha5
      rw [hdbE] at HD4 hdb h12
      rw [hgb, hdbE]
      have hkk : kk ≤ 17179869184 := Nat.le_trans hK (by decide)
      have hN1 : N ≤ 1099511627775 := Nat.le_trans hn (by decide)
      clear hW4 hgb hdbE hb34 hb13 hb23 hb3 hb12 hb2 hb1 ze zb5 e0 e1 HE3 HD3 HU m0 r0 r0f s0 s0f s1 s1f hB hBw hsb
      have zb5 := cell_lt b5
      go_wp2
      go_loopw [36] (fun x wr => ∃ j : Nat, j ≤ N ∧ x = .int .i64 j ∧ Out (fun q => q = gb) w4 wr ∧ Hid (Lim w4 wr) ∧ Hid (VarI gb (comG d (A.take j)) wr)) (fun x _ => N - (intOf x).toNat)
      case atStart => exact ⟨0, Nat.zero_le _, rfl, Out.refl _ _, Lib.hid (Lim.refl _), HG4⟩
      case round =>
        obtain ⟨j, hj, rfl, hO, HL, hG⟩ := hrel
        have hb1r : Below w1.heap.size w1 wr := hb14.trans (hO.to_below (fun k hk _ e => absurd (e ▸ hk) (Nat.not_lt.2 (Nat.le_of_lt ha5))) hb14.size)
        by_cases hlt : j < N
        · have hltI : (j : Int) < (N : Int) := by omega
          obtain ⟨mb2, mo2, ra, rc, e2, hu, hp⟩ := (HV1.out.keep hb1r).rowAt (i := j) (by rw [HAL.out]; exact hlt)
          obtain ⟨rfl, rfl⟩ : mb = mb2 ∧ mo = mo2 := by simp at e2; exact e2
          have hrl := HAR.out j (by rw [HAL.out]; exact hlt)
          have hbj : ∀ i, Bd kk ((A.getD j []).getD i 0) := fun i => HAB.out j i
          have HCT := Lib.hid (comG_take (d := d) (show j < A.length by rw [HAL.out]; exact hlt))
          have hbc := comG_bd HDB.out HAB.out j (by rw [HAL.out]; exact hj)
          have hbl := contL_all hbj
          obtain ⟨row, hrow⟩ : ∃ row, A.getD j [] = row := ⟨_, rfl⟩
          rw [hrow] at hu hp hrl hbj HCT hbl
          rw [hrl] at hu hp
          obtain ⟨cur, hcur⟩ : ∃ x, comG d (A.take j) = x := ⟨_, rfl⟩
          rw [hcur] at hG HCT hbc
          obtain ⟨-, n3, a3, l3, c3, q0, q1, q0f, q1f, qI⟩ := hG.out
          have HQ := Lib.hid qI
          have HP := Lib.hid hp
          have HRL := Lib.hid hrl
          have cc := fun W (q : Below wr.heap.size wr W) => content_c (.slice ra N rc) row kk W (HP.out.keep lims_int q) (by rw [HRL.out]; exact hN1) hbj hkk
          have gc := fun vy W (q : Below wr.heap.size wr W) (hy : IsInt W vy (contL row)) => gcdI_c (.agg #[.bool n3, .slice a3 l3 c3]) vy cur (contL row) kk W (HQ.out.keep q) hy hbc hbl hkk
          have zq := cell_lt q0
          have zu := cell_lt hu
          have hBw := Below.refl wr.heap.size wr
          clear e2 hp qI hrow hcur hrl hbc hbl hbj
          go_wp2
          go_region_law (go_simp; go_wp2_with (first
            | (go_at_call 65; (with_reducible refine (cc _ ?_).mono ?_); (repeat (first | exact Below.refl _ _ | exact hBw | refine Below.drew ?_ | refine below_drewN ?_ _ | refine bset ?_ (by simp <;> omega) _ | refine bal ?_ _)); rintro e w5 ⟨⟨v5, rfl, hi5⟩, hb5⟩; have hB5 : Below wr.heap.size wr w5 := bthen (by repeat (first | exact Below.refl _ _ | exact hBw | refine Below.drew ?_ | refine below_drewN ?_ _ | refine bset ?_ (by simp <;> omega) _ | refine bal ?_ _)) hb5; have HI5 := Lib.hid hi5; have q05 := bkeep hB5 q0; have q15 := bkeep hB5 q1; have zq5 := cell_lt q05; obtain ⟨n5, a5, c5, l5, rfl, -⟩ := hi5; unfold iv at *)
            | (go_at_call 64; (with_reducible refine (gc _ _ ?_ ?_).mono ?_); (repeat (first | exact Below.refl _ _ | exact hB5 | refine Below.drew ?_ | refine below_drewN ?_ _ | refine bset ?_ (by simp <;> omega) _ | refine bal ?_ _)); (refine HI5.out.keep ?_; have hBz := Below.refl w5.heap.size w5; (repeat (first | exact Below.refl _ _ | exact hBz | refine Below.drew ?_ | refine below_drewN ?_ _ | refine bset ?_ (by simp <;> omega) _ | refine bal ?_ _))); rintro e w6 ⟨⟨v6, rfl, hi6⟩, hb6⟩; have hB6 : Below wr.heap.size wr w6 := bthen (by repeat (first | exact Below.refl _ _ | exact hB5 | refine Below.drew ?_ | refine below_drewN ?_ _ | refine bset ?_ (by simp <;> omega) _ | refine bal ?_ _)) hb6; have HI6 := Lib.hid hi6; have q06 := bkeep hB6 q0; have q16 := bkeep hB6 q1; have q06f := bkeepf hB6 q0 q0f; have q16f := bkeepf hB6 q1 q1f; have zq6 := cell_lt q06; obtain ⟨n6, a6, c6, l6, rfl, -⟩ := hi6; unfold iv at *)))
          all_goals
            have HG6 := Lib.hid ((hG.out.keep hB6).put HI6.out)
            rw [← HCT.out] at HG6
            have HL6 := Lib.hid ((HL.out.below hB6).trans (Lim.set2 q06 q16 (.bool n6) (.slice a6 l6.length c6)))
            have hO6 : Out (fun q => q = gb) w4 ((w6.setCell ⟨gb, 0, none⟩ (.bool n6)).setCell ⟨gb, 1, none⟩ (.slice a6 l6.length c6)) := (hO.below hB6).set2 (fun _ => rfl) _ _
            clear HG4 hO HL hG cc gc HQ HP HCT q0 q1 q0f q1f q05 q15 q06 q16 q06f q16f hu hb5 hb6 hB5 hB6 HI5 HI6 hb1r hBw
            go_wp2
            exact ⟨⟨j + 1, hlt, by go_num, hO6, HL6, HG6⟩, meas hlt (by go_num) rfl⟩
        · obtain rfl : j = N := Nat.le_antisymm hj (Nat.le_of_not_lt hlt)
          have hltI : ¬ (j : Int) < (j : Int) := Int.lt_irrefl _
          rw [show A.take j = A from by rw [← HAL.out, List.take_length]] at hG
          have hcn := comG_nz (a := A) HD0.out
          have hcb : Bd kk (comG d A) := by have h := comG_bd HDB.out HAB.out A.length (Nat.le_refl _); rwa [List.take_length] at h
          obtain ⟨c, hc⟩ : ∃ c, comG d A = c := ⟨_, rfl⟩
          rw [hc] at hG hcn hcb HIS
          have hwg : w.heap.size + 1 + 1 < gb := Nat.lt_trans hw1 ha5
          have n0 : ¬ w.heap.size = gb := Nat.ne_of_lt (Nat.lt_of_succ_lt (Nat.lt_of_succ_lt hwg))
          have n1 : ¬ w.heap.size + 1 = gb := Nat.ne_of_lt (Nat.lt_of_succ_lt hwg)
          have n2 : ¬ w.heap.size + 1 + 1 = gb := Nat.ne_of_lt hwg
          obtain ⟨f1, f2, f3, f4, f5, f6, f7⟩ := HF4.out
          have HI := Lib.hid (show InvB w w1 ag j cg (.slice (some ⟨mb, mo, none⟩) j c1) db gb d c wr from ⟨hG.out, HD4.out.out hO (Nat.ne_of_lt hdb) HL.out, okeep hO f1 n0, okeep hO f2 n1, okeepf hO f2 f3 n1, okeep hO f4 n2, okeep hO f5 n2, okeepf hO f4 f6 n2, okeepf hO f5 f7 n2, okeep hO b5 (Nat.ne_of_lt ha5), hb1r, hB4.trans (hO.to_below (fun k hk _ e => absurd (e ▸ hk) (Nat.not_lt.2 (Nat.le_of_lt (Nat.lt_of_succ_lt (Nat.lt_of_succ_lt hwg))))) hB4.size)⟩)
          have HCN := Lib.hid (And.intro hcn hcb)
          clear HF4 HG4 HD4 hG hO HL hb1r f1 f2 f3 f4 f5 f6 f7 n0 n1 n2 hcn hcb hc b5 zb5 hb14 hB4
          have HI0 := HI
          obtain ⟨-, nd, ad, ld, cd, e0, e1, -, -, eI⟩ := HI.out.dd
          have hBw := Below.refl wr.heap.size wr
          have HEI := Lib.hid eI
          have ze := cell_lt e0
          have sc := fun W (q : Below wr.heap.size wr W) => sign_c _ d W (HEI.out.keep q)
          clear eI
          by_cases hneg : d < 0
          · rw [Int.sign_eq_neg_one_of_neg hneg] at sc
            have HSE := Lib.hid (show S = -c from by rw [HIS.out, if_pos hneg])
            clear hneg
            go_wp2_with fail
            (with_reducible refine (sc _ ?_).mono ?_); (repeat (first | exact Below.refl _ _ | exact hBw | refine Below.drew ?_ | refine below_drewN ?_ _ | refine bset ?_ (by simp <;> omega) _ | refine bal ?_ _))
            rintro e w5 ⟨rfl, hb5⟩
            have hb5' : Below wr.heap.size wr w5 := bthen (by repeat (first | exact Below.refl _ _ | exact hBw | refine Below.drew ?_ | refine below_drewN ?_ _ | refine bset ?_ (by simp <;> omega) _ | refine bal ?_ _)) hb5
            have HI5 := Lib.hid (HI.out.keep hb5')
            obtain ⟨-, ng, ag', lg, cg', q0, q1, q0f, q1f, qI⟩ := HI5.out.g
            have HQI := Lib.hid qI
            have zq := cell_lt q0
            have nc := fun W (q : Below w5.heap.size w5 W) => neg_c _ c W (HQI.out.keep q)
            have hBw5 := Below.refl w5.heap.size w5
            clear sc HI HI0 qI e0 e1 ze HEI hb5 hb5' hBw
            go_wp2_with fail
            (with_reducible refine (nc _ ?_).mono ?_); (repeat (first | exact Below.refl _ _ | exact hBw5 | refine Below.drew ?_ | refine below_drewN ?_ _ | refine bset ?_ (by simp <;> omega) _ | refine bal ?_ _))
            rintro e w6 ⟨⟨v6, rfl, hv6⟩, hb6⟩
            have hb6' : Below w5.heap.size w5 w6 := bthen (by repeat (first | exact Below.refl _ _ | exact hBw5 | refine Below.drew ?_ | refine below_drewN ?_ _ | refine bset ?_ (by simp <;> omega) _ | refine bal ?_ _)) hb6
            have HI6 := Lib.hid (HI5.out.keep hb6')
            have HV6 := Lib.hid hv6
            obtain ⟨n6, a6, c6, l6, rfl, -⟩ := hv6
            unfold iv at *
            replace q0f := bkeepf hb6' q0 q0f
            replace q1f := bkeepf hb6' q1 q1f
            replace q0 := bkeep hb6' q0
            replace q1 := bkeep hb6' q1
            replace zq := cell_lt q0
            have HI7 := Lib.hid (HI6.out.putG hw1 h12 hdb HV6.out)
            rw [← HSE.out] at HI7
            have HSB := Lib.hid (show S ≠ 0 ∧ Bd kk S from by rw [HSE.out]; exact ⟨by have := HCN.out.1; omega, bd_neg HCN.out.2⟩)
            clear nc HI5 HI6 HQI hb6 hb6' hBw5 HV6
            go_upto_region 15 with (fail)
            refine wp_name fun w7 hW7 => ?_
            rw [← hW7] at HI7
            clear hW7 q0 q1 q0f q1f zq
            obtain ⟨-, nd, ad, ld, cd, e0, e1, e0f, e1f, eI⟩ := HI7.out.dd
            obtain ⟨-, ng, ag', lg, cg', q0, q1, -, -, qI⟩ := HI7.out.g
            have HEI := Lib.hid (And.intro eI qI)
            have ze := cell_lt e0
            have zq := cell_lt q0
            have dc := fun W (q : Below w7.heap.size w7 W) => divmod_c (.agg #[.bool nd, .slice ad ld cd]) (.agg #[.bool ng, .slice ag' lg cg']) d S kk W (HEI.out.1.keep q) (HEI.out.2.keep q) HDB.out HSB.out.2 hkk HSB.out.1
            have hBx := Below.refl w7.heap.size w7
            clear eI qI
            go_wp2_with fail
            (with_reducible refine (dc _ ?_).mono ?_); (repeat (first | exact Below.refl _ _ | exact hBx | refine Below.drew ?_ | refine below_drewN ?_ _ | refine bset ?_ (by simp <;> omega) _ | refine bal ?_ _))
            rintro e w8 ⟨⟨u8, r8, rfl, hu8, hr8⟩, hb8⟩
            have hb8' : Below w7.heap.size w7 w8 := bthen (by repeat (first | exact Below.refl _ _ | exact hBx | refine Below.drew ?_ | refine below_drewN ?_ _ | refine bset ?_ (by simp <;> omega) _ | refine bal ?_ _)) hb8
            have HU8 := Lib.hid hu8
            obtain ⟨n8, a8, c8, l8, rfl, -⟩ := hu8
            obtain ⟨n9, a9, c9, l9, rfl, -⟩ := hr8
            unfold iv at *
            replace e0f := bkeepf hb8' e0 e0f
            replace e1f := bkeepf hb8' e1 e1f
            replace e0 := bkeep hb8' e0
            replace e1 := bkeep hb8' e1
            replace ze := cell_lt e0
            have HI9 := Lib.hid ((HI7.out.keep hb8').putD hw1 h12 hdb HU8.out)
            clear dc HEI HI7 q0 q1 zq hb8 hb8' hBx
            go_upto_region 16 with (fail)
            refine wp_name fun w9 hW9 => ?_
            rw [← hW9] at HI9
            clear hW9 e0 e1 e0f e1f ze HU8
            obtain ⟨-, nd, ad, ld, cd, e0, e1, -, -, eI⟩ := HI9.out.dd
            have HEI := Lib.hid eI
            have m0 := HI9.out.m0
            have r0 := HI9.out.r0
            have r0f := HI9.out.r0f
            have s0 := HI9.out.s0
            have s1 := HI9.out.s1
            have s0f := HI9.out.s0f
            have s1f := HI9.out.s1f
            have zm := cell_lt m0
            have ze := cell_lt e0
            have zr := cell_lt r0
            have zs := cell_lt s0
            have FCL := Lib.hid (fun V (q : Below w9.heap.size w9 V) => filled_c j j (fun i k => gat A i k / S) 67 #[.pointer (some ⟨w1.heap.size, 0, none⟩), .pointer (some ⟨gb, 0, none⟩)] V (inv1_c w1.heap.size gb A j j kk S V ((HV1.out.keep (bthen HI9.out.b1 q)).boxM (bkeep q HI9.out.b5)) (HI9.out.g.keep q) HAL.out HAR.out HAB.out HSB.out.2 hkk HSB.out.1) (ens Tryd.func67 (by kernel_rfl) rfl) (Nat.le_trans hN1 (by decide)) hN1)
            rw [← HIG.out] at FCL
            have HS := Lib.hid (show ∀ V, Below w9.heap.size w9 V → V.cell? ⟨w.heap.size, 0, none⟩ = some (.slice ag j cg) ∧ V.cell? ⟨db, 0, none⟩ = some (.bool nd) ∧ V.cell? ⟨db, 1, none⟩ = some (.slice ad ld cd) from fun V q => ⟨bkeep q m0, bkeep q e0, bkeep q e1⟩)
            have hwd : w.heap.size + 1 + 1 < db := Nat.lt_trans hw1 h12
            have nr0 : w.heap.size + 1 ≠ w.heap.size := Nat.succ_ne_self _
            have ns0 : w.heap.size + 1 + 1 ≠ w.heap.size := Nat.ne_of_gt (Nat.lt_succ_of_lt (Nat.lt_succ_self _))
            have nrd : w.heap.size + 1 ≠ db := Nat.ne_of_lt (Nat.lt_of_succ_lt hwd)
            have nsd : w.heap.size + 1 + 1 ≠ db := Nat.ne_of_lt hwd
            have hBx := Below.refl w9.heap.size w9
            clear eI
            go_region_held3 (fun V => V.cell? ⟨w.heap.size, 0, none⟩ = some (.slice ag j cg) ∧ V.cell? ⟨db, 0, none⟩ = some (.bool nd) ∧ V.cell? ⟨db, 1, none⟩ = some (.slice ad ld cd))
              (first | ((repeat (first | (with_reducible refine three_far _ ?_ (addr_ne nr0) (addr_ne nrd) (addr_ne nrd)) | (with_reducible refine three_far _ ?_ (addr_ne ns0) (addr_ne nsd) (addr_ne nsd)))); (with_reducible refine HS.out _ ?_); (repeat (first | exact Below.refl _ _ | exact hBx | refine Below.drew ?_ | refine below_drewN ?_ _ | refine bal ?_ _)); done) | fail)
              (first
              | (go_at_call 9; (with_reducible refine (RC.out _).mono ?_); rintro e w10 ⟨rfl, hb10⟩; (have hBd : Below w9.heap.size w9 w10 := bthen (by repeat (first | exact Below.refl _ _ | exact hBx | refine Below.drew ?_ | refine below_drewN ?_ _ | refine bset ?_ (by simp <;> omega) _ | refine bal ?_ _)) hb10; clear hBx; have hBx := hBd; clear hBd))
              | (go_at_call 37; (with_reducible refine (FCL.out _ ?_).mono ?_); (repeat (first | exact Below.refl _ _ | exact hBx | refine Below.drew ?_ | refine below_drewN ?_ _ | refine bset ?_ (by simp <;> omega) _ | refine bal ?_ _)); rintro e w11 ⟨⟨v11, rfl, hv11⟩, hb11⟩; have HV11 := Lib.hid (hv11.rebase (show w9.heap.size ≤ _ from (show Below w9.heap.size w9 _ by repeat (first | exact Below.refl _ _ | exact hBx | refine Below.drew ?_ | refine below_drewN ?_ _ | refine bset ?_ (by simp <;> omega) _ | refine bal ?_ _)).size)); (have hBd : Below w9.heap.size w9 w11 := bthen (by repeat (first | exact Below.refl _ _ | exact hBx | refine Below.drew ?_ | refine below_drewN ?_ _ | refine bset ?_ (by simp <;> omega) _ | refine bal ?_ _)) hb11; clear hBx; have hBx := hBd; clear hBd); obtain ⟨a11, c11, rfl⟩ := hv11.lit; obtain ⟨L11, hL11⟩ : ∃ x, (invG g).length = x := ⟨_, rfl⟩; rw [hL11] at HV11 ⊢; clear hL11 hv11 hb11; have r011 := bkeep hBx r0; have r0f11 := bkeepf hBx r0 r0f; have s011 := bkeep hBx s0; have s111 := bkeep hBx s1; have s0f11 := bkeepf hBx s0 s0f; have s1f11 := bkeepf hBx s1 s1f; have zr11 := cell_lt r011; have zs11 := cell_lt s011)
              | fail)
            all_goals
              go_wp2
              have hs0 : (w11.setCell ⟨w.heap.size + 1, 0, none⟩ (.slice a11 L11 c11)).cell? ⟨w.heap.size + 1 + 1, 0, none⟩ = some (.bool false) := cell_far s011 (addr_ne (Nat.ne_of_lt (Nat.lt_succ_self _))) _
              have hs1 : (w11.setCell ⟨w.heap.size + 1, 0, none⟩ (.slice a11 L11 c11)).cell? ⟨w.heap.size + 1 + 1, 1, none⟩ = some (.slice none 0 0) := cell_far s111 (addr_ne (Nat.ne_of_lt (Nat.lt_succ_self _))) _
              have hLM := ((Lim.refl w11).slice r011 (.slice a11 L11 c11)).trans (Lim.set2 hs0 hs1 (.bool nd) (.slice ad ld cd))
              have hOT := ((Out.refl (fun q => q = w.heap.size + 1 ∨ q = w.heap.size + 1 + 1) w11).set (p := ⟨w.heap.size + 1, 0, none⟩) (fun _ => .inl rfl) (.slice a11 L11 c11)).set2 (g := w.heap.size + 1 + 1) (o := 0) (fun _ => .inr rfl) (.bool nd) (.slice ad ld cd)
              have HMF := Lib.hid ((HV11.out.out hOT (fun k hk h => h.elim (fun e => absurd hk (Nat.not_le.2 (by rw [e]; exact Nat.lt_of_succ_lt zs))) (fun e => absurd hk (Nat.not_le.2 (by rw [e]; exact zs)))) hLM).rebase (Nat.le_of_lt zm))
              have HIF := Lib.hid ((HEI.out.keep hBx).lim hLM)
              have hBF : Below w.heap.size w w11 := bthen HI9.out.bel hBx
              clear hs0 hs1 hLM hOT
              refine bodyPost_ret (v := .tuple #[.agg #[.slice a11 L11 c11], .agg #[.bool nd, .slice ad ld cd], .int .i64 0]) (by simp [results, Tryd.results33, go_sem, *]) rfl ⟨.inl ⟨HBQ.out, HD0.out, _, _, rfl, HMF.out, by rw [HID.out]; exact HIF.out⟩, ?_⟩
              repeat (first | exact Below.refl _ _ | exact hBF | refine Below.drew ?_ | refine below_drewN ?_ _ | refine bset ?_ (by simp <;> omega) _ | refine bal ?_ _)
          · have hpos : 0 < d := by have := HD0.out; omega
            rw [Int.sign_eq_one_of_pos hpos] at sc
            have HSE := Lib.hid (show S = c from by rw [HIS.out, if_neg hneg])
            have HI7 := HI
            rw [← HSE.out] at HI7
            have HSB := Lib.hid (show S ≠ 0 ∧ Bd kk S from by rw [HSE.out]; exact HCN.out)
            clear hneg hpos HI HI0
            go_wp2_with fail
            (with_reducible refine (sc _ ?_).mono ?_); (repeat (first | exact Below.refl _ _ | exact hBw | refine Below.drew ?_ | refine below_drewN ?_ _ | refine bset ?_ (by simp <;> omega) _ | refine bal ?_ _))
            rintro e w5 ⟨rfl, hb5⟩
            have hb5' : Below wr.heap.size wr w5 := bthen (by repeat (first | exact Below.refl _ _ | exact hBw | refine Below.drew ?_ | refine below_drewN ?_ _ | refine bset ?_ (by simp <;> omega) _ | refine bal ?_ _)) hb5
            have HI8 := Lib.hid (HI7.out.keep hb5')
            clear HI7 sc e0 e1 ze HEI hb5 hb5' hBw
            have HI7 := HI8
            clear HI8
            go_upto_region 15 with (fail)
            refine wp_name fun w7 hW7 => ?_
            rw [← hW7] at HI7
            clear hW7
            obtain ⟨-, nd, ad, ld, cd, e0, e1, e0f, e1f, eI⟩ := HI7.out.dd
            obtain ⟨-, ng, ag', lg, cg', q0, q1, -, -, qI⟩ := HI7.out.g
            have HEI := Lib.hid (And.intro eI qI)
            have ze := cell_lt e0
            have zq := cell_lt q0
            have dc := fun W (q : Below w7.heap.size w7 W) => divmod_c (.agg #[.bool nd, .slice ad ld cd]) (.agg #[.bool ng, .slice ag' lg cg']) d S kk W (HEI.out.1.keep q) (HEI.out.2.keep q) HDB.out HSB.out.2 hkk HSB.out.1
            have hBx := Below.refl w7.heap.size w7
            clear eI qI
            go_wp2_with fail
            (with_reducible refine (dc _ ?_).mono ?_); (repeat (first | exact Below.refl _ _ | exact hBx | refine Below.drew ?_ | refine below_drewN ?_ _ | refine bset ?_ (by simp <;> omega) _ | refine bal ?_ _))
            rintro e w8 ⟨⟨u8, r8, rfl, hu8, hr8⟩, hb8⟩
            have hb8' : Below w7.heap.size w7 w8 := bthen (by repeat (first | exact Below.refl _ _ | exact hBx | refine Below.drew ?_ | refine below_drewN ?_ _ | refine bset ?_ (by simp <;> omega) _ | refine bal ?_ _)) hb8
            have HU8 := Lib.hid hu8
            obtain ⟨n8, a8, c8, l8, rfl, -⟩ := hu8
            obtain ⟨n9, a9, c9, l9, rfl, -⟩ := hr8
            unfold iv at *
            replace e0f := bkeepf hb8' e0 e0f
            replace e1f := bkeepf hb8' e1 e1f
            replace e0 := bkeep hb8' e0
            replace e1 := bkeep hb8' e1
            replace ze := cell_lt e0
            have HI9 := Lib.hid ((HI7.out.keep hb8').putD hw1 h12 hdb HU8.out)
            clear dc HEI HI7 q0 q1 zq hb8 hb8' hBx
            go_upto_region 16 with (fail)
            refine wp_name fun w9 hW9 => ?_
            rw [← hW9] at HI9
            clear hW9 e0 e1 e0f e1f ze HU8
            obtain ⟨-, nd, ad, ld, cd, e0, e1, -, -, eI⟩ := HI9.out.dd
            have HEI := Lib.hid eI
            have m0 := HI9.out.m0
            have r0 := HI9.out.r0
            have r0f := HI9.out.r0f
            have s0 := HI9.out.s0
            have s1 := HI9.out.s1
            have s0f := HI9.out.s0f
            have s1f := HI9.out.s1f
            have zm := cell_lt m0
            have ze := cell_lt e0
            have zr := cell_lt r0
            have zs := cell_lt s0
            have FCL := Lib.hid (fun V (q : Below w9.heap.size w9 V) => filled_c j j (fun i k => gat A i k / S) 67 #[.pointer (some ⟨w1.heap.size, 0, none⟩), .pointer (some ⟨gb, 0, none⟩)] V (inv1_c w1.heap.size gb A j j kk S V ((HV1.out.keep (bthen HI9.out.b1 q)).boxM (bkeep q HI9.out.b5)) (HI9.out.g.keep q) HAL.out HAR.out HAB.out HSB.out.2 hkk HSB.out.1) (ens Tryd.func67 (by kernel_rfl) rfl) (Nat.le_trans hN1 (by decide)) hN1)
            rw [← HIG.out] at FCL
            have HS := Lib.hid (show ∀ V, Below w9.heap.size w9 V → V.cell? ⟨w.heap.size, 0, none⟩ = some (.slice ag j cg) ∧ V.cell? ⟨db, 0, none⟩ = some (.bool nd) ∧ V.cell? ⟨db, 1, none⟩ = some (.slice ad ld cd) from fun V q => ⟨bkeep q m0, bkeep q e0, bkeep q e1⟩)
            have hwd : w.heap.size + 1 + 1 < db := Nat.lt_trans hw1 h12
            have nr0 : w.heap.size + 1 ≠ w.heap.size := Nat.succ_ne_self _
            have ns0 : w.heap.size + 1 + 1 ≠ w.heap.size := Nat.ne_of_gt (Nat.lt_succ_of_lt (Nat.lt_succ_self _))
            have nrd : w.heap.size + 1 ≠ db := Nat.ne_of_lt (Nat.lt_of_succ_lt hwd)
            have nsd : w.heap.size + 1 + 1 ≠ db := Nat.ne_of_lt hwd
            have hBx := Below.refl w9.heap.size w9
            clear eI
            go_region_held3 (fun V => V.cell? ⟨w.heap.size, 0, none⟩ = some (.slice ag j cg) ∧ V.cell? ⟨db, 0, none⟩ = some (.bool nd) ∧ V.cell? ⟨db, 1, none⟩ = some (.slice ad ld cd))
              (first | ((repeat (first | (with_reducible refine three_far _ ?_ (addr_ne nr0) (addr_ne nrd) (addr_ne nrd)) | (with_reducible refine three_far _ ?_ (addr_ne ns0) (addr_ne nsd) (addr_ne nsd)))); (with_reducible refine HS.out _ ?_); (repeat (first | exact Below.refl _ _ | exact hBx | refine Below.drew ?_ | refine below_drewN ?_ _ | refine bal ?_ _)); done) | fail)
              (first
              | (go_at_call 9; (with_reducible refine (RC.out _).mono ?_); rintro e w10 ⟨rfl, hb10⟩; (have hBd : Below w9.heap.size w9 w10 := bthen (by repeat (first | exact Below.refl _ _ | exact hBx | refine Below.drew ?_ | refine below_drewN ?_ _ | refine bset ?_ (by simp <;> omega) _ | refine bal ?_ _)) hb10; clear hBx; have hBx := hBd; clear hBd))
              | (go_at_call 37; (with_reducible refine (FCL.out _ ?_).mono ?_); (repeat (first | exact Below.refl _ _ | exact hBx | refine Below.drew ?_ | refine below_drewN ?_ _ | refine bset ?_ (by simp <;> omega) _ | refine bal ?_ _)); rintro e w11 ⟨⟨v11, rfl, hv11⟩, hb11⟩; have HV11 := Lib.hid (hv11.rebase (show w9.heap.size ≤ _ from (show Below w9.heap.size w9 _ by repeat (first | exact Below.refl _ _ | exact hBx | refine Below.drew ?_ | refine below_drewN ?_ _ | refine bset ?_ (by simp <;> omega) _ | refine bal ?_ _)).size)); (have hBd : Below w9.heap.size w9 w11 := bthen (by repeat (first | exact Below.refl _ _ | exact hBx | refine Below.drew ?_ | refine below_drewN ?_ _ | refine bset ?_ (by simp <;> omega) _ | refine bal ?_ _)) hb11; clear hBx; have hBx := hBd; clear hBd); obtain ⟨a11, c11, rfl⟩ := hv11.lit; obtain ⟨L11, hL11⟩ : ∃ x, (invG g).length = x := ⟨_, rfl⟩; rw [hL11] at HV11 ⊢; clear hL11 hv11 hb11; have r011 := bkeep hBx r0; have r0f11 := bkeepf hBx r0 r0f; have s011 := bkeep hBx s0; have s111 := bkeep hBx s1; have s0f11 := bkeepf hBx s0 s0f; have s1f11 := bkeepf hBx s1 s1f; have zr11 := cell_lt r011; have zs11 := cell_lt s011)
              | fail)
            all_goals
              go_wp2
              have hs0 : (w11.setCell ⟨w.heap.size + 1, 0, none⟩ (.slice a11 L11 c11)).cell? ⟨w.heap.size + 1 + 1, 0, none⟩ = some (.bool false) := cell_far s011 (addr_ne (Nat.ne_of_lt (Nat.lt_succ_self _))) _
              have hs1 : (w11.setCell ⟨w.heap.size + 1, 0, none⟩ (.slice a11 L11 c11)).cell? ⟨w.heap.size + 1 + 1, 1, none⟩ = some (.slice none 0 0) := cell_far s111 (addr_ne (Nat.ne_of_lt (Nat.lt_succ_self _))) _
              have hLM := ((Lim.refl w11).slice r011 (.slice a11 L11 c11)).trans (Lim.set2 hs0 hs1 (.bool nd) (.slice ad ld cd))
              have hOT := ((Out.refl (fun q => q = w.heap.size + 1 ∨ q = w.heap.size + 1 + 1) w11).set (p := ⟨w.heap.size + 1, 0, none⟩) (fun _ => .inl rfl) (.slice a11 L11 c11)).set2 (g := w.heap.size + 1 + 1) (o := 0) (fun _ => .inr rfl) (.bool nd) (.slice ad ld cd)
              have HMF := Lib.hid ((HV11.out.out hOT (fun k hk h => h.elim (fun e => absurd hk (Nat.not_le.2 (by rw [e]; exact Nat.lt_of_succ_lt zs))) (fun e => absurd hk (Nat.not_le.2 (by rw [e]; exact zs)))) hLM).rebase (Nat.le_of_lt zm))
              have HIF := Lib.hid ((HEI.out.keep hBx).lim hLM)
              have hBF : Below w.heap.size w w11 := bthen HI9.out.bel hBx
              clear hs0 hs1 hLM hOT
              refine bodyPost_ret (v := .tuple #[.agg #[.slice a11 L11 c11], .agg #[.bool nd, .slice ad ld cd], .int .i64 0]) (by simp [results, Tryd.results33, go_sem, *]) rfl ⟨.inl ⟨HBQ.out, HD0.out, _, _, rfl, HMF.out, by rw [HID.out]; exact HIF.out⟩, ?_⟩
              repeat (first | exact Below.refl _ _ | exact hBF | refine Below.drew ?_ | refine below_drewN ?_ _ | refine bset ?_ (by simp <;> omega) _ | refine bal ?_ _)
end Go.Proofs.YthaohpfbengabaaDoor

/- limb: Digits: the iterator that tells a number's digits, from the first one on. -/
namespace Go.Proofs.YthaohpfbengabaaDoor
open Num
open Go.ChangeShapes Go.WideShapes Go.ChangeAt Go.RowKit
set_option linter.unusedVariables false
set_option linter.unusedSimpArgs false
attribute [local go_sem] Oper.semAt_some

/-- the text's letters are the list's digits -/
def DigTxt (s : ByteArray) (L : List Nat) : Prop := s.data.toList = L.map dig ∧ ∀ d ∈ L, d < 10
theorem DigTxt.size {s : ByteArray} {L : List Nat} (h : DigTxt s L) : s.size = L.length := by
  have e := congrArg List.length h.1
  rw [List.length_map] at e
  rw [← e]; rfl
theorem DigTxt.get {s : ByteArray} {L : List Nat} (h : DigTxt s L) (k : Nat) (hk : k < L.length) (hs : k < s.size) : (s[k]'hs).toNat = 48 + L.getD k 0 ∧ L.getD k 0 < 10 := by
  have hd : L.getD k 0 < 10 := by
    rw [List.getD_eq_getElem?_getD, List.getElem?_eq_getElem hk]; exact h.2 _ (List.getElem_mem _)
  have e : s.data.toList[k]? = some (dig (L.getD k 0)) := by
    rw [h.1, List.getElem?_map, List.getElem?_eq_getElem hk]
    simp [List.getElem?_eq_getElem hk]
  have e2 : s[k]'hs = dig (L.getD k 0) := by
    have h3 : s.data.toList[k]? = some (s[k]'hs) := by
      rw [Array.getElem?_toList]
      exact Array.getElem?_eq_getElem hs
    rw [h3] at e; exact Option.some.inj e
  rw [e2, dig_nat hd]
  exact ⟨rfl, hd⟩
theorem next_dig {s : ByteArray} {L : List Nat} (h : DigTxt s L) {wr : World} {ib pos : Nat} (hit : wr.heap[ib]? = some (.stringIter s pos)) (hp : pos < L.length) (ty : TypeId) :
    (Instr.next (.pointer (some ⟨ib, 0, none⟩)) true ty).run Tryd.prog wr = .ok (.tuple #[.bool true, .int .i64 pos, .int .i32 ((48 + L.getD pos 0 : Nat) : Int)]) (wr.iterAt ib s (pos + 1)) := by
  have hs : pos < s.size := by rw [h.size]; exact hp
  obtain ⟨e, hd⟩ := h.get pos hp hs
  have := Go.Lib.run_next_ascii_at (P := Tryd.prog) wr ib s pos ty hit hs (by rw [e]; omega)
  rwa [e] at this
theorem iterAt_grown (w : World) (k : Nat) (s : ByteArray) (p : Nat) : w.grownBy (w.iterAt k s p) (some k) := by
  refine ⟨rfl, rfl, rfl, by simp [Go.World.iterAt], fun i hi hk => ?_⟩
  simp only [Go.World.iterAt]
  exact Array.getElem?_setIfInBounds_ne (fun e => hk (by rw [e]))

set_option maxRecDepth 100000 in
set_option maxHeartbeats 2000000 in
theorem dg_c (l B N n0 : Nat) (s : ByteArray) (L : List Nat) (J Jx : List Nat → World → Prop) (hJ : AbidesFrom n0 J) (hd : DigTxt s L)
    (hY : ∀ pre x W1, J pre W1 → pre.length < N → YieldAt Fence.wide 3 Tryd.prog l #[.int .i64 ((x % 10 : Nat) : Int)] W1 fun e W' => (e = .returned (.bool true) ∧ J (pre ++ [x]) W' ∧ KeepsWalks W1 W') ∨ (e = .returned (.bool false) ∧ Jx (pre ++ [x]) W'))
    (W : World) (hn : n0 = W.heap.size) (hm : W.cell? ⟨B, 0, none⟩ = some (.string s)) (h0 : J [] W) (hN : L.length ≤ N) :
    Calls Tryd.prog 92 #[.func (.yield l) #[] #[], .pointer (some ⟨B, 0, none⟩)] W fun e W' => (∃ v, e = .returned v) ∧ ((∃ xs, xs = L ∧ J xs W') ∨ (∃ pre, pre <+: L ∧ Jx pre W')) := by
  go_enter Tryd.func92, Tryd.ntmps92
  go_wp2
  go_loopg [4] L.length (fun gk u wr => ∃ pos : Nat, pos ≤ L.length ∧ gk = L.length - pos ∧ wr.heap[W.heap.size]? = some (.stringIter s pos) ∧ J (L.take pos) wr)
  case atStart => exact ⟨0, Nat.zero_le _, by omega, World.iter_heap W s 0, hJ _ _ _ none h0 ⟨rfl, rfl, rfl, by simp [World.iter], fun k hk _ => Below.heap_alloc _ _ _ hk⟩ (fun r e => by cases e)⟩
  case round =>
    obtain ⟨pos, hp, hgk, hit, hj⟩ := hrel
    by_cases hlt : pos < L.length
    · have hnx := next_dig hd hit hlt
      have hd10 := hd.2 (L.getD pos 0) (by rw [List.getD_eq_getElem?_getD, List.getElem?_eq_getElem hlt]; exact List.getElem_mem _)
      obtain ⟨wn, hwn⟩ : ∃ wn, wn = wr.iterAt W.heap.size s (pos + 1) := ⟨_, rfl⟩
      have hitn : wn.heap[W.heap.size]? = some (.stringIter s (pos + 1)) := by rw [hwn]; exact Go.Lib.iterAt_heap wr W.heap.size s pos (pos + 1) hit
      have hjn : J (L.take pos) wn := hJ _ _ _ (some W.heap.size) hj (by rw [hwn]; exact iterAt_grown _ _ _ _) (fun r e => by cases e; exact ⟨Nat.le_of_eq hn, _, hit, rfl⟩)
      rw [← hwn] at hnx
      clear hwn
      have HT := Lib.hid (show L.take (pos + 1) = L.take pos ++ [L.getD pos 0] by
        rw [List.take_add_one, List.getElem?_eq_getElem hlt]; simp [List.getElem?_eq_getElem hlt])
      obtain ⟨fn, tmps, asg, body, hy, hR⟩ := hY (L.take pos) (L.getD pos 0) wn hjn (by rw [List.length_take]; omega)
      rw [Nat.mod_eq_of_lt hd10] at hy
      generalize L.getD pos 0 = d at *
      have hw1 : (48 : Int) + (d : Int) - 48 = (d : Int) := by omega
      go_upto_region 3 with (fail)
      refine (wpIn_wide (n := 4)).1 ?_
      gi_wp2
      refine hR.mono ?_
      rintro e W' (⟨rfl, hJ', hk⟩ | ⟨rfl, hJx'⟩)
      · gi_wp2
        go_wp2
        go_roundg (L.length - (pos + 1))
        case measure => omega
        case rel => exact ⟨pos + 1, by omega, rfl, hk.same _ _ hitn rfl, by rw [HT.out]; exact hJ'⟩
      · gi_wp2
        go_wp2
        refine bodyPost_ret (results_none rfl _ _ _) rfl ?_
        exact ⟨⟨_, rfl⟩, .inr ⟨L.take (pos + 1), List.take_prefix _ _, by rw [HT.out]; exact hJx'⟩⟩
    · obtain rfl : pos = L.length := by omega
      have hnx := fun ty => Go.Lib.run_next_end_at (P := Tryd.prog) wr W.heap.size s L.length ty hit (by rw [hd.size]; omega)
      rw [List.take_length] at hj
      go_wp2
      refine bodyPost_end (results_none rfl _ _ _) rfl ?_
      exact ⟨⟨_, rfl⟩, .inl ⟨L, rfl, hj⟩⟩
theorem digits_stops (B N n : Nat) (s : ByteArray) (L : List Nat) (w : World) (hd : DigTxt s L) (hm : w.cell? ⟨B, 0, none⟩ = some (.string s)) (hN : L.length ≤ N) :
    SeqStopsK Fence.wide n Tryd.prog 92 #[.pointer (some ⟨B, 0, none⟩)] (fun x : Nat => #[.int .i64 ((x % 10 : Nat) : Int)]) KeepsWalks (· = L) (· <+: L) N w := by
  intro l J Jx W hW hJ hJx hY h0
  refine callsIn_wide.2 ?_
  exact dg_c l B N W.heap.size s L J Jx hJ hd (fun pre x W1 hp hl => yieldAt_wide (hY pre x W1 hp hl)) W rfl (bkeep hW hm) h0 hN
/-- what natTxt's letters are -/
def digL (n : Nat) : List Nat := if n = 0 then [0] else (lowD n).reverse
theorem digL_txt (n : Nat) : DigTxt ⟨(natTxt n).toArray⟩ (digL n) := by
  refine ⟨?_, ?_⟩
  · show natTxt n = (digL n).map dig
    unfold natTxt digL
    split
    · rfl
    · rw [asc_eq, List.map_reverse]
  · unfold digL
    split
    · intro d hd; simp at hd; omega
    · intro d hd; exact lowD_lt n d (by simpa using hd)
theorem limbDigits_c (a : Option Addr) (ca : Nat) (l : List Nat) (w : World) (ha : U32 w a ca l) (h1 : l.length ≤ 67108865) :
    Calls Tryd.prog 68 #[.slice a l.length ca] w fun e w' => ∃ B, e = .returned (.func (.func 92) #[] #[.pointer (some ⟨B, 0, none⟩)]) ∧ w'.cell? ⟨B, 0, none⟩ = some (.string ⟨(natTxt (val l)).toArray⟩) ∧ Below w.heap.size w w' := by
  have tc := fun W (h : Below w.heap.size w W) => limbText_c a ca l W (ha.keep h) h1
  go_enter Tryd.func68, Tryd.ntmps68
  go_wp2_with fail
  refine (tc _ (Below.refl _ _)).mono ?_
  rintro e w1 ⟨rfl, hb1⟩
  clear tc
  go_wp2
  go_ret
  exact ⟨_, rfl, cell_new rfl rfl, bal hb1 _⟩
end Go.Proofs.YthaohpfbengabaaDoor

/- integer: Text. -/
namespace Go.Proofs.YthaohpfbengabaaDoor
open Num
open Go.ChangeShapes Go.WideShapes Go.ChangeAt Go.RowKit
set_option linter.unusedVariables false
set_option linter.unusedSimpArgs false
attribute [local go_sem] Oper.semAt_some

/-- the text so far: a variable in memory (block c), its bytes from block base on -/
structure OutS (c base : Nat) (av : Option Addr) (cap : Nat) (L : List UInt8) (W : World) : Prop where
  cell : W.cell? ⟨c, 0, none⟩ = some (.slice av L.length cap)
  free : W.frozen? ⟨c, 0, none⟩ = false
  own : W.ownsRow base 5 1 (.slice av L.length cap) L.length (Lib.byteCells L)
  lt : c < base
theorem own_soft {B base : Nat} {W W' : World} {v : Value} {n : Nat} {xs : List Value} (h : W.ownsRow base 5 1 v n xs) (s : Soft B W W') : W'.ownsRow base 5 1 v n xs := by
  refine ⟨h.1, ?_⟩
  rcases h.2 with hn | ⟨g, cap, cur, rfl, hb, hgg, rest⟩
  · exact .inl hn
  · exact .inr ⟨g, cap, cur, rfl, hb, s.cells _ _ hgg rfl, rest⟩
theorem own_put {base : Nat} {W : World} {v : Value} {n : Nat} {xs : List Value} (h : W.ownsRow base 5 1 v n xs) (p : Addr) (x : Value) (hp : p.block < base) : (W.setCell p x).ownsRow base 5 1 v n xs := by
  refine ⟨h.1, ?_⟩
  rcases h.2 with hn | ⟨g, cap, cur, rfl, hb, hgg, rest⟩
  · exact .inl hn
  · exact .inr ⟨g, cap, cur, rfl, hb, (Below.heap_setCell _ _ _ _ (by omega)).trans hgg, rest⟩
theorem own_shape {base : Nat} {W : World} {v : Value} {L : List UInt8} (h : W.ownsRow base 5 1 v L.length (Lib.byteCells L)) : ∃ a c, v = .slice a L.length c := by
  rcases h.2 with ⟨rfl, h1⟩ | ⟨g, cap, cur, rfl, _⟩
  · exact ⟨none, 0, by rw [h1]⟩
  · exact ⟨_, _, rfl⟩
theorem OutS.soft {c base B : Nat} {av : Option Addr} {cap : Nat} {L : List UInt8} {W W' : World} (h : OutS c base av cap L W) (s : Soft B W W') : OutS c base av cap L W' :=
  ⟨s.cell h.cell, s.frozen h.cell h.free, own_soft h.own s, h.lt⟩
theorem OutS.keep {c base : Nat} {av : Option Addr} {cap : Nat} {L : List UInt8} {W W' : World} (h : OutS c base av cap L W) (hb : Below W.heap.size W W') : OutS c base av cap L W' :=
  ⟨bkeep hb h.cell, bkeepf hb h.cell h.free, own_below (w0 := W) h.own hb, h.lt⟩
/-- what the append and the store behind it leave -/
theorem OutS.next {c base : Nat} {av : Option Addr} {cap : Nat} {L X : List UInt8} {W w' : World} {v' : Value} (h : OutS c base av cap L W) (o : Obj)
    (hown : w'.ownsRow base 5 1 v' (L ++ X).length (Lib.byteCells (L ++ X))) (hg : (W.alloc o).grownBy w' (Value.slice av L.length cap).ownBlock) :
    ∃ av' cap', v' = .slice av' (L ++ X).length cap' ∧ OutS c base av' cap' (L ++ X) (w'.setCell ⟨c, 0, none⟩ v') ∧ KeepsOthers W (w'.setCell ⟨c, 0, none⟩ v') ∧ w'.cell? ⟨c, 0, none⟩ = some (.slice av L.length cap) ∧ w'.frozen? ⟨c, 0, none⟩ = false := by
  obtain ⟨av', cap', rfl⟩ := own_shape hown
  have hne : some c ≠ (Value.slice av L.length cap).ownBlock := fun e => by
    have := (h.own.lt c e.symm).1
    have := h.lt
    omega
  have c0 : w'.cell? ⟨c, 0, none⟩ = some (.slice av L.length cap) := hg.cell (cell_alloc h.cell o) hne
  have cf : w'.frozen? ⟨c, 0, none⟩ = false := by
    rw [World.frozen?_of_block (hg.block c (by have := cell_lt h.cell; simp; omega) hne)]
    exact bkeepf (bal (Below.refl _ _) _) h.cell h.free
  refine ⟨av', cap', rfl, ⟨cell_here c0 _, by rw [World.frozen?_setCell]; exact cf, own_put hown _ _ h.lt, h.lt⟩, ?_, c0, cf⟩
  refine ((KeepsOthers.alloc W o).trans (KeepsOthers.of_grownBy hg ?_)).trans (KeepsOthers.setCell _ _ _)
  intro j o' hj ho'
  rcases (h.own.alloc o).2 with ⟨h0, _⟩ | ⟨g, cap2, cur, h0, hb, hgg, rest⟩
  · rw [h0] at hj; simp [Value.ownBlock] at hj
  · rw [h0] at hj; simp [Value.ownBlock] at hj
    subst hj
    rw [hgg] at ho'; cases ho'; rfl
theorem OutS.str {c base : Nat} {av : Option Addr} {cap : Nat} {L : List UInt8} {W : World} (h : OutS c base av cap L W) : (convert 109 9 (.slice av L.length cap)).run Tryd.prog W = .ok (.string ⟨L.toArray⟩) W := by
  rcases h.own.2 with ⟨h1, h2⟩ | ⟨g, cap2, cur, h1, hb, hgg, rest⟩
  · obtain rfl : L = [] := List.length_eq_zero_iff.1 h2
    cases h1
    exact run_convert_bytes_nil W 109 5 Tryd.underlying109 Tryd.underlying5 0 0 9 Tryd.underlying9
  · cases h1
    have ho := h.own
    refine run_convert_bytes_back W 109 9 5 ⟨g, 0, none⟩ cap L Tryd.underlying109 Tryd.underlying5 Tryd.underlying9 fun j hj => ?_
    have := World.ownsRow.cellAt ho j (by omega)
    rw [bcells_get L j hj] at this
    unfold Addr.add
    split
    · subst_vars; simpa [hj] using this
    · simpa [hj] using this
theorem dig_map (L : List Nat) (h : ∀ d ∈ L, d < 10) : L.map (fun x => dig (x % 10)) = L.map dig := List.map_congr_left fun x hx => by rw [Nat.mod_eq_of_lt (h x hx)]
theorem digL_len {l : List Nat} (hl : Limbs l) (h1 : l.length ≤ 67108865) : (digL (val l)).length ≤ 2147483680 := by
  have h2 := val_lt hl
  rw [BB_pow] at h2
  have h3 := lowD_len _ _ h2
  unfold digL
  split
  · simp
  · rw [List.length_reverse]; omega
/-- a number's text: its sign, its digits -/
theorem intTxt_eq (n : Bool) (V : Nat) (hn : n = true → 0 < V) : intTxt (sg n V) = (if n then [45] else []) ++ (digL V).map (fun x => dig (x % 10)) := by
  have hd := digL_txt V
  have e : natTxt V = (digL V).map dig := hd.1
  rw [dig_map _ hd.2, ← e]
  unfold intTxt
  rw [sg_abs]
  cases n with
  | true => rw [if_pos (by have := hn rfl; simp [sg]; omega)]; rfl
  | false => rw [if_neg (by simp [sg])]; rfl


set_option maxRecDepth 100000 in
set_option maxHeartbeats 8000000 in
theorem intText_c (vx : Value) (x : Int) (k : Nat) (w : World) (hx : IsInt w vx x) (bx : Bd k x) (hk : k ≤ 2147483648) :
    Calls Tryd.prog 34 #[vx] w fun e w' => e = .returned (.string ⟨(intTxt x).toArray⟩) ∧ Below w.heap.size w w' := by
  obtain ⟨n1, a1, c1, l1, rfl, u1, g1, s1, rfl⟩ := hx
  have k1 : l1.length ≤ 67108865 := by
    by_cases h0 : l1 = []
    · subst h0; simp
    · have h1 := nrm_val_pos g1 h0
      rw [BB_pow] at h1
      have h2 : 32 * (l1.length - 1) < k := (Nat.pow_lt_pow_iff_right (a := 2) (by omega)).1 (Nat.lt_of_le_of_lt h1 (sg_bd bx))
      omega
  have HE := Lib.hid (intTxt_eq n1 (val l1) (fun h => by
    have h1 := nrm_val_pos g1 (s1 h)
    have : 0 < BB ^ (l1.length - 1) := Nat.pow_pos BB_pos
    omega))
  have HDL := Lib.hid (digL_len u1.2.2.1 k1)
  have HDT := Lib.hid (digL_txt (val l1))
  clear bx s1
  unfold iv
  obtain ⟨i0, z0, hi0, hz0, hsize0, hby0, hzs0⟩ := el8.info
  refine calls_of_wp_marks Tryd.func34 rfl ?_
  simp only [Tryd.ntmps34, List.size_toArray, List.length_cons, List.length_nil, Nat.reduceAdd, Nat.reduceSub, Array.replicate_succ, Array.replicate_zero, List.push_toArray, List.append_toArray, List.nil_append, List.cons_append, Array.append_empty, Array.empty_append]
  cases n1 with
  | false =>
    go_wp2_with fail
    refine (limbDigits_c a1 c1 l1 _ (u1.keep (bal (bal (Below.refl _ _) _) _)) k1).mono ?_
    rintro e wD ⟨B, rfl, hstr, hbD⟩
    have hO : OutS (w.heap.size + 1) (w.heap.size + 2) none 0 [] wD := OutS.keep ⟨cell_new (by simp) rfl, by rw [World.frozen?_alloc_at (hn := by simp)], World.ownsRow_nil _ _ _ _, by omega⟩ hbD
    have hBD : Below w.heap.size w wD := bthen (bal (bal (Below.refl _ _) _) _) hbD
    have HE := Lib.hid (show intTxt (sg false (val l1)) = ([] : List UInt8) ++ (digL (val l1)).map (fun x => dig (x % 10)) from HE.out)
    have hszD := hbD.size
    have hsD : w.heap.size + 2 ≤ wD.heap.size := by have := cell_lt hO.cell; omega
    go_wp2
    refine wp_rangeK (gf := 92) (lb := #[.pointer (some ⟨B, 0, none⟩)]) (w0 := wD) (L := digL (val l1)) (N := (digL (val l1)).length) (Kp := KeepsWalks) (by simp [Act.eval]) (enters_of Tryd.func92 (by kernel_rfl) rfl)
      (encs := fun x : Nat => #[.int .i64 ((x % 10 : Nat) : Int)]) (digits_stops B _ 8 _ _ wD HDT.out hstr (Nat.le_refl _)) (fun h k => walksK_t h k) (fun W l o o' h1 h2 h3 h4 => walksK_b W l o o' h1 h2 h3 h4) (Below.refl _ _) (fun _ => rfl)
      (fun pre W => (∃ av cap, OutS (w.heap.size + 1) (w.heap.size + 2) av cap (([] : List UInt8) ++ pre.map (fun x => dig (x % 10))) W) ∧ Below w.heap.size w W ∧ wD.heap.size ≤ W.heap.size)
      (fun c pre W => False)
      ?_ ?_ ?_ ?_ ?_
      (fun T x a' W => a' = { tmps := (T.setIfInBounds 13 (.int .i64 ((x % 10 : Nat) : Int))).setIfInBounds 4 (.int .i64 ((x % 10 : Nat) : Int)), defers := [] } ∧ wD.heap.size ≤ W.heap.size)
      ?_ ?_ ?assign0 ?body0 ?done0 ?stop0
    case assign0 =>
      rintro l pre x W K hi hK
      generalize x % 10 = d at *
      gi_wp2
      exact hK _ _ (KeepsFrom.refl _ _) (KeepsWalks.refl _) hi ⟨by simp, hi.2.2⟩
    case body0 =>
      rintro l pre x a' w6 ⟨⟨av6, cap6, hO6⟩, hB6, hs6⟩ ⟨rfl, _⟩ hl
      have hlm : (([] : List UInt8) ++ pre.map (fun x => dig (x % 10))).length ≤ 2147483690 := by
        have := HDL.out
        simp
        omega
      have HLN := Lib.hid (show ([] : List UInt8) ++ (pre ++ [x]).map (fun x => dig (x % 10)) = (([] : List UInt8) ++ pre.map (fun x => dig (x % 10))) ++ [dig (x % 10)] by simp)
      have hd10 : x % 10 < 10 := Nat.mod_lt _ (by omega)
      generalize ([] : List UInt8) ++ pre.map (fun x => dig (x % 10)) = Lp at *
      obtain ⟨bb, hbb⟩ : ∃ bb, bb = dig (x % 10) := ⟨_, rfl⟩
      rw [← hbb] at HLN
      have hb1 : (48 : Int) + ((x % 10 : Nat) : Int) = (bb.toNat : Int) := by rw [hbb, dig_nat hd10]; omega
      have hb2 : (bb.toNat : Int) % 256 = (bb.toNat : Int) := by have := bb.toNat_lt; omega
      clear hbb
      generalize x % 10 = d at *
      have c0 := hO6.cell
      have cf := hO6.free
      have hsz6 := cell_lt c0
      simp only [List.setIfInBounds_toArray, List.set_cons_succ, List.set_cons_zero]
      gi_wp2_with (gi_at_builtin; refine wpListIn_append_own _ rfl _ _ 109 rfl (w.heap.size + 2) 5 i0 z0 1 1 el8.ht hi0 hz0 hsize0 hby0 hzs0 el8.pos (.slice av6 Lp.length cap6) Lp.length (Lib.byteCells Lp) rfl (hO6.own.alloc _) ⟨w6.heap.size, 0, none⟩ 1 1 [.int .u8 (bb.toNat : Int)] rfl rfl (cell_one_new _ _ _) ?_ ?_ ?_ ?_ ?_; (simp [Value.oneCell']); (unfold maxLen; omega); omega; (simp; omega); intro v' w7 hown hg _; obtain ⟨av7, cap7, rfl, hO7, hKO, c7, f7⟩ := OutS.next hO6 (X := [bb]) _ (by rw [bcells_app, List.length_append]; exact hown) hg)
      have hB7 : Below w.heap.size w w7 := (bal hB6 _).grown hg (by simp; omega) (fun k e => by have := (hO6.own.lt k e).1; omega)
      have e7 : (Lp ++ [bb]).length = Lp.length + 1 := by simp
      rw [e7] at hO7 hKO
      have hs7 := hg.size
      simp at hs7
      refine ⟨hKO.from _, hKO.walks, ⟨_, _, by rw [HLN.out]; exact hO7⟩, bset hB7 (by simp) _, by simp; omega⟩
    case done0 =>
      rintro D w8 hDs ⟨⟨av8, cap8, hO8⟩, hB8, hs8⟩ hK0
      rw [← HE.out] at hO8
      have c0 := hO8.cell
      have hst := hO8.str
      go_wp2
      refine ⟨by simp, .inl ⟨_, _, rfl, run_takeDeferred (b := D) (ds := []) hK0, ?_⟩⟩
      refine ⟨.string ⟨(intTxt (sg false (val l1))).toArray⟩, ?_, rfl, b_put hB8 (by omega) _⟩
      simp [results, Tryd.results34, go_sem]
    case stop0 => intro D c pre W _ _ h; cases h
    · rintro pre W W' ⟨⟨av, cap, h⟩, h2, h3⟩ s; exact ⟨⟨av, cap, h.soft s⟩, h2.trans (s.below.mono (by omega)), Nat.le_trans h3 s.below.size⟩
    · exact fun c pre W W' h s => h
    · exact fun pre W h => h.2.2
    · exact fun c pre W h => h.elim
    · exact ⟨⟨_, _, by simpa using hO⟩, hBD, Nat.le_refl _⟩
    · rintro x a' W W' ⟨rfl, h⟩ s; exact ⟨rfl, Nat.le_trans h s.below.size⟩
    · rintro x a' W ⟨rfl, h⟩; exact h
  | true =>
    have hO0 : OutS (w.heap.size + 1) (w.heap.size + 2) none 0 [] ((w.alloc (.cells #[.bool true, .slice a1 l1.length c1] 33)).alloc (.cells #[.slice none 0 0] 109)) := ⟨cell_new (by simp) rfl, by rw [World.frozen?_alloc_at (hn := by simp)], World.ownsRow_nil _ _ _ _, by omega⟩
    have x00 : (((w.alloc (.cells #[.bool true, .slice a1 l1.length c1] 33)).alloc (.cells #[.slice none 0 0] 109)).alloc (.cells #[.int .u8 45] 5)).cell? ⟨w.heap.size, 1, none⟩ = some (.slice a1 l1.length c1) := cell_alloc (cell_alloc (cell_new rfl rfl) _) _
    have hnw : ∀ j u, [Value.int .u8 45][j]? = some u → (((w.alloc (.cells #[.bool true, .slice a1 l1.length c1] 33)).alloc (.cells #[.slice none 0 0] 109)).alloc (.cells #[.int .u8 45] 5)).cell? ((⟨w.heap.size + 1 + 1, 0, none⟩ : Addr).add j) = some u := fun j u hj => by
      have h := cell_one_new ((w.alloc (.cells #[.bool true, .slice a1 l1.length c1] 33)).alloc (.cells #[.slice none 0 0] 109)) (.int .u8 45) 5 j u hj
      simpa using h
    go_wp2_with (at_builtin; go_loud (refine wpList_append_own _ rfl _ _ 109 rfl (w.heap.size + 2) 5 i0 z0 1 1 el8.ht hi0 hz0 hsize0 hby0 hzs0 el8.pos (.slice none 0 0) 0 [] rfl (World.ownsRow_nil _ _ _ _) ⟨w.heap.size + 1 + 1, 0, none⟩ 1 1 [.int .u8 45] rfl rfl hnw ?_ ?_ ?_ ?_ ?_; (simp [Value.oneCell']); (unfold maxLen; omega); omega; (simp); intro v' w7 hown hg _; obtain ⟨av7, cap7, rfl, hO7, hKO, c7, f7⟩ := OutS.next hO0 (X := [45]) _ hown hg; have x1 := hg.cell x00 (by simp [Value.ownBlock])))
    have hB7 : Below w.heap.size w w7 := (bal (bal (bal (Below.refl _ _) _) _) _).grown hg (by simp; omega) (fun k e => by simp [Value.ownBlock] at e)
    have hs7 := hg.size
    simp at hs7
    refine (limbDigits_c a1 c1 l1 _ (u1.keep (bset hB7 (by simp) _)) k1).mono ?_
    rintro e wD ⟨B, rfl, hstr, hbD⟩
    have hO := hO7.keep hbD
    have hBD : Below w.heap.size w wD := bthen (bset hB7 (by simp) _) hbD
    have HE := Lib.hid (show intTxt (sg true (val l1)) = ([45] : List UInt8) ++ (digL (val l1)).map (fun x => dig (x % 10)) from HE.out)
    have hszD := hbD.size
    have hsD : w.heap.size + 2 ≤ wD.heap.size := by have := cell_lt hO.cell; omega
    go_wp2
    refine wp_rangeK (gf := 92) (lb := #[.pointer (some ⟨B, 0, none⟩)]) (w0 := wD) (L := digL (val l1)) (N := (digL (val l1)).length) (Kp := KeepsWalks) (by simp [Act.eval]) (enters_of Tryd.func92 (by kernel_rfl) rfl)
      (encs := fun x : Nat => #[.int .i64 ((x % 10 : Nat) : Int)]) (digits_stops B _ 8 _ _ wD HDT.out hstr (Nat.le_refl _)) (fun h k => walksK_t h k) (fun W l o o' h1 h2 h3 h4 => walksK_b W l o o' h1 h2 h3 h4) (Below.refl _ _) (fun _ => rfl)
      (fun pre W => (∃ av cap, OutS (w.heap.size + 1) (w.heap.size + 2) av cap (([45] : List UInt8) ++ pre.map (fun x => dig (x % 10))) W) ∧ Below w.heap.size w W ∧ wD.heap.size ≤ W.heap.size)
      (fun c pre W => False)
      ?_ ?_ ?_ ?_ ?_
      (fun T x a' W => a' = { tmps := (T.setIfInBounds 13 (.int .i64 ((x % 10 : Nat) : Int))).setIfInBounds 4 (.int .i64 ((x % 10 : Nat) : Int)), defers := [] } ∧ wD.heap.size ≤ W.heap.size)
      ?_ ?_ ?assign0 ?body0 ?done0 ?stop0
    case assign0 =>
      rintro l pre x W K hi hK
      generalize x % 10 = d at *
      gi_wp2
      exact hK _ _ (KeepsFrom.refl _ _) (KeepsWalks.refl _) hi ⟨by simp, hi.2.2⟩
    case body0 =>
      rintro l pre x a' w6 ⟨⟨av6, cap6, hO6⟩, hB6, hs6⟩ ⟨rfl, _⟩ hl
      have hlm : (([45] : List UInt8) ++ pre.map (fun x => dig (x % 10))).length ≤ 2147483690 := by
        have := HDL.out
        simp
        omega
      have HLN := Lib.hid (show ([45] : List UInt8) ++ (pre ++ [x]).map (fun x => dig (x % 10)) = (([45] : List UInt8) ++ pre.map (fun x => dig (x % 10))) ++ [dig (x % 10)] by simp)
      have hd10 : x % 10 < 10 := Nat.mod_lt _ (by omega)
      generalize ([45] : List UInt8) ++ pre.map (fun x => dig (x % 10)) = Lp at *
      obtain ⟨bb, hbb⟩ : ∃ bb, bb = dig (x % 10) := ⟨_, rfl⟩
      rw [← hbb] at HLN
      have hb1 : (48 : Int) + ((x % 10 : Nat) : Int) = (bb.toNat : Int) := by rw [hbb, dig_nat hd10]; omega
      have hb2 : (bb.toNat : Int) % 256 = (bb.toNat : Int) := by have := bb.toNat_lt; omega
      clear hbb
      generalize x % 10 = d at *
      have c0 := hO6.cell
      have cf := hO6.free
      have hsz6 := cell_lt c0
      simp only [List.setIfInBounds_toArray, List.set_cons_succ, List.set_cons_zero]
      gi_wp2_with (gi_at_builtin; refine wpListIn_append_own _ rfl _ _ 109 rfl (w.heap.size + 2) 5 i0 z0 1 1 el8.ht hi0 hz0 hsize0 hby0 hzs0 el8.pos (.slice av6 Lp.length cap6) Lp.length (Lib.byteCells Lp) rfl (hO6.own.alloc _) ⟨w6.heap.size, 0, none⟩ 1 1 [.int .u8 (bb.toNat : Int)] rfl rfl (cell_one_new _ _ _) ?_ ?_ ?_ ?_ ?_; (simp [Value.oneCell']); (unfold maxLen; omega); omega; (simp; omega); intro v' w7 hown hg _; obtain ⟨av7, cap7, rfl, hO7, hKO, c7, f7⟩ := OutS.next hO6 (X := [bb]) _ (by rw [bcells_app, List.length_append]; exact hown) hg)
      have hB7 : Below w.heap.size w w7 := (bal hB6 _).grown hg (by simp; omega) (fun k e => by have := (hO6.own.lt k e).1; omega)
      have e7 : (Lp ++ [bb]).length = Lp.length + 1 := by simp
      rw [e7] at hO7 hKO
      have hs7 := hg.size
      simp at hs7
      refine ⟨hKO.from _, hKO.walks, ⟨_, _, by rw [HLN.out]; exact hO7⟩, bset hB7 (by simp) _, by simp; omega⟩
    case done0 =>
      rintro D w8 hDs ⟨⟨av8, cap8, hO8⟩, hB8, hs8⟩ hK0
      rw [← HE.out] at hO8
      have c0 := hO8.cell
      have hst := hO8.str
      go_wp2
      refine ⟨by simp, .inl ⟨_, _, rfl, run_takeDeferred (b := D) (ds := []) hK0, ?_⟩⟩
      refine ⟨.string ⟨(intTxt (sg true (val l1))).toArray⟩, ?_, rfl, b_put hB8 (by omega) _⟩
      simp [results, Tryd.results34, go_sem]
    case stop0 => intro D c pre W _ _ h; cases h
    · rintro pre W W' ⟨⟨av, cap, h⟩, h2, h3⟩ s; exact ⟨⟨av, cap, h.soft s⟩, h2.trans (s.below.mono (by omega)), Nat.le_trans h3 s.below.size⟩
    · exact fun c pre W W' h s => h
    · exact fun pre W h => h.2.2
    · exact fun c pre W h => h.elim
    · exact ⟨⟨_, _, by simpa using hO⟩, hBD, Nat.le_refl _⟩
    · rintro x a' W W' ⟨rfl, h⟩ s; exact ⟨rfl, Nat.le_trans h s.below.size⟩
    · rintro x a' W ⟨rfl, h⟩; exact h
end Go.Proofs.YthaohpfbengabaaDoor

/- row: Text; matrix: Text. -/
namespace Go.Proofs.YthaohpfbengabaaDoor
open Num
open Go.ChangeShapes Go.WideShapes Go.ChangeAt Go.RowKit
set_option linter.unusedVariables false
set_option linter.unusedSimpArgs false
attribute [local go_sem ↓] Go.wp_at_zero Go.wp_at_succ
/-- a list's text -/
def brTxt (L : List (List UInt8)) : List UInt8 := 91 :: (Lib.join L [32] ++ [93])
/-- a row's text -/
def rowTxt (l : List Int) : List UInt8 := brTxt (l.map intTxt)
/-- a matrix's text -/
def matTxt (g : Grid) : List UInt8 := brTxt (g.map rowTxt)
theorem brTxt_arr (L : List (List UInt8)) : (⟨#[91]⟩ : ByteArray) ++ ⟨(Lib.join L [32]).toArray⟩ ++ ⟨#[93]⟩ = ⟨(brTxt L).toArray⟩ := by
  apply ByteArray.ext
  simp [brTxt, ByteArray.data_append]
set_option maxRecDepth 100000 in
set_option maxHeartbeats 4000000 in
theorem rowText_c (v : Value) (l : List Int) (k : Nat) (w : World) (hv : PRow 0 w v l) (hl : l.length ≤ 1099511627775) (hb : ∀ j, Bd k (l.getD j 0)) (hk : k ≤ 2147483648) (hlen : (Lib.join (l.map intTxt) [32]).length ≤ 140737488355328) :
    Calls Tryd.prog 59 #[v] w fun e w' => e = .returned (.string ⟨(rowTxt l).toArray⟩) ∧ Below w.heap.size w w' := by
  have HV := Lib.hid hv
  have HBD := Lib.hid hb
  have HLEN := Lib.hid hlen
  obtain ⟨va, vc, rfl, -⟩ := hv
  clear hb hlen
  have hB := Below.refl w.heap.size w
  go_enter Tryd.func59, Tryd.ntmps59
  go_wp2
  go_loopw [3, 8] (fun v x wr => ∃ j : Nat, j ≤ l.length ∧ x = .int .i64 j ∧ Hid (OwnL 9 PTx w wr v ((l.take j).map intTxt))) (fun _ x _ => l.length - (intOf x).toNat)
  case atStart => exact ⟨0, Nat.zero_le _, rfl, Lib.hid (OwnL.nil _ _ hB)⟩
  case round =>
    obtain ⟨j, hj, rfl, hO⟩ := hrel
    have hBr := hO.out.bel
    obtain ⟨oa, oc, hvv⟩ := hO.out.ex
    rw [List.length_map, List.length_take, Nat.min_eq_left hj] at hvv
    subst hvv
    by_cases hlt : j < l.length
    · have hltI : (j : Int) < (l.length : Int) := by omega
      obtain ⟨a', c', he, -, vr⟩ := (HV.out.keep lims_int hBr).view
      obtain ⟨rfl, -, rfl⟩ := Value.slice.inj he
      obtain ⟨b, off, n2, a2, l2, cc2, rfl, d0, d1, hi⟩ := vr j hlt
      have bj := HBD.out j
      have HTK := Lib.hid (take_getD 0 hlt)
      obtain ⟨x, hx⟩ : ∃ x, l.getD j 0 = x := ⟨_, rfl⟩
      rw [hx] at hi bj HTK
      have tc := fun W (h : Below wr.heap.size wr W) => intText_c _ x k W (hi.keep h) bj hk
      have zd := cell_lt d0
      have hBw := Below.refl wr.heap.size wr
      clear hx he vr hi bj
      go_wp2_with fail
      refine (tc _ (by repeat (first | exact Below.refl _ _ | exact hBw | refine Below.drew ?_ | refine below_drewN ?_ _ | refine bset ?_ (by simp <;> omega) _ | refine bal ?_ _))).mono ?_
      rintro e w2 ⟨rfl, hb2⟩
      have hb2' : Below wr.heap.size wr w2 := bthen (by repeat (first | exact Below.refl _ _ | exact hBw | refine Below.drew ?_ | refine below_drewN ?_ _ | refine bset ?_ (by simp <;> omega) _ | refine bal ?_ _)) hb2
      have HO2 := Lib.hid (hO.out.below prs_ptx hb2')
      clear tc hO d0 d1
      go_wp2_with (at_builtin; refine appL elStr prs_ptx (fun h => h) (by rfl) (by rfl) (HO2.out.below prs_ptx (bal (Below.refl _ _) _)) (show PTx _ (.string ⟨(intTxt x).toArray⟩) (intTxt x) from rfl) (by rfl) (by rfl) (cell_new rfl rfl) (by rw [List.length_map, List.length_take]; omega) (by rw [List.length_map, List.length_take]; unfold maxLen; omega) ?_)
      intro v' w8 hO8 hk8
      have HO8 := Lib.hid (show OwnL 9 PTx w w8 v' ((l.take (j + 1)).map intTxt) from by rw [HTK.out, List.map_append, List.map_take]; exact hO8)
      clear hO8 hk8
      go_wp2
      exact ⟨⟨j + 1, by omega, by go_num, HO8⟩, by simp [intOf]; omega⟩
    · obtain rfl : j = l.length := by omega
      have hltI : ¬ (l.length : Int) < (l.length : Int) := by omega
      have HEQ := Lib.hid (brTxt_arr (l.map intTxt))
      have jc := fun W (h : Below wr.heap.size wr W) => join_c (.slice oa l.length oc) (l.map intTxt) w.heap.size W ((by have h2 := hO.out.isL; rw [List.take_length] at h2; exact h2 : IsL 9 PTx w.heap.size wr _ _).keep prs_ptx h) (by rw [List.length_map]; omega) HLEN.out
      have hJ := HLEN.out
      obtain ⟨J, hJE⟩ : ∃ J, Lib.join (l.map intTxt) [32] = J := ⟨_, rfl⟩
      rw [hJE] at jc HEQ hJ
      clear hJE hO
      have hJ1 : ¬ 9223372036854775807 < 1 + J.length := by omega
      have hJ2 : ¬ 9223372036854775807 < 1 + J.length + 1 := by omega
      have hBw := Below.refl wr.heap.size wr
      go_wp2_with fail
      refine (jc _ (by repeat (first | exact Below.refl _ _ | exact hBw | refine Below.drew ?_ | refine below_drewN ?_ _ | refine bset ?_ (by simp <;> omega) _ | refine bal ?_ _))).mono ?_
      rintro e w2 ⟨rfl, hb2⟩
      have hb3 := bthen hBr (bthen (by repeat (first | exact Below.refl _ _ | exact hBw | refine Below.drew ?_ | refine below_drewN ?_ _ | refine bset ?_ (by simp <;> omega) _ | refine bal ?_ _)) hb2)
      clear jc
      go_wp2
      go_ret
      exact ⟨congrArg (fun s => Ending.returned (.string s)) HEQ.out, by repeat (first | exact Below.refl _ _ | exact hb3 | refine Below.drew ?_ | refine below_drewN ?_ _ | refine bset ?_ (by simp <;> omega) _ | refine bal ?_ _)⟩
set_option maxRecDepth 100000 in
set_option maxHeartbeats 4000000 in
theorem matText_c (v : Value) (g : Grid) (k : Nat) (w : World) (hv : IsM 0 w v g) (hg : g.length ≤ 1099511627775) (hl : ∀ i, i < g.length → (g.getD i []).length ≤ 1099511627775) (hb : BdM k g) (hk : k ≤ 2147483648) (h1 : ∀ i, i < g.length → (Lib.join ((g.getD i []).map intTxt) [32]).length ≤ 140737488355328) (h2 : (Lib.join (g.map rowTxt) [32]).length ≤ 140737488355328) :
    Calls Tryd.prog 31 #[v] w fun e w' => e = .returned (.string ⟨(matTxt g).toArray⟩) ∧ Below w.heap.size w w' := by
  obtain ⟨ga, gc, rfl, hv⟩ := hv
  have HV := Lib.hid hv
  have HBD := Lib.hid hb
  have HLEN := Lib.hid (And.intro hl (And.intro h1 h2))
  clear hb hl h1 h2 hv
  have hB := Below.refl w.heap.size w
  go_enter Tryd.func31, Tryd.ntmps31
  go_wp2
  refine wp_name fun w1 hW1 => ?_
  have hB1 : Below w.heap.size w w1 := by rw [hW1]; repeat (first | exact Below.refl _ _ | exact hB | refine Below.drew ?_ | refine below_drewN ?_ _ | refine bset ?_ (by simp <;> omega) _ | refine bal ?_ _)
  clear hW1
  go_loopw [3, 9] (fun v x wr => ∃ j : Nat, j ≤ g.length ∧ x = .int .i64 j ∧ Hid (OwnL 9 PTx w wr v ((g.take j).map rowTxt))) (fun _ x _ => g.length - (intOf x).toNat)
  case atStart => exact ⟨0, Nat.zero_le _, rfl, Lib.hid (OwnL.nil _ _ hB1)⟩
  case round =>
    obtain ⟨j, hj, rfl, hO⟩ := hrel
    have hBr := hO.out.bel
    obtain ⟨oa, oc, hvv⟩ := hO.out.ex
    rw [List.length_map, List.length_take, Nat.min_eq_left hj] at hvv
    subst hvv
    by_cases hlt : j < g.length
    · have hltI : (j : Int) < (g.length : Int) := by omega
      obtain ⟨c', gb, go, ra, rc, e2, hu, hp⟩ := (HV.out.keep (prs_prow 0) hBr).row hlt
      obtain ⟨rfl, -, rfl⟩ := Value.slice.inj e2
      have bj := HBD.out j
      have HTK := Lib.hid (take_getD [] hlt)
      have hlj := HLEN.out.1 j hlt
      have h1j := HLEN.out.2.1 j hlt
      obtain ⟨x, hx⟩ : ∃ x, g.getD j [] = x := ⟨_, rfl⟩
      rw [hx] at hu hp HTK hlj h1j
      have bj2 : ∀ i, Bd k (x.getD i 0) := fun i => by rw [← hx]; exact bj i
      have tc := fun W (h : Below wr.heap.size wr W) => rowText_c _ x k W (hp.keep lims_int h) hlj bj2 hk h1j
      have zd := cell_lt hu
      have hBw := Below.refl wr.heap.size wr
      clear hx e2 hp bj bj2 hlj h1j
      go_wp2_with fail
      refine (tc _ (by repeat (first | exact Below.refl _ _ | exact hBw | refine Below.drew ?_ | refine below_drewN ?_ _ | refine bset ?_ (by simp <;> omega) _ | refine bal ?_ _))).mono ?_
      rintro e w2 ⟨rfl, hb2⟩
      have hb2' : Below wr.heap.size wr w2 := bthen (by repeat (first | exact Below.refl _ _ | exact hBw | refine Below.drew ?_ | refine below_drewN ?_ _ | refine bset ?_ (by simp <;> omega) _ | refine bal ?_ _)) hb2
      have HO2 := Lib.hid (hO.out.below prs_ptx hb2')
      clear tc hO hu
      go_wp2_with (at_builtin; refine appL elStr prs_ptx (fun h => h) (by rfl) (by rfl) (HO2.out.below prs_ptx (bal (Below.refl _ _) _)) (show PTx _ (.string ⟨(rowTxt x).toArray⟩) (rowTxt x) from rfl) (by rfl) (by rfl) (cell_new rfl rfl) (by rw [List.length_map, List.length_take]; omega) (by rw [List.length_map, List.length_take]; unfold maxLen; omega) ?_)
      intro v' w8 hO8 hk8
      have HO8 := Lib.hid (show OwnL 9 PTx w w8 v' ((g.take (j + 1)).map rowTxt) from by rw [HTK.out, List.map_append, List.map_take]; exact hO8)
      clear hO8 hk8
      go_wp2
      exact ⟨⟨j + 1, by omega, by go_num, HO8⟩, by simp [intOf]; omega⟩
    · obtain rfl : j = g.length := by omega
      have hltI : ¬ (g.length : Int) < (g.length : Int) := by omega
      have HEQ := Lib.hid (brTxt_arr (g.map rowTxt))
      have jc := fun W (h : Below wr.heap.size wr W) => join_c (.slice oa g.length oc) (g.map rowTxt) w.heap.size W ((by have h2 := hO.out.isL; rw [List.take_length] at h2; exact h2 : IsL 9 PTx w.heap.size wr _ _).keep prs_ptx h) (by rw [List.length_map]; omega) HLEN.out.2.2
      have hJ := HLEN.out.2.2
      obtain ⟨J, hJE⟩ : ∃ J, Lib.join (g.map rowTxt) [32] = J := ⟨_, rfl⟩
      rw [hJE] at jc HEQ hJ
      clear hJE hO
      have hJ1 : ¬ 9223372036854775807 < 1 + J.length := by omega
      have hJ2 : ¬ 9223372036854775807 < 1 + J.length + 1 := by omega
      have hBw := Below.refl wr.heap.size wr
      go_wp2_with fail
      refine (jc _ (by repeat (first | exact Below.refl _ _ | exact hBw | refine Below.drew ?_ | refine below_drewN ?_ _ | refine bset ?_ (by simp <;> omega) _ | refine bal ?_ _))).mono ?_
      rintro e w2 ⟨rfl, hb2⟩
      have hb3 := bthen hBr (bthen (by repeat (first | exact Below.refl _ _ | exact hBw | refine Below.drew ?_ | refine below_drewN ?_ _ | refine bset ?_ (by simp <;> omega) _ | refine bal ?_ _)) hb2)
      clear jc
      go_wp2
      go_ret
      exact ⟨congrArg (fun s => Ending.returned (.string s)) HEQ.out, by repeat (first | exact Below.refl _ _ | exact hb3 | refine Below.drew ?_ | refine below_drewN ?_ _ | refine bset ?_ (by simp <;> omega) _ | refine bal ?_ _)⟩
end Go.Proofs.YthaohpfbengabaaDoor

/- matrix's laws: list; Pivots as a value; works answers true. -/
namespace Go.Proofs.YthaohpfbengabaaDoor
open Num
open Go.ChangeShapes Go.WideShapes Go.ChangeAt Go.RowKit
set_option linter.unusedVariables false
set_option linter.unusedSimpArgs false
attribute [local go_sem ↓] Go.wp_at_zero Go.wp_at_succ
set_option maxRecDepth 100000 in
set_option maxHeartbeats 4000000 in
theorem list_c (v : Value) (l : List Int) (w : World) (hv : RowI w v l) (hl : l.length ≤ 1099511627000) :
    Calls Tryd.prog 29 #[v] w fun e w' => (∃ v', e = .returned v' ∧ RowO IsInt 33 w.heap.size w' v' l) ∧ Below w.heap.size w w' := by
  obtain ⟨ra, rc, rfl, hr⟩ := hv
  have HR := Lib.hid hr
  clear hr
  have hB := Below.refl w.heap.size w
  have hmk : ∀ w, (Instr.makeSlice 40 (.int .i64 0) (.int .i64 ((l.length : Int) + 2))).run Tryd.prog w = .ok (.slice (some ⟨w.heap.size, 0, none⟩) 0 (l.length + 2)) (w.alloc (.cells (zcel (l.length + 2)) 33)) := mkCap (l.length + 2) (by omega)
  go_enter Tryd.func29, Tryd.ntmps29
  go_wp2
  refine wp_name fun w3 hW3 => ?_
  have hO3 : Hid (OwnF IsInt 33 w w3 (.slice (some ⟨w.heap.size, 0, none⟩) 0 (l.length + 2)) 0 (fun i => l.getD i 0)) := Lib.hid (by rw [hW3]; exact ownF_cap w _ (by unfold maxLen; omega) _)
  clear hW3 hmk
  go_loopw [3, 12] (fun v x wr => ∃ j : Nat, j ≤ l.length ∧ x = .int .i64 j ∧ Hid (OwnF IsInt 33 w wr v j (fun i => l.getD i 0))) (fun _ x _ => l.length - (intOf x).toNat)
  case atStart => exact ⟨0, Nat.zero_le _, rfl, hO3⟩
  case round =>
    obtain ⟨j, hj, rfl, hF⟩ := hrel
    obtain ⟨fa, fc, hfv⟩ : ∃ a c, _ = Value.slice a j c := by obtain ⟨a, c, h, _⟩ := hF.out.view; exact ⟨a, c, h⟩
    subst hfv
    by_cases hlt2 : j < l.length
    · have hltJ : (j : Int) < (l.length : Int) := by omega
      obtain ⟨rb, ro, rfl, hc, hI⟩ := HR.out j hlt2
      have hc2 := bkeep hF.out.bel hc
      have zc := cell_lt hc2
      have oc := fun W => of_c (l.getD j 0) W hI.1 hI.2
      have HSN := Lib.hid (snoc_fun l j hlt2)
      obtain ⟨z, hz⟩ : ∃ z, l.getD j 0 = z := ⟨_, rfl⟩
      rw [hz] at hc2 oc HSN
      clear hc hI hz
      go_wp2_with fail
      refine (oc _).mono ?_
      rintro e w5 ⟨⟨v5, rfl, hi5⟩, hb5⟩
      have HF5 := Lib.hid (hF.out.below lims_int hb5)
      have HI5 := Lib.hid hi5
      obtain ⟨n5, a5, c5, l5, rfl, -⟩ := hi5
      unfold iv at *
      clear oc
      go_wp2_with (at_builtin; refine app_num elInt (by decide) lims_int (by rfl) (by rfl) HF5.out HI5.out (by rfl) (by rfl) (by omega) ?_)
      intro v' w8 hF8 _ _
      have HF8 := Lib.hid (hF8.congr' HSN.out)
      clear hF8
      go_wp2
      exact ⟨⟨j + 1, by omega, by go_num, HF8⟩, meas hlt2 (by go_num) rfl⟩
    · obtain rfl : j = l.length := by omega
      have HRO := Lib.hid hF.out.rowO
      have hBr := hF.out.bel
      go_wp2
      go_ret
      exact ⟨⟨_, rfl, HRO.out⟩, hBr⟩
set_option maxRecDepth 100000 in
theorem pivots_v (v : Value) (a : Option Addr) (n c : Nat) (w : World) (hv : v = .agg #[.slice a n c]) : Calls Tryd.prog 32 #[v] w fun e w' => e = .returned (.func (.func 61) #[] #[.pointer (some ⟨w.heap.size, 0, none⟩)]) ∧ Below w.heap.size w w' := by
  subst hv
  have hB := Below.refl w.heap.size w
  go_enter Tryd.func32, Tryd.ntmps32
  go_wp2
  go_ret
  exact ⟨rfl, by repeat (first | exact Below.refl _ _ | exact hB | refine Below.drew ?_ | refine below_drewN ?_ _ | refine bset ?_ (by simp <;> omega) _ | refine bal ?_ _)⟩
theorem rowI_two {w : World} {b : Nat} {x y : Int} {c : Nat} (h1 : w.cell? ⟨b, 0, none⟩ = some (.int .i64 x)) (h2 : w.cell? ⟨b, 1, none⟩ = some (.int .i64 y)) (hx : I64 x) (hy : I64 y) : RowI w (.slice (some ⟨b, 0, none⟩) 2 c) [x, y] := by
  refine ⟨_, c, rfl, fun k hk => ⟨b, 0, rfl, ?_⟩⟩
  match k, hk with
  | 0, _ => exact ⟨by simpa using h1, hx⟩
  | 1, _ => exact ⟨by simpa using h2, hy⟩
theorem isL_rows2 {w : World} {b : Nat} {u1 u2 : Value} {l1 l2 : List Int} {c : Nat} (h1 : w.cell? ⟨b, 0, none⟩ = some u1) (h2 : w.cell? ⟨b, 1, none⟩ = some u2) (hc : 2 ≤ c) (hc2 : c ≤ maxLen) (ht : typOf w b = some 40) (p1 : PRow 0 w u1 l1) (p2 : PRow 0 w u2 l2) :
    IsL 40 (PRow 0) 0 w (.slice (some ⟨b, 0, none⟩) 2 c) [l1, l2] := by
  refine ⟨_, c, rfl, hc, hc2, .inr ⟨b, 0, rfl, Nat.zero_le _, ht, fun k hk => ?_⟩⟩
  match k, hk with
  | 0, _ => exact ⟨u1, by simpa using h1, p1⟩
  | 1, _ => exact ⟨u2, by simpa using h2, p2⟩
theorem bdM_of {k : Nat} {g : Grid} (h : ∀ r ∈ g, ∀ x ∈ r, x.natAbs < 2 ^ k) : BdM k g := by
  intro i j
  unfold gat
  by_cases hi : i < g.length
  · have e : g.getD i [] = g[i] := by simp [hi]
    rw [e]
    by_cases hj : j < g[i].length
    · have e2 : g[i].getD j 0 = g[i][j] := by simp [hj]
      rw [e2]; exact h _ (List.getElem_mem _) _ (List.getElem_mem _)
    · rw [List.getD_eq_getElem?_getD, List.getElem?_eq_none (by omega)]; exact bd_zero
  · have e : g.getD i [] = [] := by rw [List.getD_eq_getElem?_getD, List.getElem?_eq_none (by omega)]; rfl
    rw [e]; exact bd_zero
/-- the example's matrices -/
def wG : Grid := [[1, 2], [3, 4]]
theorem wG_fits : fitsE wG = 0 := by decide
theorem wG_times : timesG wG wG = [[7, 10], [15, 22]] := by kernel_rfl
theorem wG_sq : sqB wG = true := by kernel_rfl
theorem wG_det : Det.detE wG.length (gat wG) = -2 := by kernel_rfl
theorem wG_inv : invG wG = [[-4, 2], [3, -1]] := by kernel_rfl
theorem wG_invD : invD wG = 2 := by kernel_rfl
theorem wG_txt1 : matTxt [[7, 10], [15, 22]] = [91, 91, 55, 32, 49, 48, 93, 32, 91, 49, 53, 32, 50, 50, 93, 93] := by kernel_rfl
theorem wG_txt2 : matTxt [[-4, 2], [3, -1]] = [91, 91, 45, 52, 32, 50, 93, 32, 91, 51, 32, 45, 49, 93, 93] := by kernel_rfl
theorem wG_txt3 : intTxt 2 = [50] := by kernel_rfl
end Go.Proofs.YthaohpfbengabaaDoor

