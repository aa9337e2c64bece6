/- Texts of this seat, laid together: MxO, TxtL, TxtI, TxtJ. Each opens with its own remark, which says what it proves, and under which conditions. -/
import Derived.Test.YthaohpfbengabaaGreatDoorQ13
import Derived.Test.YthaohpfbengabaaGreatDoorQ05
import Derived.Test.YthaohpfbengabaaGreatDoorQ03
import Derived.Deep.DeepFit
import Derived.Test.YthaohpfbengabaaGreatDoorQ04
import Derived.Laws.RangeString
import Derived.Lib.OthersKept
import Derived.Test.YthaohpfbengabaaGreatDoorQ01
import Derived.Maps.AppendAt
set_option linter.unusedVariables false
set_option linter.unusedSimpArgs false
/- matrix: Inverse. -/
namespace Go.Proofs.YthaohpfbengabaaGreatDoor
open Num
open Go.ChangeShapes Go.WideShapes Go.ChangeAt Go.RowKit
set_option linter.unusedVariables false
set_option linter.unusedSimpArgs false
attribute [local go_sem ↓] Go.wp_at_zero Go.wp_at_succ
/-- what divides a number and all of a grid -/
def comG (d : Int) (a : Grid) : Int := a.foldl (fun c r => gcdI c (contL r)) d
theorem comG_take {d : Int} {a : Grid} {j : Nat} (hj : j < a.length) : comG d (a.take (j + 1)) = gcdI (comG d (a.take j)) (contL (a.getD j [])) := by
  unfold comG
  rw [take_getD [] hj, List.foldl_append]; rfl
theorem contL_all {k : Nat} {l : List Int} (h : ∀ j, Bd k (l.getD j 0)) : Bd k (contL l) := by
  have := contL_bd h l.length (Nat.le_refl _)
  rwa [List.take_length] at this
theorem comG_bd {k : Nat} {d : Int} {a : Grid} (hd : Bd k d) (ha : BdM k a) : ∀ j, j ≤ a.length → Bd k (comG d (a.take j)) := by
  intro j
  induction j with
  | zero => intro _; exact hd
  | succ j ih =>
    intro hj
    rw [comG_take (by omega)]
    exact gcdI_bd (ih (by omega)) (contL_all fun i => ha j i)
theorem gcdI_nz {x y : Int} (h : x ≠ 0) : gcdI x y ≠ 0 := by
  unfold gcdI
  have : 0 < Nat.gcd x.natAbs y.natAbs := Nat.gcd_pos_of_pos_left _ (by omega)
  omega
theorem comG_nz {a : Grid} : ∀ {d : Int}, d ≠ 0 → comG d a ≠ 0 := by
  induction a with
  | nil => intro d h; exact h
  | cons r a ih => intro d h; exact ih (d := gcdI d (contL r)) (gcdI_nz h)
/-- the inverse's divisor, its numbers -/
def invS (g : Grid) : Int := if Det.detE g.length (gat g) < 0 then - comG (Det.detE g.length (gat g)) (adjG g) else comG (Det.detE g.length (gat g)) (adjG g)
def invG (g : Grid) : Grid := tab g.length g.length fun i j => gat (adjG g) i j / invS g
def invD (g : Grid) : Int := Det.detE g.length (gat g) / invS g
theorem adj_len (g : Grid) : (adjG g).length = g.length := tab_len _ _ _
theorem bd_neg {k : Nat} {x : Int} (h : Bd k x) : Bd k (-x) := by unfold Bd at *; rwa [Int.natAbs_neg]
theorem adj_bd {g : Grid} {K : Nat} (hK1 : 1 ≤ K) (h : BdM K g) : BdM (kb K g.length) (adjG g) := by
  intro i j
  unfold adjG
  by_cases e : i < g.length ∧ j < g.length
  · rw [tab_gat e.1 e.2]
    have h1 := detE_bd hK1 (left_bd (i := i) e.2 h) (left_all e.2)
    rw [left_det e.2] at h1
    have h2 := h1.mono (kb_mono K (show g.length - 1 ≤ g.length by omega))
    unfold Det.iadj
    split
    · exact bd_neg h2
    · exact h2
  · have h0 : gat (tab g.length g.length (Det.iadj g.length (gat g))) i j = 0 := by
      show ((tab g.length g.length (Det.iadj g.length (gat g))).getD i []).getD j 0 = 0
      by_cases e1 : i < g.length
      · rw [List.getD_eq_getElem?_getD, List.getElem?_eq_none (by rw [tab_rowlen e1]; omega)]; rfl
      · have h3 : (tab g.length g.length (Det.iadj g.length (gat g))).getD i [] = [] := by rw [List.getD_eq_getElem?_getD, List.getElem?_eq_none (by rw [tab_len]; omega)]; rfl
        rw [h3]; rfl
    rw [h0]; exact bd_zero
theorem IsM.rowAt {base : Nat} {w : World} {a : Option Addr} {n c : Nat} {g : Grid} (h : IsM base w (.agg #[.slice a n c]) g) {i : Nat} (hi : i < g.length) :
    ∃ gb go ra rc, a = some ⟨gb, go, none⟩ ∧ w.cell? ⟨gb, go + i, none⟩ = some (.slice ra (g.getD i []).length rc) ∧ PRow base w (.slice ra (g.getD i []).length rc) (g.getD i []) := by
  obtain ⟨a', c', e, hl⟩ := h
  cases e
  obtain ⟨c2, gb, go, ra, rc, e2, hu, hp⟩ := hl.row hi
  exact ⟨gb, go, ra, rc, (Value.slice.inj e2).1, hu, hp⟩
theorem prow_out {base : Nat} {w w' : World} {v : Value} {l : List Int} {X : Nat → Prop} (h : PRow base w v l) (ho : Out X w w') (hx : ∀ k, base ≤ k → ¬ X k) (hl : Lim w w') : PRow base w' v l := by
  obtain ⟨a, c, e, h1, h2, h3⟩ := h
  refine ⟨a, c, e, h1, h2, ?_⟩
  rcases h3 with h3 | ⟨b, off, e2, hb, ht, hi⟩
  · exact .inl h3
  · exact .inr ⟨b, off, e2, hb, by rw [typ_of_block (w := w) (ho.block b (typ_lt ht) (hx b hb))]; exact ht, hi.out lims_int ho (hx b hb) hl⟩
theorem IsM.out {base : Nat} {w w' : World} {v : Value} {g : Grid} {X : Nat → Prop} (h : IsM base w v g) (ho : Out X w w') (hx : ∀ k, base ≤ k → ¬ X k) (hl : Lim w w') : IsM base w' v g := by
  obtain ⟨a, c, e, a', c', e2, h1, h2, h3⟩ := h
  refine ⟨a, c, e, a', c', e2, h1, h2, ?_⟩
  rcases h3 with h3 | ⟨b, off, e2, hb, ht, hi⟩
  · exact .inl h3
  · refine .inr ⟨b, off, e2, hb, by rw [typ_of_block (w := w) (ho.block b (typ_lt ht) (hx b hb))]; exact ht, fun k hk => ?_⟩
    obtain ⟨u, hu, hp⟩ := hi k hk
    exact ⟨u, okeep ho hu (hx b hb), prow_out hp ho hx hl⟩
/-- what Inverse holds -/
structure InvB (w w1 : World) (ag : Option Addr) (N cg : Nat) (bv : Value) (db gb : Nat) (d S : Int) (W : World) : Prop where
  g : VarI gb S W
  dd : VarI db d W
  m0 : W.cell? ⟨w.heap.size, 0, none⟩ = some (.slice ag N cg)
  r0 : W.cell? ⟨w.heap.size + 1, 0, none⟩ = some (.slice none 0 0)
  r0f : W.frozen? ⟨w.heap.size + 1, 0, none⟩ = false
  s0 : W.cell? ⟨w.heap.size + 1 + 1, 0, none⟩ = some (.bool false)
  s1 : W.cell? ⟨w.heap.size + 1 + 1, 1, none⟩ = some (.slice none 0 0)
  s0f : W.frozen? ⟨w.heap.size + 1 + 1, 0, none⟩ = false
  s1f : W.frozen? ⟨w.heap.size + 1 + 1, 1, none⟩ = false
  b5 : W.cell? ⟨w1.heap.size, 0, none⟩ = some bv
  b1 : Below w1.heap.size w1 W
  bel : Below w.heap.size w W
section
variable {w w1 : World} {ag : Option Addr} {N cg : Nat} {bv : Value} {db gb : Nat} {d S : Int} {W W' : World}
theorem InvB.keep (h : InvB w w1 ag N cg bv db gb d S W) (k : Below W.heap.size W W') : InvB w w1 ag N cg bv db gb d S W' :=
  ⟨h.g.keep k, h.dd.keep k, bkeep k h.m0, bkeep k h.r0, bkeepf k h.r0 h.r0f, bkeep k h.s0, bkeep k h.s1, bkeepf k h.s0 h.s0f, bkeepf k h.s1 h.s1f, bkeep k h.b5, bthen h.b1 k, bthen h.bel k⟩
theorem frz2 {W : World} {vb : Nat} {x : Bool} {y : Option Addr} {p r : Nat} {a : Addr} (h : W.frozen? a = false) : ((W.setCell ⟨vb, 0, none⟩ (.bool x)).setCell ⟨vb, 1, none⟩ (.slice y p r)).frozen? a = false := by
  rw [World.frozen?_setCell, World.frozen?_setCell]; exact h
theorem InvB.putG (h : InvB w w1 ag N cg bv db gb d S W) (h1 : w.heap.size + 1 + 1 < w1.heap.size) (h2 : w1.heap.size < db) (h3 : db < gb) {n : Bool} {a : Option Addr} {l c : Nat} {z : Int} (hi : IsInt W (.agg #[.bool n, .slice a l c]) z) : InvB w w1 ag N cg bv db gb d z ((W.setCell ⟨gb, 0, none⟩ (.bool n)).setCell ⟨gb, 1, none⟩ (.slice a l c)) := by
  have n0 : ¬ gb = w.heap.size := by omega
  have n1 : ¬ gb = w.heap.size + 1 := by omega
  have n2 : ¬ gb = w.heap.size + 1 + 1 := by omega
  have n3 : ¬ gb = w1.heap.size := by omega
  exact ⟨h.g.put hi, h.dd.far h.g (by omega) _ _ _ _, cell_far2 h.m0 n0 _ _ _ _, cell_far2 h.r0 n1 _ _ _ _, frz2 h.r0f, cell_far2 h.s0 n2 _ _ _ _, cell_far2 h.s1 n2 _ _ _ _, frz2 h.s0f, frz2 h.s1f, cell_far2 h.b5 n3 _ _ _ _, bset (bset h.b1 (by show w1.heap.size ≤ gb; omega) _) (by show w1.heap.size ≤ gb; omega) _, bset (bset h.bel (by show w.heap.size ≤ gb; omega) _) (by show w.heap.size ≤ gb; omega) _⟩
theorem InvB.putD (h : InvB w w1 ag N cg bv db gb d S W) (h1 : w.heap.size + 1 + 1 < w1.heap.size) (h2 : w1.heap.size < db) (h3 : db < gb) {n : Bool} {a : Option Addr} {l c : Nat} {z : Int} (hi : IsInt W (.agg #[.bool n, .slice a l c]) z) : InvB w w1 ag N cg bv db gb z S ((W.setCell ⟨db, 0, none⟩ (.bool n)).setCell ⟨db, 1, none⟩ (.slice a l c)) := by
  have n0 : ¬ db = w.heap.size := by omega
  have n1 : ¬ db = w.heap.size + 1 := by omega
  have n2 : ¬ db = w.heap.size + 1 + 1 := by omega
  have n3 : ¬ db = w1.heap.size := by omega
  exact ⟨h.g.far h.dd (by omega) _ _ _ _, h.dd.put hi, cell_far2 h.m0 n0 _ _ _ _, cell_far2 h.r0 n1 _ _ _ _, frz2 h.r0f, cell_far2 h.s0 n2 _ _ _ _, cell_far2 h.s1 n2 _ _ _ _, frz2 h.s0f, frz2 h.s1f, cell_far2 h.b5 n3 _ _ _ _, bset (bset h.b1 (by show w1.heap.size ≤ db; omega) _) (by show w1.heap.size ≤ db; omega) _, bset (bset h.bel (by show w.heap.size ≤ db; omega) _) (by show w.heap.size ≤ db; omega) _⟩
end
theorem IsM.boxM {w : World} {b : Nat} {a : Option Addr} {n c : Nat} {g : Grid} (h : IsM 0 w (.agg #[.slice a n c]) g) (hc : w.cell? ⟨b, 0, none⟩ = some (.slice a n c)) : BoxM b w g := by
  obtain ⟨a', c', e, hl⟩ := h
  cases e
  exact ⟨_, _, hc, hl⟩
theorem three_far {W : World} {p : Addr} (v : Value) {a1 a2 a3 : Addr} {v1 v2 v3 : Value} (h : W.cell? a1 = some v1 ∧ W.cell? a2 = some v2 ∧ W.cell? a3 = some v3) (n1 : p ≠ a1) (n2 : p ≠ a2) (n3 : p ≠ a3) :
    (W.setCell p v).cell? a1 = some v1 ∧ (W.setCell p v).cell? a2 = some v2 ∧ (W.setCell p v).cell? a3 = some v3 := ⟨cell_far h.1 n1 v, cell_far h.2.1 n2 v, cell_far h.2.2 n3 v⟩
/-- what Inverse answers -/
def InvPost (g : Grid) (w : World) (e : Ending) (w' : World) : Prop :=
  ((sqB g = true ∧ Det.detE g.length (gat g) ≠ 0 ∧ ∃ v u, e = .returned (.tuple #[v, u, .int .i64 0]) ∧ IsM w.heap.size w' v (invG g) ∧ IsInt w' u (invD g)) ∨
   (sqB g = true ∧ Det.detE g.length (gat g) = 0 ∧ e = .returned (.tuple #[.agg #[.slice none 0 0], .agg #[.bool false, .slice none 0 0], .int .i64 50])) ∨
   (sqB g = false ∧ e = .returned (.tuple #[.agg #[.slice none 0 0], .agg #[.bool false, .slice none 0 0], .int .i64 5]))) ∧ Below w.heap.size w w'
set_option maxRecDepth 100000 in
set_option maxHeartbeats 16000000 in
theorem invM_c (v : Value) (g : Grid) (K : Nat) (w : World) (hv : IsM 0 w v g) (hr : Rct g (cols g)) (hn : g.length ≤ 65536) (hK1 : 1 ≤ K) (hbd : BdM K g) (hK : kb K g.length ≤ 4294967296) :
    Calls Tryz.prog 49 #[v] w (InvPost g w) := by
  have AC := Lib.hid (fun W (q : Below w.heap.size w W) => adjM_c v g K W (hv.keep q) hr hn hK1 hbd (Nat.le_trans (kb_mono K (Nat.sub_le _ _)) hK))
  have DC := Lib.hid (fun W (q : Below w.heap.size w W) => detM_c v g K W (hv.keep q) hr hn hK1 hbd hK)
  have HAB := Lib.hid (adj_bd hK1 hbd)
  have HDB := Lib.hid (detE_bd hK1 hbd rfl)
  obtain ⟨ag, cg, rfl, -⟩ := hv
  have RC := Lib.hid (fun V => rowsM_c ag g.length cg V)
  have HAL := Lib.hid (adj_len g)
  have HAR := Lib.hid (show Rct (adjG g) g.length from tab_rect _ _ _)
  clear hr hbd
  unfold InvPost
  have HIS := Lib.hid (show invS g = if Det.detE g.length (gat g) < 0 then - comG (Det.detE g.length (gat g)) (adjG g) else comG (Det.detE g.length (gat g)) (adjG g) from rfl)
  have HIG := Lib.hid (show invG g = tab g.length g.length fun i j => gat (adjG g) i j / invS g from rfl)
  have HNP := Lib.hid (fun (h : sqB g = true) => sq_pos h)
  have HID := Lib.hid (show invD g = Det.detE g.length (gat g) / invS g from rfl)
  obtain ⟨N, hN⟩ : ∃ N, g.length = N := ⟨_, rfl⟩
  obtain ⟨kk, hkk⟩ : ∃ x, kb K g.length = x := ⟨_, rfl⟩
  obtain ⟨A, hA⟩ : ∃ A, adjG g = A := ⟨_, rfl⟩
  unfold DetPost at DC
  rw [hkk] at HAB HDB hK
  rw [hA] at HAB AC HIS HIG HAL HAR
  try rw [hN] at AC
  try rw [hN] at DC
  try rw [hN] at RC
  try rw [hN] at HAB
  try rw [hN] at HDB
  try rw [hN] at HIS
  try rw [hN] at HIG
  try rw [hN] at HID
  try rw [hN] at HAL
  try rw [hN] at HAR
  try rw [hN] at hn
  try rw [hN] at HNP
  try rw [hN]
  obtain ⟨d, hd⟩ : ∃ d, Det.detE N (gat g) = d := ⟨_, rfl⟩
  try rw [hd] at DC
  try rw [hd] at HDB
  try rw [hd] at HIS
  try rw [hd] at HID
  try rw [hd]
  clear hN hkk hA hd
  obtain ⟨S, hS⟩ : ∃ s, invS g = s := ⟨_, rfl⟩
  rw [hS] at HIS HIG HID
  clear hS
  have hB := Below.refl w.heap.size w
  obtain ⟨b, hb⟩ : ∃ b, sqB g = b := ⟨_, rfl⟩
  have HBQ := Lib.hid hb
  cases b with
  | false =>
    go_enter Tryz.func49, Tryz.ntmps49
    go_wp2_with fail
    refine (AC.out _ (by repeat (first | exact Below.refl _ _ | exact hB | refine Below.drew ?_ | refine below_drewN ?_ _ | refine bset ?_ (by simp <;> omega) _ | refine bal ?_ _))).mono ?_
    rintro e w1 ⟨(⟨hs, -⟩ | ⟨-, rfl⟩), hb1⟩
    · rw [HBQ.out] at hs; cases hs
    have m0 : w1.cell? ⟨w.heap.size, 0, none⟩ = some (.slice ag N cg) := bkc hb1
    have zm0 := cell_lt m0
    have r0 : w1.cell? ⟨w.heap.size + 1, 0, none⟩ = some (.slice none 0 0) := bkc hb1
    have zr0 := cell_lt r0
    have r0f : w1.frozen? ⟨w.heap.size + 1, 0, none⟩ = false := bkcf (v := .slice none 0 0) hb1
    have s0 : w1.cell? ⟨w.heap.size + 1 + 1, 0, none⟩ = some (.bool false) := bkc hb1
    have zs0 := cell_lt s0
    have s0f : w1.frozen? ⟨w.heap.size + 1 + 1, 0, none⟩ = false := bkcf (v := .bool false) hb1
    have s1 : w1.cell? ⟨w.heap.size + 1 + 1, 1, none⟩ = some (.slice none 0 0) := bkc hb1
    have s1f : w1.frozen? ⟨w.heap.size + 1 + 1, 1, none⟩ = false := bkcf (v := .slice none 0 0) hb1
    have hB : Below w.heap.size w w1 := bthen (by repeat (first | exact Below.refl _ _ | exact hB | refine Below.drew ?_ | refine below_drewN ?_ _ | refine bset ?_ (by simp <;> omega) _ | refine bal ?_ _)) hb1
    have hz : w.heap.size ≤ w1.heap.size := hB.size
    clear AC DC
    go_wp2
    refine bodyPost_ret (v := .tuple #[.agg #[.slice none 0 0], .agg #[.bool false, .slice none 0 0], .int .i64 5]) (by simp [results, Tryz.results49, go_sem, *]) rfl ⟨.inr (.inr ⟨HBQ.out, rfl⟩), ?_⟩
    repeat (first | exact Below.refl _ _ | exact hB | refine Below.drew ?_ | refine below_drewN ?_ _ | refine bset ?_ (by simp <;> omega) _ | refine bal ?_ _)
  | true =>
    clear hb
    go_enter Tryz.func49, Tryz.ntmps49
    go_wp2_with fail
    refine (AC.out _ (by repeat (first | exact Below.refl _ _ | exact hB | refine Below.drew ?_ | refine below_drewN ?_ _ | refine bset ?_ (by simp <;> omega) _ | refine bal ?_ _))).mono ?_
    rintro e w1 ⟨(⟨-, v1, rfl, hv1⟩ | ⟨hs, -⟩), hb1⟩
    rotate_left
    · exact absurd HBQ.out hs
    have m0 : w1.cell? ⟨w.heap.size, 0, none⟩ = some (.slice ag N cg) := bkc hb1
    have zm0 := cell_lt m0
    have r0 : w1.cell? ⟨w.heap.size + 1, 0, none⟩ = some (.slice none 0 0) := bkc hb1
    have zr0 := cell_lt r0
    have r0f : w1.frozen? ⟨w.heap.size + 1, 0, none⟩ = false := bkcf (v := .slice none 0 0) hb1
    have s0 : w1.cell? ⟨w.heap.size + 1 + 1, 0, none⟩ = some (.bool false) := bkc hb1
    have zs0 := cell_lt s0
    have s0f : w1.frozen? ⟨w.heap.size + 1 + 1, 0, none⟩ = false := bkcf (v := .bool false) hb1
    have s1 : w1.cell? ⟨w.heap.size + 1 + 1, 1, none⟩ = some (.slice none 0 0) := bkc hb1
    have s1f : w1.frozen? ⟨w.heap.size + 1 + 1, 1, none⟩ = false := bkcf (v := .slice none 0 0) hb1
    have hB : Below w.heap.size w w1 := bthen (by repeat (first | exact Below.refl _ _ | exact hB | refine Below.drew ?_ | refine below_drewN ?_ _ | refine bset ?_ (by simp <;> omega) _ | refine bal ?_ _)) hb1
    have hz : w.heap.size ≤ w1.heap.size := hB.size
    have HV1 := Lib.hid (hv1.rebase (Nat.zero_le _))
    obtain ⟨a1, c1, rfl⟩ := hv1.lit
    rw [HAL.out] at HV1 ⊢
    clear hv1 AC
    go_wp2_with fail
    (with_reducible refine (DC.out _ ?_).mono ?_); (repeat (first | exact Below.refl _ _ | exact hB | refine Below.drew ?_ | refine below_drewN ?_ _ | refine bset ?_ (by simp <;> omega) _ | refine bal ?_ _))
    rintro e w2 ⟨(⟨-, u, rfl, hu⟩ | ⟨hs, -⟩), hb2⟩
    rotate_left
    · rw [HBQ.out] at hs; cases hs
    have m0 : w2.cell? ⟨w.heap.size, 0, none⟩ = some (.slice ag N cg) := bkc hb2
    have zm0 := cell_lt m0
    have r0 : w2.cell? ⟨w.heap.size + 1, 0, none⟩ = some (.slice none 0 0) := bkc hb2
    have zr0 := cell_lt r0
    have r0f : w2.frozen? ⟨w.heap.size + 1, 0, none⟩ = false := bkcf (v := .slice none 0 0) hb2
    have s0 : w2.cell? ⟨w.heap.size + 1 + 1, 0, none⟩ = some (.bool false) := bkc hb2
    have zs0 := cell_lt s0
    have s0f : w2.frozen? ⟨w.heap.size + 1 + 1, 0, none⟩ = false := bkcf (v := .bool false) hb2
    have s1 : w2.cell? ⟨w.heap.size + 1 + 1, 1, none⟩ = some (.slice none 0 0) := bkc hb2
    have s1f : w2.frozen? ⟨w.heap.size + 1 + 1, 1, none⟩ = false := bkcf (v := .slice none 0 0) hb2
    have hB : Below w.heap.size w w2 := bthen (by repeat (first | exact Below.refl _ _ | exact hB | refine Below.drew ?_ | refine below_drewN ?_ _ | refine bset ?_ (by simp <;> omega) _ | refine bal ?_ _)) hb2
    have hz : w.heap.size ≤ w2.heap.size := hB.size
    have hb12 : Below w1.heap.size w1 w2 := bthen (bal (Below.refl _ _) _) hb2
    have b5 : w2.cell? ⟨w1.heap.size, 0, none⟩ = some (.slice a1 N c1) := bkeep hb2 (cell_new rfl rfl)
    have HU := Lib.hid hu
    obtain ⟨nu, au, cu, lu, rfl, -⟩ := hu
    unfold iv at *
    clear DC
    have sc := fun W (q : Below w2.heap.size w2 W) => sign_c _ d W (HU.out.keep q)
    have hBw := Below.refl w2.heap.size w2
    by_cases hd0 : d = 0
    · have HD0 := Lib.hid hd0
      rw [hd0, Int.sign_zero] at sc
      clear hd0
      go_wp2_with fail
      (with_reducible refine (sc _ ?_).mono ?_); (repeat (first | exact Below.refl _ _ | exact hBw | refine Below.drew ?_ | refine below_drewN ?_ _ | refine bset ?_ (by simp <;> omega) _ | refine bal ?_ _))
      rintro e w3 ⟨rfl, hb3⟩
      have m0 : w3.cell? ⟨w.heap.size, 0, none⟩ = some (.slice ag N cg) := bkc hb3
      have zm0 := cell_lt m0
      have r0 : w3.cell? ⟨w.heap.size + 1, 0, none⟩ = some (.slice none 0 0) := bkc hb3
      have zr0 := cell_lt r0
      have r0f : w3.frozen? ⟨w.heap.size + 1, 0, none⟩ = false := bkcf (v := .slice none 0 0) hb3
      have s0 : w3.cell? ⟨w.heap.size + 1 + 1, 0, none⟩ = some (.bool false) := bkc hb3
      have zs0 := cell_lt s0
      have s0f : w3.frozen? ⟨w.heap.size + 1 + 1, 0, none⟩ = false := bkcf (v := .bool false) hb3
      have s1 : w3.cell? ⟨w.heap.size + 1 + 1, 1, none⟩ = some (.slice none 0 0) := bkc hb3
      have s1f : w3.frozen? ⟨w.heap.size + 1 + 1, 1, none⟩ = false := bkcf (v := .slice none 0 0) hb3
      have hB : Below w.heap.size w w3 := bthen (by repeat (first | exact Below.refl _ _ | exact hB | refine Below.drew ?_ | refine below_drewN ?_ _ | refine bset ?_ (by simp <;> omega) _ | refine bal ?_ _)) hb3
      have hz : w.heap.size ≤ w3.heap.size := hB.size
      clear sc
      go_wp2
      refine bodyPost_ret (v := .tuple #[.agg #[.slice none 0 0], .agg #[.bool false, .slice none 0 0], .int .i64 50]) (by simp [results, Tryz.results49, go_sem, *]) rfl ⟨.inr (.inl ⟨HBQ.out, HD0.out, rfl⟩), ?_⟩
      repeat (first | exact Below.refl _ _ | exact hB | refine Below.drew ?_ | refine below_drewN ?_ _ | refine bset ?_ (by simp <;> omega) _ | refine bal ?_ _)
    · obtain ⟨sg, hsg, hsgE⟩ : ∃ q : Int, q ≠ 0 ∧ d.sign = q := ⟨_, (fun e => hd0 (Int.sign_eq_zero_iff_zero.1 e)), rfl⟩
      rw [hsgE] at sc
      have hsb : (sg == 0) = false := by simpa using hsg
      have HD0 := Lib.hid hd0
      clear hsgE hsg hd0
      go_wp2_with fail
      (with_reducible refine (sc _ ?_).mono ?_); (repeat (first | exact Below.refl _ _ | exact hBw | refine Below.drew ?_ | refine below_drewN ?_ _ | refine bset ?_ (by simp <;> omega) _ | refine bal ?_ _))
      rintro e w3 ⟨rfl, hb3⟩
      have m0 : w3.cell? ⟨w.heap.size, 0, none⟩ = some (.slice ag N cg) := bkc hb3
      have zm0 := cell_lt m0
      have r0 : w3.cell? ⟨w.heap.size + 1, 0, none⟩ = some (.slice none 0 0) := bkc hb3
      have zr0 := cell_lt r0
      have r0f : w3.frozen? ⟨w.heap.size + 1, 0, none⟩ = false := bkcf (v := .slice none 0 0) hb3
      have s0 : w3.cell? ⟨w.heap.size + 1 + 1, 0, none⟩ = some (.bool false) := bkc hb3
      have zs0 := cell_lt s0
      have s0f : w3.frozen? ⟨w.heap.size + 1 + 1, 0, none⟩ = false := bkcf (v := .bool false) hb3
      have s1 : w3.cell? ⟨w.heap.size + 1 + 1, 1, none⟩ = some (.slice none 0 0) := bkc hb3
      have s1f : w3.frozen? ⟨w.heap.size + 1 + 1, 1, none⟩ = false := bkcf (v := .slice none 0 0) hb3
      have hB : Below w.heap.size w w3 := bthen (by repeat (first | exact Below.refl _ _ | exact hB | refine Below.drew ?_ | refine below_drewN ?_ _ | refine bset ?_ (by simp <;> omega) _ | refine bal ?_ _)) hb3
      have hz : w.heap.size ≤ w3.heap.size := hB.size
      have hba : Below w2.heap.size w2 (w2.alloc (.cells #[.bool nu, .slice au lu.length cu] 36)) := bal (Below.refl _ _) _
      have hb23 : Below w2.heap.size w2 w3 := bthen hba hb3
      have HD3 := Lib.hid ((show VarI w2.heap.size d (w2.alloc (.cells #[.bool nu, .slice au lu.length cu] 36)) from ⟨typ_fresh rfl, nu, au, lu.length, cu, by simp [go_sem], by simp [go_sem], by simp [go_sem], by simp [go_sem], HU.out.keep hba⟩).keep hb3)
      have hb13 := bthen hb12 hb23
      replace b5 := bkeep hb23 b5
      obtain ⟨-, n3, d3, l3, c3, e0, e1, -, -, eI⟩ := HD3.out
      have HE3 := Lib.hid eI
      have ze := cell_lt e0
      have zb5 := cell_lt b5
      clear sc eI hba
      go_wp2
      refine wp_name fun w4 hW4 => ?_
      have hb34 : Below w3.heap.size w3 w4 := by rw [hW4]; (have hBy := Below.refl w3.heap.size w3; repeat (first | exact Below.refl _ _ | exact hBy | refine Below.drew ?_ | refine below_drewN ?_ _ | refine bset ?_ (by simp <;> omega) _ | refine bal ?_ _))
      have HG4 := Lib.hid (show VarI w3.heap.size d w4 from by rw [hW4]; exact ⟨typ_fresh rfl, n3, d3, l3, c3, by simp [go_sem], by simp [go_sem], by simp [go_sem], by simp [go_sem], HE3.out.keep (bal (Below.refl _ _) _)⟩)
      have HD4 := Lib.hid (HD3.out.keep hb34)
      have hb14 := bthen hb13 hb34
      have hdb : w2.heap.size < w3.heap.size := ze
      have ha5 : w1.heap.size < w3.heap.size := zb5
      have h12 : w1.heap.size < w2.heap.size := by have := cell_lt (bkeep (Below.refl _ _) b5); exact Nat.lt_of_lt_of_le (Nat.lt_succ_self _) (Nat.le_trans (by simp [go_sem]) hb2.size)
      have hw1 : w.heap.size + 1 + 1 < w1.heap.size := by have := hb1.size; simp [go_sem] at this; omega
      replace b5 := bkeep hb34 b5
      have hB4 : Below w.heap.size w w4 := bthen hB hb34
      have HF4 := Lib.hid (show w4.cell? ⟨w.heap.size, 0, none⟩ = some (.slice ag N cg) ∧ w4.cell? ⟨w.heap.size + 1, 0, none⟩ = some (.slice none 0 0) ∧ w4.frozen? ⟨w.heap.size + 1, 0, none⟩ = false ∧ w4.cell? ⟨w.heap.size + 1 + 1, 0, none⟩ = some (.bool false) ∧ w4.cell? ⟨w.heap.size + 1 + 1, 1, none⟩ = some (.slice none 0 0) ∧ w4.frozen? ⟨w.heap.size + 1 + 1, 0, none⟩ = false ∧ w4.frozen? ⟨w.heap.size + 1 + 1, 1, none⟩ = false from
        ⟨bkeep hb34 m0, bkeep hb34 r0, bkeepf hb34 r0 r0f, bkeep hb34 s0, bkeep hb34 s1, bkeepf hb34 s0 s0f, bkeepf hb34 s1 s1f⟩)
      have hN0 := HNP.out HBQ.out
      obtain ⟨mb, mo, rfl⟩ : ∃ b o, a1 = some ⟨b, o, none⟩ := by
        obtain ⟨gb, go, ra, rc, e, -⟩ := HV1.out.rowAt (i := 0) (by rw [HAL.out]; exact hN0)
        exact ⟨gb, go, e⟩
      obtain ⟨gb, hgb⟩ : ∃ x, w3.heap.size = x := ⟨_, rfl⟩
      obtain ⟨db, hdbE⟩ : ∃ x, w2.heap.size = x := ⟨_, rfl⟩
      rw [hgb] at HG4 hdb ha5
      rw [hdbE] at HD4 hdb h12
      rw [hgb, hdbE]
      have hkk : kk ≤ 17179869184 := Nat.le_trans hK (by decide)
      have hN1 : N ≤ 1099511627775 := Nat.le_trans hn (by decide)
      clear hW4 hgb hdbE hb34 hb13 hb23 hb3 hb12 hb2 hb1 ze zb5 e0 e1 HE3 HD3 HU m0 r0 r0f s0 s0f s1 s1f hB hBw hsb
      have zb5 := cell_lt b5
      go_wp2
      go_loopw [36] (fun x wr => ∃ j : Nat, j ≤ N ∧ x = .int .i64 j ∧ Out (fun q => q = gb) w4 wr ∧ Hid (Lim w4 wr) ∧ Hid (VarI gb (comG d (A.take j)) wr)) (fun x _ => N - (intOf x).toNat)
      case atStart => exact ⟨0, Nat.zero_le _, rfl, Out.refl _ _, Lib.hid (Lim.refl _), HG4⟩
      case round =>
        obtain ⟨j, hj, rfl, hO, HL, hG⟩ := hrel
        have hb1r : Below w1.heap.size w1 wr := hb14.trans (hO.to_below (fun k hk _ e => absurd (e ▸ hk) (Nat.not_lt.2 (Nat.le_of_lt ha5))) hb14.size)
        by_cases hlt : j < N
        · have hltI : (j : Int) < (N : Int) := by omega
          obtain ⟨mb2, mo2, ra, rc, e2, hu, hp⟩ := (HV1.out.keep hb1r).rowAt (i := j) (by rw [HAL.out]; exact hlt)
          obtain ⟨rfl, rfl⟩ : mb = mb2 ∧ mo = mo2 := by simp at e2; exact e2
          have hrl := HAR.out j (by rw [HAL.out]; exact hlt)
          have hbj : ∀ i, Bd kk ((A.getD j []).getD i 0) := fun i => HAB.out j i
          have HCT := Lib.hid (comG_take (d := d) (show j < A.length by rw [HAL.out]; exact hlt))
          have hbc := comG_bd HDB.out HAB.out j (by rw [HAL.out]; exact hj)
          have hbl := contL_all hbj
          obtain ⟨row, hrow⟩ : ∃ row, A.getD j [] = row := ⟨_, rfl⟩
          rw [hrow] at hu hp hrl hbj HCT hbl
          rw [hrl] at hu hp
          obtain ⟨cur, hcur⟩ : ∃ x, comG d (A.take j) = x := ⟨_, rfl⟩
          rw [hcur] at hG HCT hbc
          obtain ⟨-, n3, a3, l3, c3, q0, q1, q0f, q1f, qI⟩ := hG.out
          have HQ := Lib.hid qI
          have HP := Lib.hid hp
          have HRL := Lib.hid hrl
          have cc := fun W (q : Below wr.heap.size wr W) => content_c (.slice ra N rc) row kk W (HP.out.keep lims_int q) (by rw [HRL.out]; exact hN1) hbj hkk
          have gc := fun vy W (q : Below wr.heap.size wr W) (hy : IsInt W vy (contL row)) => gcdI_c (.agg #[.bool n3, .slice a3 l3 c3]) vy cur (contL row) kk W (HQ.out.keep q) hy hbc hbl hkk
          have zq := cell_lt q0
          have zu := cell_lt hu
          have hBw := Below.refl wr.heap.size wr
          clear e2 hp qI hrow hcur hrl hbc hbl hbj
          go_wp2
          go_region_law (go_simp; go_wp2_with (first
            | (go_at_call 105; (with_reducible refine (cc _ ?_).mono ?_); (repeat (first | exact Below.refl _ _ | exact hBw | refine Below.drew ?_ | refine below_drewN ?_ _ | refine bset ?_ (by simp <;> omega) _ | refine bal ?_ _)); rintro e w5 ⟨⟨v5, rfl, hi5⟩, hb5⟩; have hB5 : Below wr.heap.size wr w5 := bthen (by repeat (first | exact Below.refl _ _ | exact hBw | refine Below.drew ?_ | refine below_drewN ?_ _ | refine bset ?_ (by simp <;> omega) _ | refine bal ?_ _)) hb5; have HI5 := Lib.hid hi5; have q05 := bkeep hB5 q0; have q15 := bkeep hB5 q1; have zq5 := cell_lt q05; obtain ⟨n5, a5, c5, l5, rfl, -⟩ := hi5; unfold iv at *)
            | (go_at_call 63; (with_reducible refine (gc _ _ ?_ ?_).mono ?_); (repeat (first | exact Below.refl _ _ | exact hB5 | refine Below.drew ?_ | refine below_drewN ?_ _ | refine bset ?_ (by simp <;> omega) _ | refine bal ?_ _)); (refine HI5.out.keep ?_; have hBz := Below.refl w5.heap.size w5; (repeat (first | exact Below.refl _ _ | exact hBz | refine Below.drew ?_ | refine below_drewN ?_ _ | refine bset ?_ (by simp <;> omega) _ | refine bal ?_ _))); rintro e w6 ⟨⟨v6, rfl, hi6⟩, hb6⟩; have hB6 : Below wr.heap.size wr w6 := bthen (by repeat (first | exact Below.refl _ _ | exact hB5 | refine Below.drew ?_ | refine below_drewN ?_ _ | refine bset ?_ (by simp <;> omega) _ | refine bal ?_ _)) hb6; have HI6 := Lib.hid hi6; have q06 := bkeep hB6 q0; have q16 := bkeep hB6 q1; have q06f := bkeepf hB6 q0 q0f; have q16f := bkeepf hB6 q1 q1f; have zq6 := cell_lt q06; obtain ⟨n6, a6, c6, l6, rfl, -⟩ := hi6; unfold iv at *)))
          all_goals
            have HG6 := Lib.hid ((hG.out.keep hB6).put HI6.out)
            rw [← HCT.out] at HG6
            have HL6 := Lib.hid ((HL.out.below hB6).trans (Lim.set2 q06 q16 (.bool n6) (.slice a6 l6.length c6)))
            have hO6 : Out (fun q => q = gb) w4 ((w6.setCell ⟨gb, 0, none⟩ (.bool n6)).setCell ⟨gb, 1, none⟩ (.slice a6 l6.length c6)) := (hO.below hB6).set2 (fun _ => rfl) _ _
            clear HG4 hO HL hG cc gc HQ HP HCT q0 q1 q0f q1f q05 q15 q06 q16 q06f q16f hu hb5 hb6 hB5 hB6 HI5 HI6 hb1r hBw
            go_wp2
            exact ⟨⟨j + 1, hlt, by go_num, hO6, HL6, HG6⟩, meas hlt (by go_num) rfl⟩
        · obtain rfl : j = N := Nat.le_antisymm hj (Nat.le_of_not_lt hlt)
          have hltI : ¬ (j : Int) < (j : Int) := Int.lt_irrefl _
          rw [show A.take j = A from by rw [← HAL.out, List.take_length]] at hG
          have hcn := comG_nz (a := A) HD0.out
          have hcb : Bd kk (comG d A) := by have h := comG_bd HDB.out HAB.out A.length (Nat.le_refl _); rwa [List.take_length] at h
          obtain ⟨c, hc⟩ : ∃ c, comG d A = c := ⟨_, rfl⟩
          rw [hc] at hG hcn hcb HIS
          have hwg : w.heap.size + 1 + 1 < gb := Nat.lt_trans hw1 ha5
          have n0 : ¬ w.heap.size = gb := Nat.ne_of_lt (Nat.lt_of_succ_lt (Nat.lt_of_succ_lt hwg))
          have n1 : ¬ w.heap.size + 1 = gb := Nat.ne_of_lt (Nat.lt_of_succ_lt hwg)
          have n2 : ¬ w.heap.size + 1 + 1 = gb := Nat.ne_of_lt hwg
          obtain ⟨f1, f2, f3, f4, f5, f6, f7⟩ := HF4.out
          have HI := Lib.hid (show InvB w w1 ag j cg (.slice (some ⟨mb, mo, none⟩) j c1) db gb d c wr from ⟨hG.out, HD4.out.out hO (Nat.ne_of_lt hdb) HL.out, okeep hO f1 n0, okeep hO f2 n1, okeepf hO f2 f3 n1, okeep hO f4 n2, okeep hO f5 n2, okeepf hO f4 f6 n2, okeepf hO f5 f7 n2, okeep hO b5 (Nat.ne_of_lt ha5), hb1r, hB4.trans (hO.to_below (fun k hk _ e => absurd (e ▸ hk) (Nat.not_lt.2 (Nat.le_of_lt (Nat.lt_of_succ_lt (Nat.lt_of_succ_lt hwg))))) hB4.size)⟩)
          have HCN := Lib.hid (And.intro hcn hcb)
          clear HF4 HG4 HD4 hG hO HL hb1r f1 f2 f3 f4 f5 f6 f7 n0 n1 n2 hcn hcb hc b5 zb5 hb14 hB4
          have HI0 := HI
          obtain ⟨-, nd, ad, ld, cd, e0, e1, -, -, eI⟩ := HI.out.dd
          have hBw := Below.refl wr.heap.size wr
          have HEI := Lib.hid eI
          have ze := cell_lt e0
          have sc := fun W (q : Below wr.heap.size wr W) => sign_c _ d W (HEI.out.keep q)
          clear eI
          by_cases hneg : d < 0
          · rw [Int.sign_eq_neg_one_of_neg hneg] at sc
            have HSE := Lib.hid (show S = -c from by rw [HIS.out, if_pos hneg])
            clear hneg
            go_wp2_with fail
            (with_reducible refine (sc _ ?_).mono ?_); (repeat (first | exact Below.refl _ _ | exact hBw | refine Below.drew ?_ | refine below_drewN ?_ _ | refine bset ?_ (by simp <;> omega) _ | refine bal ?_ _))
            rintro e w5 ⟨rfl, hb5⟩
            have hb5' : Below wr.heap.size wr w5 := bthen (by repeat (first | exact Below.refl _ _ | exact hBw | refine Below.drew ?_ | refine below_drewN ?_ _ | refine bset ?_ (by simp <;> omega) _ | refine bal ?_ _)) hb5
            have HI5 := Lib.hid (HI.out.keep hb5')
            obtain ⟨-, ng, ag', lg, cg', q0, q1, q0f, q1f, qI⟩ := HI5.out.g
            have HQI := Lib.hid qI
            have zq := cell_lt q0
            have nc := fun W (q : Below w5.heap.size w5 W) => neg_c _ c W (HQI.out.keep q)
            have hBw5 := Below.refl w5.heap.size w5
            clear sc HI HI0 qI e0 e1 ze HEI hb5 hb5' hBw
            go_wp2_with fail
            (with_reducible refine (nc _ ?_).mono ?_); (repeat (first | exact Below.refl _ _ | exact hBw5 | refine Below.drew ?_ | refine below_drewN ?_ _ | refine bset ?_ (by simp <;> omega) _ | refine bal ?_ _))
            rintro e w6 ⟨⟨v6, rfl, hv6⟩, hb6⟩
            have hb6' : Below w5.heap.size w5 w6 := bthen (by repeat (first | exact Below.refl _ _ | exact hBw5 | refine Below.drew ?_ | refine below_drewN ?_ _ | refine bset ?_ (by simp <;> omega) _ | refine bal ?_ _)) hb6
            have HI6 := Lib.hid (HI5.out.keep hb6')
            have HV6 := Lib.hid hv6
            obtain ⟨n6, a6, c6, l6, rfl, -⟩ := hv6
            unfold iv at *
            replace q0f := bkeepf hb6' q0 q0f
            replace q1f := bkeepf hb6' q1 q1f
            replace q0 := bkeep hb6' q0
            replace q1 := bkeep hb6' q1
            replace zq := cell_lt q0
            have HI7 := Lib.hid (HI6.out.putG hw1 h12 hdb HV6.out)
            rw [← HSE.out] at HI7
            have HSB := Lib.hid (show S ≠ 0 ∧ Bd kk S from by rw [HSE.out]; exact ⟨by have := HCN.out.1; omega, bd_neg HCN.out.2⟩)
            clear nc HI5 HI6 HQI hb6 hb6' hBw5 HV6
            go_upto_region 15 with (fail)
            refine wp_name fun w7 hW7 => ?_
            rw [← hW7] at HI7
            clear hW7 q0 q1 q0f q1f zq
            obtain ⟨-, nd, ad, ld, cd, e0, e1, e0f, e1f, eI⟩ := HI7.out.dd
            obtain ⟨-, ng, ag', lg, cg', q0, q1, -, -, qI⟩ := HI7.out.g
            have HEI := Lib.hid (And.intro eI qI)
            have ze := cell_lt e0
            have zq := cell_lt q0
            have dc := fun W (q : Below w7.heap.size w7 W) => divmod_c (.agg #[.bool nd, .slice ad ld cd]) (.agg #[.bool ng, .slice ag' lg cg']) d S kk W (HEI.out.1.keep q) (HEI.out.2.keep q) HDB.out HSB.out.2 hkk HSB.out.1
            have hBx := Below.refl w7.heap.size w7
            clear eI qI
            go_wp2_with fail
            (with_reducible refine (dc _ ?_).mono ?_); (repeat (first | exact Below.refl _ _ | exact hBx | refine Below.drew ?_ | refine below_drewN ?_ _ | refine bset ?_ (by simp <;> omega) _ | refine bal ?_ _))
            rintro e w8 ⟨⟨u8, r8, rfl, hu8, hr8⟩, hb8⟩
            have hb8' : Below w7.heap.size w7 w8 := bthen (by repeat (first | exact Below.refl _ _ | exact hBx | refine Below.drew ?_ | refine below_drewN ?_ _ | refine bset ?_ (by simp <;> omega) _ | refine bal ?_ _)) hb8
            have HU8 := Lib.hid hu8
            obtain ⟨n8, a8, c8, l8, rfl, -⟩ := hu8
            obtain ⟨n9, a9, c9, l9, rfl, -⟩ := hr8
            unfold iv at *
            replace e0f := bkeepf hb8' e0 e0f
            replace e1f := bkeepf hb8' e1 e1f
            replace e0 := bkeep hb8' e0
            replace e1 := bkeep hb8' e1
            replace ze := cell_lt e0
            have HI9 := Lib.hid ((HI7.out.keep hb8').putD hw1 h12 hdb HU8.out)
            clear dc HEI HI7 q0 q1 zq hb8 hb8' hBx
            go_upto_region 16 with (fail)
            refine wp_name fun w9 hW9 => ?_
            rw [← hW9] at HI9
            clear hW9 e0 e1 e0f e1f ze HU8
            obtain ⟨-, nd, ad, ld, cd, e0, e1, -, -, eI⟩ := HI9.out.dd
            have HEI := Lib.hid eI
            have m0 := HI9.out.m0
            have r0 := HI9.out.r0
            have r0f := HI9.out.r0f
            have s0 := HI9.out.s0
            have s1 := HI9.out.s1
            have s0f := HI9.out.s0f
            have s1f := HI9.out.s1f
            have zm := cell_lt m0
            have ze := cell_lt e0
            have zr := cell_lt r0
            have zs := cell_lt s0
            have FCL := Lib.hid (fun V (q : Below w9.heap.size w9 V) => filled_c j j (fun i k => gat A i k / S) 107 #[.pointer (some ⟨w1.heap.size, 0, none⟩), .pointer (some ⟨gb, 0, none⟩)] V (inv1_c w1.heap.size gb A j j kk S V ((HV1.out.keep (bthen HI9.out.b1 q)).boxM (bkeep q HI9.out.b5)) (HI9.out.g.keep q) HAL.out HAR.out HAB.out HSB.out.2 hkk HSB.out.1) (ens Tryz.func107 (by kernel_rfl) rfl) (Nat.le_trans hN1 (by decide)) hN1)
            rw [← HIG.out] at FCL
            have HS := Lib.hid (show ∀ V, Below w9.heap.size w9 V → V.cell? ⟨w.heap.size, 0, none⟩ = some (.slice ag j cg) ∧ V.cell? ⟨db, 0, none⟩ = some (.bool nd) ∧ V.cell? ⟨db, 1, none⟩ = some (.slice ad ld cd) from fun V q => ⟨bkeep q m0, bkeep q e0, bkeep q e1⟩)
            have hwd : w.heap.size + 1 + 1 < db := Nat.lt_trans hw1 h12
            have nr0 : w.heap.size + 1 ≠ w.heap.size := Nat.succ_ne_self _
            have ns0 : w.heap.size + 1 + 1 ≠ w.heap.size := Nat.ne_of_gt (Nat.lt_succ_of_lt (Nat.lt_succ_self _))
            have nrd : w.heap.size + 1 ≠ db := Nat.ne_of_lt (Nat.lt_of_succ_lt hwd)
            have nsd : w.heap.size + 1 + 1 ≠ db := Nat.ne_of_lt hwd
            have hBx := Below.refl w9.heap.size w9
            clear eI
            go_region_held3 (fun V => V.cell? ⟨w.heap.size, 0, none⟩ = some (.slice ag j cg) ∧ V.cell? ⟨db, 0, none⟩ = some (.bool nd) ∧ V.cell? ⟨db, 1, none⟩ = some (.slice ad ld cd))
              (first | ((repeat (first | (with_reducible refine three_far _ ?_ (addr_ne nr0) (addr_ne nrd) (addr_ne nrd)) | (with_reducible refine three_far _ ?_ (addr_ne ns0) (addr_ne nsd) (addr_ne nsd)))); (with_reducible refine HS.out _ ?_); (repeat (first | exact Below.refl _ _ | exact hBx | refine Below.drew ?_ | refine below_drewN ?_ _ | refine bal ?_ _)); done) | fail)
              (first
              | (go_at_call 60; (with_reducible refine (RC.out _).mono ?_); rintro e w10 ⟨rfl, hb10⟩; (have hBd : Below w9.heap.size w9 w10 := bthen (by repeat (first | exact Below.refl _ _ | exact hBx | refine Below.drew ?_ | refine below_drewN ?_ _ | refine bset ?_ (by simp <;> omega) _ | refine bal ?_ _)) hb10; clear hBx; have hBx := hBd; clear hBd))
              | (go_at_call 89; (with_reducible refine (FCL.out _ ?_).mono ?_); (repeat (first | exact Below.refl _ _ | exact hBx | refine Below.drew ?_ | refine below_drewN ?_ _ | refine bset ?_ (by simp <;> omega) _ | refine bal ?_ _)); rintro e w11 ⟨⟨v11, rfl, hv11⟩, hb11⟩; have HV11 := Lib.hid (hv11.rebase (show w9.heap.size ≤ _ from (show Below w9.heap.size w9 _ by repeat (first | exact Below.refl _ _ | exact hBx | refine Below.drew ?_ | refine below_drewN ?_ _ | refine bset ?_ (by simp <;> omega) _ | refine bal ?_ _)).size)); (have hBd : Below w9.heap.size w9 w11 := bthen (by repeat (first | exact Below.refl _ _ | exact hBx | refine Below.drew ?_ | refine below_drewN ?_ _ | refine bset ?_ (by simp <;> omega) _ | refine bal ?_ _)) hb11; clear hBx; have hBx := hBd; clear hBd); obtain ⟨a11, c11, rfl⟩ := hv11.lit; obtain ⟨L11, hL11⟩ : ∃ x, (invG g).length = x := ⟨_, rfl⟩; rw [hL11] at HV11 ⊢; clear hL11 hv11 hb11; have r011 := bkeep hBx r0; have r0f11 := bkeepf hBx r0 r0f; have s011 := bkeep hBx s0; have s111 := bkeep hBx s1; have s0f11 := bkeepf hBx s0 s0f; have s1f11 := bkeepf hBx s1 s1f; have zr11 := cell_lt r011; have zs11 := cell_lt s011)
              | fail)
            all_goals
              go_wp2
              have hs0 : (w11.setCell ⟨w.heap.size + 1, 0, none⟩ (.slice a11 L11 c11)).cell? ⟨w.heap.size + 1 + 1, 0, none⟩ = some (.bool false) := cell_far s011 (addr_ne (Nat.ne_of_lt (Nat.lt_succ_self _))) _
              have hs1 : (w11.setCell ⟨w.heap.size + 1, 0, none⟩ (.slice a11 L11 c11)).cell? ⟨w.heap.size + 1 + 1, 1, none⟩ = some (.slice none 0 0) := cell_far s111 (addr_ne (Nat.ne_of_lt (Nat.lt_succ_self _))) _
              have hLM := ((Lim.refl w11).slice r011 (.slice a11 L11 c11)).trans (Lim.set2 hs0 hs1 (.bool nd) (.slice ad ld cd))
              have hOT := ((Out.refl (fun q => q = w.heap.size + 1 ∨ q = w.heap.size + 1 + 1) w11).set (p := ⟨w.heap.size + 1, 0, none⟩) (fun _ => .inl rfl) (.slice a11 L11 c11)).set2 (g := w.heap.size + 1 + 1) (o := 0) (fun _ => .inr rfl) (.bool nd) (.slice ad ld cd)
              have HMF := Lib.hid ((HV11.out.out hOT (fun k hk h => h.elim (fun e => absurd hk (Nat.not_le.2 (by rw [e]; exact Nat.lt_of_succ_lt zs))) (fun e => absurd hk (Nat.not_le.2 (by rw [e]; exact zs)))) hLM).rebase (Nat.le_of_lt zm))
              have HIF := Lib.hid ((HEI.out.keep hBx).lim hLM)
              have hBF : Below w.heap.size w w11 := bthen HI9.out.bel hBx
              clear hs0 hs1 hLM hOT
              refine bodyPost_ret (v := .tuple #[.agg #[.slice a11 L11 c11], .agg #[.bool nd, .slice ad ld cd], .int .i64 0]) (by simp [results, Tryz.results49, go_sem, *]) rfl ⟨.inl ⟨HBQ.out, HD0.out, _, _, rfl, HMF.out, by rw [HID.out]; exact HIF.out⟩, ?_⟩
              repeat (first | exact Below.refl _ _ | exact hBF | refine Below.drew ?_ | refine below_drewN ?_ _ | refine bset ?_ (by simp <;> omega) _ | refine bal ?_ _)
          · have hpos : 0 < d := by have := HD0.out; omega
            rw [Int.sign_eq_one_of_pos hpos] at sc
            have HSE := Lib.hid (show S = c from by rw [HIS.out, if_neg hneg])
            have HI7 := HI
            rw [← HSE.out] at HI7
            have HSB := Lib.hid (show S ≠ 0 ∧ Bd kk S from by rw [HSE.out]; exact HCN.out)
            clear hneg hpos HI HI0
            go_wp2_with fail
            (with_reducible refine (sc _ ?_).mono ?_); (repeat (first | exact Below.refl _ _ | exact hBw | refine Below.drew ?_ | refine below_drewN ?_ _ | refine bset ?_ (by simp <;> omega) _ | refine bal ?_ _))
            rintro e w5 ⟨rfl, hb5⟩
            have hb5' : Below wr.heap.size wr w5 := bthen (by repeat (first | exact Below.refl _ _ | exact hBw | refine Below.drew ?_ | refine below_drewN ?_ _ | refine bset ?_ (by simp <;> omega) _ | refine bal ?_ _)) hb5
            have HI8 := Lib.hid (HI7.out.keep hb5')
            clear HI7 sc e0 e1 ze HEI hb5 hb5' hBw
            have HI7 := HI8
            clear HI8
            go_upto_region 15 with (fail)
            refine wp_name fun w7 hW7 => ?_
            rw [← hW7] at HI7
            clear hW7
            obtain ⟨-, nd, ad, ld, cd, e0, e1, e0f, e1f, eI⟩ := HI7.out.dd
            obtain ⟨-, ng, ag', lg, cg', q0, q1, -, -, qI⟩ := HI7.out.g
            have HEI := Lib.hid (And.intro eI qI)
            have ze := cell_lt e0
            have zq := cell_lt q0
            have dc := fun W (q : Below w7.heap.size w7 W) => divmod_c (.agg #[.bool nd, .slice ad ld cd]) (.agg #[.bool ng, .slice ag' lg cg']) d S kk W (HEI.out.1.keep q) (HEI.out.2.keep q) HDB.out HSB.out.2 hkk HSB.out.1
            have hBx := Below.refl w7.heap.size w7
            clear eI qI
            go_wp2_with fail
            (with_reducible refine (dc _ ?_).mono ?_); (repeat (first | exact Below.refl _ _ | exact hBx | refine Below.drew ?_ | refine below_drewN ?_ _ | refine bset ?_ (by simp <;> omega) _ | refine bal ?_ _))
            rintro e w8 ⟨⟨u8, r8, rfl, hu8, hr8⟩, hb8⟩
            have hb8' : Below w7.heap.size w7 w8 := bthen (by repeat (first | exact Below.refl _ _ | exact hBx | refine Below.drew ?_ | refine below_drewN ?_ _ | refine bset ?_ (by simp <;> omega) _ | refine bal ?_ _)) hb8
            have HU8 := Lib.hid hu8
            obtain ⟨n8, a8, c8, l8, rfl, -⟩ := hu8
            obtain ⟨n9, a9, c9, l9, rfl, -⟩ := hr8
            unfold iv at *
            replace e0f := bkeepf hb8' e0 e0f
            replace e1f := bkeepf hb8' e1 e1f
            replace e0 := bkeep hb8' e0
            replace e1 := bkeep hb8' e1
            replace ze := cell_lt e0
            have HI9 := Lib.hid ((HI7.out.keep hb8').putD hw1 h12 hdb HU8.out)
            clear dc HEI HI7 q0 q1 zq hb8 hb8' hBx
            go_upto_region 16 with (fail)
            refine wp_name fun w9 hW9 => ?_
            rw [← hW9] at HI9
            clear hW9 e0 e1 e0f e1f ze HU8
            obtain ⟨-, nd, ad, ld, cd, e0, e1, -, -, eI⟩ := HI9.out.dd
            have HEI := Lib.hid eI
            have m0 := HI9.out.m0
            have r0 := HI9.out.r0
            have r0f := HI9.out.r0f
            have s0 := HI9.out.s0
            have s1 := HI9.out.s1
            have s0f := HI9.out.s0f
            have s1f := HI9.out.s1f
            have zm := cell_lt m0
            have ze := cell_lt e0
            have zr := cell_lt r0
            have zs := cell_lt s0
            have FCL := Lib.hid (fun V (q : Below w9.heap.size w9 V) => filled_c j j (fun i k => gat A i k / S) 107 #[.pointer (some ⟨w1.heap.size, 0, none⟩), .pointer (some ⟨gb, 0, none⟩)] V (inv1_c w1.heap.size gb A j j kk S V ((HV1.out.keep (bthen HI9.out.b1 q)).boxM (bkeep q HI9.out.b5)) (HI9.out.g.keep q) HAL.out HAR.out HAB.out HSB.out.2 hkk HSB.out.1) (ens Tryz.func107 (by kernel_rfl) rfl) (Nat.le_trans hN1 (by decide)) hN1)
            rw [← HIG.out] at FCL
            have HS := Lib.hid (show ∀ V, Below w9.heap.size w9 V → V.cell? ⟨w.heap.size, 0, none⟩ = some (.slice ag j cg) ∧ V.cell? ⟨db, 0, none⟩ = some (.bool nd) ∧ V.cell? ⟨db, 1, none⟩ = some (.slice ad ld cd) from fun V q => ⟨bkeep q m0, bkeep q e0, bkeep q e1⟩)
            have hwd : w.heap.size + 1 + 1 < db := Nat.lt_trans hw1 h12
            have nr0 : w.heap.size + 1 ≠ w.heap.size := Nat.succ_ne_self _
            have ns0 : w.heap.size + 1 + 1 ≠ w.heap.size := Nat.ne_of_gt (Nat.lt_succ_of_lt (Nat.lt_succ_self _))
            have nrd : w.heap.size + 1 ≠ db := Nat.ne_of_lt (Nat.lt_of_succ_lt hwd)
            have nsd : w.heap.size + 1 + 1 ≠ db := Nat.ne_of_lt hwd
            have hBx := Below.refl w9.heap.size w9
            clear eI
            go_region_held3 (fun V => V.cell? ⟨w.heap.size, 0, none⟩ = some (.slice ag j cg) ∧ V.cell? ⟨db, 0, none⟩ = some (.bool nd) ∧ V.cell? ⟨db, 1, none⟩ = some (.slice ad ld cd))
              (first | ((repeat (first | (with_reducible refine three_far _ ?_ (addr_ne nr0) (addr_ne nrd) (addr_ne nrd)) | (with_reducible refine three_far _ ?_ (addr_ne ns0) (addr_ne nsd) (addr_ne nsd)))); (with_reducible refine HS.out _ ?_); (repeat (first | exact Below.refl _ _ | exact hBx | refine Below.drew ?_ | refine below_drewN ?_ _ | refine bal ?_ _)); done) | fail)
              (first
              | (go_at_call 60; (with_reducible refine (RC.out _).mono ?_); rintro e w10 ⟨rfl, hb10⟩; (have hBd : Below w9.heap.size w9 w10 := bthen (by repeat (first | exact Below.refl _ _ | exact hBx | refine Below.drew ?_ | refine below_drewN ?_ _ | refine bset ?_ (by simp <;> omega) _ | refine bal ?_ _)) hb10; clear hBx; have hBx := hBd; clear hBd))
              | (go_at_call 89; (with_reducible refine (FCL.out _ ?_).mono ?_); (repeat (first | exact Below.refl _ _ | exact hBx | refine Below.drew ?_ | refine below_drewN ?_ _ | refine bset ?_ (by simp <;> omega) _ | refine bal ?_ _)); rintro e w11 ⟨⟨v11, rfl, hv11⟩, hb11⟩; have HV11 := Lib.hid (hv11.rebase (show w9.heap.size ≤ _ from (show Below w9.heap.size w9 _ by repeat (first | exact Below.refl _ _ | exact hBx | refine Below.drew ?_ | refine below_drewN ?_ _ | refine bset ?_ (by simp <;> omega) _ | refine bal ?_ _)).size)); (have hBd : Below w9.heap.size w9 w11 := bthen (by repeat (first | exact Below.refl _ _ | exact hBx | refine Below.drew ?_ | refine below_drewN ?_ _ | refine bset ?_ (by simp <;> omega) _ | refine bal ?_ _)) hb11; clear hBx; have hBx := hBd; clear hBd); obtain ⟨a11, c11, rfl⟩ := hv11.lit; obtain ⟨L11, hL11⟩ : ∃ x, (invG g).length = x := ⟨_, rfl⟩; rw [hL11] at HV11 ⊢; clear hL11 hv11 hb11; have r011 := bkeep hBx r0; have r0f11 := bkeepf hBx r0 r0f; have s011 := bkeep hBx s0; have s111 := bkeep hBx s1; have s0f11 := bkeepf hBx s0 s0f; have s1f11 := bkeepf hBx s1 s1f; have zr11 := cell_lt r011; have zs11 := cell_lt s011)
              | fail)
            all_goals
              go_wp2
              have hs0 : (w11.setCell ⟨w.heap.size + 1, 0, none⟩ (.slice a11 L11 c11)).cell? ⟨w.heap.size + 1 + 1, 0, none⟩ = some (.bool false) := cell_far s011 (addr_ne (Nat.ne_of_lt (Nat.lt_succ_self _))) _
              have hs1 : (w11.setCell ⟨w.heap.size + 1, 0, none⟩ (.slice a11 L11 c11)).cell? ⟨w.heap.size + 1 + 1, 1, none⟩ = some (.slice none 0 0) := cell_far s111 (addr_ne (Nat.ne_of_lt (Nat.lt_succ_self _))) _
              have hLM := ((Lim.refl w11).slice r011 (.slice a11 L11 c11)).trans (Lim.set2 hs0 hs1 (.bool nd) (.slice ad ld cd))
              have hOT := ((Out.refl (fun q => q = w.heap.size + 1 ∨ q = w.heap.size + 1 + 1) w11).set (p := ⟨w.heap.size + 1, 0, none⟩) (fun _ => .inl rfl) (.slice a11 L11 c11)).set2 (g := w.heap.size + 1 + 1) (o := 0) (fun _ => .inr rfl) (.bool nd) (.slice ad ld cd)
              have HMF := Lib.hid ((HV11.out.out hOT (fun k hk h => h.elim (fun e => absurd hk (Nat.not_le.2 (by rw [e]; exact Nat.lt_of_succ_lt zs))) (fun e => absurd hk (Nat.not_le.2 (by rw [e]; exact zs)))) hLM).rebase (Nat.le_of_lt zm))
              have HIF := Lib.hid ((HEI.out.keep hBx).lim hLM)
              have hBF : Below w.heap.size w w11 := bthen HI9.out.bel hBx
              clear hs0 hs1 hLM hOT
              refine bodyPost_ret (v := .tuple #[.agg #[.slice a11 L11 c11], .agg #[.bool nd, .slice ad ld cd], .int .i64 0]) (by simp [results, Tryz.results49, go_sem, *]) rfl ⟨.inl ⟨HBQ.out, HD0.out, _, _, rfl, HMF.out, by rw [HID.out]; exact HIF.out⟩, ?_⟩
              repeat (first | exact Below.refl _ _ | exact hBF | refine Below.drew ?_ | refine below_drewN ?_ _ | refine bset ?_ (by simp <;> omega) _ | refine bal ?_ _)
end Go.Proofs.YthaohpfbengabaaGreatDoor

/- limb: Text. -/
namespace Go.Proofs.YthaohpfbengabaaGreatDoor
open Num
open Go.ChangeShapes Go.WideShapes Go.ChangeAt Go.RowKit
set_option linter.unusedVariables false
set_option linter.unusedSimpArgs false
theorem app32l {ops : Array Oper} {rest : List Oper} {o : Oper} {a : Act} {Q : Exit → Act → World → Prop} {w0 wr : World} {v : Value} {L X : List Nat} {t : TypeId} (hgd : o.guard = none) {s x : Operand}
    (ho : o.op = .call { callee := .builtin .append, args := #[s, x], argTypes := #[34, 34] }) (hO : Own32 w0 wr v L) (hs : a.eval s = v)
    {c : Nat} (hx : a.eval x = .slice (some ⟨wr.heap.size, 0, none⟩) X.length c) (hn : L.length + X.length ≤ 1099511627776)
    (h : ∀ v' w', Own32 w0 w' v' (L ++ X) → (∀ (ad : Option Addr) (cd : Nat) (M : List Nat), U32 wr ad cd M → (∀ g f, ad = some ⟨g, f, none⟩ → v.ownBlock ≠ some g) → U32 w' ad cd M) → wpList Tryz.prog ops Q rest (a.put o.dst v') w') : wpList Tryz.prog ops Q (o :: rest) a (wr.alloc (.cells (cel X).toArray t)) := by
  obtain ⟨i, z, hi, hz, hsize, hby, hzs⟩ := el32.info
  refine wpList_append_own _ hgd s x 34 ho w0.heap.size 133 i z 1 4 el32.ht hi hz hsize hby hzs el32.pos v L.length (cel L) hs (hO.1.alloc _) ⟨wr.heap.size, 0, none⟩ X.length c (cel X) hx (by rw [cel_len, Nat.mul_one]) (cells_new wr _ t) (cel_one X) (by unfold maxLen; omega) (by omega) (by have := hO.2.size; simp; omega) ?_
  intro v' w' hown hg _
  have ho : Out (fun k => v.ownBlock = some k) wr w' := ((Out.refl _ wr).alloc _).grown hg fun k hk _ => hk
  exact h v' w' ⟨by rw [cel_app, List.length_append]; exact hown, below_append (wr := wr) (bal hO.2 _) (hO.1.alloc _) hg⟩ fun ad cd M hu hne => hu.okeep ho fun q f e hq => hne q f e hq
theorem Bld.keep {B b : Nat} {l : List UInt8} {w w' : World} (h : Bld B b l w) (hb : Below w.heap.size w w') : Bld B b l w' := by
  have key : ∀ p, Lib.BuilderAt 181 5 B b p (Lib.byteCells l) w → Lib.BuilderAt 181 5 B b p (Lib.byteCells l) w' := by
    rintro p ⟨h1, v, h2, h3, h4⟩
    exact ⟨h1, v, (hb.block b (Array.getElem?_eq_some_iff.1 h2).1).trans h2, own_below (w0 := w) h3 hb, h4⟩
  rcases h with h | h
  · exact .inl (key _ h)
  · exact .inr (key _ h)
theorem Bld.new {w : World} {b : Nat} (hb : b = w.heap.size) : Bld b b [] (w.alloc (.cells #[.pointer none, .slice none 0 0] 181)) := by
  subst hb
  exact .inl ⟨Nat.le_refl _, .slice none 0 0, (MapKept.heap_alloc w _).1, World.ownsRow_nil _ _ _ _, by simp [Value.ownBlock]⟩
theorem pcs_len (k : Nat) : ∀ n, n < 2 ^ k → (pcs n).length ≤ k := by
  induction k with
  | zero => intro n h; obtain rfl : n = 0 := by simpa using h
            rw [pcs_zero]; simp
  | succ k ih =>
    intro n h
    by_cases h0 : 0 < n
    · rw [pcs_pos h0]
      have := ih (n / 1000000000) (by rw [Nat.pow_succ] at h; omega)
      simp; exact this
    · obtain rfl : n = 0 := by omega
      rw [pcs_zero]; simp
theorem pcs_bound {l : List Nat} (hl : Limbs l) (h1 : l.length ≤ 67108865) {P Q : List Nat} (h : pcs (val l) = P ++ Q) : P.length ≤ 2147483680 := by
  have h2 := val_lt hl
  rw [BB_pow] at h2
  have h3 := pcs_len _ _ h2
  rw [h, List.length_append] at h3
  omega
/-- what nine bytes hold when j noughts are left -/
def Z9 (j m p : Nat) : List UInt8 := List.replicate j 0 ++ asc (padD m p)
theorem Z9_len (j m p : Nat) : (Z9 j m p).length = j + m := by simp [Z9, asc_len, padD_len]
theorem rep_set (j : Nat) (T : List UInt8) (d : UInt8) : (List.replicate (j + 1) 0 ++ T).set j d = List.replicate j 0 ++ d :: T := by
  induction j with
  | zero => rfl
  | succ j ih =>
    rw [List.replicate_succ, List.cons_append, List.set_cons_succ, ih]; rfl
theorem Z9_step (j m p : Nat) : (Z9 (j + 1) m p).set j (dig (p / 10 ^ m % 10)) = Z9 j (m + 1) p := by
  unfold Z9
  rw [rep_set, padD_snoc, asc_append]; rfl
theorem Z9_end (p : Nat) : Z9 0 9 p = asc (padD 9 p) := rfl
theorem lowP_top {P : List Nat} {k : Nat} (h : k + 1 = P.length) : lowP (P.drop k) = lowD (P.getD k 0) := by
  have e : P.drop k = [P.getD k 0] := by
    rw [List.drop_eq_getElem_cons (by omega), List.drop_eq_nil_of_le (by omega)]
    simp [List.getElem?_eq_getElem (show k < P.length by omega)]
  rw [e]; rfl
theorem lowP_low {P : List Nat} {k : Nat} (h : k + 1 < P.length) : lowP (P.drop k) = padD 9 (P.getD k 0) ++ lowP (P.drop (k + 1)) := by
  rw [List.drop_eq_getElem_cons (by omega), lowP_cons (by intro h0; have := congrArg List.length h0; simp at this; omega)]
  simp [List.getElem?_eq_getElem (show k < P.length by omega)]
theorem lowP_len : ∀ L : List Nat, (∀ x ∈ L, x < 1000000000) → (lowP L).length ≤ 9 * L.length
  | [], _ => by simp [lowP]
  | [p], h => by
    have := (padD_low 9 p (h p (by simp))).2
    simpa [lowP] using this
  | p :: q :: L, h => by
    have := lowP_len (q :: L) (fun x hx => h x (List.mem_cons_of_mem _ hx))
    rw [lowP_cons (by simp), List.length_append, padD_len]
    simp only [List.length_cons] at this ⊢
    omega
theorem zeroArr9 : ∀ w, (zeroValue 219).run Tryz.prog w = .ok (.agg #[.int .u8 0, .int .u8 0, .int .u8 0, .int .u8 0, .int .u8 0, .int .u8 0, .int .u8 0, .int .u8 0, .int .u8 0]) w := fun w => by kernel_rfl
/-- nine bytes in a block -/
structure Arr9 (w : World) (g : Nat) (Z : List UInt8) : Prop where
  cell : ∀ j, j < 9 → w.cell? ⟨g, j, none⟩ = some (.int .u8 ((Z.getD j 0).toNat : Nat))
  free : ∀ j, w.frozen? ⟨g, j, none⟩ = false
theorem Arr9.new (w : World) (p : Nat) : Arr9 (w.alloc (.cells #[.int .u8 0, .int .u8 0, .int .u8 0, .int .u8 0, .int .u8 0, .int .u8 0, .int .u8 0, .int .u8 0, .int .u8 0] 219)) w.heap.size (Z9 9 0 p) := by
  have hz : ∀ j, (Z9 9 0 p).getD j 0 = 0 := fun j => by
    simp [Z9, asc, padD]
    exact match j with | 0 => rfl | 1 => rfl | 2 => rfl | 3 => rfl | 4 => rfl | 5 => rfl | 6 => rfl | 7 => rfl | 8 => rfl | n + 9 => rfl
  refine ⟨fun j hj => ?_, fun j => by rw [World.frozen?_alloc_at (hn := by simp)]⟩
  rw [hz]
  refine cell_new rfl ?_
  have : j = 0 ∨ j = 1 ∨ j = 2 ∨ j = 3 ∨ j = 4 ∨ j = 5 ∨ j = 6 ∨ j = 7 ∨ j = 8 := by omega
  rcases this with rfl | rfl | rfl | rfl | rfl | rfl | rfl | rfl | rfl <;> rfl
theorem Arr9.set {w : World} {g : Nat} {Z : List UInt8} (h : Arr9 w g Z) (hZ : Z.length = 9) {k : Nat} (hk : k < 9) (x : UInt8) : Arr9 (w.setCell ⟨g, k, none⟩ (.int .u8 (x.toNat : Nat))) g (Z.set k x) := by
  refine ⟨fun j hj => ?_, fun j => by rw [World.frozen?_setCell]; exact h.free j⟩
  by_cases e : k = j
  · subst e
    rw [cell_here (h.cell k hk)]
    simp [hZ, hk]
  · rw [cell_far (h.cell j hj) (by first | (simp; done) | (simp; exact e))]
    simp [List.getElem?_set_ne e]

set_option maxRecDepth 100000 in
set_option maxHeartbeats 8000000 in
theorem limbText_c (a : Option Addr) (ca : Nat) (l : List Nat) (w : World) (ha : U32 w a ca l) (h1 : l.length ≤ 67108865) :
    Calls Tryz.prog 155 #[.slice a l.length ca] w fun e w' => e = .returned (.string ⟨(natTxt (val l)).toArray⟩) ∧ Below w.heap.size w w' := by
  have nc := limbNorm_c a ca l w ha (by omega)
  have HTV := Lib.hid (val_trim l)
  have hTN := trim_nrm l
  have hTl := Nat.le_trans (trim_len l) h1
  have HPL := Lib.hid (show ∀ P Q, pcs (val l) = P ++ Q → P.length ≤ 2147483680 from fun P Q h => pcs_bound ha.2.2.1 h1 h)
  generalize trimL l = T at *
  go_enter Tryz.func155, Tryz.ntmps155
  go_wp2_with fail
  refine nc.mono ?_
  rintro e w0 ⟨⟨a0, rfl, hu0⟩, hb0⟩
  clear nc
  go_wp2
  go_loopg [3, 4] (val T) (fun gk d v wr => ∃ (P : List Nat) (ad : Option Addr) (cd : Nat) (L : List Nat), v = .slice ad L.length cd ∧ U32 wr ad cd L ∧ Nrm L ∧ L.length ≤ 67108865 ∧ gk = val L ∧ Own32 w0 wr d P ∧ pcs (val l) = P ++ pcs (val L))
  case atStart => exact ⟨[], a0, _, T, rfl, hu0, hTN, hTl, rfl, Own32.nil (Below.refl _ _), by rw [HTV.out]; rfl⟩
  case round =>
    obtain ⟨P, ad, cd, L, rfl, hu, hn, hlm, hgk, hO, hP⟩ := hrel
    have HP := Lib.hid (And.intro hgk hP)
    clear hgk hP
    have hPl : P.length ≤ 2147483680 := HPL.out _ _ HP.out.2
    by_cases hL : 0 < L.length
    · have hLz : (0 : Int) < (L.length : Int) := by omega
      have hv0 : 0 < val L := by
        have h1 := nrm_val_pos hn (List.length_pos_iff.1 hL)
        have : 0 < BB ^ (L.length - 1) := Nat.pow_pos BB_pos
        omega
      have dc := fun (W : World) (h : Below wr.heap.size wr W) => divSmallF_c ad cd L 1000000000 W (hu.keep h) (by omega) (by omega) (by unfold BB; omega)
      have HN := Lib.hid (show pcs (val L) = val L % 1000000000 :: pcs (val L / 1000000000) from pcs_pos hv0)
      have HLT := Lib.hid (show val L / 1000000000 < val L by omega)
      have hr9 : val L % 1000000000 < 1000000000 := Nat.mod_lt _ (by omega)
      have HQL := Lib.hid (show ∀ Q : List Nat, Nrm Q → val Q = val L / 1000000000 → Q.length ≤ 67108865 from fun Q hQ hv => by
        refine Nat.le_trans (nrm_len_le (k := L.length) hQ ?_) hlm
        have := val_lt hu.2.2.1
        omega)
      go_wp2_with fail
      refine (dc _ (Below.refl _ _)).mono ?_
      rintro e w2 ⟨⟨u, rfl, hq, hqf⟩, hb2⟩
      have hO2 := hO.below hb2
      have HLT2 := Lib.hid hO.1.lt
      have HQF := Lib.hid hqf
      clear dc hO hu hqf
      obtain ⟨aq, nq, Lq, rfl, rfl, hqu, hqn, hqv⟩ := hq
      have hLqm := HQL.out Lq hqn hqv
      have HV := Lib.hid hqv
      clear hqv
      obtain ⟨r, hr⟩ : ∃ r, r = val L % 1000000000 := ⟨_, rfl⟩
      rw [← hr] at hr9
      have HR := Lib.hid hr
      rw [← hr]
      clear hr
      go_wp2_with (at_builtin; refine app32l (X := [r]) rfl rfl hO2 rfl rfl ?_ ?_; (simp; omega); intro v' w3 hO3 hlim3)
      go_roundg (val L / 1000000000)
      case measure => rw [HP.out.1]; exact HLT.out
      case rel => exact ⟨P ++ [r], aq, _, Lq, rfl, hlim3 aq _ Lq hqu (fun g f e h => by have h1 := (HLT2.out g h).2; have h2 := HQF.out g f _ _ (by rw [e]); omega), hqn, hLqm, HV.out.symm, hO3, by rw [HV.out, HP.out.2, HN.out, HR.out]; simp⟩
    · obtain rfl : L = [] := List.length_eq_zero_iff.1 (by omega)
      have hPN := HP.out.2
      rw [show val [] = 0 from rfl, pcs_zero, List.append_nil] at hPN
      have hB2 := bthen hb0 hO.2
      by_cases hP0 : P = []
      · subst hP0
        have hN0 : val l = 0 := by
          apply Nat.eq_zero_of_not_pos; intro h
          exact pcs_ne h hPN
        have HE := Lib.hid (show natTxt (val l) = [48] by rw [hN0]; rfl)
        rcases hO.ex with ⟨a9, c9, rfl⟩
        clear hPN hN0 hu hO
        simp only [List.length_nil]
        go_wp2
        go_ret
        exact ⟨by rw [HE.out]; rfl, hB2⟩
      · have hN0 : 0 < val l := by
          apply Nat.pos_of_ne_zero; intro h
          rw [h, pcs_zero] at hPN
          exact hP0 hPN.symm
        have HPN := Lib.hid hPN
        have HN0 := Lib.hid hN0
        have hPz : ((P.length : Int) == 0) = false := by rw [beq_eq_false_iff_ne]; have := List.length_pos_iff.2 hP0; omega
        obtain ⟨a9, c9, rfl, hPU⟩ := hO.u32 (L := P) (fun x hx => by
          have := pcs_lt (val l) x (by rw [HPN.out]; exact hx)
          unfold BB; omega)
        rcases hPU.2.2.2 with h0 | ⟨bp, op, rfl, hPc⟩
        · exact absurd h0 hP0
        clear hPN hN0 hu hO hPU
        have HPL9 := Lib.hid (show ∀ x ∈ P, x < 1000000000 from fun x hx => pcs_lt (val l) x (by rw [HPN.out]; exact hx))
        have HLST := Lib.hid (show ∀ h : P ≠ [], 0 < P.getLast h from by rw [← HPN.out]; exact pcs_last (val l))
        have HE := Lib.hid (show natTxt (val l) = asc (lowP P) by rw [← HPN.out, lowP_pcs]; unfold natTxt; rw [if_neg (by have := HN0.out; omega)])
        have hza := zeroArr9
        have hbp := cell_lt (hPc 0 (List.length_pos_iff.2 hP0))
        simp only [List.length_nil]
        go_wp2
        go_loopw [9] (fun x wx => ∃ k : Nat, k ≤ P.length ∧ x = .int .i64 ((k : Int) - 1) ∧ Bld wr.heap.size wr.heap.size (asc (lowP (P.drop k))) wx ∧ Below wr.heap.size wr wx ∧ wr.heap.size < wx.heap.size) (fun x _ => (intOf x + 1).toNat)
        case atStart => exact ⟨P.length, Nat.le_refl _, rfl, by rw [List.drop_length]; exact Bld.new rfl, bal (Below.refl _ _) _, by simp⟩
        case round =>
          rename World => wx
          obtain ⟨k, hk, rfl, hBd, hBx, hsx⟩ := hrel
          cases k with
          | zero =>
            clear hza
            rw [List.drop_zero] at hBd
            go_wp2_with fail
            refine (bstring_c wr.heap.size wr.heap.size _ _ hBd hBx.size).mono ?_
            rintro e w6 ⟨rfl, hb6⟩
            go_wp2
            go_ret
            exact ⟨by rw [HE.out]; rfl, bthen hB2 (hBx.trans hb6)⟩
          | succ k =>
            have hp9 : P.getD k 0 < 1000000000 := HPL9.out _ (by rw [List.getD_eq_getElem?_getD, List.getElem?_eq_getElem (by omega)]; exact List.getElem_mem _)
            have HTOP := Lib.hid (show k + 1 = P.length → 0 < P.getD k 0 from fun h => by
              have h2 := HLST.out hP0
              rw [List.getLast_eq_getElem] at h2
              rw [List.getD_eq_getElem?_getD, List.getElem?_eq_getElem (by omega)]
              have e : P.length - 1 = k := by omega
              simp only [e] at h2
              exact h2)
            have HTP := Lib.hid (show k + 1 = P.length → lowP (P.drop k) = lowD (P.getD k 0) from fun h => lowP_top h)
            have HLO := Lib.hid (show k + 1 < P.length → lowP (P.drop k) = padD 9 (P.getD k 0) ++ lowP (P.drop (k + 1)) from fun h => lowP_low h)
            have q0 := bkeep hBx (hPc k (by omega))
            generalize P.getD k 0 = p at *
            have hkl : (k : Int) < (P.length : Int) := by omega
            have q1 := cell_alloc q0 (.cells #[.int .u8 0, .int .u8 0, .int .u8 0, .int .u8 0, .int .u8 0, .int .u8 0, .int .u8 0, .int .u8 0, .int .u8 0] 219)
            rw [show (((k + 1 : Nat) : Int) - 1) = (k : Int) from by omega]
            go_wp2
            go_loopw [11, 12] (fun xv kv wi => ∃ j m : Nat, j + m = 9 ∧ kv = .int .i64 ((j : Int) - 1) ∧ xv = .int .u32 ((p / 10 ^ m : Nat) : Int) ∧ Arr9 wi wx.heap.size (Z9 j m p) ∧ Below wx.heap.size wx wi ∧ wx.heap.size < wi.heap.size) (fun _ kv _ => (intOf kv + 1).toNat)
            case atStart => exact ⟨9, 0, rfl, rfl, by simp, Arr9.new wx p, bal (Below.refl _ _) _, by simp⟩
            case round =>
              rename World => wi
              obtain ⟨j, m, hjm, rfl, rfl, hA, hBi, hsi⟩ := hrel
              cases j with
              | zero =>
                obtain rfl : m = 9 := by omega
                have hBy : Bld wr.heap.size wr.heap.size (asc (lowP (P.drop (k + 1)))) wi := hBd.keep hBi
                have hsl : (convert 163 9 (.slice (some ⟨wx.heap.size, 0, none⟩) 9 9)).run Tryz.prog wi = .ok (.string ⟨(asc (padD 9 p)).toArray⟩) wi := by
                  have hl9 : (asc (padD 9 p)).length = 9 := by rw [asc_len, padD_len]
                  have := run_convert_bytes_back (P := Tryz.prog) wi 163 9 5 ⟨wx.heap.size, 0, none⟩ 9 (asc (padD 9 p)) Tryz.underlying163 Tryz.underlying5 Tryz.underlying9 (fun j hj => by
                    have h := hA.cell j (by omega)
                    rw [Z9_end] at h
                    unfold Addr.add
                    split
                    · subst_vars; simpa [hj] using h
                    · simpa [hj] using h)
                  rwa [hl9] at this
                have hBw := bthen hBx hBi
                clear hA hBi hBd hza q0 q1
                have hsw := hBw.size
                have hll : (asc (lowP (P.drop (k + 1)))).length ≤ 19327353120 := by
                  have h1 := lowP_len (P.drop (k + 1)) (fun x hx => HPL9.out x (List.mem_of_mem_drop hx))
                  rw [asc_len]
                  have h2 : (P.drop (k + 1)).length ≤ P.length := by rw [List.length_drop]; omega
                  omega
                by_cases hk1 : k + 1 = P.length
                · have ht : ((k : Int) == (P.length : Int) - 1) = true := by rw [beq_iff_eq]; omega
                  have HEQ := Lib.hid (show asc (lowP (P.drop (k + 1))) ++ asc (lowD p) = asc (lowP (P.drop k)) by
                    rw [HTP.out hk1, List.drop_eq_nil_of_le (by omega)]; rfl)
                  have htr := fun W => trimLeft_c ⟨(asc (padD 9 p)).toArray⟩ W
                  rw [show Lib.trimLeftB (ByteArray.mk (asc (padD 9 p)).toArray).data.toList 48 = asc (lowD p) from asc_pad_top (HTOP.out hk1) hp9] at htr
                  have hld : (asc (lowD p)).length ≤ 9 := by rw [asc_len]; exact (padD_low 9 p hp9).2
                  clear hk1
                  generalize asc (padD 9 p) = tx at *
                  generalize asc (lowD p) = ty at *
                  generalize asc (lowP (P.drop (k + 1))) = lx at *
                  go_wp2_with fail
                  refine (htr _).mono ?_
                  rintro e w5 ⟨rfl, rfl⟩
                  clear htr
                  go_wp2_with fail
                  refine (bwrite_c wr.heap.size wr.heap.size lx ⟨ty.toArray⟩ _ hBy (by show lx.length + ty.length ≤ _; omega) hsw).mono ?_
                  rintro e w6 ⟨rfl, hBz, hb6⟩
                  go_wp2
                  exact ⟨⟨k, by omega, by go_num, by rw [← HEQ.out]; exact hBz, hBw.trans hb6, by have := hb6.size; omega⟩, by simp [intOf]⟩
                · have ht : ((k : Int) == (P.length : Int) - 1) = false := by rw [beq_eq_false_iff_ne]; omega
                  have HEQ := Lib.hid (show asc (lowP (P.drop (k + 1))) ++ asc (padD 9 p) = asc (lowP (P.drop k)) by
                    rw [HLO.out (by omega), asc_append])
                  have hld : (asc (padD 9 p)).length ≤ 9 := by rw [asc_len, padD_len]; omega
                  clear hk1
                  generalize asc (padD 9 p) = ty at *
                  generalize asc (lowP (P.drop (k + 1))) = lx at *
                  go_wp2_with fail
                  refine (bwrite_c wr.heap.size wr.heap.size lx ⟨ty.toArray⟩ _ hBy (by show lx.length + ty.length ≤ _; omega) hsw).mono ?_
                  rintro e w6 ⟨rfl, hBz, hb6⟩
                  go_wp2
                  exact ⟨⟨k, by omega, by go_num, by rw [← HEQ.out]; exact hBz, hBw.trans hb6, by have := hb6.size; omega⟩, by simp [intOf]⟩
              | succ j =>
                have HS := Lib.hid (Z9_step j m p)
                have HQ := Lib.hid (show p / 10 ^ (m + 1) = p / 10 ^ m / 10 by rw [Nat.pow_succ, Nat.div_div_eq_div_mul])
                have hZl := Z9_len (j + 1) m p
                rw [show (((j + 1 : Nat) : Int) - 1) = (j : Int) from by omega]
                have hj9 : (j : Int) < 9 := by omega
                have qc := hA.cell j (by omega)
                have qf := hA.free j
                have hAn := hA.set (k := j) (by rw [hZl, hjm]) (by omega) (dig (p / 10 ^ m % 10))
                rw [HS.out] at hAn
                have hq9 : p / 10 ^ m < 4294967296 := Nat.lt_of_le_of_lt (Nat.div_le_self _ _) (by omega)
                generalize p / 10 ^ m = q at *
                have hc10 : q % 10 < 10 := by omega
                obtain ⟨bb, hbb⟩ : ∃ bb, bb = dig (q % 10) := ⟨_, rfl⟩
                rw [← hbb] at hAn
                have e3 : (q : Int).tmod 10 = ((q % 10 : Nat) : Int) := rfl
                have e4 : (q : Int).tdiv 10 = ((q / 10 : Nat) : Int) := rfl
                have e5 : ((q / 10 : Nat) : Int) % 4294967296 = ((q / 10 : Nat) : Int) := by omega
                have hb1 : (48 : Int) + ((q % 10 : Nat) : Int) = (bb.toNat : Int) := by rw [hbb, dig_nat hc10]; omega
                have hb2 : (bb.toNat : Int) % 256 = (bb.toNat : Int) := by have := bb.toNat_lt; omega
                have hb3 : IntKind.u32.wrap (bb.toNat : Int) = (bb.toNat : Int) := w32 (by have := bb.toNat_lt; unfold BB; omega)
                have HBB := Lib.hid hbb
                have HAN := Lib.hid hAn
                clear hbb hAn hZl
                generalize q % 10 = c10 at *
                generalize q / 10 = q10 at *
                go_wp2
                refine ⟨⟨j, m + 1, by omega, by go_num, by rw [HQ.out], HAN.out, bset hBi (by simp) _, by simpa using hsi⟩, by simp [intOf]⟩
end Go.Proofs.YthaohpfbengabaaGreatDoor

/- limb: Digits: the iterator that tells a number's digits, from the first one on. -/
namespace Go.Proofs.YthaohpfbengabaaGreatDoor
open Num
open Go.ChangeShapes Go.WideShapes Go.ChangeAt Go.RowKit
set_option linter.unusedVariables false
set_option linter.unusedSimpArgs false
attribute [local go_sem] Oper.semAt_some

/-- the text's letters are the list's digits -/
def DigTxt (s : ByteArray) (L : List Nat) : Prop := s.data.toList = L.map dig ∧ ∀ d ∈ L, d < 10
theorem DigTxt.size {s : ByteArray} {L : List Nat} (h : DigTxt s L) : s.size = L.length := by
  have e := congrArg List.length h.1
  rw [List.length_map] at e
  rw [← e]; rfl
theorem DigTxt.get {s : ByteArray} {L : List Nat} (h : DigTxt s L) (k : Nat) (hk : k < L.length) (hs : k < s.size) : (s[k]'hs).toNat = 48 + L.getD k 0 ∧ L.getD k 0 < 10 := by
  have hd : L.getD k 0 < 10 := by
    rw [List.getD_eq_getElem?_getD, List.getElem?_eq_getElem hk]; exact h.2 _ (List.getElem_mem _)
  have e : s.data.toList[k]? = some (dig (L.getD k 0)) := by
    rw [h.1, List.getElem?_map, List.getElem?_eq_getElem hk]
    simp [List.getElem?_eq_getElem hk]
  have e2 : s[k]'hs = dig (L.getD k 0) := by
    have h3 : s.data.toList[k]? = some (s[k]'hs) := by
      rw [Array.getElem?_toList]
      exact Array.getElem?_eq_getElem hs
    rw [h3] at e; exact Option.some.inj e
  rw [e2, dig_nat hd]
  exact ⟨rfl, hd⟩
theorem next_dig {s : ByteArray} {L : List Nat} (h : DigTxt s L) {wr : World} {ib pos : Nat} (hit : wr.heap[ib]? = some (.stringIter s pos)) (hp : pos < L.length) (ty : TypeId) :
    (Instr.next (.pointer (some ⟨ib, 0, none⟩)) true ty).run Tryz.prog wr = .ok (.tuple #[.bool true, .int .i64 pos, .int .i32 ((48 + L.getD pos 0 : Nat) : Int)]) (wr.iterAt ib s (pos + 1)) := by
  have hs : pos < s.size := by rw [h.size]; exact hp
  obtain ⟨e, hd⟩ := h.get pos hp hs
  have := Go.Lib.run_next_ascii_at (P := Tryz.prog) wr ib s pos ty hit hs (by rw [e]; omega)
  rwa [e] at this
theorem iterAt_grown (w : World) (k : Nat) (s : ByteArray) (p : Nat) : w.grownBy (w.iterAt k s p) (some k) := by
  refine ⟨rfl, rfl, rfl, by simp [Go.World.iterAt], fun i hi hk => ?_⟩
  simp only [Go.World.iterAt]
  exact Array.getElem?_setIfInBounds_ne (fun e => hk (by rw [e]))

set_option maxRecDepth 100000 in
set_option maxHeartbeats 2000000 in
theorem dg_c (l B N n0 : Nat) (s : ByteArray) (L : List Nat) (J Jx : List Nat → World → Prop) (hJ : AbidesFrom n0 J) (hd : DigTxt s L)
    (hY : ∀ pre x W1, J pre W1 → pre.length < N → YieldAt Fence.wide 3 Tryz.prog l #[.int .i64 ((x % 10 : Nat) : Int)] W1 fun e W' => (e = .returned (.bool true) ∧ J (pre ++ [x]) W' ∧ KeepsWalks W1 W') ∨ (e = .returned (.bool false) ∧ Jx (pre ++ [x]) W'))
    (W : World) (hn : n0 = W.heap.size) (hm : W.cell? ⟨B, 0, none⟩ = some (.string s)) (h0 : J [] W) (hN : L.length ≤ N) :
    Calls Tryz.prog 156 #[.func (.yield l) #[] #[], .pointer (some ⟨B, 0, none⟩)] W fun e W' => (∃ v, e = .returned v) ∧ ((∃ xs, xs = L ∧ J xs W') ∨ (∃ pre, pre <+: L ∧ Jx pre W')) := by
  go_enter Tryz.func156, Tryz.ntmps156
  go_wp2
  go_loopg [4] L.length (fun gk u wr => ∃ pos : Nat, pos ≤ L.length ∧ gk = L.length - pos ∧ wr.heap[W.heap.size]? = some (.stringIter s pos) ∧ J (L.take pos) wr)
  case atStart => exact ⟨0, Nat.zero_le _, by omega, World.iter_heap W s 0, hJ _ _ _ none h0 ⟨rfl, rfl, rfl, by simp [World.iter], fun k hk _ => Below.heap_alloc _ _ _ hk⟩ (fun r e => by cases e)⟩
  case round =>
    obtain ⟨pos, hp, hgk, hit, hj⟩ := hrel
    by_cases hlt : pos < L.length
    · have hnx := next_dig hd hit hlt
      have hd10 := hd.2 (L.getD pos 0) (by rw [List.getD_eq_getElem?_getD, List.getElem?_eq_getElem hlt]; exact List.getElem_mem _)
      obtain ⟨wn, hwn⟩ : ∃ wn, wn = wr.iterAt W.heap.size s (pos + 1) := ⟨_, rfl⟩
      have hitn : wn.heap[W.heap.size]? = some (.stringIter s (pos + 1)) := by rw [hwn]; exact Go.Lib.iterAt_heap wr W.heap.size s pos (pos + 1) hit
      have hjn : J (L.take pos) wn := hJ _ _ _ (some W.heap.size) hj (by rw [hwn]; exact iterAt_grown _ _ _ _) (fun r e => by cases e; exact ⟨Nat.le_of_eq hn, _, hit, rfl⟩)
      rw [← hwn] at hnx
      clear hwn
      have HT := Lib.hid (show L.take (pos + 1) = L.take pos ++ [L.getD pos 0] by
        rw [List.take_add_one, List.getElem?_eq_getElem hlt]; simp [List.getElem?_eq_getElem hlt])
      obtain ⟨fn, tmps, asg, body, hy, hR⟩ := hY (L.take pos) (L.getD pos 0) wn hjn (by rw [List.length_take]; omega)
      rw [Nat.mod_eq_of_lt hd10] at hy
      generalize L.getD pos 0 = d at *
      have hw1 : (48 : Int) + (d : Int) - 48 = (d : Int) := by omega
      go_upto_region 3 with (fail)
      refine (wpIn_wide (n := 4)).1 ?_
      gi_wp2
      refine hR.mono ?_
      rintro e W' (⟨rfl, hJ', hk⟩ | ⟨rfl, hJx'⟩)
      · gi_wp2
        go_wp2
        go_roundg (L.length - (pos + 1))
        case measure => omega
        case rel => exact ⟨pos + 1, by omega, rfl, hk.same _ _ hitn rfl, by rw [HT.out]; exact hJ'⟩
      · gi_wp2
        go_wp2
        refine bodyPost_ret (results_none rfl _ _ _) rfl ?_
        exact ⟨⟨_, rfl⟩, .inr ⟨L.take (pos + 1), List.take_prefix _ _, by rw [HT.out]; exact hJx'⟩⟩
    · obtain rfl : pos = L.length := by omega
      have hnx := fun ty => Go.Lib.run_next_end_at (P := Tryz.prog) wr W.heap.size s L.length ty hit (by rw [hd.size]; omega)
      rw [List.take_length] at hj
      go_wp2
      refine bodyPost_end (results_none rfl _ _ _) rfl ?_
      exact ⟨⟨_, rfl⟩, .inl ⟨L, rfl, hj⟩⟩
theorem digits_stops (B N n : Nat) (s : ByteArray) (L : List Nat) (w : World) (hd : DigTxt s L) (hm : w.cell? ⟨B, 0, none⟩ = some (.string s)) (hN : L.length ≤ N) :
    SeqStopsK Fence.wide n Tryz.prog 156 #[.pointer (some ⟨B, 0, none⟩)] (fun x : Nat => #[.int .i64 ((x % 10 : Nat) : Int)]) KeepsWalks (· = L) (· <+: L) N w := by
  intro l J Jx W hW hJ hJx hY h0
  refine callsIn_wide.2 ?_
  exact dg_c l B N W.heap.size s L J Jx hJ hd (fun pre x W1 hp hl => yieldAt_wide (hY pre x W1 hp hl)) W rfl (bkeep hW hm) h0 hN
/-- what natTxt's letters are -/
def digL (n : Nat) : List Nat := if n = 0 then [0] else (lowD n).reverse
theorem digL_txt (n : Nat) : DigTxt ⟨(natTxt n).toArray⟩ (digL n) := by
  refine ⟨?_, ?_⟩
  · show natTxt n = (digL n).map dig
    unfold natTxt digL
    split
    · rfl
    · rw [asc_eq, List.map_reverse]
  · unfold digL
    split
    · intro d hd; simp at hd; omega
    · intro d hd; exact lowD_lt n d (by simpa using hd)
theorem limbDigits_c (a : Option Addr) (ca : Nat) (l : List Nat) (w : World) (ha : U32 w a ca l) (h1 : l.length ≤ 67108865) :
    Calls Tryz.prog 119 #[.slice a l.length ca] w fun e w' => ∃ B, e = .returned (.func (.func 156) #[] #[.pointer (some ⟨B, 0, none⟩)]) ∧ w'.cell? ⟨B, 0, none⟩ = some (.string ⟨(natTxt (val l)).toArray⟩) ∧ Below w.heap.size w w' := by
  have tc := fun W (h : Below w.heap.size w W) => limbText_c a ca l W (ha.keep h) h1
  go_enter Tryz.func119, Tryz.ntmps119
  go_wp2_with fail
  refine (tc _ (Below.refl _ _)).mono ?_
  rintro e w1 ⟨rfl, hb1⟩
  clear tc
  go_wp2
  go_ret
  exact ⟨_, rfl, cell_new rfl rfl, bal hb1 _⟩
end Go.Proofs.YthaohpfbengabaaGreatDoor

/- integer: Text. -/
namespace Go.Proofs.YthaohpfbengabaaGreatDoor
open Num
open Go.ChangeShapes Go.WideShapes Go.ChangeAt Go.RowKit
set_option linter.unusedVariables false
set_option linter.unusedSimpArgs false
attribute [local go_sem] Oper.semAt_some

/-- the text so far: a variable in memory (block c), its bytes from block base on -/
structure OutS (c base : Nat) (av : Option Addr) (cap : Nat) (L : List UInt8) (W : World) : Prop where
  cell : W.cell? ⟨c, 0, none⟩ = some (.slice av L.length cap)
  free : W.frozen? ⟨c, 0, none⟩ = false
  own : W.ownsRow base 5 1 (.slice av L.length cap) L.length (Lib.byteCells L)
  lt : c < base
theorem own_soft {B base : Nat} {W W' : World} {v : Value} {n : Nat} {xs : List Value} (h : W.ownsRow base 5 1 v n xs) (s : Soft B W W') : W'.ownsRow base 5 1 v n xs := by
  refine ⟨h.1, ?_⟩
  rcases h.2 with hn | ⟨g, cap, cur, rfl, hb, hgg, rest⟩
  · exact .inl hn
  · exact .inr ⟨g, cap, cur, rfl, hb, s.cells _ _ hgg rfl, rest⟩
theorem own_put {base : Nat} {W : World} {v : Value} {n : Nat} {xs : List Value} (h : W.ownsRow base 5 1 v n xs) (p : Addr) (x : Value) (hp : p.block < base) : (W.setCell p x).ownsRow base 5 1 v n xs := by
  refine ⟨h.1, ?_⟩
  rcases h.2 with hn | ⟨g, cap, cur, rfl, hb, hgg, rest⟩
  · exact .inl hn
  · exact .inr ⟨g, cap, cur, rfl, hb, (Below.heap_setCell _ _ _ _ (by omega)).trans hgg, rest⟩
theorem own_shape {base : Nat} {W : World} {v : Value} {L : List UInt8} (h : W.ownsRow base 5 1 v L.length (Lib.byteCells L)) : ∃ a c, v = .slice a L.length c := by
  rcases h.2 with ⟨rfl, h1⟩ | ⟨g, cap, cur, rfl, _⟩
  · exact ⟨none, 0, by rw [h1]⟩
  · exact ⟨_, _, rfl⟩
theorem OutS.soft {c base B : Nat} {av : Option Addr} {cap : Nat} {L : List UInt8} {W W' : World} (h : OutS c base av cap L W) (s : Soft B W W') : OutS c base av cap L W' :=
  ⟨s.cell h.cell, s.frozen h.cell h.free, own_soft h.own s, h.lt⟩
theorem OutS.keep {c base : Nat} {av : Option Addr} {cap : Nat} {L : List UInt8} {W W' : World} (h : OutS c base av cap L W) (hb : Below W.heap.size W W') : OutS c base av cap L W' :=
  ⟨bkeep hb h.cell, bkeepf hb h.cell h.free, own_below (w0 := W) h.own hb, h.lt⟩
/-- what the append and the store behind it leave -/
theorem OutS.next {c base : Nat} {av : Option Addr} {cap : Nat} {L X : List UInt8} {W w' : World} {v' : Value} (h : OutS c base av cap L W) (o : Obj)
    (hown : w'.ownsRow base 5 1 v' (L ++ X).length (Lib.byteCells (L ++ X))) (hg : (W.alloc o).grownBy w' (Value.slice av L.length cap).ownBlock) :
    ∃ av' cap', v' = .slice av' (L ++ X).length cap' ∧ OutS c base av' cap' (L ++ X) (w'.setCell ⟨c, 0, none⟩ v') ∧ KeepsOthers W (w'.setCell ⟨c, 0, none⟩ v') ∧ w'.cell? ⟨c, 0, none⟩ = some (.slice av L.length cap) ∧ w'.frozen? ⟨c, 0, none⟩ = false := by
  obtain ⟨av', cap', rfl⟩ := own_shape hown
  have hne : some c ≠ (Value.slice av L.length cap).ownBlock := fun e => by
    have := (h.own.lt c e.symm).1
    have := h.lt
    omega
  have c0 : w'.cell? ⟨c, 0, none⟩ = some (.slice av L.length cap) := hg.cell (cell_alloc h.cell o) hne
  have cf : w'.frozen? ⟨c, 0, none⟩ = false := by
    rw [World.frozen?_of_block (hg.block c (by have := cell_lt h.cell; simp; omega) hne)]
    exact bkeepf (bal (Below.refl _ _) _) h.cell h.free
  refine ⟨av', cap', rfl, ⟨cell_here c0 _, by rw [World.frozen?_setCell]; exact cf, own_put hown _ _ h.lt, h.lt⟩, ?_, c0, cf⟩
  refine ((KeepsOthers.alloc W o).trans (KeepsOthers.of_grownBy hg ?_)).trans (KeepsOthers.setCell _ _ _)
  intro j o' hj ho'
  rcases (h.own.alloc o).2 with ⟨h0, _⟩ | ⟨g, cap2, cur, h0, hb, hgg, rest⟩
  · rw [h0] at hj; simp [Value.ownBlock] at hj
  · rw [h0] at hj; simp [Value.ownBlock] at hj
    subst hj
    rw [hgg] at ho'; cases ho'; rfl
theorem OutS.str {c base : Nat} {av : Option Addr} {cap : Nat} {L : List UInt8} {W : World} (h : OutS c base av cap L W) : (convert 163 9 (.slice av L.length cap)).run Tryz.prog W = .ok (.string ⟨L.toArray⟩) W := by
  rcases h.own.2 with ⟨h1, h2⟩ | ⟨g, cap2, cur, h1, hb, hgg, rest⟩
  · obtain rfl : L = [] := List.length_eq_zero_iff.1 h2
    cases h1
    exact run_convert_bytes_nil W 163 5 Tryz.underlying163 Tryz.underlying5 0 0 9 Tryz.underlying9
  · cases h1
    have ho := h.own
    refine run_convert_bytes_back W 163 9 5 ⟨g, 0, none⟩ cap L Tryz.underlying163 Tryz.underlying5 Tryz.underlying9 fun j hj => ?_
    have := World.ownsRow.cellAt ho j (by omega)
    rw [bcells_get L j hj] at this
    unfold Addr.add
    split
    · subst_vars; simpa [hj] using this
    · simpa [hj] using this
theorem dig_map (L : List Nat) (h : ∀ d ∈ L, d < 10) : L.map (fun x => dig (x % 10)) = L.map dig := List.map_congr_left fun x hx => by rw [Nat.mod_eq_of_lt (h x hx)]
theorem digL_len {l : List Nat} (hl : Limbs l) (h1 : l.length ≤ 67108865) : (digL (val l)).length ≤ 2147483680 := by
  have h2 := val_lt hl
  rw [BB_pow] at h2
  have h3 := lowD_len _ _ h2
  unfold digL
  split
  · simp
  · rw [List.length_reverse]; omega
/-- a number's text: its sign, its digits -/
theorem intTxt_eq (n : Bool) (V : Nat) (hn : n = true → 0 < V) : intTxt (sg n V) = (if n then [45] else []) ++ (digL V).map (fun x => dig (x % 10)) := by
  have hd := digL_txt V
  have e : natTxt V = (digL V).map dig := hd.1
  rw [dig_map _ hd.2, ← e]
  unfold intTxt
  rw [sg_abs]
  cases n with
  | true => rw [if_pos (by have := hn rfl; simp [sg]; omega)]; rfl
  | false => rw [if_neg (by simp [sg])]; rfl


set_option maxRecDepth 100000 in
set_option maxHeartbeats 8000000 in
theorem intText_c (vx : Value) (x : Int) (k : Nat) (w : World) (hx : IsInt w vx x) (bx : Bd k x) (hk : k ≤ 2147483648) :
    Calls Tryz.prog 66 #[vx] w fun e w' => e = .returned (.string ⟨(intTxt x).toArray⟩) ∧ Below w.heap.size w w' := by
  obtain ⟨n1, a1, c1, l1, rfl, u1, g1, s1, rfl⟩ := hx
  have k1 : l1.length ≤ 67108865 := by
    by_cases h0 : l1 = []
    · subst h0; simp
    · have h1 := nrm_val_pos g1 h0
      rw [BB_pow] at h1
      have h2 : 32 * (l1.length - 1) < k := (Nat.pow_lt_pow_iff_right (a := 2) (by omega)).1 (Nat.lt_of_le_of_lt h1 (sg_bd bx))
      omega
  have HE := Lib.hid (intTxt_eq n1 (val l1) (fun h => by
    have h1 := nrm_val_pos g1 (s1 h)
    have : 0 < BB ^ (l1.length - 1) := Nat.pow_pos BB_pos
    omega))
  have HDL := Lib.hid (digL_len u1.2.2.1 k1)
  have HDT := Lib.hid (digL_txt (val l1))
  clear bx s1
  unfold iv
  obtain ⟨i0, z0, hi0, hz0, hsize0, hby0, hzs0⟩ := el8.info
  refine calls_of_wp_marks Tryz.func66 rfl ?_
  simp only [Tryz.ntmps66, List.size_toArray, List.length_cons, List.length_nil, Nat.reduceAdd, Nat.reduceSub, Array.replicate_succ, Array.replicate_zero, List.push_toArray, List.append_toArray, List.nil_append, List.cons_append, Array.append_empty, Array.empty_append]
  cases n1 with
  | false =>
    go_wp2_with fail
    refine (limbDigits_c a1 c1 l1 _ (u1.keep (bal (bal (Below.refl _ _) _) _)) k1).mono ?_
    rintro e wD ⟨B, rfl, hstr, hbD⟩
    have hO : OutS (w.heap.size + 1) (w.heap.size + 2) none 0 [] wD := OutS.keep ⟨cell_new (by simp) rfl, by rw [World.frozen?_alloc_at (hn := by simp)], World.ownsRow_nil _ _ _ _, by omega⟩ hbD
    have hBD : Below w.heap.size w wD := bthen (bal (bal (Below.refl _ _) _) _) hbD
    have HE := Lib.hid (show intTxt (sg false (val l1)) = ([] : List UInt8) ++ (digL (val l1)).map (fun x => dig (x % 10)) from HE.out)
    have hszD := hbD.size
    have hsD : w.heap.size + 2 ≤ wD.heap.size := by have := cell_lt hO.cell; omega
    go_wp2
    refine wp_rangeK (gf := 156) (lb := #[.pointer (some ⟨B, 0, none⟩)]) (w0 := wD) (L := digL (val l1)) (N := (digL (val l1)).length) (Kp := KeepsWalks) (by simp [Act.eval]) (enters_of Tryz.func156 (by kernel_rfl) rfl)
      (encs := fun x : Nat => #[.int .i64 ((x % 10 : Nat) : Int)]) (digits_stops B _ 8 _ _ wD HDT.out hstr (Nat.le_refl _)) (fun h k => walksK_t h k) (fun W l o o' h1 h2 h3 h4 => walksK_b W l o o' h1 h2 h3 h4) (Below.refl _ _) (fun _ => rfl)
      (fun pre W => (∃ av cap, OutS (w.heap.size + 1) (w.heap.size + 2) av cap (([] : List UInt8) ++ pre.map (fun x => dig (x % 10))) W) ∧ Below w.heap.size w W ∧ wD.heap.size ≤ W.heap.size)
      (fun c pre W => False)
      ?_ ?_ ?_ ?_ ?_
      (fun T x a' W => a' = { tmps := (T.setIfInBounds 13 (.int .i64 ((x % 10 : Nat) : Int))).setIfInBounds 4 (.int .i64 ((x % 10 : Nat) : Int)), defers := [] } ∧ wD.heap.size ≤ W.heap.size)
      ?_ ?_ ?assign0 ?body0 ?done0 ?stop0
    case assign0 =>
      rintro l pre x W K hi hK
      generalize x % 10 = d at *
      gi_wp2
      exact hK _ _ (KeepsFrom.refl _ _) (KeepsWalks.refl _) hi ⟨by simp, hi.2.2⟩
    case body0 =>
      rintro l pre x a' w6 ⟨⟨av6, cap6, hO6⟩, hB6, hs6⟩ ⟨rfl, _⟩ hl
      have hlm : (([] : List UInt8) ++ pre.map (fun x => dig (x % 10))).length ≤ 2147483690 := by
        have := HDL.out
        simp
        omega
      have HLN := Lib.hid (show ([] : List UInt8) ++ (pre ++ [x]).map (fun x => dig (x % 10)) = (([] : List UInt8) ++ pre.map (fun x => dig (x % 10))) ++ [dig (x % 10)] by simp)
      have hd10 : x % 10 < 10 := Nat.mod_lt _ (by omega)
      generalize ([] : List UInt8) ++ pre.map (fun x => dig (x % 10)) = Lp at *
      obtain ⟨bb, hbb⟩ : ∃ bb, bb = dig (x % 10) := ⟨_, rfl⟩
      rw [← hbb] at HLN
      have hb1 : (48 : Int) + ((x % 10 : Nat) : Int) = (bb.toNat : Int) := by rw [hbb, dig_nat hd10]; omega
      have hb2 : (bb.toNat : Int) % 256 = (bb.toNat : Int) := by have := bb.toNat_lt; omega
      clear hbb
      generalize x % 10 = d at *
      have c0 := hO6.cell
      have cf := hO6.free
      have hsz6 := cell_lt c0
      simp only [List.setIfInBounds_toArray, List.set_cons_succ, List.set_cons_zero]
      gi_wp2_with (gi_at_builtin; refine wpListIn_append_own _ rfl _ _ 163 rfl (w.heap.size + 2) 5 i0 z0 1 1 el8.ht hi0 hz0 hsize0 hby0 hzs0 el8.pos (.slice av6 Lp.length cap6) Lp.length (Lib.byteCells Lp) rfl (hO6.own.alloc _) ⟨w6.heap.size, 0, none⟩ 1 1 [.int .u8 (bb.toNat : Int)] rfl rfl (cell_one_new _ _ _) ?_ ?_ ?_ ?_ ?_; (simp [Value.oneCell']); (unfold maxLen; omega); omega; (simp; omega); intro v' w7 hown hg _; obtain ⟨av7, cap7, rfl, hO7, hKO, c7, f7⟩ := OutS.next hO6 (X := [bb]) _ (by rw [bcells_app, List.length_append]; exact hown) hg)
      have hB7 : Below w.heap.size w w7 := (bal hB6 _).grown hg (by simp; omega) (fun k e => by have := (hO6.own.lt k e).1; omega)
      have e7 : (Lp ++ [bb]).length = Lp.length + 1 := by simp
      rw [e7] at hO7 hKO
      have hs7 := hg.size
      simp at hs7
      refine ⟨hKO.from _, hKO.walks, ⟨_, _, by rw [HLN.out]; exact hO7⟩, bset hB7 (by simp) _, by simp; omega⟩
    case done0 =>
      rintro D w8 hDs ⟨⟨av8, cap8, hO8⟩, hB8, hs8⟩ hK0
      rw [← HE.out] at hO8
      have c0 := hO8.cell
      have hst := hO8.str
      go_wp2
      refine ⟨by simp, .inl ⟨_, _, rfl, run_takeDeferred (b := D) (ds := []) hK0, ?_⟩⟩
      refine ⟨.string ⟨(intTxt (sg false (val l1))).toArray⟩, ?_, rfl, b_put hB8 (by omega) _⟩
      simp [results, Tryz.results66, go_sem]
    case stop0 => intro D c pre W _ _ h; cases h
    · rintro pre W W' ⟨⟨av, cap, h⟩, h2, h3⟩ s; exact ⟨⟨av, cap, h.soft s⟩, h2.trans (s.below.mono (by omega)), Nat.le_trans h3 s.below.size⟩
    · exact fun c pre W W' h s => h
    · exact fun pre W h => h.2.2
    · exact fun c pre W h => h.elim
    · exact ⟨⟨_, _, by simpa using hO⟩, hBD, Nat.le_refl _⟩
    · rintro x a' W W' ⟨rfl, h⟩ s; exact ⟨rfl, Nat.le_trans h s.below.size⟩
    · rintro x a' W ⟨rfl, h⟩; exact h
  | true =>
    have hO0 : OutS (w.heap.size + 1) (w.heap.size + 2) none 0 [] ((w.alloc (.cells #[.bool true, .slice a1 l1.length c1] 36)).alloc (.cells #[.slice none 0 0] 163)) := ⟨cell_new (by simp) rfl, by rw [World.frozen?_alloc_at (hn := by simp)], World.ownsRow_nil _ _ _ _, by omega⟩
    have x00 : (((w.alloc (.cells #[.bool true, .slice a1 l1.length c1] 36)).alloc (.cells #[.slice none 0 0] 163)).alloc (.cells #[.int .u8 45] 5)).cell? ⟨w.heap.size, 1, none⟩ = some (.slice a1 l1.length c1) := cell_alloc (cell_alloc (cell_new rfl rfl) _) _
    have hnw : ∀ j u, [Value.int .u8 45][j]? = some u → (((w.alloc (.cells #[.bool true, .slice a1 l1.length c1] 36)).alloc (.cells #[.slice none 0 0] 163)).alloc (.cells #[.int .u8 45] 5)).cell? ((⟨w.heap.size + 1 + 1, 0, none⟩ : Addr).add j) = some u := fun j u hj => by
      have h := cell_one_new ((w.alloc (.cells #[.bool true, .slice a1 l1.length c1] 36)).alloc (.cells #[.slice none 0 0] 163)) (.int .u8 45) 5 j u hj
      simpa using h
    go_wp2_with (at_builtin; go_loud (refine wpList_append_own _ rfl _ _ 163 rfl (w.heap.size + 2) 5 i0 z0 1 1 el8.ht hi0 hz0 hsize0 hby0 hzs0 el8.pos (.slice none 0 0) 0 [] rfl (World.ownsRow_nil _ _ _ _) ⟨w.heap.size + 1 + 1, 0, none⟩ 1 1 [.int .u8 45] rfl rfl hnw ?_ ?_ ?_ ?_ ?_; (simp [Value.oneCell']); (unfold maxLen; omega); omega; (simp); intro v' w7 hown hg _; obtain ⟨av7, cap7, rfl, hO7, hKO, c7, f7⟩ := OutS.next hO0 (X := [45]) _ hown hg; have x1 := hg.cell x00 (by simp [Value.ownBlock])))
    have hB7 : Below w.heap.size w w7 := (bal (bal (bal (Below.refl _ _) _) _) _).grown hg (by simp; omega) (fun k e => by simp [Value.ownBlock] at e)
    have hs7 := hg.size
    simp at hs7
    refine (limbDigits_c a1 c1 l1 _ (u1.keep (bset hB7 (by simp) _)) k1).mono ?_
    rintro e wD ⟨B, rfl, hstr, hbD⟩
    have hO := hO7.keep hbD
    have hBD : Below w.heap.size w wD := bthen (bset hB7 (by simp) _) hbD
    have HE := Lib.hid (show intTxt (sg true (val l1)) = ([45] : List UInt8) ++ (digL (val l1)).map (fun x => dig (x % 10)) from HE.out)
    have hszD := hbD.size
    have hsD : w.heap.size + 2 ≤ wD.heap.size := by have := cell_lt hO.cell; omega
    go_wp2
    refine wp_rangeK (gf := 156) (lb := #[.pointer (some ⟨B, 0, none⟩)]) (w0 := wD) (L := digL (val l1)) (N := (digL (val l1)).length) (Kp := KeepsWalks) (by simp [Act.eval]) (enters_of Tryz.func156 (by kernel_rfl) rfl)
      (encs := fun x : Nat => #[.int .i64 ((x % 10 : Nat) : Int)]) (digits_stops B _ 8 _ _ wD HDT.out hstr (Nat.le_refl _)) (fun h k => walksK_t h k) (fun W l o o' h1 h2 h3 h4 => walksK_b W l o o' h1 h2 h3 h4) (Below.refl _ _) (fun _ => rfl)
      (fun pre W => (∃ av cap, OutS (w.heap.size + 1) (w.heap.size + 2) av cap (([45] : List UInt8) ++ pre.map (fun x => dig (x % 10))) W) ∧ Below w.heap.size w W ∧ wD.heap.size ≤ W.heap.size)
      (fun c pre W => False)
      ?_ ?_ ?_ ?_ ?_
      (fun T x a' W => a' = { tmps := (T.setIfInBounds 13 (.int .i64 ((x % 10 : Nat) : Int))).setIfInBounds 4 (.int .i64 ((x % 10 : Nat) : Int)), defers := [] } ∧ wD.heap.size ≤ W.heap.size)
      ?_ ?_ ?assign0 ?body0 ?done0 ?stop0
    case assign0 =>
      rintro l pre x W K hi hK
      generalize x % 10 = d at *
      gi_wp2
      exact hK _ _ (KeepsFrom.refl _ _) (KeepsWalks.refl _) hi ⟨by simp, hi.2.2⟩
    case body0 =>
      rintro l pre x a' w6 ⟨⟨av6, cap6, hO6⟩, hB6, hs6⟩ ⟨rfl, _⟩ hl
      have hlm : (([45] : List UInt8) ++ pre.map (fun x => dig (x % 10))).length ≤ 2147483690 := by
        have := HDL.out
        simp
        omega
      have HLN := Lib.hid (show ([45] : List UInt8) ++ (pre ++ [x]).map (fun x => dig (x % 10)) = (([45] : List UInt8) ++ pre.map (fun x => dig (x % 10))) ++ [dig (x % 10)] by simp)
      have hd10 : x % 10 < 10 := Nat.mod_lt _ (by omega)
      generalize ([45] : List UInt8) ++ pre.map (fun x => dig (x % 10)) = Lp at *
      obtain ⟨bb, hbb⟩ : ∃ bb, bb = dig (x % 10) := ⟨_, rfl⟩
      rw [← hbb] at HLN
      have hb1 : (48 : Int) + ((x % 10 : Nat) : Int) = (bb.toNat : Int) := by rw [hbb, dig_nat hd10]; omega
      have hb2 : (bb.toNat : Int) % 256 = (bb.toNat : Int) := by have := bb.toNat_lt; omega
      clear hbb
      generalize x % 10 = d at *
      have c0 := hO6.cell
      have cf := hO6.free
      have hsz6 := cell_lt c0
      simp only [List.setIfInBounds_toArray, List.set_cons_succ, List.set_cons_zero]
      gi_wp2_with (gi_at_builtin; refine wpListIn_append_own _ rfl _ _ 163 rfl (w.heap.size + 2) 5 i0 z0 1 1 el8.ht hi0 hz0 hsize0 hby0 hzs0 el8.pos (.slice av6 Lp.length cap6) Lp.length (Lib.byteCells Lp) rfl (hO6.own.alloc _) ⟨w6.heap.size, 0, none⟩ 1 1 [.int .u8 (bb.toNat : Int)] rfl rfl (cell_one_new _ _ _) ?_ ?_ ?_ ?_ ?_; (simp [Value.oneCell']); (unfold maxLen; omega); omega; (simp; omega); intro v' w7 hown hg _; obtain ⟨av7, cap7, rfl, hO7, hKO, c7, f7⟩ := OutS.next hO6 (X := [bb]) _ (by rw [bcells_app, List.length_append]; exact hown) hg)
      have hB7 : Below w.heap.size w w7 := (bal hB6 _).grown hg (by simp; omega) (fun k e => by have := (hO6.own.lt k e).1; omega)
      have e7 : (Lp ++ [bb]).length = Lp.length + 1 := by simp
      rw [e7] at hO7 hKO
      have hs7 := hg.size
      simp at hs7
      refine ⟨hKO.from _, hKO.walks, ⟨_, _, by rw [HLN.out]; exact hO7⟩, bset hB7 (by simp) _, by simp; omega⟩
    case done0 =>
      rintro D w8 hDs ⟨⟨av8, cap8, hO8⟩, hB8, hs8⟩ hK0
      rw [← HE.out] at hO8
      have c0 := hO8.cell
      have hst := hO8.str
      go_wp2
      refine ⟨by simp, .inl ⟨_, _, rfl, run_takeDeferred (b := D) (ds := []) hK0, ?_⟩⟩
      refine ⟨.string ⟨(intTxt (sg true (val l1))).toArray⟩, ?_, rfl, b_put hB8 (by omega) _⟩
      simp [results, Tryz.results66, go_sem]
    case stop0 => intro D c pre W _ _ h; cases h
    · rintro pre W W' ⟨⟨av, cap, h⟩, h2, h3⟩ s; exact ⟨⟨av, cap, h.soft s⟩, h2.trans (s.below.mono (by omega)), Nat.le_trans h3 s.below.size⟩
    · exact fun c pre W W' h s => h
    · exact fun pre W h => h.2.2
    · exact fun c pre W h => h.elim
    · exact ⟨⟨_, _, by simpa using hO⟩, hBD, Nat.le_refl _⟩
    · rintro x a' W W' ⟨rfl, h⟩ s; exact ⟨rfl, Nat.le_trans h s.below.size⟩
    · rintro x a' W ⟨rfl, h⟩; exact h
end Go.Proofs.YthaohpfbengabaaGreatDoor

