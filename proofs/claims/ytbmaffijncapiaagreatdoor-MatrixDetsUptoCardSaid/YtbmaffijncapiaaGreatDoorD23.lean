/- matrix: Inverse. -/
import Derived.Test.YtbmaffijncapiaaGreatDoorD22
set_option linter.unusedVariables false
set_option linter.unusedSimpArgs false
namespace Go.Proofs.YtbmaffijncapiaaGreatDoor
open Num
open Go.ChangeShapes Go.WideShapes Go.ChangeAt Go.RowKit
set_option linter.unusedVariables false
set_option linter.unusedSimpArgs false
attribute [local go_sem ↓] Go.wp_at_zero Go.wp_at_succ
def comG (d : Int) (a : Grid) : Int := a.foldl (fun c r => gcdI c (contL r)) d
theorem comG_take {d : Int} {a : Grid} {j : Nat} (hj : j < a.length) : comG d (a.take (j + 1)) = gcdI (comG d (a.take j)) (contL (a.getD j [])) := by
  unfold comG
  rw [take_getD [] hj, List.foldl_append]; rfl
theorem contL_all {k : Nat} {l : List Int} (h : ∀ j, Bd k (l.getD j 0)) : Bd k (contL l) := by
  have := contL_bd h l.length (Nat.le_refl _)
  rwa [List.take_length] at this
theorem comG_bd {k : Nat} {d : Int} {a : Grid} (hd : Bd k d) (ha : BdM k a) : ∀ j, j ≤ a.length → Bd k (comG d (a.take j)) := by
  intro j
  induction j with
  | zero => intro _; exact hd
  | succ j ih =>
    intro hj
    rw [comG_take (by omega)]
    exact gcdI_bd (ih (by omega)) (contL_all fun i => ha j i)
theorem gcdI_nz {x y : Int} (h : x ≠ 0) : gcdI x y ≠ 0 := by
  unfold gcdI
  have : 0 < Nat.gcd x.natAbs y.natAbs := Nat.gcd_pos_of_pos_left _ (by omega)
  omega
theorem comG_nz {a : Grid} : ∀ {d : Int}, d ≠ 0 → comG d a ≠ 0 := by
  induction a with
  | nil => intro d h; exact h
  | cons r a ih => intro d h; exact ih (d := gcdI d (contL r)) (gcdI_nz h)
def invS (g : Grid) : Int := if Det.detE g.length (gat g) < 0 then - comG (Det.detE g.length (gat g)) (adjG g) else comG (Det.detE g.length (gat g)) (adjG g)
def invG (g : Grid) : Grid := tab g.length g.length fun i j => gat (adjG g) i j / invS g
def invD (g : Grid) : Int := Det.detE g.length (gat g) / invS g
theorem adj_len (g : Grid) : (adjG g).length = g.length := tab_len _ _ _
theorem bd_neg {k : Nat} {x : Int} (h : Bd k x) : Bd k (-x) := by unfold Bd at *; rwa [Int.natAbs_neg]
theorem adj_bd {g : Grid} {K : Nat} (hK1 : 1 ≤ K) (h : BdM K g) : BdM (kb K g.length) (adjG g) := by
  intro i j
  unfold adjG
  by_cases e : i < g.length ∧ j < g.length
  · rw [tab_gat e.1 e.2]
    have h1 := detE_bd hK1 (left_bd (i := i) e.2 h) (left_all e.2)
    rw [left_det e.2] at h1
    have h2 := h1.mono (kb_mono K (show g.length - 1 ≤ g.length by omega))
    unfold Det.iadj
    split
    · exact bd_neg h2
    · exact h2
  · have h0 : gat (tab g.length g.length (Det.iadj g.length (gat g))) i j = 0 := by
      show ((tab g.length g.length (Det.iadj g.length (gat g))).getD i []).getD j 0 = 0
      by_cases e1 : i < g.length
      · rw [List.getD_eq_getElem?_getD, List.getElem?_eq_none (by rw [tab_rowlen e1]; omega)]; rfl
      · have h3 : (tab g.length g.length (Det.iadj g.length (gat g))).getD i [] = [] := by rw [List.getD_eq_getElem?_getD, List.getElem?_eq_none (by rw [tab_len]; omega)]; rfl
        rw [h3]; rfl
    rw [h0]; exact bd_zero
theorem IsM.rowAt {base : Nat} {w : World} {a : Option Addr} {n c : Nat} {g : Grid} (h : IsM base w (.agg #[.slice a n c]) g) {i : Nat} (hi : i < g.length) :
    ∃ gb go ra rc, a = some ⟨gb, go, none⟩ ∧ w.cell? ⟨gb, go + i, none⟩ = some (.slice ra (g.getD i []).length rc) ∧ PRow base w (.slice ra (g.getD i []).length rc) (g.getD i []) := by
  obtain ⟨a', c', e, hl⟩ := h
  cases e
  obtain ⟨c2, gb, go, ra, rc, e2, hu, hp⟩ := hl.row hi
  exact ⟨gb, go, ra, rc, (Value.slice.inj e2).1, hu, hp⟩
theorem prow_out {base : Nat} {w w' : World} {v : Value} {l : List Int} {X : Nat → Prop} (h : PRow base w v l) (ho : Out X w w') (hx : ∀ k, base ≤ k → ¬ X k) (hl : Lim w w') : PRow base w' v l := by
  obtain ⟨a, c, e, h1, h2, h3⟩ := h
  refine ⟨a, c, e, h1, h2, ?_⟩
  rcases h3 with h3 | ⟨b, off, e2, hb, ht, hi⟩
  · exact .inl h3
  · exact .inr ⟨b, off, e2, hb, by rw [typ_of_block (w := w) (ho.block b (typ_lt ht) (hx b hb))]; exact ht, hi.out lims_int ho (hx b hb) hl⟩
theorem IsM.out {base : Nat} {w w' : World} {v : Value} {g : Grid} {X : Nat → Prop} (h : IsM base w v g) (ho : Out X w w') (hx : ∀ k, base ≤ k → ¬ X k) (hl : Lim w w') : IsM base w' v g := by
  obtain ⟨a, c, e, a', c', e2, h1, h2, h3⟩ := h
  refine ⟨a, c, e, a', c', e2, h1, h2, ?_⟩
  rcases h3 with h3 | ⟨b, off, e2, hb, ht, hi⟩
  · exact .inl h3
  · refine .inr ⟨b, off, e2, hb, by rw [typ_of_block (w := w) (ho.block b (typ_lt ht) (hx b hb))]; exact ht, fun k hk => ?_⟩
    obtain ⟨u, hu, hp⟩ := hi k hk
    exact ⟨u, okeep ho hu (hx b hb), prow_out hp ho hx hl⟩
structure InvB (w w1 : World) (ag : Option Addr) (N cg : Nat) (bv : Value) (db gb : Nat) (d S : Int) (W : World) : Prop where
  g : VarI gb S W
  dd : VarI db d W
  m0 : W.cell? ⟨w.heap.size, 0, none⟩ = some (.slice ag N cg)
  r0 : W.cell? ⟨w.heap.size + 1, 0, none⟩ = some (.slice none 0 0)
  r0f : W.frozen? ⟨w.heap.size + 1, 0, none⟩ = false
  s0 : W.cell? ⟨w.heap.size + 1 + 1, 0, none⟩ = some (.bool false)
  s1 : W.cell? ⟨w.heap.size + 1 + 1, 1, none⟩ = some (.slice none 0 0)
  s0f : W.frozen? ⟨w.heap.size + 1 + 1, 0, none⟩ = false
  s1f : W.frozen? ⟨w.heap.size + 1 + 1, 1, none⟩ = false
  b5 : W.cell? ⟨w1.heap.size, 0, none⟩ = some bv
  b1 : Below w1.heap.size w1 W
  bel : Below w.heap.size w W
section
variable {w w1 : World} {ag : Option Addr} {N cg : Nat} {bv : Value} {db gb : Nat} {d S : Int} {W W' : World}
theorem InvB.keep (h : InvB w w1 ag N cg bv db gb d S W) (k : Below W.heap.size W W') : InvB w w1 ag N cg bv db gb d S W' :=
  ⟨h.g.keep k, h.dd.keep k, bkeep k h.m0, bkeep k h.r0, bkeepf k h.r0 h.r0f, bkeep k h.s0, bkeep k h.s1, bkeepf k h.s0 h.s0f, bkeepf k h.s1 h.s1f, bkeep k h.b5, bthen h.b1 k, bthen h.bel k⟩
theorem frz2 {W : World} {vb : Nat} {x : Bool} {y : Option Addr} {p r : Nat} {a : Addr} (h : W.frozen? a = false) : ((W.setCell ⟨vb, 0, none⟩ (.bool x)).setCell ⟨vb, 1, none⟩ (.slice y p r)).frozen? a = false := by
  rw [World.frozen?_setCell, World.frozen?_setCell]; exact h
theorem InvB.putG (h : InvB w w1 ag N cg bv db gb d S W) (h1 : w.heap.size + 1 + 1 < w1.heap.size) (h2 : w1.heap.size < db) (h3 : db < gb) {n : Bool} {a : Option Addr} {l c : Nat} {z : Int} (hi : IsInt W (.agg #[.bool n, .slice a l c]) z) : InvB w w1 ag N cg bv db gb d z ((W.setCell ⟨gb, 0, none⟩ (.bool n)).setCell ⟨gb, 1, none⟩ (.slice a l c)) := by
  have n0 : ¬ gb = w.heap.size := by omega
  have n1 : ¬ gb = w.heap.size + 1 := by omega
  have n2 : ¬ gb = w.heap.size + 1 + 1 := by omega
  have n3 : ¬ gb = w1.heap.size := by omega
  exact ⟨h.g.put hi, h.dd.far h.g (by omega) _ _ _ _, cell_far2 h.m0 n0 _ _ _ _, cell_far2 h.r0 n1 _ _ _ _, frz2 h.r0f, cell_far2 h.s0 n2 _ _ _ _, cell_far2 h.s1 n2 _ _ _ _, frz2 h.s0f, frz2 h.s1f, cell_far2 h.b5 n3 _ _ _ _, bset (bset h.b1 (by show w1.heap.size ≤ gb; omega) _) (by show w1.heap.size ≤ gb; omega) _, bset (bset h.bel (by show w.heap.size ≤ gb; omega) _) (by show w.heap.size ≤ gb; omega) _⟩
theorem InvB.putD (h : InvB w w1 ag N cg bv db gb d S W) (h1 : w.heap.size + 1 + 1 < w1.heap.size) (h2 : w1.heap.size < db) (h3 : db < gb) {n : Bool} {a : Option Addr} {l c : Nat} {z : Int} (hi : IsInt W (.agg #[.bool n, .slice a l c]) z) : InvB w w1 ag N cg bv db gb z S ((W.setCell ⟨db, 0, none⟩ (.bool n)).setCell ⟨db, 1, none⟩ (.slice a l c)) := by
  have n0 : ¬ db = w.heap.size := by omega
  have n1 : ¬ db = w.heap.size + 1 := by omega
  have n2 : ¬ db = w.heap.size + 1 + 1 := by omega
  have n3 : ¬ db = w1.heap.size := by omega
  exact ⟨h.g.far h.dd (by omega) _ _ _ _, h.dd.put hi, cell_far2 h.m0 n0 _ _ _ _, cell_far2 h.r0 n1 _ _ _ _, frz2 h.r0f, cell_far2 h.s0 n2 _ _ _ _, cell_far2 h.s1 n2 _ _ _ _, frz2 h.s0f, frz2 h.s1f, cell_far2 h.b5 n3 _ _ _ _, bset (bset h.b1 (by show w1.heap.size ≤ db; omega) _) (by show w1.heap.size ≤ db; omega) _, bset (bset h.bel (by show w.heap.size ≤ db; omega) _) (by show w.heap.size ≤ db; omega) _⟩
end
theorem IsM.boxM {w : World} {b : Nat} {a : Option Addr} {n c : Nat} {g : Grid} (h : IsM 0 w (.agg #[.slice a n c]) g) (hc : w.cell? ⟨b, 0, none⟩ = some (.slice a n c)) : BoxM b w g := by
  obtain ⟨a', c', e, hl⟩ := h
  cases e
  exact ⟨_, _, hc, hl⟩
theorem three_far {W : World} {p : Addr} (v : Value) {a1 a2 a3 : Addr} {v1 v2 v3 : Value} (h : W.cell? a1 = some v1 ∧ W.cell? a2 = some v2 ∧ W.cell? a3 = some v3) (n1 : p ≠ a1) (n2 : p ≠ a2) (n3 : p ≠ a3) :
    (W.setCell p v).cell? a1 = some v1 ∧ (W.setCell p v).cell? a2 = some v2 ∧ (W.setCell p v).cell? a3 = some v3 := ⟨cell_far h.1 n1 v, cell_far h.2.1 n2 v, cell_far h.2.2 n3 v⟩
def InvPost (g : Grid) (w : World) (e : Ending) (w' : World) : Prop :=
  ((sqB g = true ∧ Det.detE g.length (gat g) ≠ 0 ∧ ∃ v u, e = .returned (.tuple #[v, u, .int .i64 0]) ∧ IsM w.heap.size w' v (invG g) ∧ IsInt w' u (invD g)) ∨
   (sqB g = true ∧ Det.detE g.length (gat g) = 0 ∧ e = .returned (.tuple #[.agg #[.slice none 0 0], .agg #[.bool false, .slice none 0 0], .int .i64 50])) ∨
   (sqB g = false ∧ e = .returned (.tuple #[.agg #[.slice none 0 0], .agg #[.bool false, .slice none 0 0], .int .i64 5]))) ∧ Below w.heap.size w w'
set_option maxRecDepth 100000 in
set_option maxHeartbeats 16000000 in
theorem invM_c (v : Value) (g : Grid) (K : Nat) (w : World) (hv : IsM 0 w v g) (hr : Rct g (cols g)) (hn : g.length ≤ 65536) (hK1 : 1 ≤ K) (hbd : BdM K g) (hK : kb K g.length ≤ 4294967296) :
    Calls Tryz.prog 70 #[v] w (InvPost g w) := by
  have AC := Lib.hid (fun W (q : Below w.heap.size w W) => adjM_c v g K W (hv.keep q) hr hn hK1 hbd (Nat.le_trans (kb_mono K (Nat.sub_le _ _)) hK))
  have DC := Lib.hid (fun W (q : Below w.heap.size w W) => detM_c v g K W (hv.keep q) hr hn hK1 hbd hK)
  have HAB := Lib.hid (adj_bd hK1 hbd)
  have HDB := Lib.hid (detE_bd hK1 hbd rfl)
  obtain ⟨ag, cg, rfl, -⟩ := hv
  have RC := Lib.hid (fun V => rowsM_c ag g.length cg V)
  have HAL := Lib.hid (adj_len g)
  have HAR := Lib.hid (show Rct (adjG g) g.length from tab_rect _ _ _)
  clear hr hbd
  unfold InvPost
  have HIS := Lib.hid (show invS g = if Det.detE g.length (gat g) < 0 then - comG (Det.detE g.length (gat g)) (adjG g) else comG (Det.detE g.length (gat g)) (adjG g) from rfl)
  have HIG := Lib.hid (show invG g = tab g.length g.length fun i j => gat (adjG g) i j / invS g from rfl)
  have HNP := Lib.hid (fun (h : sqB g = true) => sq_pos h)
  have HID := Lib.hid (show invD g = Det.detE g.length (gat g) / invS g from rfl)
  obtain ⟨N, hN⟩ : ∃ N, g.length = N := ⟨_, rfl⟩
  obtain ⟨kk, hkk⟩ : ∃ x, kb K g.length = x := ⟨_, rfl⟩
  obtain ⟨A, hA⟩ : ∃ A, adjG g = A := ⟨_, rfl⟩
  unfold DetPost at DC
  rw [hkk] at HAB HDB hK
  rw [hA] at HAB AC HIS HIG HAL HAR
  try rw [hN] at AC
  try rw [hN] at DC
  try rw [hN] at RC
  try rw [hN] at HAB
  try rw [hN] at HDB
  try rw [hN] at HIS
  try rw [hN] at HIG
  try rw [hN] at HID
  try rw [hN] at HAL
  try rw [hN] at HAR
  try rw [hN] at hn
  try rw [hN] at HNP
  try rw [hN]
  obtain ⟨d, hd⟩ : ∃ d, Det.detE N (gat g) = d := ⟨_, rfl⟩
  try rw [hd] at DC
  try rw [hd] at HDB
  try rw [hd] at HIS
  try rw [hd] at HID
  try rw [hd]
  clear hN hkk hA hd
  obtain ⟨S, hS⟩ : ∃ s, invS g = s := ⟨_, rfl⟩
  rw [hS] at HIS HIG HID
  clear hS
  have hB := Below.refl w.heap.size w
  obtain ⟨b, hb⟩ : ∃ b, sqB g = b := ⟨_, rfl⟩
  have HBQ := Lib.hid hb
  cases b with
  | false =>
    go_enter Tryz.func70, Tryz.ntmps70
    go_wp2_with fail
    refine (AC.out _ (by repeat (first|exact bzR _ _|exact hB|refine bzD ?_|refine bzN ?_|refine bzS ?_|refine bzA ?_))).mono ?_
    rintro e w1 ⟨(⟨hs, -⟩ | ⟨-, rfl⟩), hb1⟩
    · rw [HBQ.out] at hs; cases hs
    have m0 : w1.cell? ⟨w.heap.size, 0, none⟩ = some (.slice ag N cg) := bkc hb1
    have zm0 := cell_lt m0
    have r0 : w1.cell? ⟨w.heap.size + 1, 0, none⟩ = some (.slice none 0 0) := bkc hb1
    have zr0 := cell_lt r0
    have r0f : w1.frozen? ⟨w.heap.size + 1, 0, none⟩ = false := bkcf (v := .slice none 0 0) hb1
    have s0 : w1.cell? ⟨w.heap.size + 1 + 1, 0, none⟩ = some (.bool false) := bkc hb1
    have zs0 := cell_lt s0
    have s0f : w1.frozen? ⟨w.heap.size + 1 + 1, 0, none⟩ = false := bkcf (v := .bool false) hb1
    have s1 : w1.cell? ⟨w.heap.size + 1 + 1, 1, none⟩ = some (.slice none 0 0) := bkc hb1
    have s1f : w1.frozen? ⟨w.heap.size + 1 + 1, 1, none⟩ = false := bkcf (v := .slice none 0 0) hb1
    have hB : Below w.heap.size w w1 := bthen (by repeat (first|exact bzR _ _|exact hB|refine bzD ?_|refine bzN ?_|refine bzS ?_|refine bzA ?_)) hb1
    have hz : w.heap.size ≤ w1.heap.size := hB.size
    clear AC DC
    go_wp2
    refine bodyPost_ret (v := .tuple #[.agg #[.slice none 0 0], .agg #[.bool false, .slice none 0 0], .int .i64 5]) (by simp [results, Tryz.results70, go_sem, *]) rfl ⟨.inr (.inr ⟨HBQ.out, rfl⟩), ?_⟩
    repeat (first|exact bzR _ _|exact hB|refine bzD ?_|refine bzN ?_|refine bzS ?_|refine bzA ?_)
  | true =>
    clear hb
    go_enter Tryz.func70, Tryz.ntmps70
    go_wp2_with fail
    refine (AC.out _ (by repeat (first|exact bzR _ _|exact hB|refine bzD ?_|refine bzN ?_|refine bzS ?_|refine bzA ?_))).mono ?_
    rintro e w1 ⟨(⟨-, v1, rfl, hv1⟩ | ⟨hs, -⟩), hb1⟩
    rotate_left
    · exact absurd HBQ.out hs
    have m0 : w1.cell? ⟨w.heap.size, 0, none⟩ = some (.slice ag N cg) := bkc hb1
    have zm0 := cell_lt m0
    have r0 : w1.cell? ⟨w.heap.size + 1, 0, none⟩ = some (.slice none 0 0) := bkc hb1
    have zr0 := cell_lt r0
    have r0f : w1.frozen? ⟨w.heap.size + 1, 0, none⟩ = false := bkcf (v := .slice none 0 0) hb1
    have s0 : w1.cell? ⟨w.heap.size + 1 + 1, 0, none⟩ = some (.bool false) := bkc hb1
    have zs0 := cell_lt s0
    have s0f : w1.frozen? ⟨w.heap.size + 1 + 1, 0, none⟩ = false := bkcf (v := .bool false) hb1
    have s1 : w1.cell? ⟨w.heap.size + 1 + 1, 1, none⟩ = some (.slice none 0 0) := bkc hb1
    have s1f : w1.frozen? ⟨w.heap.size + 1 + 1, 1, none⟩ = false := bkcf (v := .slice none 0 0) hb1
    have hB : Below w.heap.size w w1 := bthen (by repeat (first|exact bzR _ _|exact hB|refine bzD ?_|refine bzN ?_|refine bzS ?_|refine bzA ?_)) hb1
    have hz : w.heap.size ≤ w1.heap.size := hB.size
    have HV1 := Lib.hid (hv1.rebase (Nat.zero_le _))
    obtain ⟨a1, c1, rfl⟩ := hv1.lit
    rw [HAL.out] at HV1 ⊢
    clear hv1 AC
    go_wp2_with fail
    (with_reducible refine (DC.out _ ?_).mono ?_); (repeat (first|exact bzR _ _|exact hB|refine bzD ?_|refine bzN ?_|refine bzS ?_|refine bzA ?_))
    rintro e w2 ⟨(⟨-, u, rfl, hu⟩ | ⟨hs, -⟩), hb2⟩
    rotate_left
    · rw [HBQ.out] at hs; cases hs
    have m0 : w2.cell? ⟨w.heap.size, 0, none⟩ = some (.slice ag N cg) := bkc hb2
    have zm0 := cell_lt m0
    have r0 : w2.cell? ⟨w.heap.size + 1, 0, none⟩ = some (.slice none 0 0) := bkc hb2
    have zr0 := cell_lt r0
    have r0f : w2.frozen? ⟨w.heap.size + 1, 0, none⟩ = false := bkcf (v := .slice none 0 0) hb2
    have s0 : w2.cell? ⟨w.heap.size + 1 + 1, 0, none⟩ = some (.bool false) := bkc hb2
    have zs0 := cell_lt s0
    have s0f : w2.frozen? ⟨w.heap.size + 1 + 1, 0, none⟩ = false := bkcf (v := .bool false) hb2
    have s1 : w2.cell? ⟨w.heap.size + 1 + 1, 1, none⟩ = some (.slice none 0 0) := bkc hb2
    have s1f : w2.frozen? ⟨w.heap.size + 1 + 1, 1, none⟩ = false := bkcf (v := .slice none 0 0) hb2
    have hB : Below w.heap.size w w2 := bthen (by repeat (first|exact bzR _ _|exact hB|refine bzD ?_|refine bzN ?_|refine bzS ?_|refine bzA ?_)) hb2
    have hz : w.heap.size ≤ w2.heap.size := hB.size
    have hb12 : Below w1.heap.size w1 w2 := bthen (bal (Below.refl _ _) _) hb2
    have b5 : w2.cell? ⟨w1.heap.size, 0, none⟩ = some (.slice a1 N c1) := bkeep hb2 (cell_new rfl rfl)
    have HU := Lib.hid hu
    obtain ⟨nu, au, cu, lu, rfl, -⟩ := hu
    unfold iv at *
    clear DC
    have sc := fun W (q : Below w2.heap.size w2 W) => sign_c _ d W (HU.out.keep q)
    have hBw := Below.refl w2.heap.size w2
    by_cases hd0 : d = 0
    · have HD0 := Lib.hid hd0
      rw [hd0, Int.sign_zero] at sc
      clear hd0
      go_wp2_with fail
      (with_reducible refine (sc _ ?_).mono ?_); (repeat (first|exact bzR _ _|exact hBw|refine bzD ?_|refine bzN ?_|refine bzS ?_|refine bzA ?_))
      rintro e w3 ⟨rfl, hb3⟩
      have m0 : w3.cell? ⟨w.heap.size, 0, none⟩ = some (.slice ag N cg) := bkc hb3
      have zm0 := cell_lt m0
      have r0 : w3.cell? ⟨w.heap.size + 1, 0, none⟩ = some (.slice none 0 0) := bkc hb3
      have zr0 := cell_lt r0
      have r0f : w3.frozen? ⟨w.heap.size + 1, 0, none⟩ = false := bkcf (v := .slice none 0 0) hb3
      have s0 : w3.cell? ⟨w.heap.size + 1 + 1, 0, none⟩ = some (.bool false) := bkc hb3
      have zs0 := cell_lt s0
      have s0f : w3.frozen? ⟨w.heap.size + 1 + 1, 0, none⟩ = false := bkcf (v := .bool false) hb3
      have s1 : w3.cell? ⟨w.heap.size + 1 + 1, 1, none⟩ = some (.slice none 0 0) := bkc hb3
      have s1f : w3.frozen? ⟨w.heap.size + 1 + 1, 1, none⟩ = false := bkcf (v := .slice none 0 0) hb3
      have hB : Below w.heap.size w w3 := bthen (by repeat (first|exact bzR _ _|exact hB|refine bzD ?_|refine bzN ?_|refine bzS ?_|refine bzA ?_)) hb3
      have hz : w.heap.size ≤ w3.heap.size := hB.size
      clear sc
      go_wp2
      refine bodyPost_ret (v := .tuple #[.agg #[.slice none 0 0], .agg #[.bool false, .slice none 0 0], .int .i64 50]) (by simp [results, Tryz.results70, go_sem, *]) rfl ⟨.inr (.inl ⟨HBQ.out, HD0.out, rfl⟩), ?_⟩
      repeat (first|exact bzR _ _|exact hB|refine bzD ?_|refine bzN ?_|refine bzS ?_|refine bzA ?_)
    · obtain ⟨sg, hsg, hsgE⟩ : ∃ q : Int, q ≠ 0 ∧ d.sign = q := ⟨_, (fun e => hd0 (Int.sign_eq_zero_iff_zero.1 e)), rfl⟩
      rw [hsgE] at sc
      have hsb : (sg == 0) = false := by simpa using hsg
      have HD0 := Lib.hid hd0
      clear hsgE hsg hd0
      go_wp2_with fail
      (with_reducible refine (sc _ ?_).mono ?_); (repeat (first|exact bzR _ _|exact hBw|refine bzD ?_|refine bzN ?_|refine bzS ?_|refine bzA ?_))
      rintro e w3 ⟨rfl, hb3⟩
      have m0 : w3.cell? ⟨w.heap.size, 0, none⟩ = some (.slice ag N cg) := bkc hb3
      have zm0 := cell_lt m0
      have r0 : w3.cell? ⟨w.heap.size + 1, 0, none⟩ = some (.slice none 0 0) := bkc hb3
      have zr0 := cell_lt r0
      have r0f : w3.frozen? ⟨w.heap.size + 1, 0, none⟩ = false := bkcf (v := .slice none 0 0) hb3
      have s0 : w3.cell? ⟨w.heap.size + 1 + 1, 0, none⟩ = some (.bool false) := bkc hb3
      have zs0 := cell_lt s0
      have s0f : w3.frozen? ⟨w.heap.size + 1 + 1, 0, none⟩ = false := bkcf (v := .bool false) hb3
      have s1 : w3.cell? ⟨w.heap.size + 1 + 1, 1, none⟩ = some (.slice none 0 0) := bkc hb3
      have s1f : w3.frozen? ⟨w.heap.size + 1 + 1, 1, none⟩ = false := bkcf (v := .slice none 0 0) hb3
      have hB : Below w.heap.size w w3 := bthen (by repeat (first|exact bzR _ _|exact hB|refine bzD ?_|refine bzN ?_|refine bzS ?_|refine bzA ?_)) hb3
      have hz : w.heap.size ≤ w3.heap.size := hB.size
      have hba : Below w2.heap.size w2 (w2.alloc (.cells #[.bool nu, .slice au lu.length cu] 50)) := bal (Below.refl _ _) _
      have hb23 : Below w2.heap.size w2 w3 := bthen hba hb3
      have HD3 := Lib.hid ((show VarI w2.heap.size d (w2.alloc (.cells #[.bool nu, .slice au lu.length cu] 50)) from ⟨typ_fresh rfl, nu, au, lu.length, cu, by simp [go_sem], by simp [go_sem], by simp [go_sem], by simp [go_sem], HU.out.keep hba⟩).keep hb3)
      have hb13 := bthen hb12 hb23
      replace b5 := bkeep hb23 b5
      obtain ⟨-, n3, d3, l3, c3, e0, e1, -, -, eI⟩ := HD3.out
      have HE3 := Lib.hid eI
      have ze := cell_lt e0
      have zb5 := cell_lt b5
      clear sc eI hba
      go_wp2
      refine wp_name fun w4 hW4 => ?_
      have hb34 : Below w3.heap.size w3 w4 := by rw [hW4]; (have hBy := Below.refl w3.heap.size w3; repeat (first|exact bzR _ _|exact hBy|refine bzD ?_|refine bzN ?_|refine bzS ?_|refine bzA ?_))
      have HG4 := Lib.hid (show VarI w3.heap.size d w4 from by rw [hW4]; exact ⟨typ_fresh rfl, n3, d3, l3, c3, by simp [go_sem], by simp [go_sem], by simp [go_sem], by simp [go_sem], HE3.out.keep (bal (Below.refl _ _) _)⟩)
      have HD4 := Lib.hid (HD3.out.keep hb34)
      have hb14 := bthen hb13 hb34
      have hdb : w2.heap.size < w3.heap.size := ze
      have ha5 : w1.heap.size < w3.heap.size := zb5
      have h12 : w1.heap.size < w2.heap.size := by have := cell_lt (bkeep (Below.refl _ _) b5); exact Nat.lt_of_lt_of_le (Nat.lt_succ_self _) (Nat.le_trans (by simp [go_sem]) hb2.size)
      have hw1 : w.heap.size + 1 + 1 < w1.heap.size := by have := hb1.size; simp [go_sem] at this; omega
      replace b5 := bkeep hb34 b5
      have hB4 : Below w.heap.size w w4 := bthen hB hb34
      have HF4 := Lib.hid (show w4.cell? ⟨w.heap.size, 0, none⟩ = some (.slice ag N cg) ∧ w4.cell? ⟨w.heap.size + 1, 0, none⟩ = some (.slice none 0 0) ∧ w4.frozen? ⟨w.heap.size + 1, 0, none⟩ = false ∧ w4.cell? ⟨w.heap.size + 1 + 1, 0, none⟩ = some (.bool false) ∧ w4.cell? ⟨w.heap.size + 1 + 1, 1, none⟩ = some (.slice none 0 0) ∧ w4.frozen? ⟨w.heap.size + 1 + 1, 0, none⟩ = false ∧ w4.frozen? ⟨w.heap.size + 1 + 1, 1, none⟩ = false from
        ⟨bkeep hb34 m0, bkeep hb34 r0, bkeepf hb34 r0 r0f, bkeep hb34 s0, bkeep hb34 s1, bkeepf hb34 s0 s0f, bkeepf hb34 s1 s1f⟩)
      have hN0 := HNP.out HBQ.out
      obtain ⟨mb, mo, rfl⟩ : ∃ b o, a1 = some ⟨b, o, none⟩ := by
        obtain ⟨gb, go, ra, rc, e, -⟩ := HV1.out.rowAt (i := 0) (by rw [HAL.out]; exact hN0)
        exact ⟨gb, go, e⟩
      obtain ⟨gb, hgb⟩ : ∃ x, w3.heap.size = x := ⟨_, rfl⟩
      obtain ⟨db, hdbE⟩ : ∃ x, w2.heap.size = x := ⟨_, rfl⟩
      rw [hgb] at HG4 hdb ha5
      rw [hdbE] at HD4 hdb h12
      rw [hgb, hdbE]
      have hkk : kk ≤ 17179869184 := Nat.le_trans hK (by decide)
      have hN1 : N ≤ 1099511627775 := Nat.le_trans hn (by decide)
      clear hW4 hgb hdbE hb34 hb13 hb23 hb3 hb12 hb2 hb1 ze zb5 e0 e1 HE3 HD3 HU m0 r0 r0f s0 s0f s1 s1f hB hBw hsb
      have zb5 := cell_lt b5
      go_wp2
      go_loopw [36] (fun x wr => ∃ j : Nat, j ≤ N ∧ x = .int .i64 j ∧ Out (fun q => q = gb) w4 wr ∧ Hid (Lim w4 wr) ∧ Hid (VarI gb (comG d (A.take j)) wr)) (fun x _ => N - (intOf x).toNat)
      case atStart => exact ⟨0, Nat.zero_le _, rfl, Out.refl _ _, Lib.hid (Lim.refl _), HG4⟩
      case round =>
        obtain ⟨j, hj, rfl, hO, HL, hG⟩ := hrel
        have hb1r : Below w1.heap.size w1 wr := hb14.trans (hO.to_below (fun k hk _ e => absurd (e ▸ hk) (Nat.not_lt.2 (Nat.le_of_lt ha5))) hb14.size)
        by_cases hlt : j < N
        · have hltI : (j : Int) < (N : Int) := by omega
          obtain ⟨mb2, mo2, ra, rc, e2, hu, hp⟩ := (HV1.out.keep hb1r).rowAt (i := j) (by rw [HAL.out]; exact hlt)
          obtain ⟨rfl, rfl⟩ : mb = mb2 ∧ mo = mo2 := by simp at e2; exact e2
          have hrl := HAR.out j (by rw [HAL.out]; exact hlt)
          have hbj : ∀ i, Bd kk ((A.getD j []).getD i 0) := fun i => HAB.out j i
          have HCT := Lib.hid (comG_take (d := d) (show j < A.length by rw [HAL.out]; exact hlt))
          have hbc := comG_bd HDB.out HAB.out j (by rw [HAL.out]; exact hj)
          have hbl := contL_all hbj
          obtain ⟨row, hrow⟩ : ∃ row, A.getD j [] = row := ⟨_, rfl⟩
          rw [hrow] at hu hp hrl hbj HCT hbl
          rw [hrl] at hu hp
          obtain ⟨cur, hcur⟩ : ∃ x, comG d (A.take j) = x := ⟨_, rfl⟩
          rw [hcur] at hG HCT hbc
          obtain ⟨-, n3, a3, l3, c3, q0, q1, q0f, q1f, qI⟩ := hG.out
          have HQ := Lib.hid qI
          have HP := Lib.hid hp
          have HRL := Lib.hid hrl
          have cc := fun W (q : Below wr.heap.size wr W) => content_c (.slice ra N rc) row kk W (HP.out.keep lims_int q) (by rw [HRL.out]; exact hN1) hbj hkk
          have gc := fun vy W (q : Below wr.heap.size wr W) (hy : IsInt W vy (contL row)) => gcdI_c (.agg #[.bool n3, .slice a3 l3 c3]) vy cur (contL row) kk W (HQ.out.keep q) hy hbc hbl hkk
          have zq := cell_lt q0
          have zu := cell_lt hu
          have hBw := Below.refl wr.heap.size wr
          clear e2 hp qI hrow hcur hrl hbc hbl hbj
          go_wp2
          go_region_law (go_simp; go_wp2_with (first
            | (go_at_call 162; (with_reducible refine (cc _ ?_).mono ?_); (repeat (first|exact bzR _ _|exact hBw|refine bzD ?_|refine bzN ?_|refine bzS ?_|refine bzA ?_)); rintro e w5 ⟨⟨v5, rfl, hi5⟩, hb5⟩; have hB5 : Below wr.heap.size wr w5 := bthen (by repeat (first|exact bzR _ _|exact hBw|refine bzD ?_|refine bzN ?_|refine bzS ?_|refine bzA ?_)) hb5; have HI5 := Lib.hid hi5; have q05 := bkeep hB5 q0; have q15 := bkeep hB5 q1; have zq5 := cell_lt q05; obtain ⟨n5, a5, c5, l5, rfl, -⟩ := hi5; unfold iv at *)
            | (go_at_call 161; (with_reducible refine (gc _ _ ?_ ?_).mono ?_); (repeat (first|exact bzR _ _|exact hB5|refine bzD ?_|refine bzN ?_|refine bzS ?_|refine bzA ?_)); (refine HI5.out.keep ?_; have hBz := Below.refl w5.heap.size w5; (repeat (first|exact bzR _ _|exact hBz|refine bzD ?_|refine bzN ?_|refine bzS ?_|refine bzA ?_))); rintro e w6 ⟨⟨v6, rfl, hi6⟩, hb6⟩; have hB6 : Below wr.heap.size wr w6 := bthen (by repeat (first|exact bzR _ _|exact hB5|refine bzD ?_|refine bzN ?_|refine bzS ?_|refine bzA ?_)) hb6; have HI6 := Lib.hid hi6; have q06 := bkeep hB6 q0; have q16 := bkeep hB6 q1; have q06f := bkeepf hB6 q0 q0f; have q16f := bkeepf hB6 q1 q1f; have zq6 := cell_lt q06; obtain ⟨n6, a6, c6, l6, rfl, -⟩ := hi6; unfold iv at *)))
          all_goals
            have HG6 := Lib.hid ((hG.out.keep hB6).put HI6.out)
            rw [← HCT.out] at HG6
            have HL6 := Lib.hid ((HL.out.below hB6).trans (Lim.set2 q06 q16 (.bool n6) (.slice a6 l6.length c6)))
            have hO6 : Out (fun q => q = gb) w4 ((w6.setCell ⟨gb, 0, none⟩ (.bool n6)).setCell ⟨gb, 1, none⟩ (.slice a6 l6.length c6)) := (hO.below hB6).set2 (fun _ => rfl) _ _
            clear HG4 hO HL hG cc gc HQ HP HCT q0 q1 q0f q1f q05 q15 q06 q16 q06f q16f hu hb5 hb6 hB5 hB6 HI5 HI6 hb1r hBw
            go_wp2
            exact ⟨⟨j + 1, hlt, by go_num, hO6, HL6, HG6⟩, meas hlt (by go_num) rfl⟩
        · obtain rfl : j = N := Nat.le_antisymm hj (Nat.le_of_not_lt hlt)
          have hltI : ¬ (j : Int) < (j : Int) := Int.lt_irrefl _
          rw [show A.take j = A from by rw [← HAL.out, List.take_length]] at hG
          have hcn := comG_nz (a := A) HD0.out
          have hcb : Bd kk (comG d A) := by have h := comG_bd HDB.out HAB.out A.length (Nat.le_refl _); rwa [List.take_length] at h
          obtain ⟨c, hc⟩ : ∃ c, comG d A = c := ⟨_, rfl⟩
          rw [hc] at hG hcn hcb HIS
          have hwg : w.heap.size + 1 + 1 < gb := Nat.lt_trans hw1 ha5
          have n0 : ¬ w.heap.size = gb := Nat.ne_of_lt (Nat.lt_of_succ_lt (Nat.lt_of_succ_lt hwg))
          have n1 : ¬ w.heap.size + 1 = gb := Nat.ne_of_lt (Nat.lt_of_succ_lt hwg)
          have n2 : ¬ w.heap.size + 1 + 1 = gb := Nat.ne_of_lt hwg
          obtain ⟨f1, f2, f3, f4, f5, f6, f7⟩ := HF4.out
          have HI := Lib.hid (show InvB w w1 ag j cg (.slice (some ⟨mb, mo, none⟩) j c1) db gb d c wr from ⟨hG.out, HD4.out.out hO (Nat.ne_of_lt hdb) HL.out, okeep hO f1 n0, okeep hO f2 n1, okeepf hO f2 f3 n1, okeep hO f4 n2, okeep hO f5 n2, okeepf hO f4 f6 n2, okeepf hO f5 f7 n2, okeep hO b5 (Nat.ne_of_lt ha5), hb1r, hB4.trans (hO.to_below (fun k hk _ e => absurd (e ▸ hk) (Nat.not_lt.2 (Nat.le_of_lt (Nat.lt_of_succ_lt (Nat.lt_of_succ_lt hwg))))) hB4.size)⟩)
          have HCN := Lib.hid (And.intro hcn hcb)
          clear HF4 HG4 HD4 hG hO HL hb1r f1 f2 f3 f4 f5 f6 f7 n0 n1 n2 hcn hcb hc b5 zb5 hb14 hB4
          have HI0 := HI
          obtain ⟨-, nd, ad, ld, cd, e0, e1, -, -, eI⟩ := HI.out.dd
          have hBw := Below.refl wr.heap.size wr
          have HEI := Lib.hid eI
          have ze := cell_lt e0
          have sc := fun W (q : Below wr.heap.size wr W) => sign_c _ d W (HEI.out.keep q)
          clear eI
          by_cases hneg : d < 0
          · rw [Int.sign_eq_neg_one_of_neg hneg] at sc
            have HSE := Lib.hid (show S = -c from by rw [HIS.out, if_pos hneg])
            clear hneg
            go_wp2_with fail
            (with_reducible refine (sc _ ?_).mono ?_); (repeat (first|exact bzR _ _|exact hBw|refine bzD ?_|refine bzN ?_|refine bzS ?_|refine bzA ?_))
            rintro e w5 ⟨rfl, hb5⟩
            have hb5' : Below wr.heap.size wr w5 := bthen (by repeat (first|exact bzR _ _|exact hBw|refine bzD ?_|refine bzN ?_|refine bzS ?_|refine bzA ?_)) hb5
            have HI5 := Lib.hid (HI.out.keep hb5')
            obtain ⟨-, ng, ag', lg, cg', q0, q1, q0f, q1f, qI⟩ := HI5.out.g
            have HQI := Lib.hid qI
            have zq := cell_lt q0
            have nc := fun W (q : Below w5.heap.size w5 W) => neg_c _ c W (HQI.out.keep q)
            have hBw5 := Below.refl w5.heap.size w5
            clear sc HI HI0 qI e0 e1 ze HEI hb5 hb5' hBw
            go_wp2_with fail
            (with_reducible refine (nc _ ?_).mono ?_); (repeat (first|exact bzR _ _|exact hBw5|refine bzD ?_|refine bzN ?_|refine bzS ?_|refine bzA ?_))
            rintro e w6 ⟨⟨v6, rfl, hv6⟩, hb6⟩
            have hb6' : Below w5.heap.size w5 w6 := bthen (by repeat (first|exact bzR _ _|exact hBw5|refine bzD ?_|refine bzN ?_|refine bzS ?_|refine bzA ?_)) hb6
            have HI6 := Lib.hid (HI5.out.keep hb6')
            have HV6 := Lib.hid hv6
            obtain ⟨n6, a6, c6, l6, rfl, -⟩ := hv6
            unfold iv at *
            replace q0f := bkeepf hb6' q0 q0f
            replace q1f := bkeepf hb6' q1 q1f
            replace q0 := bkeep hb6' q0
            replace q1 := bkeep hb6' q1
            replace zq := cell_lt q0
            have HI7 := Lib.hid (HI6.out.putG hw1 h12 hdb HV6.out)
            rw [← HSE.out] at HI7
            have HSB := Lib.hid (show S ≠ 0 ∧ Bd kk S from by rw [HSE.out]; exact ⟨by have := HCN.out.1; omega, bd_neg HCN.out.2⟩)
            clear nc HI5 HI6 HQI hb6 hb6' hBw5 HV6
            go_upto_region 15 with (fail)
            refine wp_name fun w7 hW7 => ?_
            rw [← hW7] at HI7
            clear hW7 q0 q1 q0f q1f zq
            obtain ⟨-, nd, ad, ld, cd, e0, e1, e0f, e1f, eI⟩ := HI7.out.dd
            obtain ⟨-, ng, ag', lg, cg', q0, q1, -, -, qI⟩ := HI7.out.g
            have HEI := Lib.hid (And.intro eI qI)
            have ze := cell_lt e0
            have zq := cell_lt q0
            have dc := fun W (q : Below w7.heap.size w7 W) => divmod_c (.agg #[.bool nd, .slice ad ld cd]) (.agg #[.bool ng, .slice ag' lg cg']) d S kk W (HEI.out.1.keep q) (HEI.out.2.keep q) HDB.out HSB.out.2 hkk HSB.out.1
            have hBx := Below.refl w7.heap.size w7
            clear eI qI
            go_wp2_with fail
            (with_reducible refine (dc _ ?_).mono ?_); (repeat (first|exact bzR _ _|exact hBx|refine bzD ?_|refine bzN ?_|refine bzS ?_|refine bzA ?_))
            rintro e w8 ⟨⟨u8, r8, rfl, hu8, hr8⟩, hb8⟩
            have hb8' : Below w7.heap.size w7 w8 := bthen (by repeat (first|exact bzR _ _|exact hBx|refine bzD ?_|refine bzN ?_|refine bzS ?_|refine bzA ?_)) hb8
            have HU8 := Lib.hid hu8
            obtain ⟨n8, a8, c8, l8, rfl, -⟩ := hu8
            obtain ⟨n9, a9, c9, l9, rfl, -⟩ := hr8
            unfold iv at *
            replace e0f := bkeepf hb8' e0 e0f
            replace e1f := bkeepf hb8' e1 e1f
            replace e0 := bkeep hb8' e0
            replace e1 := bkeep hb8' e1
            replace ze := cell_lt e0
            have HI9 := Lib.hid ((HI7.out.keep hb8').putD hw1 h12 hdb HU8.out)
            clear dc HEI HI7 q0 q1 zq hb8 hb8' hBx
            go_upto_region 16 with (fail)
            refine wp_name fun w9 hW9 => ?_
            rw [← hW9] at HI9
            clear hW9 e0 e1 e0f e1f ze HU8
            obtain ⟨-, nd, ad, ld, cd, e0, e1, -, -, eI⟩ := HI9.out.dd
            have HEI := Lib.hid eI
            have m0 := HI9.out.m0
            have r0 := HI9.out.r0
            have r0f := HI9.out.r0f
            have s0 := HI9.out.s0
            have s1 := HI9.out.s1
            have s0f := HI9.out.s0f
            have s1f := HI9.out.s1f
            have zm := cell_lt m0
            have ze := cell_lt e0
            have zr := cell_lt r0
            have zs := cell_lt s0
            have FCL := Lib.hid (fun V (q : Below w9.heap.size w9 V) => filled_c j j (fun i k => gat A i k / S) 164 #[.pointer (some ⟨w1.heap.size, 0, none⟩), .pointer (some ⟨gb, 0, none⟩)] V (inv1_c w1.heap.size gb A j j kk S V ((HV1.out.keep (bthen HI9.out.b1 q)).boxM (bkeep q HI9.out.b5)) (HI9.out.g.keep q) HAL.out HAR.out HAB.out HSB.out.2 hkk HSB.out.1) (ens Tryz.func164 (by kernel_rfl) rfl) (Nat.le_trans hN1 (by decide)) hN1)
            rw [← HIG.out] at FCL
            have HS := Lib.hid (show ∀ V, Below w9.heap.size w9 V → V.cell? ⟨w.heap.size, 0, none⟩ = some (.slice ag j cg) ∧ V.cell? ⟨db, 0, none⟩ = some (.bool nd) ∧ V.cell? ⟨db, 1, none⟩ = some (.slice ad ld cd) from fun V q => ⟨bkeep q m0, bkeep q e0, bkeep q e1⟩)
            have hwd : w.heap.size + 1 + 1 < db := Nat.lt_trans hw1 h12
            have nr0 : w.heap.size + 1 ≠ w.heap.size := Nat.succ_ne_self _
            have ns0 : w.heap.size + 1 + 1 ≠ w.heap.size := Nat.ne_of_gt (Nat.lt_succ_of_lt (Nat.lt_succ_self _))
            have nrd : w.heap.size + 1 ≠ db := Nat.ne_of_lt (Nat.lt_of_succ_lt hwd)
            have nsd : w.heap.size + 1 + 1 ≠ db := Nat.ne_of_lt hwd
            have hBx := Below.refl w9.heap.size w9
            clear eI
            go_region_held3 (fun V => V.cell? ⟨w.heap.size, 0, none⟩ = some (.slice ag j cg) ∧ V.cell? ⟨db, 0, none⟩ = some (.bool nd) ∧ V.cell? ⟨db, 1, none⟩ = some (.slice ad ld cd))
              (first | ((repeat (first | (with_reducible refine three_far _ ?_ (addr_ne nr0) (addr_ne nrd) (addr_ne nrd)) | (with_reducible refine three_far _ ?_ (addr_ne ns0) (addr_ne nsd) (addr_ne nsd)))); (with_reducible refine HS.out _ ?_); (repeat (first | exact Below.refl _ _ | exact hBx | refine Below.drew ?_ | refine below_drewN ?_ _ | refine bal ?_ _)); done) | fail)
              (first
              | (go_at_call 24; (with_reducible refine (RC.out _).mono ?_); rintro e w10 ⟨rfl, hb10⟩; (have hBd : Below w9.heap.size w9 w10 := bthen (by repeat (first|exact bzR _ _|exact hBx|refine bzD ?_|refine bzN ?_|refine bzS ?_|refine bzA ?_)) hb10; clear hBx; have hBx := hBd; clear hBd))
              | (go_at_call 138; (with_reducible refine (FCL.out _ ?_).mono ?_); (repeat (first|exact bzR _ _|exact hBx|refine bzD ?_|refine bzN ?_|refine bzS ?_|refine bzA ?_)); rintro e w11 ⟨⟨v11, rfl, hv11⟩, hb11⟩; have HV11 := Lib.hid (hv11.rebase (show w9.heap.size ≤ _ from (show Below w9.heap.size w9 _ by repeat (first|exact bzR _ _|exact hBx|refine bzD ?_|refine bzN ?_|refine bzS ?_|refine bzA ?_)).size)); (have hBd : Below w9.heap.size w9 w11 := bthen (by repeat (first|exact bzR _ _|exact hBx|refine bzD ?_|refine bzN ?_|refine bzS ?_|refine bzA ?_)) hb11; clear hBx; have hBx := hBd; clear hBd); obtain ⟨a11, c11, rfl⟩ := hv11.lit; obtain ⟨L11, hL11⟩ : ∃ x, (invG g).length = x := ⟨_, rfl⟩; rw [hL11] at HV11 ⊢; clear hL11 hv11 hb11; have r011 := bkeep hBx r0; have r0f11 := bkeepf hBx r0 r0f; have s011 := bkeep hBx s0; have s111 := bkeep hBx s1; have s0f11 := bkeepf hBx s0 s0f; have s1f11 := bkeepf hBx s1 s1f; have zr11 := cell_lt r011; have zs11 := cell_lt s011)
              | fail)
            all_goals
              go_wp2
              have hs0 : (w11.setCell ⟨w.heap.size + 1, 0, none⟩ (.slice a11 L11 c11)).cell? ⟨w.heap.size + 1 + 1, 0, none⟩ = some (.bool false) := cell_far s011 (addr_ne (Nat.ne_of_lt (Nat.lt_succ_self _))) _
              have hs1 : (w11.setCell ⟨w.heap.size + 1, 0, none⟩ (.slice a11 L11 c11)).cell? ⟨w.heap.size + 1 + 1, 1, none⟩ = some (.slice none 0 0) := cell_far s111 (addr_ne (Nat.ne_of_lt (Nat.lt_succ_self _))) _
              have hLM := ((Lim.refl w11).slice r011 (.slice a11 L11 c11)).trans (Lim.set2 hs0 hs1 (.bool nd) (.slice ad ld cd))
              have hOT := ((Out.refl (fun q => q = w.heap.size + 1 ∨ q = w.heap.size + 1 + 1) w11).set (p := ⟨w.heap.size + 1, 0, none⟩) (fun _ => .inl rfl) (.slice a11 L11 c11)).set2 (g := w.heap.size + 1 + 1) (o := 0) (fun _ => .inr rfl) (.bool nd) (.slice ad ld cd)
              have HMF := Lib.hid ((HV11.out.out hOT (fun k hk h => h.elim (fun e => absurd hk (Nat.not_le.2 (by rw [e]; exact Nat.lt_of_succ_lt zs))) (fun e => absurd hk (Nat.not_le.2 (by rw [e]; exact zs)))) hLM).rebase (Nat.le_of_lt zm))
              have HIF := Lib.hid ((HEI.out.keep hBx).lim hLM)
              have hBF : Below w.heap.size w w11 := bthen HI9.out.bel hBx
              clear hs0 hs1 hLM hOT
              refine bodyPost_ret (v := .tuple #[.agg #[.slice a11 L11 c11], .agg #[.bool nd, .slice ad ld cd], .int .i64 0]) (by simp [results, Tryz.results70, go_sem, *]) rfl ⟨.inl ⟨HBQ.out, HD0.out, _, _, rfl, HMF.out, by rw [HID.out]; exact HIF.out⟩, ?_⟩
              repeat (first|exact bzR _ _|exact hBF|refine bzD ?_|refine bzN ?_|refine bzS ?_|refine bzA ?_)
          · have hpos : 0 < d := by have := HD0.out; omega
            rw [Int.sign_eq_one_of_pos hpos] at sc
            have HSE := Lib.hid (show S = c from by rw [HIS.out, if_neg hneg])
            have HI7 := HI
            rw [← HSE.out] at HI7
            have HSB := Lib.hid (show S ≠ 0 ∧ Bd kk S from by rw [HSE.out]; exact HCN.out)
            clear hneg hpos HI HI0
            go_wp2_with fail
            (with_reducible refine (sc _ ?_).mono ?_); (repeat (first|exact bzR _ _|exact hBw|refine bzD ?_|refine bzN ?_|refine bzS ?_|refine bzA ?_))
            rintro e w5 ⟨rfl, hb5⟩
            have hb5' : Below wr.heap.size wr w5 := bthen (by repeat (first|exact bzR _ _|exact hBw|refine bzD ?_|refine bzN ?_|refine bzS ?_|refine bzA ?_)) hb5
            have HI8 := Lib.hid (HI7.out.keep hb5')
            clear HI7 sc e0 e1 ze HEI hb5 hb5' hBw
            have HI7 := HI8
            clear HI8
            go_upto_region 15 with (fail)
            refine wp_name fun w7 hW7 => ?_
            rw [← hW7] at HI7
            clear hW7
            obtain ⟨-, nd, ad, ld, cd, e0, e1, e0f, e1f, eI⟩ := HI7.out.dd
            obtain ⟨-, ng, ag', lg, cg', q0, q1, -, -, qI⟩ := HI7.out.g
            have HEI := Lib.hid (And.intro eI qI)
            have ze := cell_lt e0
            have zq := cell_lt q0
            have dc := fun W (q : Below w7.heap.size w7 W) => divmod_c (.agg #[.bool nd, .slice ad ld cd]) (.agg #[.bool ng, .slice ag' lg cg']) d S kk W (HEI.out.1.keep q) (HEI.out.2.keep q) HDB.out HSB.out.2 hkk HSB.out.1
            have hBx := Below.refl w7.heap.size w7
            clear eI qI
            go_wp2_with fail
            (with_reducible refine (dc _ ?_).mono ?_); (repeat (first|exact bzR _ _|exact hBx|refine bzD ?_|refine bzN ?_|refine bzS ?_|refine bzA ?_))
            rintro e w8 ⟨⟨u8, r8, rfl, hu8, hr8⟩, hb8⟩
            have hb8' : Below w7.heap.size w7 w8 := bthen (by repeat (first|exact bzR _ _|exact hBx|refine bzD ?_|refine bzN ?_|refine bzS ?_|refine bzA ?_)) hb8
            have HU8 := Lib.hid hu8
            obtain ⟨n8, a8, c8, l8, rfl, -⟩ := hu8
            obtain ⟨n9, a9, c9, l9, rfl, -⟩ := hr8
            unfold iv at *
            replace e0f := bkeepf hb8' e0 e0f
            replace e1f := bkeepf hb8' e1 e1f
            replace e0 := bkeep hb8' e0
            replace e1 := bkeep hb8' e1
            replace ze := cell_lt e0
            have HI9 := Lib.hid ((HI7.out.keep hb8').putD hw1 h12 hdb HU8.out)
            clear dc HEI HI7 q0 q1 zq hb8 hb8' hBx
            go_upto_region 16 with (fail)
            refine wp_name fun w9 hW9 => ?_
            rw [← hW9] at HI9
            clear hW9 e0 e1 e0f e1f ze HU8
            obtain ⟨-, nd, ad, ld, cd, e0, e1, -, -, eI⟩ := HI9.out.dd
            have HEI := Lib.hid eI
            have m0 := HI9.out.m0
            have r0 := HI9.out.r0
            have r0f := HI9.out.r0f
            have s0 := HI9.out.s0
            have s1 := HI9.out.s1
            have s0f := HI9.out.s0f
            have s1f := HI9.out.s1f
            have zm := cell_lt m0
            have ze := cell_lt e0
            have zr := cell_lt r0
            have zs := cell_lt s0
            have FCL := Lib.hid (fun V (q : Below w9.heap.size w9 V) => filled_c j j (fun i k => gat A i k / S) 164 #[.pointer (some ⟨w1.heap.size, 0, none⟩), .pointer (some ⟨gb, 0, none⟩)] V (inv1_c w1.heap.size gb A j j kk S V ((HV1.out.keep (bthen HI9.out.b1 q)).boxM (bkeep q HI9.out.b5)) (HI9.out.g.keep q) HAL.out HAR.out HAB.out HSB.out.2 hkk HSB.out.1) (ens Tryz.func164 (by kernel_rfl) rfl) (Nat.le_trans hN1 (by decide)) hN1)
            rw [← HIG.out] at FCL
            have HS := Lib.hid (show ∀ V, Below w9.heap.size w9 V → V.cell? ⟨w.heap.size, 0, none⟩ = some (.slice ag j cg) ∧ V.cell? ⟨db, 0, none⟩ = some (.bool nd) ∧ V.cell? ⟨db, 1, none⟩ = some (.slice ad ld cd) from fun V q => ⟨bkeep q m0, bkeep q e0, bkeep q e1⟩)
            have hwd : w.heap.size + 1 + 1 < db := Nat.lt_trans hw1 h12
            have nr0 : w.heap.size + 1 ≠ w.heap.size := Nat.succ_ne_self _
            have ns0 : w.heap.size + 1 + 1 ≠ w.heap.size := Nat.ne_of_gt (Nat.lt_succ_of_lt (Nat.lt_succ_self _))
            have nrd : w.heap.size + 1 ≠ db := Nat.ne_of_lt (Nat.lt_of_succ_lt hwd)
            have nsd : w.heap.size + 1 + 1 ≠ db := Nat.ne_of_lt hwd
            have hBx := Below.refl w9.heap.size w9
            clear eI
            go_region_held3 (fun V => V.cell? ⟨w.heap.size, 0, none⟩ = some (.slice ag j cg) ∧ V.cell? ⟨db, 0, none⟩ = some (.bool nd) ∧ V.cell? ⟨db, 1, none⟩ = some (.slice ad ld cd))
              (first | ((repeat (first | (with_reducible refine three_far _ ?_ (addr_ne nr0) (addr_ne nrd) (addr_ne nrd)) | (with_reducible refine three_far _ ?_ (addr_ne ns0) (addr_ne nsd) (addr_ne nsd)))); (with_reducible refine HS.out _ ?_); (repeat (first | exact Below.refl _ _ | exact hBx | refine Below.drew ?_ | refine below_drewN ?_ _ | refine bal ?_ _)); done) | fail)
              (first
              | (go_at_call 24; (with_reducible refine (RC.out _).mono ?_); rintro e w10 ⟨rfl, hb10⟩; (have hBd : Below w9.heap.size w9 w10 := bthen (by repeat (first|exact bzR _ _|exact hBx|refine bzD ?_|refine bzN ?_|refine bzS ?_|refine bzA ?_)) hb10; clear hBx; have hBx := hBd; clear hBd))
              | (go_at_call 138; (with_reducible refine (FCL.out _ ?_).mono ?_); (repeat (first|exact bzR _ _|exact hBx|refine bzD ?_|refine bzN ?_|refine bzS ?_|refine bzA ?_)); rintro e w11 ⟨⟨v11, rfl, hv11⟩, hb11⟩; have HV11 := Lib.hid (hv11.rebase (show w9.heap.size ≤ _ from (show Below w9.heap.size w9 _ by repeat (first|exact bzR _ _|exact hBx|refine bzD ?_|refine bzN ?_|refine bzS ?_|refine bzA ?_)).size)); (have hBd : Below w9.heap.size w9 w11 := bthen (by repeat (first|exact bzR _ _|exact hBx|refine bzD ?_|refine bzN ?_|refine bzS ?_|refine bzA ?_)) hb11; clear hBx; have hBx := hBd; clear hBd); obtain ⟨a11, c11, rfl⟩ := hv11.lit; obtain ⟨L11, hL11⟩ : ∃ x, (invG g).length = x := ⟨_, rfl⟩; rw [hL11] at HV11 ⊢; clear hL11 hv11 hb11; have r011 := bkeep hBx r0; have r0f11 := bkeepf hBx r0 r0f; have s011 := bkeep hBx s0; have s111 := bkeep hBx s1; have s0f11 := bkeepf hBx s0 s0f; have s1f11 := bkeepf hBx s1 s1f; have zr11 := cell_lt r011; have zs11 := cell_lt s011)
              | fail)
            all_goals
              go_wp2
              have hs0 : (w11.setCell ⟨w.heap.size + 1, 0, none⟩ (.slice a11 L11 c11)).cell? ⟨w.heap.size + 1 + 1, 0, none⟩ = some (.bool false) := cell_far s011 (addr_ne (Nat.ne_of_lt (Nat.lt_succ_self _))) _
              have hs1 : (w11.setCell ⟨w.heap.size + 1, 0, none⟩ (.slice a11 L11 c11)).cell? ⟨w.heap.size + 1 + 1, 1, none⟩ = some (.slice none 0 0) := cell_far s111 (addr_ne (Nat.ne_of_lt (Nat.lt_succ_self _))) _
              have hLM := ((Lim.refl w11).slice r011 (.slice a11 L11 c11)).trans (Lim.set2 hs0 hs1 (.bool nd) (.slice ad ld cd))
              have hOT := ((Out.refl (fun q => q = w.heap.size + 1 ∨ q = w.heap.size + 1 + 1) w11).set (p := ⟨w.heap.size + 1, 0, none⟩) (fun _ => .inl rfl) (.slice a11 L11 c11)).set2 (g := w.heap.size + 1 + 1) (o := 0) (fun _ => .inr rfl) (.bool nd) (.slice ad ld cd)
              have HMF := Lib.hid ((HV11.out.out hOT (fun k hk h => h.elim (fun e => absurd hk (Nat.not_le.2 (by rw [e]; exact Nat.lt_of_succ_lt zs))) (fun e => absurd hk (Nat.not_le.2 (by rw [e]; exact zs)))) hLM).rebase (Nat.le_of_lt zm))
              have HIF := Lib.hid ((HEI.out.keep hBx).lim hLM)
              have hBF : Below w.heap.size w w11 := bthen HI9.out.bel hBx
              clear hs0 hs1 hLM hOT
              refine bodyPost_ret (v := .tuple #[.agg #[.slice a11 L11 c11], .agg #[.bool nd, .slice ad ld cd], .int .i64 0]) (by simp [results, Tryz.results70, go_sem, *]) rfl ⟨.inl ⟨HBQ.out, HD0.out, _, _, rfl, HMF.out, by rw [HID.out]; exact HIF.out⟩, ?_⟩
              repeat (first|exact bzR _ _|exact hBF|refine bzD ?_|refine bzN ?_|refine bzS ?_|refine bzA ?_)
end Go.Proofs.YtbmaffijncapiaaGreatDoor

