/- Texts of this seat, laid together: MxB, MxC, MxD, Vo, Wo, Wi. Each opens with its own remark, which says what it proves, and under which conditions. -/
import Derived.Test.YthaohpfbengabaaGreatDoorV13
import Derived.Deep.RegionLaw
import Derived.StillTailTactics
import Derived.Test.YthaohpfbengabaaGreatDoorRows
import Derived.Test.YthaohpfbengabaaGreatDoorV09
import Derived.Lib.SmallJoins
import Derived.Deep.Slices
import Derived.Deep.Matrix
import Derived.Deep.Fields
import Derived.ChangeSame
import Derived.DataShut
import Derived.SizedLaws
set_option linter.unusedVariables false
set_option linter.unusedSimpArgs false
/- matrix: Rows, Cols, square, Identity; a matrix in a variable. -/
namespace Go.Proofs.YthaohpfbengabaaGreatDoor
open Num
open Go.ChangeShapes Go.WideShapes Go.ChangeAt Go.RowKit
set_option linter.unusedVariables false
set_option linter.unusedSimpArgs false
attribute [local go_sem ↓] Go.wp_at_zero Go.wp_at_succ
/-- the number at a place -/
def gat (g : Grid) (i j : Nat) : Int := (g.getD i []).getD j 0
/-- how many columns -/
def cols (g : Grid) : Nat := (g.getD 0 []).length
/-- rows of one length -/
def Rct (g : Grid) (m : Nat) : Prop := ∀ i, i < g.length → (g.getD i []).length = m
theorem tab_gat {n m : Nat} {f : Nat → Nat → Int} {i j : Nat} (h : i < n) (hj : j < m) : gat (tab n m f) i j = f i j := tab_at h hj
theorem tab_rect (n m : Nat) (f : Nat → Nat → Int) : Rct (tab n m f) m := fun i hi => by rw [tab_len] at hi; exact tab_rowlen hi
theorem tab_cols {n m : Nat} (f : Nat → Nat → Int) (h : 0 < n) : cols (tab n m f) = m := tab_rowlen h
theorem Rct.cols {g : Grid} {m : Nat} (h : Rct g m) (hg : 0 < g.length) : cols g = m := h 0 hg
theorem IsM.lit {base : Nat} {w : World} {v : Value} {g : Grid} (h : IsM base w v g) : ∃ a c, v = .agg #[.slice a g.length c] := by obtain ⟨a, c, e, _⟩ := h; exact ⟨a, c, e⟩
/-- a matrix in a variable -/
def BoxM (b : Nat) (w : World) (g : Grid) : Prop := ∃ a c, w.cell? ⟨b, 0, none⟩ = some (.slice a g.length c) ∧ IsL 59 (PRow 0) 0 w (.slice a g.length c) g
theorem BoxM.keep {b : Nat} {w w' : World} {g : Grid} (h : BoxM b w g) (k : Below w.heap.size w w') : BoxM b w' g := by
  obtain ⟨a, c, e, h⟩ := h; exact ⟨a, c, bkeep k e, h.keep (prs_prow 0) k⟩
theorem IsL.row {base : Nat} {w : World} {v : Value} {g : Grid} (h : IsL 59 (PRow base) base w v g) {i : Nat} (hi : i < g.length) :
    ∃ c gb go ra rc, v = .slice (some ⟨gb, go, none⟩) g.length c ∧ w.cell? ⟨gb, go + i, none⟩ = some (.slice ra (g.getD i []).length rc) ∧ PRow base w (.slice ra (g.getD i []).length rc) (g.getD i []) := by
  obtain ⟨a, c, e, _, hv⟩ := h.view
  obtain ⟨gb, go, u, rfl, hu, hr⟩ := hv i hi
  have e2 : g[i] = g.getD i [] := by simp [hi]
  rw [e2] at hr
  have hr2 := hr
  obtain ⟨ra, rc, rfl, _⟩ := hr2
  exact ⟨c, gb, go, ra, rc, e, hu, hr⟩
theorem IsL.elem {base : Nat} {w : World} {v : Value} {g : Grid} {m : Nat} (hr : Rct g m) (h : IsL 59 (PRow base) base w v g) {i j : Nat} (hi : i < g.length) (hj : j < m) :
    ∃ c gb go rb ro rc n a l k, v = .slice (some ⟨gb, go, none⟩) g.length c ∧ w.cell? ⟨gb, go + i, none⟩ = some (.slice (some ⟨rb, ro, none⟩) m rc) ∧ w.cell? ⟨rb, ro + j * 2, none⟩ = some (.bool n) ∧ w.cell? ⟨rb, ro + j * 2 + 1, none⟩ = some (.slice a l k) ∧ IsInt w (.agg #[.bool n, .slice a l k]) (gat g i j) := by
  obtain ⟨c, gb, go, ra, rc, e, hu, hp⟩ := h.row hi
  obtain ⟨a', c', he, -, vr⟩ := hp.view
  obtain ⟨rfl, -, rfl⟩ := Value.slice.inj he
  obtain ⟨rb, ro, n, ad, len, cp, rfl, c0, c1, hI⟩ := vr j (by rw [hr i hi]; exact hj)
  rw [hr i hi] at hu
  exact ⟨c, gb, go, rb, ro, rc, n, ad, len, cp, e, hu, c0, c1, hI⟩
theorem BoxM.row {b : Nat} {w : World} {g : Grid} (h : BoxM b w g) {i : Nat} (hi : i < g.length) :
    ∃ c gb go ra rc, w.cell? ⟨b, 0, none⟩ = some (.slice (some ⟨gb, go, none⟩) g.length c) ∧ w.cell? ⟨gb, go + i, none⟩ = some (.slice ra (g.getD i []).length rc) ∧ PRow 0 w (.slice ra (g.getD i []).length rc) (g.getD i []) := by
  obtain ⟨a, c, e, h⟩ := h
  obtain ⟨c', gb, go, ra, rc, e2, hu, hp⟩ := h.row hi
  obtain ⟨rfl, -, rfl⟩ := Value.slice.inj e2
  exact ⟨c, gb, go, ra, rc, e, hu, hp⟩
theorem BoxM.elem {b : Nat} {w : World} {g : Grid} {m : Nat} (hr : Rct g m) (h : BoxM b w g) {i j : Nat} (hi : i < g.length) (hj : j < m) :
    ∃ c gb go rb ro rc n a l k, w.cell? ⟨b, 0, none⟩ = some (.slice (some ⟨gb, go, none⟩) g.length c) ∧ w.cell? ⟨gb, go + i, none⟩ = some (.slice (some ⟨rb, ro, none⟩) m rc) ∧ w.cell? ⟨rb, ro + j * 2, none⟩ = some (.bool n) ∧ w.cell? ⟨rb, ro + j * 2 + 1, none⟩ = some (.slice a l k) ∧ IsInt w (.agg #[.bool n, .slice a l k]) (gat g i j) := by
  obtain ⟨a, c, e, h⟩ := h
  obtain ⟨c', gb, go, rb, ro, rc, n, ad, l, k, e2, hu, c0, c1, hI⟩ := h.elem hr hi hj
  obtain ⟨rfl, -, rfl⟩ := Value.slice.inj e2
  exact ⟨c, gb, go, rb, ro, rc, n, ad, l, k, e, hu, c0, c1, hI⟩
set_option maxRecDepth 100000 in
theorem rowsM_c (a : Option Addr) (n c : Nat) (w : World) : Calls Tryz.prog 60 #[.agg #[.slice a n c]] w fun e w' => e = .returned (.int .i64 (n : Nat)) ∧ Below w.heap.size w w' := by
  have hB := Below.refl w.heap.size w
  go_enter Tryz.func60, Tryz.ntmps60
  go_wp2
  go_ret
  exact ⟨rfl, by repeat (first | exact Below.refl _ _ | exact hB | refine Below.drew ?_ | refine below_drewN ?_ _ | refine bset ?_ (by simp <;> omega) _ | refine bal ?_ _)⟩
set_option maxRecDepth 100000 in
set_option maxHeartbeats 1000000 in
theorem colsM_c (a : Option Addr) (c : Nat) (g : Grid) (w : World) (h : IsL 59 (PRow 0) 0 w (.slice a g.length c) g) : Calls Tryz.prog 61 #[.agg #[.slice a g.length c]] w fun e w' => e = .returned (.int .i64 (cols g : Nat)) ∧ Below w.heap.size w w' := by
  have hB := Below.refl w.heap.size w
  by_cases h0 : g.length = 0
  · have hg : g = [] := List.length_eq_zero_iff.1 h0
    subst hg
    have e : cols [] = 0 := rfl
    rw [e]
    clear h e h0
    rw [show ([] : Grid).length = 0 from rfl]
    go_enter Tryz.func61, Tryz.ntmps61
    go_wp2
    go_ret
    exact ⟨rfl, by repeat (first | exact Below.refl _ _ | exact hB | refine Below.drew ?_ | refine below_drewN ?_ _ | refine bset ?_ (by simp <;> omega) _ | refine bal ?_ _)⟩
  · obtain ⟨c', gb, go, ra, rc, e, hu, hp⟩ := h.row (show 0 < g.length by omega)
    obtain ⟨rfl, -, rfl⟩ := Value.slice.inj e
    rw [Nat.add_zero] at hu
    have zu := cell_lt hu
    have zu2 : gb < w.heap.size + 1 := by omega
    unfold cols
    obtain ⟨m, hm⟩ : ∃ m, (g.getD 0 []).length = m := ⟨_, rfl⟩
    obtain ⟨n, hn⟩ : ∃ n, g.length = n := ⟨_, rfl⟩
    rw [hm] at hu ⊢
    rw [hn] at h0 ⊢
    have hn0 : ((n : Int) == 0) = false := by simp; omega
    have hn1 : (0 : Int) < (n : Int) := by omega
    clear h hp e hm hn
    go_enter Tryz.func61, Tryz.ntmps61
    go_wp2
    go_ret
    exact ⟨rfl, by repeat (first | exact Below.refl _ _ | exact hB | refine Below.drew ?_ | refine below_drewN ?_ _ | refine bset ?_ (by simp <;> omega) _ | refine bal ?_ _)⟩
theorem IsM.setM {base : Nat} {w : World} {v : Value} {g : Grid} (h : IsM base w v g) {p : Addr} (ht : typOf w p.block = some 27) (u : Value) : IsM base (w.setCell p u) v g := by
  obtain ⟨a, c, e, h⟩ := h
  exact ⟨a, c, e, IsL.kp (S' := fun t => t ≠ 27) (prs_prow base) h ((Kp.refl _ _).set (fun t ht' => by rw [ht] at ht'; cases ht'; exact fun h => h rfl) _) (fun t ht => by rcases ht with rfl | rfl <;> decide) (by decide)⟩
/-- a function's value: the one of Identity -/
theorem ident1_c (n : Nat) (w : World) : FnF (fun i j => if i = j then 1 else 0) n n 120 #[] w := by
  intro W i j hi hj hW
  have hB := Below.refl W.heap.size W
  show Calls Tryz.prog 120 #[.int .i64 (i : Nat), .int .i64 (j : Nat)] W _
  by_cases h : i = j
  · subst h
    have oc := fun V => of_c 1 V (by decide) (by decide)
    dsimp only
    rw [if_pos rfl]
    go_enter Tryz.func120, Tryz.ntmps120
    go_wp2_with fail
    refine (oc _).mono ?_
    rintro e w1 ⟨⟨u, rfl, hu⟩, hb1⟩
    have r0 : w1.cell? ⟨W.heap.size, 0, none⟩ = some (.bool false) := bkeep hb1 (cell_new rfl rfl)
    have r1 : w1.cell? ⟨W.heap.size, 1, none⟩ = some (.slice none 0 0) := bkeep hb1 (cell_new rfl rfl)
    have r0f : w1.frozen? ⟨W.heap.size, 0, none⟩ = false := bkeepf hb1 (v := .bool false) (cell_new rfl rfl) (by simp [go_sem])
    have r1f : w1.frozen? ⟨W.heap.size, 1, none⟩ = false := bkeepf hb1 (v := .slice none 0 0) (cell_new rfl rfl) (by simp [go_sem])
    have HP := Lib.hid (hu.put2 r0 r1)
    obtain ⟨nu, au, cu, lu, rfl, -⟩ := hu
    unfold iv at *
    clear oc
    have hB1 : Below W.heap.size W w1 := bthen (by repeat (first | exact Below.refl _ _ | exact hB | refine Below.drew ?_ | refine below_drewN ?_ _ | refine bset ?_ (by simp <;> omega) _ | refine bal ?_ _)) hb1
    go_wp2
    refine bodyPost_ret (v := .agg #[.bool nu, .slice au lu.length cu]) (by simp [results, Tryz.results120, go_sem, *]) rfl ⟨⟨_, rfl, HP.out _ _⟩, ?_⟩
    repeat (first | exact Below.refl _ _ | exact hB1 | refine Below.drew ?_ | refine below_drewN ?_ _ | refine bset ?_ (by simp <;> omega) _ | refine bal ?_ _)
  · have oc := fun V => of_c 0 V (by decide) (by decide)
    dsimp only
    rw [if_neg h]
    have hij : ((i : Int) == (j : Int)) = false := by simp; omega
    go_enter Tryz.func120, Tryz.ntmps120
    go_wp2_with fail
    refine (oc _).mono ?_
    rintro e w1 ⟨⟨u, rfl, hu⟩, hb1⟩
    have r0 : w1.cell? ⟨W.heap.size, 0, none⟩ = some (.bool false) := bkeep hb1 (cell_new rfl rfl)
    have r1 : w1.cell? ⟨W.heap.size, 1, none⟩ = some (.slice none 0 0) := bkeep hb1 (cell_new rfl rfl)
    have r0f : w1.frozen? ⟨W.heap.size, 0, none⟩ = false := bkeepf hb1 (v := .bool false) (cell_new rfl rfl) (by simp [go_sem])
    have r1f : w1.frozen? ⟨W.heap.size, 1, none⟩ = false := bkeepf hb1 (v := .slice none 0 0) (cell_new rfl rfl) (by simp [go_sem])
    have HP := Lib.hid (hu.put2 r0 r1)
    obtain ⟨nu, au, cu, lu, rfl, -⟩ := hu
    unfold iv at *
    clear oc
    have hB1 : Below W.heap.size W w1 := bthen (by repeat (first | exact Below.refl _ _ | exact hB | refine Below.drew ?_ | refine below_drewN ?_ _ | refine bset ?_ (by simp <;> omega) _ | refine bal ?_ _)) hb1
    go_wp2
    refine bodyPost_ret (v := .agg #[.bool nu, .slice au lu.length cu]) (by simp [results, Tryz.results120, go_sem, *]) rfl ⟨⟨_, rfl, HP.out _ _⟩, ?_⟩
    repeat (first | exact Below.refl _ _ | exact hB1 | refine Below.drew ?_ | refine below_drewN ?_ _ | refine bset ?_ (by simp <;> omega) _ | refine bal ?_ _)
/-- the identity -/
def idG (n : Nat) : Grid := tab n n fun i j => if i = j then 1 else 0
/-- what Identity answers -/
def IdentPost (n : Int) (w : World) (e : Ending) (w' : World) : Prop :=
  ((n < 1 ∧ e = .returned (.tuple #[.agg #[.slice none 0 0], .int .i64 2])) ∨ (16 < n ∧ e = .returned (.tuple #[.agg #[.slice none 0 0], .int .i64 3])) ∨
   (1 ≤ n ∧ n ≤ 16 ∧ ∃ v, e = .returned (.tuple #[v, .int .i64 0]) ∧ IsM w.heap.size w' v (idG n.toNat))) ∧ Below w.heap.size w w'
set_option maxRecDepth 100000 in
set_option maxHeartbeats 1000000 in
theorem identity_c (n : Int) (w : World) : Calls Tryz.prog 67 #[.int .i64 n] w (IdentPost n w) := by
  have hB := Below.refl w.heap.size w
  by_cases h1 : n < 1
  ·
    go_enter Tryz.func67, Tryz.ntmps67
    go_wp2
    refine bodyPost_ret (v := .tuple #[.agg #[.slice none 0 0], .int .i64 2]) (by simp [results, Tryz.results67, go_sem, *]) rfl ⟨.inl ⟨h1, rfl⟩, ?_⟩
    repeat (first | exact Below.refl _ _ | exact hB | refine Below.drew ?_ | refine below_drewN ?_ _ | refine bset ?_ (by simp <;> omega) _ | refine bal ?_ _)
  · by_cases h2 : 16 < n
    ·
      go_enter Tryz.func67, Tryz.ntmps67
      go_wp2
      refine bodyPost_ret (v := .tuple #[.agg #[.slice none 0 0], .int .i64 3]) (by simp [results, Tryz.results67, go_sem, *]) rfl ⟨.inr (.inl ⟨h2, rfl⟩), ?_⟩
      repeat (first | exact Below.refl _ _ | exact hB | refine Below.drew ?_ | refine below_drewN ?_ _ | refine bset ?_ (by simp <;> omega) _ | refine bal ?_ _)
    · obtain ⟨k, rfl⟩ : ∃ k : Nat, n = k := ⟨n.toNat, by omega⟩
      have fc := fun W => filled_c k k (fun i j => if i = j then 1 else 0) 120 #[] W (ident1_c k W) (ens Tryz.func120 (by kernel_rfl) rfl) (by omega) (by omega)
      have hh := Lib.hid (And.intro h1 h2)
      go_enter Tryz.func67, Tryz.ntmps67
      go_wp2_with fail
      refine (fc _).mono ?_
      rintro e w1 ⟨⟨u, rfl, hu⟩, hb1⟩
      have r0 : w1.cell? ⟨w.heap.size, 0, none⟩ = some (.slice none 0 0) := bkeep hb1 (cell_new rfl rfl)
      have r0f : w1.frozen? ⟨w.heap.size, 0, none⟩ = false := bkeepf hb1 (v := .slice none 0 0) (cell_new rfl rfl) (by simp [go_sem])
      have rt : typOf w1 w.heap.size = some 27 := typ_keep (typ_fresh rfl) hb1
      have HU := Lib.hid (hu.rebase (show w.heap.size ≤ _ from (show Below w.heap.size w _ by repeat (first | exact Below.refl _ _ | exact hB | refine Below.drew ?_ | refine below_drewN ?_ _ | refine bset ?_ (by simp <;> omega) _ | refine bal ?_ _)).size))
      obtain ⟨a, c, rfl⟩ := hu.lit
      have hB1 : Below w.heap.size w w1 := bthen (by repeat (first | exact Below.refl _ _ | exact hB | refine Below.drew ?_ | refine below_drewN ?_ _ | refine bset ?_ (by simp <;> omega) _ | refine bal ?_ _)) hb1
      obtain ⟨N, hN⟩ : ∃ N, (tab k k fun i j => if i = j then 1 else 0).length = N := ⟨_, rfl⟩
      rw [hN] at HU ⊢
      clear fc hu
      go_wp2
      refine bodyPost_ret (v := .tuple #[.agg #[.slice a N c], .int .i64 0]) (by simp [results, Tryz.results67, go_sem, *]) rfl ⟨.inr (.inr ⟨by omega, by omega, _, rfl, ?_⟩), ?_⟩
      · exact (HU.out.setM rt _)
      ·
        repeat (first | exact Below.refl _ _ | exact hB1 | refine Below.drew ?_ | refine below_drewN ?_ _ | refine bset ?_ (by simp <;> omega) _ | refine bal ?_ _)
end Go.Proofs.YthaohpfbengabaaGreatDoor

/- matrix: Plus, Scale, Turn, Times. -/
namespace Go.Proofs.YthaohpfbengabaaGreatDoor
open Num
open Go.ChangeShapes Go.WideShapes Go.ChangeAt Go.RowKit
set_option linter.unusedVariables false
set_option linter.unusedSimpArgs false
attribute [local go_sem ↓] Go.wp_at_zero Go.wp_at_succ
/-- numbers of so many bits -/
def BdM (k : Nat) (g : Grid) : Prop := ∀ i j, Bd k (gat g i j)
theorem BdM.mono {k m : Nat} {g : Grid} (h : BdM k g) (hk : k ≤ m) : BdM m g := fun i j => (h i j).mono hk
theorem tab_out {n m : Nat} {f : Nat → Nat → Int} {i j : Nat} (h : ¬ (i < n ∧ j < m)) : gat (tab n m f) i j = 0 := by
  unfold gat tab
  by_cases hi : i < n
  · have hj : m ≤ j := Nat.le_of_not_lt fun hj => h ⟨hi, hj⟩
    simp [hi, hj]
  · have : n ≤ i := Nat.le_of_not_lt hi
    have e : ((List.range n).map fun i => (List.range m).map (f i))[i]? = none := List.getElem?_eq_none (by simpa using this)
    simp only [List.getD_eq_getElem?_getD, e]; rfl
theorem tab_bd {n m k : Nat} {f : Nat → Nat → Int} (h : ∀ i j, i < n → j < m → Bd k (f i j)) : BdM k (tab n m f) := fun i j => by
  by_cases hh : i < n ∧ j < m
  · rw [tab_gat hh.1 hh.2]; exact h i j hh.1 hh.2
  · rw [tab_out hh]; exact bd_zero
set_option maxRecDepth 100000 in
set_option maxHeartbeats 4000000 in
theorem plus1_c (bm bo : Nat) (g h : Grid) (n m k : Nat) (w : World) (hg : BoxM bm w g) (hh : BoxM bo w h) (lg : g.length = n) (lh : h.length = n) (rg : Rct g m) (rh : Rct h m) (kg : BdM k g) (kh : BdM k h) (hk : k ≤ 17179869184) :
    FnF (fun i j => gat g i j + gat h i j) n m 90 #[.pointer (some ⟨bm, 0, none⟩), .pointer (some ⟨bo, 0, none⟩)] w := by
  intro W i j hi hj hW
  obtain ⟨c1, gb, go, rb, ro, rc, n1, a1, l1, k1, g0, g1, g2, g3, gi⟩ := (hg.keep hW).elem rg (by omega : i < g.length) hj
  obtain ⟨c2, hb, ho, sb, so, sc, n2, a2, l2, k2, h0, h1, h2, h3, hi2⟩ := (hh.keep hW).elem rh (by omega : i < h.length) hj
  rw [lg] at g0
  rw [lh] at h0
  have ac := fun V (q : Below W.heap.size W V) => addI_c (.agg #[.bool n1, .slice a1 l1 k1]) (.agg #[.bool n2, .slice a2 l2 k2]) (gat g i j) (gat h i j) k V (gi.keep q) (hi2.keep q) (kg i j) (kh i j) hk
  clear hg hh gi hi2 lg lh rg rh kg kh hW
  have hiI : (i : Int) < (n : Int) := by omega
  have hjI : (j : Int) < (m : Int) := by omega
  have z0 := cell_lt g0; have z1 := cell_lt g1; have z2 := cell_lt g2; have z3 := cell_lt h0; have z4 := cell_lt h1; have z5 := cell_lt h2
  have hB := Below.refl W.heap.size W
  show Calls Tryz.prog 90 #[.int .i64 (i : Nat), .int .i64 (j : Nat), .pointer (some ⟨bm, 0, none⟩), .pointer (some ⟨bo, 0, none⟩)] W _
  have HS := Lib.hid (show ∀ V, Below W.heap.size W V → V.cell? ⟨bm, 0, none⟩ = some (.slice (some ⟨gb, go, none⟩) n c1) ∧ V.cell? ⟨gb, go + i, none⟩ = some (.slice (some ⟨rb, ro, none⟩) m rc) ∧ V.cell? ⟨rb, ro + j * 2, none⟩ = some (.bool n1) ∧ V.cell? ⟨rb, ro + j * 2 + 1, none⟩ = some (.slice a1 l1 k1) ∧ V.cell? ⟨bo, 0, none⟩ = some (.slice (some ⟨hb, ho, none⟩) n c2) ∧ V.cell? ⟨hb, ho + i, none⟩ = some (.slice (some ⟨sb, so, none⟩) m sc) ∧ V.cell? ⟨sb, so + j * 2, none⟩ = some (.bool n2) ∧ V.cell? ⟨sb, so + j * 2 + 1, none⟩ = some (.slice a2 l2 k2) from fun V q => ⟨bkeep q g0, bkeep q g1, bkeep q g2, bkeep q g3, bkeep q h0, bkeep q h1, bkeep q h2, bkeep q h3⟩)
  go_enter Tryz.func90, Tryz.ntmps90
  go_upto_region 1 with (fail)
  refine wp_name fun w0 hW0 => ?_
  have hBc : Below W.heap.size W w0 := by rw [hW0]; repeat (first | exact Below.refl _ _ | exact hB | refine Below.drew ?_ | refine below_drewN ?_ _ | refine bset ?_ (by simp <;> omega) _ | refine bal ?_ _)
  have r0 : w0.cell? ⟨W.heap.size, 0, none⟩ = some (.bool false) := by rw [hW0]; simp [go_sem]
  have r1 : w0.cell? ⟨W.heap.size, 1, none⟩ = some (.slice none 0 0) := by rw [hW0]; simp [go_sem]
  have r0f : w0.frozen? ⟨W.heap.size, 0, none⟩ = false := by rw [hW0]; simp [go_sem]
  have r1f : w0.frozen? ⟨W.heap.size, 1, none⟩ = false := by rw [hW0]; simp [go_sem]
  clear hW0
  have zr := cell_lt r0
  have hBw := Below.refl w0.heap.size w0
  obtain ⟨h0c, h1c, h2c, h3c, h4c, h5c, h6c, h7c⟩ := HS.out w0 hBc
  go_still_tail 16, (by kernel_rfl)
  change wpList _ _ _ _ _ w0.drew
  obtain ⟨w2, hw2⟩ : ∃ w2, w0.drew = w2 := ⟨_, rfl⟩
  have hq2 : Below w0.heap.size w0 w2 := hw2 ▸ (Below.refl _ _).drew
  rw [hw2]
  clear hw2
  go_wp2_with fail
  refine (ac _ (bthen hBc hq2)).mono ?_
  rintro e w5 ⟨⟨v5, rfl, hv5⟩, hb5⟩
  have hB5 : Below w0.heap.size w0 w5 := bthen hq2 hb5
  have hBW := bthen hBc hB5
  have r05f := bkeepf hB5 r0 r0f
  have r15f := bkeepf hB5 r1 r1f
  have r05 := bkeep hB5 r0
  have r15 := bkeep hB5 r1
  have HV := Lib.hid hv5
  obtain ⟨n5, a5, c5, l5, rfl, -⟩ := hv5
  unfold iv at *
  clear ac h0c h1c h2c h3c h4c h5c h6c h7c r0 r1 r0f r1f
  go_wp2
  refine bodyPost_ret (v := .agg #[.bool n5, .slice a5 l5.length c5]) (by simp [results, Tryz.results90, go_sem, *]) rfl ⟨⟨_, rfl, (HV.out).put2 r05 r15 _ _⟩, ?_⟩
  repeat (first | exact Below.refl _ _ | exact hBW | refine Below.drew ?_ | refine below_drewN ?_ _ | refine bset ?_ (by simp <;> omega) _ | refine bal ?_ _)
theorem FnF.mono {f : Nat → Nat → Int} {n m F : Nat} {caps : Array Value} {w w' : World} (h : FnF f n m F caps w) (k : Below w.heap.size w w') : FnF f n m F caps w' := fun W i j hi hj q => h W i j hi hj (bthen k q)
theorem IsL.box {w W : World} {b : Nat} {a : Option Addr} {c : Nat} {g : Grid} (h : IsL 59 (PRow 0) 0 w (.slice a g.length c) g) (k : Below w.heap.size w W) (hc : W.cell? ⟨b, 0, none⟩ = some (.slice a g.length c)) : BoxM b W g := ⟨a, c, hc, h.keep (prs_prow 0) k⟩
/-- what an operation answers that may be asked wrongly -/
def MOr (ok : Prop) (err : Int) (r : Grid) (w : World) (e : Ending) (w' : World) : Prop :=
  ((ok ∧ ∃ v, e = .returned (.tuple #[v, .int .i64 0]) ∧ IsM w.heap.size w' v r) ∨ (¬ ok ∧ e = .returned (.tuple #[.agg #[.slice none 0 0], .int .i64 err]))) ∧ Below w.heap.size w w'
def plusG (g h : Grid) : Grid := tab g.length (cols g) fun i j => gat g i j + gat h i j
set_option maxRecDepth 100000 in
set_option maxHeartbeats 4000000 in
theorem plusM_c (v u : Value) (g h : Grid) (k : Nat) (w : World) (hv : IsM 0 w v g) (hu : IsM 0 w u h) (rg : Rct g (cols g)) (rh : Rct h (cols h)) (kg : BdM k g) (kh : BdM k h) (hk : k ≤ 17179869184) (lg : g.length ≤ 1099511627775) (lc : cols g ≤ 1099511627775) :
    Calls Tryz.prog 33 #[v, u] w (MOr (g.length = h.length ∧ cols g = cols h) 5 (plusG g h) w) := by
  obtain ⟨ag, cg, rfl, lv⟩ := hv
  obtain ⟨ah, ch, rfl, lu⟩ := hu
  have rc1 := fun V => rowsM_c ag g.length cg V
  have rc2 := fun V => rowsM_c ah h.length ch V
  have cc1 := fun V (q : Below w.heap.size w V) => colsM_c ag cg g V (lv.keep (prs_prow 0) q)
  have cc2 := fun V (q : Below w.heap.size w V) => colsM_c ah ch h V (lu.keep (prs_prow 0) q)
  have fc := fun V (q : Below w.heap.size w V) (e1 : V.cell? ⟨w.heap.size, 0, none⟩ = some (.slice ag g.length cg)) (e2 : V.cell? ⟨w.heap.size + 1, 0, none⟩ = some (.slice ah h.length ch)) (hn : g.length = h.length) (hc : cols g = cols h) =>
    filled_c g.length (cols g) (fun i j => gat g i j + gat h i j) 90 #[.pointer (some ⟨w.heap.size, 0, none⟩), .pointer (some ⟨w.heap.size + 1, 0, none⟩)] V (plus1_c _ _ g h g.length (cols g) k V (lv.box q e1) (lu.box q e2) rfl hn.symm rg (by rw [hc]; exact rh) kg kh hk) (ens Tryz.func90 (by kernel_rfl) rfl) (by omega) lc
  have FC := Lib.hid fc
  clear fc lv lu rg rh kg kh lg lc
  unfold plusG
  obtain ⟨N, hN⟩ : ∃ N, g.length = N := ⟨_, rfl⟩
  obtain ⟨N', hN'⟩ : ∃ N, h.length = N := ⟨_, rfl⟩
  obtain ⟨C, hC⟩ : ∃ N, cols g = N := ⟨_, rfl⟩
  obtain ⟨C', hC'⟩ : ∃ N, cols h = N := ⟨_, rfl⟩
  rw [hN, hN', hC, hC'] at FC
  rw [hN] at rc1 cc1
  rw [hN'] at rc2 cc2
  rw [hC] at cc1
  rw [hC'] at cc2
  rw [hN, hN', hC, hC']
  clear hN hN' hC hC'
  have RC1 := Lib.hid rc1
  have RC2 := Lib.hid rc2
  have CC1 := Lib.hid cc1
  have CC2 := Lib.hid cc2
  clear rc1 rc2 cc1 cc2
  have hB := Below.refl w.heap.size w
  by_cases h1 : N = N'
  · by_cases h2 : C = C'
    · have FC2 := Lib.hid (fun V q e1 e2 => FC.out V q e1 e2 h1 h2)
      subst h1; subst h2
      have hnI : ((N : Int) != (N : Int)) = false := by simp
      have hcI : ((C : Int) != (C : Int)) = false := by simp
      clear FC
      go_enter Tryz.func33, Tryz.ntmps33
      go_wp2
      refine wp_name fun w0 hW0 => ?_
      have m0 : w0.cell? ⟨w.heap.size, 0, none⟩ = some (.slice ag N cg) := by rw [hW0]; simp [go_sem]
      have zm0 := cell_lt m0
      have o0 : w0.cell? ⟨w.heap.size + 1, 0, none⟩ = some (.slice ah N ch) := by rw [hW0]; simp [go_sem]
      have zo0 := cell_lt o0
      have r0f : w0.frozen? ⟨w.heap.size + 1 + 1, 0, none⟩ = false := by rw [hW0]; simp [go_sem]
      have r0 : w0.cell? ⟨w.heap.size + 1 + 1, 0, none⟩ = some (.slice none 0 0) := by rw [hW0]; simp [go_sem]
      have zr0 := cell_lt r0
      have hB : Below w.heap.size w w0 := by rw [hW0]; repeat (first | exact Below.refl _ _ | exact hB | refine Below.drew ?_ | refine below_drewN ?_ _ | refine bset ?_ (by simp <;> omega) _ | refine bal ?_ _)
      have HT0 : Hid (typOf w0 (w.heap.size + 1 + 1) = some 27) := Lib.hid (by rw [hW0]; exact typ_fresh (by simp))
      have hz : w.heap.size ≤ w0.heap.size := hB.size
      clear hW0
      refine wp_region_grow (w := w0) (by kernel_rfl) (by kernel_rfl) ?_
      have m0g : ∀ gs, (grow w0 gs).cell? ⟨w.heap.size, 0, none⟩ = some (.slice ag N cg) := fun gs => bkeep gs.below m0
      have o0g : ∀ gs, (grow w0 gs).cell? ⟨w.heap.size + 1, 0, none⟩ = some (.slice ah N ch) := fun gs => bkeep gs.below o0
      have r0g : ∀ gs, (grow w0 gs).cell? ⟨w.heap.size + 1 + 1, 0, none⟩ = some (.slice none 0 0) := fun gs => bkeep gs.below r0
      repeat (go_big_quiet_step ((first | (go_at_call 60; with_reducible exact grow_of (RC1.out _)) | (go_at_call 60; with_reducible exact grow_of (RC2.out _)) | (go_at_call 61; with_reducible exact grow_of (CC1.out _ (hB.trans ((Grows.below _).mono hz)))) | (go_at_call 61; with_reducible exact grow_of (CC2.out _ (hB.trans ((Grows.below _).mono hz)))) | fail)))
      refine wpQuiet_nil ?_
      intro w1 hb1
      clear m0g
      clear o0g
      clear r0g
      have m0 := bkeep hb1 m0
      have o0 := bkeep hb1 o0
      have r0f := bkeepf hb1 r0 r0f
      have r0 := bkeep hb1 r0
      have hB := bthen hB hb1
      have hz := hB.size
      have HT1 := Lib.hid (typ_keep HT0.out hb1)
      clear HT0
      go_wp2
      refine wp_region_grow_tail (w := w1) 5 (by kernel_rfl) (by kernel_rfl) ?_
      simp only [List.take_succ_cons, List.take_zero, List.drop_succ_cons, List.drop_zero]
      have m0g : ∀ gs, (grow w1 gs).cell? ⟨w.heap.size, 0, none⟩ = some (.slice ag N cg) := fun gs => bkeep gs.below m0
      have o0g : ∀ gs, (grow w1 gs).cell? ⟨w.heap.size + 1, 0, none⟩ = some (.slice ah N ch) := fun gs => bkeep gs.below o0
      have r0g : ∀ gs, (grow w1 gs).cell? ⟨w.heap.size + 1 + 1, 0, none⟩ = some (.slice none 0 0) := fun gs => bkeep gs.below r0
      repeat (go_big_quiet_step ((first | (go_at_call 60; with_reducible exact grow_of (RC1.out _)) | (go_at_call 61; with_reducible exact grow_of (CC1.out _ (hB.trans ((Grows.below _).mono hz)))) | fail)))
      refine wpQuiet_nil ?_
      intro w2 hb2
      clear m0g
      clear o0g
      clear r0g
      have m0 := bkeep hb2 m0
      have o0 := bkeep hb2 o0
      have r0f := bkeepf hb2 r0 r0f
      have r0 := bkeep hb2 r0
      have hB := bthen hB hb2
      have hz := hB.size
      have HT2 := Lib.hid (typ_keep HT1.out hb2)
      clear HT1
      go_wp2_with fail
      refine (FC2.out _ hB m0 o0).mono ?_
      rintro e w3 ⟨⟨v3, rfl, hv3⟩, hb3⟩
      have HT3 := typ_keep HT2.out hb3
      have HV := Lib.hid (hv3.rebase hz)
      obtain ⟨a3, c3, rfl⟩ := hv3.lit
      have m0 := bkeep hb3 m0
      have o0 := bkeep hb3 o0
      have r0f := bkeepf hb3 r0 r0f
      have r0 := bkeep hb3 r0
      have hB := bthen hB hb3
      have hz := hB.size
      rw [tab_len] at HV ⊢
      clear FC2 hv3 m0 o0
      go_wp2
      refine bodyPost_ret (v := .tuple #[.agg #[.slice a3 N c3], .int .i64 0]) (by simp [results, Tryz.results33, go_sem, *]) rfl ⟨.inl ⟨by simp, _, rfl, HV.out.setM HT3 _⟩, ?_⟩
      repeat (first | exact Below.refl _ _ | exact hB | refine Below.drew ?_ | refine below_drewN ?_ _ | refine bset ?_ (by simp <;> omega) _ | refine bal ?_ _)
    · have hnI : ((N : Int) != (N' : Int)) = false := by simp [h1]
      have hcI : ((C : Int) != (C' : Int)) = true := by simp; omega
      have HNO := Lib.hid (show ¬ (N = N' ∧ C = C') from fun h => h2 h.2)
      clear FC h1 h2
      go_enter Tryz.func33, Tryz.ntmps33
      go_wp2
      refine wp_name fun w0 hW0 => ?_
      have m0 : w0.cell? ⟨w.heap.size, 0, none⟩ = some (.slice ag N cg) := by rw [hW0]; simp [go_sem]
      have zm0 := cell_lt m0
      have o0 : w0.cell? ⟨w.heap.size + 1, 0, none⟩ = some (.slice ah N' ch) := by rw [hW0]; simp [go_sem]
      have zo0 := cell_lt o0
      have r0f : w0.frozen? ⟨w.heap.size + 1 + 1, 0, none⟩ = false := by rw [hW0]; simp [go_sem]
      have r0 : w0.cell? ⟨w.heap.size + 1 + 1, 0, none⟩ = some (.slice none 0 0) := by rw [hW0]; simp [go_sem]
      have zr0 := cell_lt r0
      have hB : Below w.heap.size w w0 := by rw [hW0]; repeat (first | exact Below.refl _ _ | exact hB | refine Below.drew ?_ | refine below_drewN ?_ _ | refine bset ?_ (by simp <;> omega) _ | refine bal ?_ _)
      have hz : w.heap.size ≤ w0.heap.size := hB.size
      clear hW0
      refine wp_region_grow (w := w0) (by kernel_rfl) (by kernel_rfl) ?_
      have m0g : ∀ gs, (grow w0 gs).cell? ⟨w.heap.size, 0, none⟩ = some (.slice ag N cg) := fun gs => bkeep gs.below m0
      have o0g : ∀ gs, (grow w0 gs).cell? ⟨w.heap.size + 1, 0, none⟩ = some (.slice ah N' ch) := fun gs => bkeep gs.below o0
      have r0g : ∀ gs, (grow w0 gs).cell? ⟨w.heap.size + 1 + 1, 0, none⟩ = some (.slice none 0 0) := fun gs => bkeep gs.below r0
      repeat (go_big_quiet_step ((first | (go_at_call 60; with_reducible exact grow_of (RC1.out _)) | (go_at_call 60; with_reducible exact grow_of (RC2.out _)) | (go_at_call 61; with_reducible exact grow_of (CC1.out _ (hB.trans ((Grows.below _).mono hz)))) | (go_at_call 61; with_reducible exact grow_of (CC2.out _ (hB.trans ((Grows.below _).mono hz)))) | fail)))
      refine wpQuiet_nil ?_
      intro w1 hb1
      clear m0g
      clear o0g
      clear r0g
      have m0 := bkeep hb1 m0
      have o0 := bkeep hb1 o0
      have r0f := bkeepf hb1 r0 r0f
      have r0 := bkeep hb1 r0
      have hB := bthen hB hb1
      have hz := hB.size
      go_wp2
      refine bodyPost_ret (v := .tuple #[.agg #[.slice none 0 0], .int .i64 5]) (by simp [results, Tryz.results33, go_sem, *]) rfl ⟨.inr ⟨HNO.out, rfl⟩, ?_⟩
      repeat (first | exact Below.refl _ _ | exact hB | refine Below.drew ?_ | refine below_drewN ?_ _ | refine bset ?_ (by simp <;> omega) _ | refine bal ?_ _)
  · have hnI : ((N : Int) != (N' : Int)) = true := by simp; omega
    have HNO := Lib.hid (show ¬ (N = N' ∧ C = C') from fun h => h1 h.1)
    clear FC h1
    go_enter Tryz.func33, Tryz.ntmps33
    go_wp2
    refine wp_name fun w0 hW0 => ?_
    have m0 : w0.cell? ⟨w.heap.size, 0, none⟩ = some (.slice ag N cg) := by rw [hW0]; simp [go_sem]
    have zm0 := cell_lt m0
    have o0 : w0.cell? ⟨w.heap.size + 1, 0, none⟩ = some (.slice ah N' ch) := by rw [hW0]; simp [go_sem]
    have zo0 := cell_lt o0
    have r0f : w0.frozen? ⟨w.heap.size + 1 + 1, 0, none⟩ = false := by rw [hW0]; simp [go_sem]
    have r0 : w0.cell? ⟨w.heap.size + 1 + 1, 0, none⟩ = some (.slice none 0 0) := by rw [hW0]; simp [go_sem]
    have zr0 := cell_lt r0
    have hB : Below w.heap.size w w0 := by rw [hW0]; repeat (first | exact Below.refl _ _ | exact hB | refine Below.drew ?_ | refine below_drewN ?_ _ | refine bset ?_ (by simp <;> omega) _ | refine bal ?_ _)
    have hz : w.heap.size ≤ w0.heap.size := hB.size
    clear hW0
    refine wp_region_grow (w := w0) (by kernel_rfl) (by kernel_rfl) ?_
    have m0g : ∀ gs, (grow w0 gs).cell? ⟨w.heap.size, 0, none⟩ = some (.slice ag N cg) := fun gs => bkeep gs.below m0
    have o0g : ∀ gs, (grow w0 gs).cell? ⟨w.heap.size + 1, 0, none⟩ = some (.slice ah N' ch) := fun gs => bkeep gs.below o0
    have r0g : ∀ gs, (grow w0 gs).cell? ⟨w.heap.size + 1 + 1, 0, none⟩ = some (.slice none 0 0) := fun gs => bkeep gs.below r0
    repeat (go_big_quiet_step ((first | (go_at_call 60; with_reducible exact grow_of (RC1.out _)) | (go_at_call 60; with_reducible exact grow_of (RC2.out _)) | fail)))
    refine wpQuiet_nil ?_
    intro w1 hb1
    clear m0g
    clear o0g
    clear r0g
    have m0 := bkeep hb1 m0
    have o0 := bkeep hb1 o0
    have r0f := bkeepf hb1 r0 r0f
    have r0 := bkeep hb1 r0
    have hB := bthen hB hb1
    have hz := hB.size
    go_wp2
    refine bodyPost_ret (v := .tuple #[.agg #[.slice none 0 0], .int .i64 5]) (by simp [results, Tryz.results33, go_sem, *]) rfl ⟨.inr ⟨HNO.out, rfl⟩, ?_⟩
    repeat (first | exact Below.refl _ _ | exact hB | refine Below.drew ?_ | refine below_drewN ?_ _ | refine bset ?_ (by simp <;> omega) _ | refine bal ?_ _)
end Go.Proofs.YthaohpfbengabaaGreatDoor

/- matrix: Scale, Turn. -/
namespace Go.Proofs.YthaohpfbengabaaGreatDoor
open Num
open Go.ChangeShapes Go.WideShapes Go.ChangeAt Go.RowKit
set_option linter.unusedVariables false
set_option linter.unusedSimpArgs false
attribute [local go_sem ↓] Go.wp_at_zero Go.wp_at_succ
set_option maxRecDepth 100000 in
set_option maxHeartbeats 4000000 in
theorem scale1_c (bm bo : Nat) (g : Grid) (n m k kc : Nat) (c : Int) (nc : Bool) (ac : Option Addr) (lc cc : Nat) (w : World) (hg : BoxM bm w g) (hc0 : w.cell? ⟨bo, 0, none⟩ = some (.bool nc)) (hc1 : w.cell? ⟨bo, 1, none⟩ = some (.slice ac lc cc)) (hc : IsInt w (.agg #[.bool nc, .slice ac lc cc]) c) (lg : g.length = n) (rg : Rct g m) (kg : BdM k g) (bc : Bd kc c) (hk : k ≤ 17179869184) (hkc : kc ≤ 17179869184) :
    FnF (fun i j => gat g i j * c) n m 98 #[.pointer (some ⟨bm, 0, none⟩), .pointer (some ⟨bo, 0, none⟩)] w := by
  intro W i j hi hj hW
  obtain ⟨c1, gb, go, rb, ro, rc, n1, a1, l1, k1, g0, g1, g2, g3, gi⟩ := (hg.keep hW).elem rg (by omega : i < g.length) hj
  rw [lg] at g0
  have x0 := bkeep hW hc0
  have x1 := bkeep hW hc1
  have mc := fun V (q : Below W.heap.size W V) => mul_c (.agg #[.bool n1, .slice a1 l1 k1]) (.agg #[.bool nc, .slice ac lc cc]) (gat g i j) c k kc V (gi.keep q) ((hc.keep hW).keep q) (kg i j) bc hk hkc
  clear hg gi lg rg kg hW hc hc0 hc1 bc
  have hiI : (i : Int) < (n : Int) := by omega
  have hjI : (j : Int) < (m : Int) := by omega
  have z0 := cell_lt g0; have z1 := cell_lt g1; have z2 := cell_lt g2; have z3 := cell_lt x0
  have hB := Below.refl W.heap.size W
  show Calls Tryz.prog 98 #[.int .i64 (i : Nat), .int .i64 (j : Nat), .pointer (some ⟨bm, 0, none⟩), .pointer (some ⟨bo, 0, none⟩)] W _
  dsimp only
  go_enter Tryz.func98, Tryz.ntmps98
  go_wp2
  refine wp_name fun w0 hW0 => ?_
  have hBc : Below W.heap.size W w0 := by rw [hW0]; repeat (first | exact Below.refl _ _ | exact hB | refine Below.drew ?_ | refine below_drewN ?_ _ | refine bset ?_ (by simp <;> omega) _ | refine bal ?_ _)
  have r0 : w0.cell? ⟨W.heap.size, 0, none⟩ = some (.bool false) := by rw [hW0]; simp [go_sem]
  have r1 : w0.cell? ⟨W.heap.size, 1, none⟩ = some (.slice none 0 0) := by rw [hW0]; simp [go_sem]
  have r0f : w0.frozen? ⟨W.heap.size, 0, none⟩ = false := by rw [hW0]; simp [go_sem]
  have r1f : w0.frozen? ⟨W.heap.size, 1, none⟩ = false := by rw [hW0]; simp [go_sem]
  clear hW0
  replace g0 := bkeep hBc g0
  replace g1 := bkeep hBc g1
  replace g2 := bkeep hBc g2
  replace g3 := bkeep hBc g3
  replace x0 := bkeep hBc x0
  replace x1 := bkeep hBc x1
  have zr := cell_lt r0
  go_still_tail 9, (by kernel_rfl)
  change wpList _ _ _ _ _ w0.drew
  obtain ⟨w2, hw2⟩ : ∃ w2, w0.drew = w2 := ⟨_, rfl⟩
  have hq2 : Below w0.heap.size w0 w2 := hw2 ▸ (Below.refl _ _).drew
  rw [hw2]
  clear hw2
  go_wp2_with fail
  refine (mc _ (bthen hBc hq2)).mono ?_
  rintro e w5 ⟨⟨v5, rfl, hv5⟩, hb5⟩
  have hB5 : Below w0.heap.size w0 w5 := bthen hq2 hb5
  have hBW := bthen hBc hB5
  have r05f := bkeepf hB5 r0 r0f
  have r15f := bkeepf hB5 r1 r1f
  have r05 := bkeep hB5 r0
  have r15 := bkeep hB5 r1
  have HV := Lib.hid hv5
  obtain ⟨n5, a5, c5, l5, rfl, -⟩ := hv5
  unfold iv at *
  clear mc g0 g1 g2 g3 x0 x1 r0 r1 r0f r1f
  go_wp2
  refine bodyPost_ret (v := .agg #[.bool n5, .slice a5 l5.length c5]) (by simp [results, Tryz.results98, go_sem, *]) rfl ⟨⟨_, rfl, (HV.out).put2 r05 r15 _ _⟩, ?_⟩
  repeat (first | exact Below.refl _ _ | exact hBW | refine Below.drew ?_ | refine below_drewN ?_ _ | refine bset ?_ (by simp <;> omega) _ | refine bal ?_ _)
def scaleG (g : Grid) (c : Int) : Grid := tab g.length (cols g) fun i j => gat g i j * c
set_option maxRecDepth 100000 in
set_option maxHeartbeats 4000000 in
theorem scaleM_c (v u : Value) (g : Grid) (c : Int) (k kc : Nat) (w : World) (hv : IsM 0 w v g) (hu : IsInt w u c) (rg : Rct g (cols g)) (kg : BdM k g) (bc : Bd kc c) (hk : k ≤ 17179869184) (hkc : kc ≤ 17179869184) (lg : g.length ≤ 1099511627775) (lc : cols g ≤ 1099511627775) :
    Calls Tryz.prog 40 #[v, u] w fun e w' => (∃ v, e = .returned v ∧ IsM w.heap.size w' v (scaleG g c)) ∧ Below w.heap.size w w' := by
  obtain ⟨ag, cg, rfl, lv⟩ := hv
  have HI := Lib.hid hu
  obtain ⟨nc, ac, cc, ll, rfl, -⟩ := hu
  unfold iv at *
  have rc1 := fun V => rowsM_c ag g.length cg V
  have cc1 := fun V (q : Below w.heap.size w V) => colsM_c ag cg g V (lv.keep (prs_prow 0) q)
  have fc := fun V (q : Below w.heap.size w V) (e1 : V.cell? ⟨w.heap.size, 0, none⟩ = some (.slice ag g.length cg)) (e2 : V.cell? ⟨w.heap.size + 1, 0, none⟩ = some (.bool nc)) (e3 : V.cell? ⟨w.heap.size + 1, 1, none⟩ = some (.slice ac ll.length cc)) =>
    filled_c g.length (cols g) (fun i j => gat g i j * c) 98 #[.pointer (some ⟨w.heap.size, 0, none⟩), .pointer (some ⟨w.heap.size + 1, 0, none⟩)] V (scale1_c _ _ g g.length (cols g) k kc c nc ac ll.length cc V (lv.box q e1) e2 e3 (HI.out.keep q) rfl rg kg bc hk hkc) (ens Tryz.func98 (by kernel_rfl) rfl) (by omega) lc
  have FC := Lib.hid fc
  clear fc lv rg kg lg lc bc
  unfold scaleG
  obtain ⟨N, hN⟩ : ∃ N, g.length = N := ⟨_, rfl⟩
  obtain ⟨C, hC⟩ : ∃ N, cols g = N := ⟨_, rfl⟩
  rw [hN, hC] at FC
  rw [hN] at rc1 cc1
  rw [hC] at cc1
  rw [hN, hC]
  clear hN hC
  have RC1 := Lib.hid rc1
  have CC1 := Lib.hid cc1
  clear rc1 cc1
  have hB := Below.refl w.heap.size w
  go_enter Tryz.func40, Tryz.ntmps40
  go_wp2
  refine wp_name fun w0 hW0 => ?_
  have m0 : w0.cell? ⟨w.heap.size, 0, none⟩ = some (.slice ag N cg) := by rw [hW0]; simp [go_sem]
  have zm0 := cell_lt m0
  have o0 : w0.cell? ⟨w.heap.size + 1, 0, none⟩ = some (.bool nc) := by rw [hW0]; simp [go_sem]
  have zo0 := cell_lt o0
  have o1 : w0.cell? ⟨w.heap.size + 1, 1, none⟩ = some (.slice ac ll.length cc) := by rw [hW0]; simp [go_sem]
  have r0f : w0.frozen? ⟨w.heap.size + 1 + 1, 0, none⟩ = false := by rw [hW0]; simp [go_sem]
  have r0 : w0.cell? ⟨w.heap.size + 1 + 1, 0, none⟩ = some (.slice none 0 0) := by rw [hW0]; simp [go_sem]
  have zr0 := cell_lt r0
  have hB : Below w.heap.size w w0 := by rw [hW0]; repeat (first | exact Below.refl _ _ | exact hB | refine Below.drew ?_ | refine below_drewN ?_ _ | refine bset ?_ (by simp <;> omega) _ | refine bal ?_ _)
  have HT0 : Hid (typOf w0 (w.heap.size + 1 + 1) = some 27) := Lib.hid (by rw [hW0]; exact typ_fresh (by simp))
  have hz : w.heap.size ≤ w0.heap.size := hB.size
  clear hW0
  refine wp_region_grow_tail (w := w0) 5 (by kernel_rfl) (by kernel_rfl) ?_
  simp only [List.take_succ_cons, List.take_zero, List.drop_succ_cons, List.drop_zero]
  have m0g : ∀ gs, (grow w0 gs).cell? ⟨w.heap.size, 0, none⟩ = some (.slice ag N cg) := fun gs => bkeep gs.below m0
  have o0g : ∀ gs, (grow w0 gs).cell? ⟨w.heap.size + 1, 0, none⟩ = some (.bool nc) := fun gs => bkeep gs.below o0
  have o1g : ∀ gs, (grow w0 gs).cell? ⟨w.heap.size + 1, 1, none⟩ = some (.slice ac ll.length cc) := fun gs => bkeep gs.below o1
  have r0g : ∀ gs, (grow w0 gs).cell? ⟨w.heap.size + 1 + 1, 0, none⟩ = some (.slice none 0 0) := fun gs => bkeep gs.below r0
  repeat (go_big_quiet_step ((first | (go_at_call 60; with_reducible exact grow_of (RC1.out _)) | (go_at_call 61; with_reducible exact grow_of (CC1.out _ (hB.trans ((Grows.below _).mono hz)))) | fail)))
  refine wpQuiet_nil ?_
  intro w2 hb2
  clear m0g
  clear o0g
  clear o1g
  clear r0g
  have m0 := bkeep hb2 m0
  have o0 := bkeep hb2 o0
  have o1 := bkeep hb2 o1
  have r0f := bkeepf hb2 r0 r0f
  have r0 := bkeep hb2 r0
  have hB := bthen hB hb2
  have hz := hB.size
  have HT2 := Lib.hid (typ_keep HT0.out hb2)
  clear HT0
  go_wp2_with fail
  refine (FC.out _ hB m0 o0 o1).mono ?_
  rintro e w3 ⟨⟨v3, rfl, hv3⟩, hb3⟩
  have HT3 := typ_keep HT2.out hb3
  have HV := Lib.hid (hv3.rebase hz)
  obtain ⟨a3, c3, rfl⟩ := hv3.lit
  have m0 := bkeep hb3 m0
  have o0 := bkeep hb3 o0
  have o1 := bkeep hb3 o1
  have r0f := bkeepf hb3 r0 r0f
  have r0 := bkeep hb3 r0
  have hB := bthen hB hb3
  have hz := hB.size
  rw [tab_len] at HV ⊢
  clear FC hv3 m0 o0 o1
  go_wp2
  refine bodyPost_ret (v := .agg #[.slice a3 N c3]) (by simp [results, Tryz.results40, go_sem, *]) rfl ⟨⟨_, rfl, HV.out.setM HT3 _⟩, ?_⟩
  repeat (first | exact Below.refl _ _ | exact hB | refine Below.drew ?_ | refine below_drewN ?_ _ | refine bset ?_ (by simp <;> omega) _ | refine bal ?_ _)
end Go.Proofs.YthaohpfbengabaaGreatDoor

/- Arguments as they come in, opened: a program; rows of int64; what their bulk gives. -/
namespace Go.Proofs.YthaohpfbengabaaGreatDoor
open Go.ChangeShapes Go.WideShapes Go.ChangeAt Go.RowKit Go.Joins Go.Deep
set_option linter.unusedVariables false
set_option linter.unusedSimpArgs false
namespace bulks
theorem one_le {H : Type} (d : DataW H) : 1 ≤ Rows.uptoBulk d := by
  cases d with
  | lit l => cases l <;> simp [Rows.uptoBulk]
  | nil => simp [Rows.uptoBulk]
  | ptr d => simp [Rows.uptoBulk]
  | slice elems spare => simp [Rows.uptoBulk]
  | agg parts => simp [Rows.uptoBulk]
  | iface t d => simp [Rows.uptoBulk]
  | map entries => simp [Rows.uptoBulk]
  | held h => simp [Rows.uptoBulk]
theorem length_le {H : Type} (l : List (DataW H)) : l.length ≤ Rows.uptoBulkAll l := by
  induction l with
  | nil => simp [Rows.uptoBulkAll]
  | cons x r ih => have := one_le x; simp only [Rows.uptoBulkAll, List.length_cons]; omega
/-- a list made by a function: its parts' sizes, and how many they are -/
theorem sum_le {H : Type} {α : Type} (f : α → DataW H) (n : α → Nat) : ∀ (l : List α), (∀ x ∈ l, n x + 1 ≤ Rows.uptoBulk (f x)) → (l.map n).sum + l.length ≤ Rows.uptoBulkAll (l.map f)
  | [], _ => by simp [Rows.uptoBulkAll]
  | x :: r, h => by
    have h1 := sum_le f n r (fun y hy => h y (List.mem_cons_of_mem _ hy))
    have h2 := h x (List.mem_cons_self ..)
    simp only [List.map_cons, List.sum_cons, List.length_cons, Rows.uptoBulkAll]; omega
end bulks
section
variable {H : Type} {enc : TypeId × Value → H} {P : Program} {w : World} {base : Nat} {spare : Nat → Bool} {held : Bool}
end
/-- what an address is, of which a cell is known -/
theorem addr_plain {w : World} {a : Addr} {v : Value} (h : w.cell? a = some v) : a = ⟨a.block, a.off, none⟩ := by
  obtain ⟨b, o, s⟩ := a
  cases s with
  | none => rfl
  | some s =>
    simp only [World.cell?] at h
    split at h <;> simp at h
theorem add_plain (b o k : Nat) : (⟨b, o, none⟩ : Addr).add k = ⟨b, o + k, none⟩ := by
  unfold Addr.add; split
  · subst_vars; rfl
  · rfl
/-- an address, the first cell behind which is known -/
theorem plain_at {w : World} {a : Addr} {v : Value} (h : w.cell? (a.add 0) = some v) : ∃ b o, a = ⟨b, o, none⟩ := by
  have h2 : w.cell? a = some v := by simpa [Addr.add] using h
  exact ⟨_, _, addr_plain h2⟩
section
variable {H : Type} {enc : TypeId × Value → H} {W : World} {b0 : Nat} {r : Reach} {v : Value} {d : DataW H} {p : List MemPlace}
theorem i64_of {n : Int} (h : (Lit.int .i64 n).wf = true) : I64 n := by
  have h1 := (Lit.wf_int_iff .i64 n).1 h
  have e1 : IntKind.i64.min = -9223372036854775808 := by decide
  have e2 : IntKind.i64.max = 9223372036854775807 := by decide
  rw [e1, e2] at h1
  exact h1
end
end Go.Proofs.YthaohpfbengabaaGreatDoor

/- Arguments as they come in, whatever their bulk: rows of int64, each of which lies in memory. -/
namespace Go.Proofs.YthaohpfbengabaaGreatDoor
open Go.ChangeShapes Go.WideShapes Go.ChangeAt Go.RowKit Go.Joins Go.Deep
set_option linter.unusedVariables false
set_option linter.unusedSimpArgs false
section
variable {H : Type} {enc : TypeId × Value → H} {W : World} {b0 : Nat} {r : Reach} {v : Value} {d : DataW H} {p : List MemPlace}
end
end Go.Proofs.YthaohpfbengabaaGreatDoor

/- An int that came in. -/
namespace Go.Proofs.YthaohpfbengabaaGreatDoor
open Go.ChangeShapes Go.WideShapes Go.ChangeAt Go.RowKit Go.Joins Go.Deep
set_option maxRecDepth 100000
end Go.Proofs.YthaohpfbengabaaGreatDoor

