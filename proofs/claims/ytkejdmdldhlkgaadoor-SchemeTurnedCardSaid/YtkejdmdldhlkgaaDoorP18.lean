/- Texts of this seat, laid together: MxH, MxK, Dec, TxtR, ScH. Each opens with its own remark, which says what it proves, and under which conditions. -/
import Derived.Test.YtkejdmdldhlkgaaDoorP17
import Derived.Lib.AppendZeros
import Derived.Test.YtkejdmdldhlkgaaDoorP04
import Derived.Test.YtkejdmdldhlkgaaDoorP11
import Derived.Test.YtkejdmdldhlkgaaDoorP05
import Derived.Laws.IdiomStrings
import Derived.Laws.BytesArg
import Derived.Deep.LoopGhost
import Derived.Test.YtkejdmdldhlkgaaDoorP06
import Derived.Deep.RegionHeld3
set_option linter.unusedVariables false
set_option linter.unusedSimpArgs false
/- matrix: rows that are written, each in a block of its own; the bits of elimination. -/
namespace Go.Proofs.YtkejdmdldhlkgaaDoor
open Num
open Go.ChangeShapes Go.WideShapes Go.ChangeAt Go.RowKit
set_option linter.unusedVariables false
set_option linter.unusedSimpArgs false
/-- bits behind so many columns -/
def kb (K t : Nat) : Nat := (K + 1) * 2 ^ t - 1
theorem kb_zero (K : Nat) : kb K 0 = K := by unfold kb; simp
theorem kb_pos (K t : Nat) : 1 ≤ (K + 1) * 2 ^ t := Nat.mul_pos (by omega) (Nat.pow_pos (by omega))
theorem kb_succ (K t : Nat) : kb K (t + 1) = kb K t + kb K t + 1 := by
  have := kb_pos K t
  unfold kb
  rw [Nat.pow_succ, ← Nat.mul_assoc]
  generalize (K + 1) * 2 ^ t = x at *
  omega
theorem kb_mono (K : Nat) {s t : Nat} (h : s ≤ t) : kb K s ≤ kb K t := by
  induction t with
  | zero => have : s = 0 := by omega
            subst this; exact Nat.le_refl _
  | succ t ih =>
    by_cases e : s = t + 1
    · subst e; exact Nat.le_refl _
    · have := ih (by omega); rw [kb_succ]; omega
theorem Bd.ediv {k : Nat} {x : Int} (h : Bd k x) (c : Int) : Bd k (x / c) := Nat.lt_of_le_of_lt (Int.natAbs_ediv_le_natAbs x c) h
theorem elR_len (n : Nat) (a : Nat → Nat → Int) (t : Nat) : (Det.elR n a t).p.length ≤ n := by
  obtain ⟨q, h⟩ := Det.inv_all n t a t (Nat.le_refl _); exact h.k
theorem elR_nz (n : Nat) (a : Nat → Nat → Int) (t : Nat) : (Det.elR n a t).last ≠ 0 := by
  obtain ⟨q, h⟩ := Det.inv_all n t a t (Nat.le_refl _); exact h.nz
theorem elR_sgn (n : Nat) (a : Nat → Nat → Int) (t : Nat) : (Det.elR n a t).sign = 1 ∨ (Det.elR n a t).sign = -1 := by
  obtain ⟨q, h⟩ := Det.inv_all n t a t (Nat.le_refl _); exact h.sgn
theorem swp_bd {n m K : Nat} {g : Nat → Nat → Int} {i k : Nat} (hi : i < n) (hk : k < n) (h : ∀ r c, r < n → c < m → Bd K (g r c)) : ∀ r c, r < n → c < m → Bd K (Det.swp g i k r c) := fun r c hr hc => by
  unfold Det.swp; split
  · exact h k c hk hc
  · split
    · exact h i c hi hc
    · exact h r c hr hc
theorem elNew_bd {n m K t : Nat} {g : Nat → Nat → Int} {k j : Nat} {last : Int} (hk : k < n) (hj : j < m) (h : ∀ r c, r < n → c < m → Bd (kb K t) (g r c)) {r c : Nat} (hr : r < n) (hc : c < m) : Bd (kb K (t + 1)) (Det.elNew g k j last r c) := by
  rw [kb_succ]
  unfold Det.elNew
  exact Bd.ediv (Bd.sub (Bd.mul (h k j hk hj) (h r c hr hc)) (Bd.mul (h r j hr hj) (h k c hk hc))) _
theorem elR_bd {n m K : Nat} {a : Nat → Nat → Int} (h1 : 1 ≤ K) (ha : ∀ r c, r < n → c < m → Bd K (a r c)) : ∀ t, t ≤ m → (∀ r c, r < n → c < m → Bd (kb K t) ((Det.elR n a t).g r c)) ∧ Bd (kb K t) (Det.elR n a t).last
  | 0, _ => by
    rw [kb_zero]
    exact ⟨ha, Nat.lt_of_lt_of_le (by decide : (1 : Int).natAbs < 2 ^ 1) (Nat.pow_le_pow_right (by omega) h1)⟩
  | t + 1, ht => by
    obtain ⟨hg, hl⟩ := elR_bd h1 ha t (by omega)
    have hlen := elR_len n a t
    show (∀ r c, r < n → c < m → Bd (kb K (t + 1)) ((Det.elStep n (Det.elR n a t) t).g r c)) ∧ Bd (kb K (t + 1)) (Det.elStep n (Det.elR n a t) t).last
    obtain ⟨s, hs⟩ : ∃ s, Det.elR n a t = s := ⟨_, rfl⟩
    rw [hs] at hg hl hlen ⊢
    have hge := Det.fr_ge s.g t (n - s.p.length) s.p.length
    have up := kb_mono K (show t ≤ t + 1 by omega)
    by_cases e : Det.fr s.g t (n - s.p.length) s.p.length = n
    · unfold Det.elStep
      rw [if_pos e]
      exact ⟨fun r c hr hc => (hg r c hr hc).mono up, hl.mono up⟩
    · have hsw := swp_bd (K := kb K t) (i := Det.fr s.g t (n - s.p.length) s.p.length) (k := s.p.length) (by omega : _ < n) (by omega) hg
      unfold Det.elStep
      rw [if_neg e]
      refine ⟨fun r c hr hc => ?_, ?_⟩
      · dsimp only
        split
        · exact elNew_bd (by omega) (by omega) hsw hr hc
        · exact (hsw r c hr hc).mono up
      · exact (hsw _ _ (by omega) (by omega)).mono up
/-- rows that may be written, each in a block of its own between base and top; their slices lie in the block B -/
structure RowsW (base top B n m : Nat) (w : World) (bs : Nat → Nat) (g : Nat → Nat → Int) : Prop where
  tB : typOf w B = some 42
  lo : base ≤ B
  hi : B < top
  fB : Free w B
  cell : ∀ i, i < n → ∃ c, w.cell? ⟨B, i, none⟩ = some (.slice (some ⟨bs i, 0, none⟩) m c)
  ty : ∀ i, i < n → typOf w (bs i) = some 37
  lob : ∀ i, i < n → base ≤ bs i
  hib : ∀ i, i < n → bs i < top
  fr : ∀ i, i < n → Free w (bs i)
  inj : ∀ i j, i < n → j < n → bs i = bs j → i = j
  num : ∀ i, i < n → IntsF IsInt w (bs i) 0 m (g i)
section
variable {base top B n m : Nat} {w w' : World} {bs : Nat → Nat} {g g' : Nat → Nat → Int}
theorem RowsW.congr (h : RowsW base top B n m w bs g) (e : ∀ r c, r < n → c < m → g r c = g' r c) : RowsW base top B n m w bs g' :=
  ⟨h.tB, h.lo, h.hi, h.fB, h.cell, h.ty, h.lob, h.hib, h.fr, h.inj, fun i hi => (h.num i hi).congr fun k hk => e i k hi hk⟩
theorem RowsW.out {X : Nat → Prop} (h : RowsW base top B n m w bs g) (ho : Out X w w') (hx : ∀ q, base ≤ q → q < top → ¬ X q) (hl : Lim w w') : RowsW base top B n m w' bs g := by
  have bB := hx B h.lo h.hi
  have bi : ∀ i, i < n → ¬ X (bs i) := fun i hi => hx _ (h.lob i hi) (h.hib i hi)
  refine ⟨by rw [typ_of_block (w := w) (ho.block B (typ_lt h.tB) bB)]; exact h.tB, h.lo, h.hi, h.fB.out ho bB, fun i hi => ?_, fun i hi => by rw [typ_of_block (w := w) (ho.block _ (typ_lt (h.ty i hi)) (bi i hi))]; exact h.ty i hi, h.lob, h.hib, fun i hi => (h.fr i hi).out ho (bi i hi), h.inj, fun i hi => (h.num i hi).out lims_int ho (bi i hi) hl⟩
  obtain ⟨c, hc⟩ := h.cell i hi
  exact ⟨c, okeep ho hc bB⟩
theorem RowsW.keep (h : RowsW base top B n m w bs g) (k : Below w.heap.size w w') : RowsW base top B n m w' bs g :=
  h.out (X := fun _ => False) (Out.of_below _ k) (fun _ _ _ hf => hf) (Lim.of_below k)
/-- one number is set -/
theorem RowsW.put (h : RowsW base top B n m w bs g) {i c : Nat} (hi : i < n) (hc : c < m) {nb : Bool} {a : Option Addr} {len cp : Nat} {z : Int} (hv : IsInt w (.agg #[.bool nb, .slice a len cp]) z) :
    RowsW base top B n m ((w.setCell ⟨bs i, c * 2, none⟩ (.bool nb)).setCell ⟨bs i, c * 2 + 1, none⟩ (.slice a len cp)) bs (fun r c' => if r = i ∧ c' = c then z else g r c') := by
  have hne : ∀ j, j < n → j ≠ i → bs i ≠ bs j := fun j hj hji e => hji (h.inj j i hj hi e.symm)
  have hBi : bs i ≠ B := fun e => by
    have h1 := h.ty i hi
    rw [e, h.tB] at h1
    exact absurd (Option.some.inj h1) (by decide)
  refine ⟨by rw [typ_set, typ_set]; exact h.tB, h.lo, h.hi, (h.fB.set _ _).set _ _, fun j hj => ?_, fun j hj => by rw [typ_set, typ_set]; exact h.ty j hj, h.lob, h.hib, fun j hj => ((h.fr j hj).set _ _).set _ _, h.inj, fun j hj => ?_⟩
  · obtain ⟨c0, hc0⟩ := h.cell j hj
    exact ⟨c0, cell_far (cell_far hc0 (addr_ne hBi) _) (addr_ne hBi) _⟩
  · by_cases e : j = i
    · subst e
      refine (IntsF.store0 lims_int (h.num j hj) hc hv).congr fun k hk => ?_
      by_cases e2 : k = c
      · subst e2; simp
      · simp [e2]
    · obtain ⟨nb0, a0, len0, c0, o0, o1, -⟩ := (h.num i hi).at0 hc
      exact (IntsF.far lims_int (h.num j hj) (hne j hj e) o0 o1 _ _).congr fun k hk => by rw [if_neg (fun hh => e hh.1)]
/-- two rows change places -/
theorem RowsW.swap (h : RowsW base top B n m w bs g) {i k : Nat} (hi : i < n) (hk : k < n) {ci ck : Nat} (hci : w.cell? ⟨B, i, none⟩ = some (.slice (some ⟨bs i, 0, none⟩) m ci)) (hck : w.cell? ⟨B, k, none⟩ = some (.slice (some ⟨bs k, 0, none⟩) m ck)) :
    RowsW base top B n m ((w.setCell ⟨B, i, none⟩ (.slice (some ⟨bs k, 0, none⟩) m ck)).setCell ⟨B, k, none⟩ (.slice (some ⟨bs i, 0, none⟩) m ci)) (fun r => if r = k then bs i else if r = i then bs k else bs r) (Det.swp g i k) := by
  have hk0 : Kp (fun t => t ≠ 42) w ((w.setCell ⟨B, i, none⟩ (.slice (some ⟨bs k, 0, none⟩) m ck)).setCell ⟨B, k, none⟩ (.slice (some ⟨bs i, 0, none⟩) m ci)) :=
    (((Kp.refl _ w).set (p := ⟨B, i, none⟩) (fun t ht => by rw [h.tB] at ht; cases ht; exact fun hh => hh rfl) _).set (p := ⟨B, k, none⟩) (fun t ht => by rw [typ_set, h.tB] at ht; cases ht; exact fun hh => hh rfl) _)
  have pick : ∀ r, r < n → ∃ r', r' < n ∧ (if r = k then bs i else if r = i then bs k else bs r) = bs r' ∧ (r' = if r = k then i else if r = i then k else r) := fun r hr => by
    by_cases e1 : r = k
    · exact ⟨i, hi, by rw [if_pos e1], by rw [if_pos e1]⟩
    · by_cases e2 : r = i
      · exact ⟨k, hk, by rw [if_neg e1, if_pos e2], by rw [if_neg e1, if_pos e2]⟩
      · exact ⟨r, hr, by rw [if_neg e1, if_neg e2], by rw [if_neg e1, if_neg e2]⟩
  refine ⟨by rw [typ_set, typ_set]; exact h.tB, h.lo, h.hi, (h.fB.set _ _).set _ _, fun r hr => ?_, fun r hr => ?_, fun r hr => ?_, fun r hr => ?_, fun r hr => ?_, fun r s hr hs e => ?_, fun r hr => ?_⟩
  · by_cases e1 : r = k
    · subst e1
      refine ⟨ci, ?_⟩
      rw [if_pos rfl]
      by_cases e2 : r = i
      · subst e2; exact cell_here (cell_here hci _) _
      · exact cell_here (cell_far hck (by simp <;> omega) _) _
    · by_cases e2 : r = i
      · subst e2
        refine ⟨ck, ?_⟩
        rw [if_neg e1, if_pos rfl]
        exact cell_far (cell_here hci _) (by simp <;> omega) _
      · obtain ⟨c, hc⟩ := h.cell r hr
        refine ⟨c, ?_⟩
        rw [if_neg e1, if_neg e2]
        exact cell_far (cell_far hc (by simp <;> omega) _) (by simp <;> omega) _
  · obtain ⟨r', h1, h2, -⟩ := pick r hr
    rw [h2, typ_set, typ_set]; exact h.ty r' h1
  · obtain ⟨r', h1, h2, -⟩ := pick r hr
    rw [h2]; exact h.lob r' h1
  · obtain ⟨r', h1, h2, -⟩ := pick r hr
    rw [h2]; exact h.hib r' h1
  · obtain ⟨r', h1, h2, -⟩ := pick r hr
    rw [h2]; exact ((h.fr r' h1).set _ _).set _ _
  · obtain ⟨r', h1, h2, h3⟩ := pick r hr
    obtain ⟨s', k1, k2, k3⟩ := pick s hs
    rw [h2, k2] at e
    have := h.inj r' s' h1 k1 e
    rw [h3, k3] at this
    by_cases a1 : r = k <;> by_cases a2 : r = i <;> by_cases a3 : s = k <;> by_cases a4 : s = i <;> simp only [a1, a2, a3, a4, if_true, if_false] at this ⊢ <;> first | omega | (split at this <;> omega)
  · obtain ⟨r', h1, h2, h3⟩ := pick r hr
    rw [h2]
    refine ((h.num r' h1).stay lims_int ?_ (hk0.lim (by decide))).congr fun c hc => ?_
    · exact hk0 _ _ (h.ty r' h1) (by decide)
    · unfold Det.swp
      rw [h3]
      by_cases a1 : r = k <;> by_cases a2 : r = i
      · rw [if_pos a1, if_pos a2]; rw [← a1, ← a2]
      · rw [if_pos a1, if_neg a2, if_pos a1]
      · rw [if_neg a1, if_pos a2, if_pos a2]
      · rw [if_neg a1, if_neg a2, if_neg a2, if_neg a1]
end
/-- a row in a block of its own, told with that block -/
def PRb (base : Nat) (w : World) (u : Value) (x : Nat × List Int) : Prop :=
  ∃ c, u = .slice (some ⟨x.1, 0, none⟩) x.2.length c ∧ base ≤ x.1 ∧ typOf w x.1 = some 37 ∧ Free w x.1 ∧ IntsF IsInt w x.1 0 x.2.length (fun k => x.2.getD k 0)
theorem prs_prb (base : Nat) : Prs (fun t => t = 64 ∨ t = 37) (PRb base) where
  one := fun ⟨c, e, _⟩ => by rw [e]; rfl
  kp := fun {w w' u x} ⟨c, e, hb, ht, hf, hi⟩ k => by
    refine ⟨c, e, hb, k.typ ht (.inr rfl), ?_, hi.stay lims_int (k _ _ ht (.inr rfl)) (k.lim (.inl rfl))⟩
    have hb := k _ _ ht (.inr rfl)
    refine ⟨?_, fun j => by rw [World.frozen?_of_block (w := w) hb]; exact hf.2 j⟩
    have h1 : typOf w' x.1 = some 37 := k.typ ht (.inr rfl)
    exact typ_lt h1
theorem RowO.prb {base : Nat} {w : World} {v : Value} {l : List Int} (h : RowO IsInt 37 base w v l) (hl : 0 < l.length) : ∃ b, PRb base w v (b, l) := by
  obtain ⟨xs, ⟨hlen, h1⟩, h2⟩ := h
  rcases h1 with ⟨rfl, h0⟩ | ⟨g, cap, cur, rfl, hg, hh, hc, hm, hs, ht⟩
  · omega
  · have hty : typOf w g = some 37 := by unfold typOf; rw [hh]
    refine ⟨g, cap, rfl, hg, hty, ⟨typ_lt hty, fun j => by simp [World.frozen?, hh]⟩, fun k hk => ?_⟩
    obtain ⟨nb, a, len, c, k1, k2, k3⟩ := h2 k hk
    have cel : ∀ j u, xs[j]? = some u → w.cell? ⟨g, j, none⟩ = some u := fun j u hj => by
      have hj2 : j < l.length * 2 := by have := (List.getElem?_eq_some_iff.1 hj).1; omega
      rw [← ht, List.getElem?_take_of_lt (by omega)] at hj
      simpa [World.cell?, hh] using hj
    exact ⟨nb, a, len, c, by rw [Nat.zero_add]; exact cel _ _ k1, by rw [Nat.zero_add]; exact cel _ _ k2, k3⟩
/-- small numbers in a list -/
def PInt (w : World) (u : Value) (x : Nat) : Prop := u = .int .i64 (x : Nat)
theorem prs_pint : Prs (fun _ => False) PInt := ⟨fun h => by cases h; rfl, fun h _ => h⟩
end Go.Proofs.YtkejdmdldhlkgaaDoor

/- slices.Grow, slices.Concat at rows of numbers. -/
namespace Go.Proofs.YtkejdmdldhlkgaaDoor
open Num
open Go.ChangeShapes Go.WideShapes Go.ChangeAt Go.RowKit
set_option linter.unusedVariables false
set_option linter.unusedSimpArgs false
attribute [local go_sem ↓] Go.wp_at_zero Go.wp_at_succ
theorem app_lt2 {L l : List Int} {k : Nat} (h : k < L.length) : (L ++ l).getD k 0 = L.getD k 0 := by simp [List.getD_eq_getElem?_getD, List.getElem?_append, h]
theorem app_ge2 {L l : List Int} {k : Nat} (h : L.length ≤ k) : (L ++ l).getD k 0 = l.getD (k - L.length) 0 := by
  simp [List.getD_eq_getElem?_getD, List.getElem?_append_right h]
/-- a row is appended to a row of the call's own -/
theorem app_cat {ops : Array Oper} {rest : List Oper} {o : Oper} {a : Act} {Q : Exit → Act → World → Prop} {w0 wr : World} {v : Value} {L l : List Int} {b off c : Nat} {s x : Operand} (hgd : o.guard = none)
    (ho : o.op = .call { callee := .builtin .append, args := #[s, x], argTypes := #[42, 42] })
    (hO : OwnF IsInt 37 w0 wr v L.length (fun k => L.getD k 0)) (hl : IntsF IsInt wr b off l.length (fun k => l.getD k 0)) (hs : a.eval s = v) (hx : a.eval x = .slice (some ⟨b, off, none⟩) l.length c) (hn : L.length + l.length ≤ 1099511627776)
    (h : ∀ v' w', Hid (OwnF IsInt 37 w0 w' v' (L ++ l).length (fun k => (L ++ l).getD k 0)) → wpList Tryd.prog ops Q rest (a.put o.dst v') w') : wpList Tryd.prog ops Q (o :: rest) a wr := by
  obtain ⟨i0, z0, hi, hz0, hz1, hz2, hz3⟩ := elInt.info
  obtain ⟨xs, hO1, hO2⟩ := hO
  refine wpList_append_own _ hgd s x 42 ho w0.heap.size 37 i0 z0 2 32 Tryd.underlying42 hi hz0 hz1 hz2 hz3 (by decide) v L.length xs hs hO1.1 ⟨b, off, none⟩ l.length c (cellsAt wr b off (l.length * 2)) hx (cellsAt_len _ _ _ _)
    (cellsAt_at (Below.refl _ _) fun j hj => by obtain ⟨v, hv, _⟩ := intsF_cells hl j hj; exact ⟨v, hv⟩) (cellsAt_all (intsF_cells hl)) (by unfold maxLen; omega) (by omega) hO1.2.size ?_
  intro v' w' hown hg _
  have hbel := below_append (wr := wr) hO1.2 hO1.1 hg
  have hlim : Lim wr w' := (Lim.refl wr).grown hg fun g hg' ht => by
    rw [own_typ hO1 hg'] at ht
    exact absurd (Option.some.inj ht) (by decide)
  refine h v' w' (Lib.hid ⟨_, ⟨by rw [List.length_append]; exact hown, hbel⟩, fun k hk => ?_⟩)
  have hxl : xs.length = L.length * 2 := hO1.1.1
  rw [List.length_append] at hk
  by_cases e : k < L.length
  · obtain ⟨nb, ad, len, cp, k1, k2, k3⟩ := hO2 k e
    exact ⟨nb, ad, len, cp, by rw [List.getElem?_append_left (by omega)]; exact k1, by rw [List.getElem?_append_left (by omega)]; exact k2, by show IsInt _ _ ((L ++ l).getD k 0); rw [app_lt2 e]; exact lims_int _ _ _ _ k3 hlim⟩
  · obtain ⟨nb, ad, len, cp, k1, k2, k3⟩ := hl (k - L.length) (by omega)
    refine ⟨nb, ad, len, cp, ?_, ?_, by show IsInt _ _ ((L ++ l).getD k 0); rw [app_ge2 (by omega)]; exact lims_int _ _ _ _ k3 hlim⟩
    · rw [List.getElem?_append_right (by omega), hxl, show k * 2 - L.length * 2 = (k - L.length) * 2 by omega]; exact cellsAt_get (by omega) k1
    · rw [List.getElem?_append_right (by omega), hxl, show k * 2 + 1 - L.length * 2 = (k - L.length) * 2 + 1 by omega]; exact cellsAt_get (by omega) k2
set_option maxRecDepth 100000 in
set_option maxHeartbeats 2000000 in
theorem grow_c (n : Nat) (w : World) (h0 : 0 < n) (hn : n ≤ 1099511627776) :
    Calls Tryd.prog 77 #[.slice none 0 0, .int .i64 (n : Nat)] w fun e w' => (∃ v, e = .returned v ∧ ∀ base, base ≤ w.heap.size → w'.ownsRow base 37 2 v 0 []) ∧ Below w.heap.size w w' := by
  obtain ⟨i0, z0, hi, hz0, hz1, hz2, hz3⟩ := elInt.info
  have hB := Below.refl w.heap.size w
  have hr := fun ty => Lib.run_append_nil_zeros w 42 3 ty 37 i0 z0 .i64 .i64 Tryd.underlying42 Tryd.underlying3 hi hz0 n h0 (by omega) (by omega) (by rw [hz2]; omega)
  have h1 : ¬ ((n : Int) < 0) := by omega
  have h2 : (0 : Int) < (n : Int) := by omega
  have hcap : n ≤ grownCap w n 0 37 := grownCap_ge _ _ _ _
  have hcm : grownCap w n 0 37 ≤ maxLen := grownCap_le_maxLen _ _ _ _ (by unfold maxLen; omega)
  obtain ⟨G, hG⟩ : ∃ G, grownCap w n 0 37 = G := ⟨_, rfl⟩
  rw [hG] at hcap hcm hr
  have HO := Lib.hid (show ∀ base, base ≤ w.heap.size → (w.drew.alloc (.cells (Builtin.zeroCells z0.cells n ++ Builtin.zeroCells z0.cells (G - n)) 37)).ownsRow base 37 2 (.slice (some ⟨w.heap.size, 0, none⟩) 0 G) 0 [] from fun base hb =>
    ⟨rfl, .inr ⟨w.heap.size, G, _, rfl, hb, (MapKept.heap_alloc w.drew _).1, Nat.zero_le _, hcm, by rw [Array.size_append, size_zeroCells, size_zeroCells, hz3, ← Nat.add_mul]; congr 1; omega, rfl⟩⟩)
  have hBa : Below w.heap.size w (w.drew.alloc (.cells (Builtin.zeroCells z0.cells n ++ Builtin.zeroCells z0.cells (G - n)) 37)) := bal (Below.refl _ _).drew _
  obtain ⟨wz, hwz⟩ : ∃ wz, (w.drew.alloc (.cells (Builtin.zeroCells z0.cells n ++ Builtin.zeroCells z0.cells (G - n)) 37)) = wz := ⟨_, rfl⟩
  rw [hwz] at HO hBa hr
  have hG0 : (0 : Int) ≤ (G : Int) := by omega
  have HR := Lib.hid hr
  clear hr hwz hG hi hz0 hz1 hz2 hz3
  go_enter Tryd.func77, Tryd.ntmps77
  go_wp2_with (at_builtin; refine Lib.wpList_append_run _ (by rfl) _ _ 42 3 rfl _ _ rfl rfl _ _ (HR.out _) ?_)
  try go_wp2
  go_ret
  exact ⟨⟨_, rfl, HO.out⟩, hBa⟩
/-- a row in memory, not nil -/
def PSl (w : World) (u : Value) (l : List Int) : Prop := ∃ b off c, u = .slice (some ⟨b, off, none⟩) l.length c ∧ typOf w b = some 37 ∧ IntsF IsInt w b off l.length (fun k => l.getD k 0)
theorem prs_psl : Prs (fun t => t = 64 ∨ t = 37) PSl where
  one := fun ⟨b, off, c, e, _⟩ => by rw [e]; rfl
  kp := fun {w w' u x} ⟨b, off, c, e, ht, hi⟩ k => ⟨b, off, c, e, k.typ ht (.inr rfl), hi.stay lims_int (k _ _ ht (.inr rfl)) (k.lim (.inl rfl))⟩
theorem IsL.psl {w : World} {v : Value} {g : Grid} (h : IsL 42 PSl 0 w v g) {i : Nat} (hi : i < g.length) :
    ∃ c gb go rb ro rc, v = .slice (some ⟨gb, go, none⟩) g.length c ∧ w.cell? ⟨gb, go + i, none⟩ = some (.slice (some ⟨rb, ro, none⟩) (g.getD i []).length rc) ∧ IntsF IsInt w rb ro (g.getD i []).length (fun k => (g.getD i []).getD k 0) := by
  obtain ⟨a, c, e, _, hv⟩ := h.view
  obtain ⟨gb, go, u, rfl, hu, hr⟩ := hv i hi
  have e2 : g[i] = g.getD i [] := by simp [hi]
  rw [e2] at hr
  obtain ⟨rb, ro, rc, rfl, _, h3⟩ := hr
  exact ⟨c, gb, go, rb, ro, rc, e, hu, h3⟩
theorem flat_take {g : Grid} {i : Nat} (hi : i < g.length) : (g.take (i + 1)).flatten = (g.take i).flatten ++ g.getD i [] := by
  rw [take_getD [] hi, List.flatten_append]; simp
theorem flat_le (g : Grid) (i : Nat) : (g.take i).flatten.length ≤ g.flatten.length := by
  conv => rhs; rw [← List.take_append_drop i g, List.flatten_append, List.length_append]
  omega
set_option maxRecDepth 100000 in
set_option maxHeartbeats 4000000 in
theorem concat_c (v : Value) (g : Grid) (w : World) (hv : IsL 42 PSl 0 w v g) (h0 : 0 < g.flatten.length) (hn : g.flatten.length ≤ 1099511627776) (hg : g.length ≤ 1099511627776) :
    Calls Tryd.prog 65 #[v] w fun e w' => (∃ v', e = .returned v' ∧ RowO IsInt 37 w.heap.size w' v' g.flatten) ∧ Below w.heap.size w w' := by
  have HV := Lib.hid hv
  obtain ⟨va, vc, rfl, -⟩ : ∃ a c, v = .slice a g.length c ∧ True := by obtain ⟨a, c, e, _⟩ := hv.view; exact ⟨a, c, e, trivial⟩
  have HF := Lib.hid (fun i => flat_le g i)
  have hB := Below.refl w.heap.size w
  clear hv
  go_enter Tryd.func65, Tryd.ntmps65
  go_wp2
  go_loopw [3, 11] (fun s x wr => ∃ i : Nat, i ≤ g.length ∧ x = .int .i64 i ∧ s = .int .i64 ((g.take i).flatten.length : Nat) ∧ Below w.heap.size w wr) (fun _ x _ => g.length - (intOf x).toNat)
  case atStart => exact ⟨0, Nat.zero_le _, rfl, by simp, hB⟩
  case round =>
    obtain ⟨i, hi, rfl, rfl, hBr⟩ := hrel
    by_cases hlt : i < g.length
    · have hltI : (i : Int) < (g.length : Int) := by omega
      obtain ⟨c', gb, go, rb, ro, rc, e2, hu, -⟩ := (HV.out.keep prs_psl hBr).psl hlt
      obtain ⟨rfl, -, rfl⟩ := Value.slice.inj e2
      have HS := Lib.hid (flat_take hlt)
      have hS1 := HF.out (i + 1)
      rw [HS.out, List.length_append] at hS1
      obtain ⟨S, hSE⟩ : ∃ S, (g.take i).flatten.length = S := ⟨_, rfl⟩
      obtain ⟨m, hm⟩ : ∃ m, (g.getD i []).length = m := ⟨_, rfl⟩
      have HT := Lib.hid (show (g.take (i + 1)).flatten.length = S + m by rw [HS.out, List.length_append, hSE, hm])
      rw [hSE, hm] at hS1
      rw [hSE]
      rw [hm] at hu
      have hw : wrap64 ((S : Int) + (m : Int)) = (S : Int) + (m : Int) := by unfold wrap64; omega
      have hnn : ¬ ((S : Int) + (m : Int) < 0) := by omega
      have zu := cell_lt hu
      clear hSE hm e2 HS
      go_wp2
      exact ⟨⟨i + 1, by omega, by go_num, by rw [HT.out]; go_num, hBr⟩, by simp [intOf]; omega⟩
    · obtain rfl : i = g.length := by omega
      have hltI : ¬ (g.length : Int) < (g.length : Int) := by omega
      rw [List.take_length]
      obtain ⟨N, hN⟩ : ∃ N, g.flatten.length = N := ⟨_, rfl⟩
      rw [hN] at h0 hn ⊢
      have HN := Lib.hid hN
      have gc := fun W => grow_c N W h0 hn
      clear hN
      have hBw := Below.refl wr.heap.size wr
      go_wp2_with fail
      refine (gc _).mono ?_
      rintro e w2 ⟨⟨v2, rfl, ho2⟩, hb2⟩
      have hb2' := bthen hBr (bthen (by repeat (first | exact Below.refl _ _ | exact hBw | refine Below.drew ?_ | refine below_drewN ?_ _ | refine bset ?_ (by simp <;> omega) _ | refine bal ?_ _)) hb2)
      have HO2 := Lib.hid (show OwnF IsInt 37 w w2 v2 ([] : List Int).length (fun k => ([] : List Int).getD k 0) from ⟨[], ⟨ho2 _ hBr.size, hb2'⟩, fun k hk => absurd hk (by simp)⟩)
      clear ho2 gc hb2 hBw
      go_wp2
      go_loopw [6, 27] (fun v x wr => ∃ i : Nat, i ≤ g.length ∧ x = .int .i64 i ∧ Hid (OwnF IsInt 37 w wr v (g.take i).flatten.length (fun k => (g.take i).flatten.getD k 0))) (fun _ x _ => g.length - (intOf x).toNat)
      case atStart => exact ⟨0, Nat.zero_le _, rfl, HO2⟩
      case round =>
        rename World => wq
        obtain ⟨i, hi, rfl, hO⟩ := hrel
        by_cases hlt : i < g.length
        · have hltI : (i : Int) < (g.length : Int) := by omega
          have hBq := hO.out.bel
          obtain ⟨c', gb, go, rb, ro, rc, e2, hu, hI⟩ := (HV.out.keep prs_psl hBq).psl hlt
          obtain ⟨rfl, -, rfl⟩ := Value.slice.inj e2
          have hS1 := HF.out (i + 1)
          have HS := Lib.hid (flat_take hlt)
          rw [HS.out, List.length_append, HN.out] at hS1
          obtain ⟨L, hL⟩ : ∃ L, (g.take i).flatten = L := ⟨_, rfl⟩
          obtain ⟨l, hl⟩ : ∃ l, g.getD i [] = l := ⟨_, rfl⟩
          rw [hL] at hO HS hS1
          rw [hl] at HS hS1 hu hI
          have HI := Lib.hid hI
          have zu := cell_lt hu
          obtain ⟨oa, oc, hov⟩ : ∃ a c, _ = Value.slice a L.length c := by obtain ⟨a, c, h, _⟩ := hO.out.view; exact ⟨a, c, h⟩
          subst hov
          clear hL hl e2 hI
          go_wp2_with (at_builtin; refine app_cat (by rfl) (by rfl) hO.out HI.out (by rfl) (by rfl) (by omega) ?_)
          intro v' w8 HO7
          have HO8 := Lib.hid (show OwnF IsInt 37 w w8 v' (L ++ l).length (fun k => (L ++ l).getD k 0) from by rw [List.length_append]; exact HO7.out)
          rw [← HS.out] at HO8
          clear HO7
          go_wp2
          exact ⟨⟨i + 1, by omega, by go_num, HO8⟩, by simp [intOf]; omega⟩
        · obtain rfl : i = g.length := by omega
          rw [List.take_length] at hO
          have hBq := hO.out.bel
          have HR := Lib.hid (OwnF.rowO (w0 := w) hO.out)
          obtain ⟨oa, oc, hov⟩ : ∃ a c, _ = Value.slice a g.flatten.length c := by obtain ⟨a, c, h, _⟩ := hO.out.view; exact ⟨a, c, h⟩
          subst hov
          clear hO
          go_wp2
          go_ret
          exact ⟨⟨_, rfl, HR.out⟩, hBq⟩
end Go.Proofs.YtkejdmdldhlkgaaDoor

/- Plain: decimal digits, low one first; nine at a time; a number's text. -/
namespace Go.Proofs.YtkejdmdldhlkgaaDoor.Num
/-- the decimal digits of a number, low one first; none of 0 -/
def lowD : Nat → List Nat
  | 0 => []
  | n + 1 => (n + 1) % 10 :: lowD ((n + 1) / 10)
decreasing_by omega
theorem lowD_zero : lowD 0 = [] := by rw [lowD]
theorem lowD_pos {n : Nat} (h : 0 < n) : lowD n = n % 10 :: lowD (n / 10) := by
  cases n with
  | zero => omega
  | succ n => rw [lowD]
theorem lowD_lt (n : Nat) : ∀ d ∈ lowD n, d < 10 := by
  induction n using Nat.strongRecOn with
  | _ n ih =>
    intro d hd
    by_cases h : 0 < n
    · rw [lowD_pos h] at hd
      rcases List.mem_cons.1 hd with rfl | hd
      · omega
      · exact ih (n / 10) (by omega) d hd
    · obtain rfl : n = 0 := by omega
      rw [lowD_zero] at hd; cases hd
theorem lowD_ne {n : Nat} (h : 0 < n) : lowD n ≠ [] := by rw [lowD_pos h]; simp
theorem lowD_len (k : Nat) : ∀ n, n < 2 ^ k → (lowD n).length ≤ k := by
  induction k with
  | zero => intro n h; obtain rfl : n = 0 := by simpa using h
            rw [lowD_zero]; simp
  | succ k ih =>
    intro n h
    by_cases h0 : 0 < n
    · rw [lowD_pos h0]
      have := ih (n / 10) (by rw [Nat.pow_succ] at h; omega)
      simp; exact this
    · obtain rfl : n = 0 := by omega
      rw [lowD_zero]; simp
/-- the low k digits of a number, with noughts -/
def padD : Nat → Nat → List Nat
  | 0, _ => []
  | k + 1, n => n % 10 :: padD k (n / 10)
theorem padD_len (k n : Nat) : (padD k n).length = k := by
  induction k generalizing n with
  | zero => rfl
  | succ k ih => simp [padD, ih]
theorem padD_snoc (k n : Nat) : padD (k + 1) n = padD k n ++ [n / 10 ^ k % 10] := by
  induction k generalizing n with
  | zero => simp [padD]
  | succ k ih =>
    rw [padD, ih (n / 10)]
    show _ = (n % 10 :: padD k (n / 10)) ++ _
    rw [List.cons_append, Nat.div_div_eq_div_mul, Nat.pow_succ, Nat.mul_comm 10]
/-- a number's digits: its low k, then those of what is above -/
theorem lowD_split (k : Nat) : ∀ n, 10 ^ k ≤ n → lowD n = padD k n ++ lowD (n / 10 ^ k) := by
  induction k with
  | zero => intro n _; simp [padD]
  | succ k ih =>
    intro n h
    have hp : 0 < 10 ^ k := Nat.pow_pos (by omega)
    rw [Nat.pow_succ] at h
    have hn : 0 < n := by omega
    rw [lowD_pos hn, ih (n / 10) (by rw [Nat.le_div_iff_mul_le (by omega)]; exact h), padD, Nat.div_div_eq_div_mul, Nat.pow_succ, Nat.mul_comm 10]
    rfl
/-- of a short number: with noughts above -/
theorem padD_low (k : Nat) : ∀ n, n < 10 ^ k → padD k n = lowD n ++ List.replicate (k - (lowD n).length) 0 ∧ (lowD n).length ≤ k := by
  induction k with
  | zero =>
    intro n h
    obtain rfl : n = 0 := by simpa using h
    simp [padD, lowD_zero]
  | succ k ih =>
    intro n h
    have h2 : n / 10 < 10 ^ k := by rw [Nat.pow_succ] at h; omega
    obtain ⟨e, hl⟩ := ih (n / 10) h2
    by_cases h0 : 0 < n
    · rw [padD, e, lowD_pos h0]
      refine ⟨?_, by simpa using hl⟩
      simp
    · obtain rfl : n = 0 := by omega
      rw [padD, e]
      simp [lowD_zero, List.replicate_succ]
theorem padD_mod (k : Nat) : ∀ n, padD k (n % 10 ^ k) = padD k n := by
  induction k with
  | zero => intro n; rfl
  | succ k ih =>
    intro n
    rw [padD, padD]
    have e1 : n % 10 ^ (k + 1) % 10 = n % 10 := by
      rw [Nat.pow_succ, Nat.mul_comm]
      exact Nat.mod_mul_right_mod n 10 (10 ^ k)
    have e2 : n % 10 ^ (k + 1) / 10 = n / 10 % 10 ^ k := by
      rw [Nat.pow_succ, Nat.mul_comm]
      exact Nat.mod_mul_right_div_self n 10 (10 ^ k)
    rw [e1, e2, ih]
/-- a number nine digits at a time, low ones first -/
def pcs : Nat → List Nat
  | 0 => []
  | n + 1 => (n + 1) % 1000000000 :: pcs ((n + 1) / 1000000000)
decreasing_by omega
theorem pcs_zero : pcs 0 = [] := by rw [pcs]
theorem pcs_pos {n : Nat} (h : 0 < n) : pcs n = n % 1000000000 :: pcs (n / 1000000000) := by
  cases n with
  | zero => omega
  | succ n => rw [pcs]
theorem pcs_lt (n : Nat) : ∀ d ∈ pcs n, d < 1000000000 := by
  induction n using Nat.strongRecOn with
  | _ n ih =>
    intro d hd
    by_cases h : 0 < n
    · rw [pcs_pos h] at hd
      rcases List.mem_cons.1 hd with rfl | hd
      · omega
      · exact ih (n / 1000000000) (by omega) d hd
    · obtain rfl : n = 0 := by omega
      rw [pcs_zero] at hd; cases hd
theorem pcs_ne {n : Nat} (h : 0 < n) : pcs n ≠ [] := by rw [pcs_pos h]; simp
/-- the pieces' digits: the last without noughts above -/
def lowP : List Nat → List Nat
  | [] => []
  | [p] => lowD p
  | p :: q :: l => padD 9 p ++ lowP (q :: l)
theorem lowP_pcs (n : Nat) : lowP (pcs n) = lowD n := by
  induction n using Nat.strongRecOn with
  | _ n ih =>
    by_cases h : 0 < n
    · rw [pcs_pos h]
      by_cases h2 : 0 < n / 1000000000
      · have e := ih (n / 1000000000) (by omega)
        rw [pcs_pos h2] at e ⊢
        rw [lowP, e, lowD_split 9 n (by omega)]
        have := padD_mod 9 n
        rw [show (10 : Nat) ^ 9 = 1000000000 from rfl] at *
        rw [this]
      · have h3 : n / 1000000000 = 0 := by omega
        rw [h3, pcs_zero, lowP, Nat.mod_eq_of_lt (by omega)]
    · obtain rfl : n = 0 := by omega
      rw [pcs_zero, lowD_zero]; rfl
/-- the last piece of a number is not 0 -/
theorem pcs_last (n : Nat) : ∀ h : pcs n ≠ [], 0 < (pcs n).getLast h := by
  induction n using Nat.strongRecOn with
  | _ n ih =>
    intro h
    have hn : 0 < n := by
      rcases Nat.eq_zero_or_pos n with rfl | h'
      · exact absurd pcs_zero h
      · exact h'
    by_cases h2 : 0 < n / 1000000000
    · have h3 := ih (n / 1000000000) (by omega) (pcs_ne h2)
      have e : (pcs n).getLast h = (pcs (n / 1000000000)).getLast (pcs_ne h2) := by
        have : ∀ l (hl : l ≠ []), l = n % 1000000000 :: pcs (n / 1000000000) → l.getLast hl = (pcs (n / 1000000000)).getLast (pcs_ne h2) := by
          intro l hl el; subst el; exact List.getLast_cons (pcs_ne h2)
        exact this _ h (pcs_pos hn)
      rw [e]; exact h3
    · have e : (pcs n).getLast h = n % 1000000000 := by
        have : ∀ l (hl : l ≠ []), l = [n % 1000000000] → l.getLast hl = n % 1000000000 := by
          intro l hl el; subst el; rfl
        exact this _ h (by rw [pcs_pos hn, show n / 1000000000 = 0 by omega, pcs_zero])
      rw [e]
      have : n < 1000000000 := by omega
      rw [Nat.mod_eq_of_lt this]; exact hn
/-- digits as bytes, high one first -/
def asc (l : List Nat) : List UInt8 := l.reverse.map fun d => UInt8.ofNat (48 + d)
theorem asc_append (l m : List Nat) : asc (l ++ m) = asc m ++ asc l := by simp [asc]
theorem lowD_last (n : Nat) : ∀ h : lowD n ≠ [], 0 < (lowD n).getLast h := by
  induction n using Nat.strongRecOn with
  | _ n ih =>
    intro h
    have hn : 0 < n := by
      rcases Nat.eq_zero_or_pos n with rfl | h'
      · exact absurd lowD_zero h
      · exact h'
    by_cases h2 : 0 < n / 10
    · have h3 := ih (n / 10) (by omega) (lowD_ne h2)
      have e : (lowD n).getLast h = (lowD (n / 10)).getLast (lowD_ne h2) := by
        have : ∀ l (hl : l ≠ []), l = n % 10 :: lowD (n / 10) → l.getLast hl = (lowD (n / 10)).getLast (lowD_ne h2) := by
          intro l hl el; subst el; exact List.getLast_cons (lowD_ne h2)
        exact this _ h (lowD_pos hn)
      rw [e]; exact h3
    · have e : (lowD n).getLast h = n % 10 := by
        have : ∀ l (hl : l ≠ []), l = [n % 10] → l.getLast hl = n % 10 := by
          intro l hl el; subst el; rfl
        exact this _ h (by rw [lowD_pos hn, show n / 10 = 0 by omega, lowD_zero])
      rw [e]; omega
/-- a number's text -/
def natTxt (n : Nat) : List UInt8 := if n = 0 then [48] else asc (lowD n)
def intTxt (z : Int) : List UInt8 := (if z < 0 then [45] else []) ++ natTxt z.natAbs
/-- the highest piece, its noughts ahead struck -/
theorem asc_pad_top {p : Nat} (h0 : 0 < p) (h : p < 1000000000) : (asc (padD 9 p)).dropWhile (· == 48) = asc (lowD p) := by
  obtain ⟨e, _⟩ := padD_low 9 p h
  rw [e, asc_append]
  have hz : asc (List.replicate (9 - (lowD p).length) 0) = List.replicate (9 - (lowD p).length) 48 := by simp [asc]
  rw [hz]
  have hd : ∀ (n : Nat) (l : List UInt8), (List.replicate n 48 ++ l).dropWhile (· == 48) = l.dropWhile (· == 48) := by
    intro n l
    induction n with
    | zero => rfl
    | succ n ih => rw [List.replicate_succ, List.cons_append, List.dropWhile_cons]; simp [ih]
  rw [hd]
  have hne := lowD_ne h0
  have hl := lowD_last p hne
  have hlt := lowD_lt p _ (List.getLast_mem hne)
  have e2 : asc (lowD p) = UInt8.ofNat (48 + (lowD p).getLast hne) :: asc (lowD p).dropLast := by
    conv => lhs; rw [← List.dropLast_concat_getLast hne]
    rw [asc_append]; rfl
  have h3 : (UInt8.ofNat (48 + (lowD p).getLast hne) == 48) = false := by
    rw [beq_eq_false_iff_ne]
    intro h
    have := congrArg UInt8.toNat h
    rw [UInt8.toNat_ofNat'] at this
    have h48 : (48 : UInt8).toNat = 48 := rfl
    rw [h48] at this
    omega
  rw [e2, List.dropWhile_cons, if_neg]
  intro h
  have h4 : (UInt8.ofNat (48 + (lowD p).getLast hne) == 48) = true := h
  rw [h3] at h4; cases h4
/-- the pieces from the i-th on -/
theorem lowP_cons {p : Nat} {l : List Nat} (h : l ≠ []) : lowP (p :: l) = padD 9 p ++ lowP l := by
  cases l with
  | nil => exact absurd rfl h
  | cons q l => rfl
theorem asc_len (l : List Nat) : (asc l).length = l.length := by simp [asc]
end Go.Proofs.YtkejdmdldhlkgaaDoor.Num

/- Rows of bytes of the call's own; the reference's Text. -/
namespace Go.Proofs.YtkejdmdldhlkgaaDoor
open Num
open Go.ChangeShapes Go.WideShapes Go.ChangeAt Go.RowKit
set_option linter.unusedVariables false
set_option linter.unusedSimpArgs false
theorem info8 : (Tryd.prog.info? 5).map (fun i => (i.zero, i.size, i.bytes)) = some (some (.int .u8 0), 1, 1) := by kernel_rfl
theorem el8 : Elt Tryd.prog 76 5 1 1 := Elt.mk' Tryd.underlying76 info8 rfl (by decide) (by decide)
/-- bytes of the call's own -/
def Own8 (w0 wr : World) (v : Value) (L : List UInt8) : Prop := OwnE 5 1 w0 wr v L.length (Lib.byteCells L)
theorem Own8.below {w0 wr w' : World} {v : Value} {L : List UInt8} (h : Own8 w0 wr v L) (hb : Below wr.heap.size wr w') : Own8 w0 w' v L := OwnE.below h hb
theorem Own8.nil {w0 wr : World} (hb : Below w0.heap.size w0 wr) : Own8 w0 wr (.slice none 0 0) [] := OwnE.nil _ _ hb
theorem bcells_app (l m : List UInt8) : Lib.byteCells (l ++ m) = Lib.byteCells l ++ Lib.byteCells m := by simp [Lib.byteCells]
theorem bcells_get (l : List UInt8) (k : Nat) (h : k < l.length) : (Lib.byteCells l)[k]? = some (.int .u8 ((l.getD k 0).toNat : Nat)) := by simp [Lib.byteCells, h]
theorem Own8.ex {w0 wr : World} {v : Value} {L : List UInt8} (h : Own8 w0 wr v L) : (v = .slice none 0 0 ∧ L = []) ∨ ∃ g cap, v = .slice (some ⟨g, 0, none⟩) L.length cap ∧ w0.heap.size ≤ g ∧ L.length ≤ cap := by
  obtain ⟨⟨h0, h⟩, _⟩ := h
  rcases h with ⟨rfl, h1⟩ | ⟨g, cap, cur, rfl, hg, _, hc, _⟩
  · exact .inl ⟨rfl, List.length_eq_zero_iff.1 h1⟩
  · exact .inr ⟨g, cap, rfl, hg, hc⟩
theorem Own8.cell {w0 wr : World} {g cap : Nat} {L : List UInt8} (h : Own8 w0 wr (.slice (some ⟨g, 0, none⟩) L.length cap) L) (k : Nat) (hk : k < L.length) : wr.cell? ⟨g, k, none⟩ = some (.int .u8 ((L.getD k 0).toNat : Nat)) := by
  rw [World.ownsRow.cellAt h.1 k (by omega), bcells_get L k hk]
theorem Own8.frozen {w0 wr : World} {g cap : Nat} {L : List UInt8} (h : Own8 w0 wr (.slice (some ⟨g, 0, none⟩) L.length cap) L) (k : Nat) : wr.frozen? ⟨g, k, none⟩ = false := World.ownsRow.frozenAt h.1 k
theorem Own8.set {w0 wr : World} {g cap : Nat} {L : List UInt8} (h : Own8 w0 wr (.slice (some ⟨g, 0, none⟩) L.length cap) L) (k : Nat) (x : UInt8) (hg : w0.heap.size ≤ g) : Own8 w0 (wr.setCell ⟨g, k, none⟩ (.int .u8 (x.toNat : Nat))) (.slice (some ⟨g, 0, none⟩) L.length cap) (L.set k x) := by
  obtain ⟨⟨hl, h1⟩, hB⟩ := h
  rcases h1 with ⟨h2, _⟩ | ⟨g', cap', cur, h2, hg', hh, hc, hm, hs, ht⟩
  · cases h2
  · cases h2
    refine ⟨⟨by simp [Lib.byteCells], .inr ⟨g, cap, cur.setIfInBounds k (.int .u8 (x.toNat : Nat)), by simp, hg', ?_, by simpa using hc, hm, by simpa using hs, ?_⟩⟩, bset hB (by exact hg) _⟩
    · unfold World.setCell
      simp only [Array.getElem?_modify, if_true]
      rw [hh]; rfl
    · rw [Array.toList_setIfInBounds, List.length_set, List.take_set, ht]
      simp [Lib.byteCells, List.map_set]
theorem Own8.str {w0 wr : World} {a : Option Addr} {c : Nat} {L : List UInt8} (h : Own8 w0 wr (.slice a L.length c) L) : (convert 76 9 (.slice a L.length c)).run Tryd.prog wr = .ok (.string ⟨L.toArray⟩) wr := by
  rcases h.ex with ⟨h1, h2⟩ | ⟨g, cap, h1, _⟩
  · subst h2
    cases h1
    exact run_convert_bytes_nil wr 76 5 Tryd.underlying76 Tryd.underlying5 0 0 9 Tryd.underlying9
  · cases h1
    refine run_convert_bytes_back wr 76 9 5 ⟨g, 0, none⟩ c L Tryd.underlying76 Tryd.underlying5 Tryd.underlying9 fun j hj => ?_
    have := h.cell j hj
    unfold Addr.add
    split
    · subst_vars; simpa [hj] using this
    · simpa [hj] using this
namespace Num
def dig (d : Nat) : UInt8 := UInt8.ofNat (48 + d)
theorem dig_nat {d : Nat} (h : d < 10) : (dig d).toNat = 48 + d := by
  unfold dig; rw [UInt8.toNat_ofNat']; omega
theorem asc_eq (l : List Nat) : asc l = (l.map dig).reverse := by unfold asc; rw [← List.map_reverse]; rfl
/-- turned about so far -/
def turned (T : List UInt8) (i : Nat) : List UInt8 := (List.range T.length).map fun j => if j < i ∨ T.length - 1 - j < i then T.getD (T.length - 1 - j) 0 else T.getD j 0
end Num


end Go.Proofs.YtkejdmdldhlkgaaDoor

/- scheme's laws: points. -/
namespace Go.Proofs.YtkejdmdldhlkgaaDoor
open Pt
open Num
open Go.ChangeShapes Go.WideShapes Go.ChangeAt Go.RowKit
set_option linter.unusedVariables false
set_option linter.unusedSimpArgs false
attribute [local go_sem ↓] Go.wp_at_zero Go.wp_at_succ
/-- points of pairs -/
def evF (L : List Int) : Nat → Int × Int := fun i => (L.getD (2 * i) 0, L.getD (2 * i + 1) 0)
theorem meas2 {N c : Nat} (h : c < N) {a b : Value} (ha : a = .int .i64 ((c + 2 : Nat) : Int)) (hb : b = .int .i64 (c : Nat)) : N + 1 - (intOf a).toNat < N + 1 - (intOf b).toNat := by
  subst ha hb
  simp [intOf]
  omega
theorem upL_succ (f : Nat → Int × Int) (k : Nat) : upL f (k + 1) = upL f k ++ [f k] := by simp [upL, List.range_succ]
theorem OwnE.pts {w0 wr : World} {v : Value} {k : Nat} {f : Nat → Int × Int} {x y : Int} (h : OwnE 31 2 w0 wr v (k + 1) (pcells (upL f k) ++ [.int .i64 x, .int .i64 y])) (he : f k = (x, y)) : OwnE 31 2 w0 wr v (k + 1) (pcells (upL f (k + 1))) := by
  rw [upL_succ, pcells_app, he]; exact h
set_option maxRecDepth 100000 in
set_option maxHeartbeats 4000000 in
theorem points7_c (b off c N m : Nat) (L : List Int) (w : World) (hN : N = 2 * m) (hm : m ≤ 1000) (hc : ∀ k, k < N → w.cell? ⟨b, off + k, none⟩ = some (.int .i64 (L.getD k 0))) :
    Calls Tryd.prog 18 #[.slice (some ⟨b, off, none⟩) N c] w fun e w' => (∃ a' c', e = .returned (.slice a' m c') ∧ PtsV w' a' m c' (evF L)) ∧ Below w.heap.size w w' := by
  have HC := Lib.hid hc
  have HN := Lib.hid hN
  clear hc hN
  have hB := Below.refl w.heap.size w
  go_enter Tryd.func18, Tryd.ntmps18
  go_wp2
  go_loopw [3, 4] (fun v x wr => ∃ k i : Nat, Hid (k ≤ m ∧ i = 2 * k) ∧ x = .int .i64 i ∧ Hid (OwnE 31 2 w wr v k (pcells (upL (evF L) k)))) (fun _ x _ => N + 1 - (intOf x).toNat)
  case atStart => exact ⟨0, 0, Lib.hid ⟨Nat.zero_le _, rfl⟩, rfl, Lib.hid (OwnE.nil _ _ (by repeat (first | exact Below.refl _ _ | exact hB | refine Below.drew ?_ | refine below_drewN ?_ _ | refine bset ?_ (by simp <;> omega) _ | refine bal ?_ _)))⟩
  case round =>
    obtain ⟨k, i, hki, rfl, hO⟩ := hrel
    have hBr := hO.out.2
    obtain ⟨va, vc, rfl⟩ := hO.out.ex
    have hw : wrap64 ((i : Int) + 1) = (i : Int) + 1 := by have := hki.out; unfold wrap64; omega
    by_cases hlt : k < m
    · have hiN : i + 1 < N := by have := hki.out; have := HN.out; omega
      have hI : (i : Int) + 1 < (N : Int) := by omega
      have d0 := bkeep hBr (HC.out i (by omega))
      have d1 := bkeep hBr (HC.out (i + 1) hiN)
      have zd := cell_lt d0
      have HE := Lib.hid (show evF L k = (L.getD i 0, L.getD (i + 1) 0) by unfold evF; rw [hki.out.2])
      obtain ⟨x, hx⟩ : ∃ x, L.getD i 0 = x := ⟨_, rfl⟩
      obtain ⟨y, hy⟩ : ∃ y, L.getD (i + 1) 0 = y := ⟨_, rfl⟩
      rw [hx] at d0 HE
      rw [hy] at d1 HE
      have hKI := Lib.hid (show k + 1 ≤ m ∧ i + 2 = 2 * (k + 1) ∧ i < N by have := hki.out; omega)
      have hk9 : k + 1 ≤ 1099511627776 := by omega
      have HS := Lib.hid (show ∀ V, Below w.heap.size w V → V.cell? ⟨b, off + i, none⟩ = some (.int .i64 x) ∧ V.cell? ⟨b, off + (i + 1), none⟩ = some (.int .i64 y) from fun V q => ⟨by rw [← hx]; exact bkeep q (HC.out i (by omega)), by rw [← hy]; exact bkeep q (HC.out (i + 1) hiN)⟩)
      have hBc := hBr
      have hI0 : (i : Int) < (N : Int) := by omega
      have hI6 : i < N := by omega
      have hI7 : (0 : Int) ≤ (i : Int) + 1 := by omega
      have hw2 : IntKind.i64.wrap ((i : Int) + 1) = (i : Int) + 1 := (IntWalk.i64_left _).trans hw
      have hw3 : wrap64 ((i : Int) + 2) = (i : Int) + 2 := by have := hki.out; unfold wrap64; omega
      clear hx hy hlt
      go_wp2
      go_region_held3 (fun V => V.cell? ⟨b, off + i, none⟩ = some (.int .i64 x) ∧ V.cell? ⟨b, off + (i + 1), none⟩ = some (.int .i64 y))
        (first | (refine HS.out _ ?_; (repeat (first | exact Below.refl _ _ | exact hBc | refine Below.drew ?_ | refine below_drewN ?_ _ | refine bset ?_ (by simp <;> omega) _ | refine bal ?_ _)); done) | fail)
        (first
        | (refine step_lit elPt (by rfl) (by rfl) (hO.out.below (below_drewN (Below.refl _ _) _)) (by rfl) (by rfl) (m := 1) (C := [.int .i64 x, .int .i64 y]) rfl (pcells_one [(x, y)]) hk9 ?_; intro v' w8 hO8; have HO8 := Lib.hid (hO8.pts HE.out); (clear hBc; have hBc := hO8.2); clear hO8)
        | (refine step_lit elPt (by rfl) (by rfl) hO.out (by rfl) (by rfl) (m := 1) (C := [.int .i64 x, .int .i64 y]) rfl (pcells_one [(x, y)]) hk9 ?_; intro v' w8 hO8; have HO8 := Lib.hid (hO8.pts HE.out); (clear hBc; have hBc := hO8.2); clear hO8)
        | fail)
      all_goals
        go_wp2
        exact ⟨⟨k + 1, i + 2, Lib.hid ⟨hKI.out.1, hKI.out.2.1⟩, by go_num, HO8⟩, meas2 hKI.out.2.2 (by go_num) rfl⟩
    · obtain rfl : k = m := by have := hki.out; omega
      have hI : ¬ (i : Int) + 1 < (N : Int) := by have := hki.out; have := HN.out; omega
      clear hlt
      go_wp2
      go_ret
      obtain ⟨a', c', e, hc, hu, hfr, hfree⟩ := own_pts (n := k) (f := evF L) hO.out.1 rfl
      obtain ⟨rfl, -, rfl⟩ := Value.slice.inj e
      exact ⟨⟨_, _, rfl, hu⟩, hBr⟩
end Go.Proofs.YtkejdmdldhlkgaaDoor

