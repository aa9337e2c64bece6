/- Texts of this seat, laid together: Row, RowH, VmA, PrgC, NumS, LimbE, LimbF, LimbG, LimbH, Sh. Each opens with its own remark, which says what it proves, and under which conditions. -/
import Derived.Test.YthaohpfbengabaaGreatDoorQ02
import Derived.OneCell
import Derived.Laws.AppendOwn
import Derived.Test.YthaohpfbengabaaGreatDoorQ01
import Derived.Laws.BitsAllLaws
import Derived.Shelf.Small.Bits
import Derived.Shelf.Spec.TrailingZeros
import Derived.Shelf.Strings.Builder1
import Derived.Shelf.Strings.Trim
set_option linter.unusedVariables false
set_option linter.unusedSimpArgs false
/- Rows of numbers as values; rows of rows. 'Kp S w w'': the blocks of the types S are as they were. -/
namespace Go.Proofs.YthaohpfbengabaaGreatDoor
open Num
open Go.ChangeShapes Go.WideShapes Go.ChangeAt Go.RowKit
set_option linter.unusedVariables false
set_option linter.unusedSimpArgs false
/-- the blocks of the types S are as they were -/
def Kp (S : TypeId → Prop) (w w' : World) : Prop := ∀ b t, typOf w b = some t → S t → w'.heap[b]? = w.heap[b]?
section
variable {S : TypeId → Prop} {a b c w w' : World}
theorem Kp.refl (S : TypeId → Prop) (w : World) : Kp S w w := fun _ _ _ _ => rfl
theorem Kp.trans (h : Kp S a b) (k : Kp S b c) : Kp S a c := fun q t ht hs => (k q t (by rw [typ_of_block (w := a) (h q t ht hs)]; exact ht) hs).trans (h q t ht hs)
theorem Kp.of_below (S : TypeId → Prop) (h : Below a.heap.size a b) : Kp S a b := fun q t ht _ => h.block q (typ_lt ht)
theorem Kp.below (h : Kp S a b) (k : Below b.heap.size b c) : Kp S a c := h.trans (.of_below S k)
theorem Kp.alloc (h : Kp S a b) (o : Obj) : Kp S a (b.alloc o) := h.below (bal (Below.refl _ _) o)
theorem Kp.drew (h : Kp S a b) : Kp S a b.drew := h
theorem Kp.drewN (h : Kp S a b) (n : Nat) : Kp S a (b.drewN n) := h
theorem Kp.grown {row : Option Nat} (h : Kp S a b) (hg : b.grownBy c row) (hr : ∀ g, row = some g → ∀ t, typOf b g = some t → ¬ S t) : Kp S a c :=
  h.trans fun q t ht hs => hg.block q (typ_lt ht) fun e => hr q e.symm t ht hs
theorem Kp.set (h : Kp S a b) {p : Addr} (hp : ∀ t, typOf b p.block = some t → ¬ S t) (u : Value) : Kp S a (b.setCell p u) :=
  h.trans fun q t ht hs => Below.heap_setCell _ _ _ _ fun e => hp t (by rw [← e]; exact ht) hs
theorem Kp.lim (h : Kp S a b) (hs : S 133) : Lim a b := fun q ht => by
  have e := h q _ ht hs
  exact ⟨by rw [typ_of_block (w := a) e]; exact ht, fun o n hc => by rw [World.cell?_of_block (w := a) e]; exact hc⟩
theorem Kp.typ (h : Kp S a b) {q : Nat} {t : TypeId} (ht : typOf a q = some t) (hs : S t) : typOf b q = some t := by rw [typ_of_block (w := a) (h q t ht hs)]; exact ht
theorem Kp.out {X : Nat → Prop} (h : Out X a b) (hx : ∀ q t, X q → typOf a q = some t → ¬ S t) : Kp S a b := fun q t ht hs => h.block q (typ_lt ht) fun hq => hx q t hq ht hs
end
/-- a slice value that holds the numbers l, in a block from base on -/
def IsRow (R : World → Value → Int → Prop) (E : TypeId) (base : Nat) (w : World) (v : Value) (l : List Int) : Prop :=
  ∃ a c, v = .slice a l.length c ∧ l.length ≤ c ∧ c ≤ maxLen ∧ (l = [] ∨ ∃ b off, a = some ⟨b, off, none⟩ ∧ base ≤ b ∧ typOf w b = some E ∧ IntsF R w b off l.length (fun k => l.getD k 0))
/-- the program's rows; the reference's -/
def PRow := IsRow IsInt 36
def RRow := IsRow IsRef 43
section
variable {R : World → Value → Int → Prop} {E : TypeId} {base : Nat} {w w' : World} {v : Value} {l : List Int}
theorem IsRow.kp {S : TypeId → Prop} (hR : Lims R) (h : IsRow R E base w v l) (k : Kp S w w') (hs : S 133) (hE : S E) : IsRow R E base w' v l := by
  obtain ⟨a, c, h1, h2, h3, h4⟩ := h
  refine ⟨a, c, h1, h2, h3, h4.imp id ?_⟩
  rintro ⟨b, off, e, hb, ht, hi⟩
  exact ⟨b, off, e, hb, k.typ ht hE, hi.stay hR (k b _ ht hE) (k.lim hs)⟩
theorem IsRow.keep (hR : Lims R) (h : IsRow R E base w v l) (k : Below w.heap.size w w') : IsRow R E base w' v l := by
  obtain ⟨a, c, h1, h2, h3, h4⟩ := h
  refine ⟨a, c, h1, h2, h3, h4.imp id ?_⟩
  rintro ⟨b, off, e, hb, ht, hi⟩
  exact ⟨b, off, e, hb, typ_keep ht k, hi.keep hR k⟩
theorem IsRow.rebase {base' : Nat} (h : IsRow R E base w v l) (hb : base' ≤ base) : IsRow R E base' w v l := by
  obtain ⟨a, c, h1, h2, h3, h4⟩ := h
  refine ⟨a, c, h1, h2, h3, h4.imp id ?_⟩
  rintro ⟨b, off, e, hb', r⟩
  exact ⟨b, off, e, Nat.le_trans hb hb', r⟩
theorem IsRow.nil (R : World → Value → Int → Prop) (E : TypeId) (base : Nat) (w : World) : IsRow R E base w (.slice none 0 0) [] := ⟨none, 0, rfl, Nat.le_refl _, by unfold maxLen; omega, .inl rfl⟩
theorem OwnF.row {w0 wr : World} (h : OwnF R E w0 wr v l.length (fun k => l.getD k 0)) : IsRow R E w0.heap.size wr v l := by
  obtain ⟨xs, ⟨⟨hl, h1⟩, hB⟩, h2⟩ := h
  rcases h1 with ⟨rfl, h0⟩ | ⟨g, cap, cur, rfl, hg, hh, hc, hm, hs, ht⟩
  · have : l = [] := List.length_eq_zero_iff.1 h0
    subst this
    exact IsRow.nil R E _ _
  · refine ⟨_, cap, rfl, hc, hm, .inr ⟨g, 0, rfl, hg, by unfold typOf; rw [hh], fun k hk => ?_⟩⟩
    obtain ⟨nb, a, len, c, k1, k2, k3⟩ := h2 k hk
    have cel : ∀ j u, xs[j]? = some u → wr.cell? ⟨g, j, none⟩ = some u := fun j u hj => by
      have hj2 : j < l.length * 2 := by have := (List.getElem?_eq_some_iff.1 hj).1; omega
      rw [← ht, List.getElem?_take_of_lt (by omega)] at hj
      simpa [World.cell?, hh] using hj
    exact ⟨nb, a, len, c, by rw [Nat.zero_add]; exact cel _ _ k1, by rw [Nat.zero_add]; exact cel _ _ k2, k3⟩
end
/-- a row of slice values, each of which holds a row of numbers -/
def IsGrid (R : World → Value → Int → Prop) (E T : TypeId) (base : Nat) (w : World) (v : Value) (g : List (List Int)) : Prop :=
  ∃ a c, v = .slice a g.length c ∧ g.length ≤ c ∧ c ≤ maxLen ∧ (g = [] ∨ ∃ b off, a = some ⟨b, off, none⟩ ∧ base ≤ b ∧ typOf w b = some T ∧ ∀ k, k < g.length → ∃ u, w.cell? ⟨b, off + k, none⟩ = some u ∧ IsRow R E base w u (g.getD k []))
section
variable {R : World → Value → Int → Prop} {E T : TypeId} {base : Nat} {w w' : World} {v : Value} {g : List (List Int)}
theorem IsGrid.keep (hR : Lims R) (h : IsGrid R E T base w v g) (k : Below w.heap.size w w') : IsGrid R E T base w' v g := by
  obtain ⟨a, c, h1, h2, h3, h4⟩ := h
  refine ⟨a, c, h1, h2, h3, h4.imp id ?_⟩
  rintro ⟨b, off, e, hb, ht, hi⟩
  refine ⟨b, off, e, hb, typ_keep ht k, fun j hj => ?_⟩
  obtain ⟨u, hu, hr⟩ := hi j hj
  exact ⟨u, bkeep k hu, hr.keep hR k⟩
theorem IsGrid.kp {S : TypeId → Prop} (hR : Lims R) (h : IsGrid R E T base w v g) (k : Kp S w w') (hs : S 133) (hE : S E) (hT : S T) : IsGrid R E T base w' v g := by
  obtain ⟨a, c, h1, h2, h3, h4⟩ := h
  refine ⟨a, c, h1, h2, h3, h4.imp id ?_⟩
  rintro ⟨b, off, e, hb, ht, hi⟩
  refine ⟨b, off, e, hb, k.typ ht hT, fun j hj => ?_⟩
  obtain ⟨u, hu, hr⟩ := hi j hj
  exact ⟨u, by rw [World.cell?_of_block (w := w) (k b _ ht hT)]; exact hu, hr.kp hR k hs hE⟩
theorem IsGrid.rebase {base' : Nat} (h : IsGrid R E T base w v g) (hb : base' ≤ base) : IsGrid R E T base' w v g := by
  obtain ⟨a, c, h1, h2, h3, h4⟩ := h
  refine ⟨a, c, h1, h2, h3, h4.imp id ?_⟩
  rintro ⟨b, off, e, hb', ht, hi⟩
  refine ⟨b, off, e, Nat.le_trans hb hb', ht, fun j hj => ?_⟩
  obtain ⟨u, hu, hr⟩ := hi j hj
  exact ⟨u, hu, hr.rebase hb⟩
theorem IsGrid.nil (R : World → Value → Int → Prop) (E T : TypeId) (base : Nat) (w : World) : IsGrid R E T base w (.slice none 0 0) [] := ⟨none, 0, rfl, Nat.le_refl _, by unfold maxLen; omega, .inl rfl⟩
end
/-- such a row of the call's own, built by append -/
def OwnG (R : World → Value → Int → Prop) (E T : TypeId) (base : Nat) (w0 wr : World) (v : Value) (g : List (List Int)) : Prop :=
  ∃ xs, OwnE T 1 w0 wr v g.length xs ∧ ∀ k, k < g.length → ∃ u, xs[k]? = some u ∧ IsRow R E base wr u (g.getD k [])
section
variable {R : World → Value → Int → Prop} {E T : TypeId} {base : Nat} {w0 wr w' : World} {v : Value} {g : List (List Int)}
theorem OwnG.nil (R : World → Value → Int → Prop) (E T : TypeId) (base : Nat) {w0 wr : World} (hb : Below w0.heap.size w0 wr) : OwnG R E T base w0 wr (.slice none 0 0) [] := ⟨[], OwnE.nil _ _ hb, fun k hk => absurd hk (by simp)⟩
theorem OwnG.below (hR : Lims R) (h : OwnG R E T base w0 wr v g) (hb : Below wr.heap.size wr w') : OwnG R E T base w0 w' v g := by
  obtain ⟨xs, h1, h2⟩ := h
  refine ⟨xs, h1.below hb, fun k hk => ?_⟩
  obtain ⟨u, hu, hr⟩ := h2 k hk
  exact ⟨u, hu, hr.keep hR hb⟩
theorem OwnG.bel (h : OwnG R E T base w0 wr v g) : Below w0.heap.size w0 wr := by obtain ⟨xs, h1, _⟩ := h; exact h1.2
theorem OwnG.grid (h : OwnG R E T base w0 wr v g) (hb : base ≤ w0.heap.size) : IsGrid R E T base wr v g := by
  obtain ⟨xs, ⟨⟨hl, h1⟩, _⟩, h2⟩ := h
  rcases h1 with ⟨rfl, h0⟩ | ⟨b, cap, cur, rfl, hg, hh, hc, hm, hs, ht⟩
  · have : g = [] := List.length_eq_zero_iff.1 h0
    subst this
    exact IsGrid.nil R E T _ _
  · refine ⟨_, cap, rfl, hc, hm, .inr ⟨b, 0, rfl, by omega, by unfold typOf; rw [hh], fun k hk => ?_⟩⟩
    obtain ⟨u, hu, hr⟩ := h2 k hk
    refine ⟨u, ?_, hr⟩
    rw [← ht, List.getElem?_take_of_lt (by omega)] at hu
    simpa [World.cell?, hh] using hu
theorem OwnG.ex (h : OwnG R E T base w0 wr v g) : ∃ a c, v = .slice a g.length c := by
  obtain ⟨xs, ⟨⟨_, h1⟩, _⟩, _⟩ := h
  rcases h1 with ⟨rfl, h0⟩ | ⟨b, cap, cur, rfl, _⟩
  · exact ⟨none, 0, by rw [h0]⟩
  · exact ⟨_, _, rfl⟩
end
section
variable {P : Program} {TT T E : TypeId} {base bytes : Nat} {R : World → Value → Int → Prop} {ops : Array Oper} {o : Oper} {a : Act} {Q : Exit → Act → World → Prop} {w0 wr : World} {v u : Value} {g : List (List Int)} {l : List Int} {t : TypeId} {s x : Operand} {cc : Nat}
end
end Go.Proofs.YthaohpfbengabaaGreatDoor

/- Lists of one-cell values in memory, whatever each of them stands for: 'Pr w v x'. Rows of numbers of the call's own. -/
namespace Go.Proofs.YthaohpfbengabaaGreatDoor
open Num
open Go.ChangeShapes Go.WideShapes Go.ChangeAt Go.RowKit
set_option linter.unusedVariables false
set_option linter.unusedSimpArgs false
section
variable {S : TypeId → Prop} {w w' : World}
theorem Kp.cell (k : Kp S w w') {b o : Nat} {s : Option Nat} {t : TypeId} {v : Value} (ht : typOf w b = some t) (hs : S t) (h : w.cell? ⟨b, o, s⟩ = some v) : w'.cell? ⟨b, o, s⟩ = some v := by
  rw [World.cell?_of_block (w := w) (k b t ht hs)]; exact h
theorem Kp.frz (k : Kp S w w') {b o : Nat} {s : Option Nat} {t : TypeId} (ht : typOf w b = some t) (hs : S t) (h : w.frozen? ⟨b, o, s⟩ = false) : w'.frozen? ⟨b, o, s⟩ = false := by
  rw [World.frozen?_of_block (w := w) (k b t ht hs)]; exact h
theorem Kp.weak {T : TypeId → Prop} (k : Kp S w w') (h : ∀ t, T t → S t) : Kp T w w' := fun b t ht hs => k b t ht (h t hs)
end
/-- a row of numbers that lies in a block of the call's own (from base on), that may be written up to its capacity -/
def RowO (R : World → Value → Int → Prop) (E : TypeId) (base : Nat) (w : World) (v : Value) (l : List Int) : Prop :=
  ∃ xs, w.ownsRow base E 2 v l.length xs ∧ ∀ k, k < l.length → ∃ nb a len c, xs[k * 2]? = some (.bool nb) ∧ xs[k * 2 + 1]? = some (.slice a len c) ∧ R w (.agg #[.bool nb, .slice a len c]) (l.getD k 0)
section
variable {R : World → Value → Int → Prop} {E : TypeId} {base : Nat} {w w' w0 : World} {v : Value} {l : List Int}
theorem own_typ' {T : TypeId} {size n : Nat} {xs : List Value} (h : w.ownsRow base T size v n xs) {g : Nat} (hg : v.ownBlock = some g) : typOf w g = some T := by
  rcases h.2 with ⟨rfl, _⟩ | ⟨g', c, cur, rfl, _, hh, _⟩
  · simp [Value.ownBlock] at hg
  · simp [Value.ownBlock] at hg
    subst hg
    unfold typOf; rw [hh]
theorem owns_kp {S : TypeId → Prop} {T : TypeId} {size n : Nat} {xs : List Value} (h : w.ownsRow base T size v n xs) (k : Kp S w w') (hT : S T) : w'.ownsRow base T size v n xs := by
  refine ⟨h.1, ?_⟩
  rcases h.2 with h2 | ⟨g, cap, cur, rfl, hg, hh, r⟩
  · exact .inl h2
  · exact .inr ⟨g, cap, cur, rfl, hg, by rw [k g T (by unfold typOf; rw [hh]) hT]; exact hh, r⟩
theorem RowO.row (h : RowO R E base w v l) : IsRow R E base w v l := by
  obtain ⟨xs, ⟨hl, h1⟩, h2⟩ := h
  rcases h1 with ⟨rfl, h0⟩ | ⟨g, cap, cur, rfl, hg, hh, hc, hm, hs, ht⟩
  · have : l = [] := List.length_eq_zero_iff.1 h0
    subst this
    exact IsRow.nil R E _ _
  · refine ⟨_, cap, rfl, hc, hm, .inr ⟨g, 0, rfl, hg, by unfold typOf; rw [hh], fun k hk => ?_⟩⟩
    obtain ⟨nb, a, len, c, k1, k2, k3⟩ := h2 k hk
    have cel : ∀ j u, xs[j]? = some u → w.cell? ⟨g, j, none⟩ = some u := fun j u hj => by
      have hj2 : j < l.length * 2 := by have := (List.getElem?_eq_some_iff.1 hj).1; omega
      rw [← ht, List.getElem?_take_of_lt (by omega)] at hj
      simpa [World.cell?, hh] using hj
    exact ⟨nb, a, len, c, by rw [Nat.zero_add]; exact cel _ _ k1, by rw [Nat.zero_add]; exact cel _ _ k2, k3⟩
theorem RowO.nil (R : World → Value → Int → Prop) (E : TypeId) (base : Nat) (w : World) : RowO R E base w (.slice none 0 0) [] := ⟨[], World.ownsRow_nil _ _ _ _, fun k hk => absurd hk (by simp)⟩
theorem RowO.kp {S : TypeId → Prop} (hR : Lims R) (h : RowO R E base w v l) (k : Kp S w w') (hs : S 133) (hE : S E) : RowO R E base w' v l := by
  obtain ⟨xs, h1, h2⟩ := h
  refine ⟨xs, owns_kp h1 k hE, fun j hj => ?_⟩
  obtain ⟨nb, a, len, c, k1, k2, k3⟩ := h2 j hj
  exact ⟨nb, a, len, c, k1, k2, hR _ _ _ _ k3 (k.lim hs)⟩
theorem RowO.keep (hR : Lims R) (h : RowO R E base w v l) (k : Below w.heap.size w w') : RowO R E base w' v l := h.kp (S := fun _ => True) hR (Kp.of_below _ k) trivial trivial
theorem RowO.rebase {base' : Nat} (h : RowO R E base w v l) (hb : base' ≤ base) : RowO R E base' w v l := by
  obtain ⟨xs, ⟨hl, h1⟩, h2⟩ := h
  refine ⟨xs, ⟨hl, ?_⟩, h2⟩
  rcases h1 with h1 | ⟨g, cap, cur, hv, hg, r⟩
  · exact .inl h1
  · exact .inr ⟨g, cap, cur, hv, Nat.le_trans hb hg, r⟩
theorem OwnF.rowO (h : OwnF R E w0 w v l.length (fun k => l.getD k 0)) : RowO R E w0.heap.size w v l := by
  obtain ⟨xs, h1, h2⟩ := h
  exact ⟨xs, h1.1, h2⟩
theorem RowO.ex (h : RowO R E base w v l) : ∃ a c, v = .slice a l.length c := by
  obtain ⟨a, c, h1, _⟩ := h.row; exact ⟨a, c, h1⟩
end
theorem IsRow.view {R : World → Value → Int → Prop} {E : TypeId} {base : Nat} {w : World} {v : Value} {l : List Int} (h : IsRow R E base w v l) : ∃ a c, v = .slice a l.length c ∧ l.length ≤ c ∧ ∀ j, j < l.length → ∃ b off nb ad len cp, a = some ⟨b, off, none⟩ ∧ w.cell? ⟨b, off + j * 2, none⟩ = some (.bool nb) ∧ w.cell? ⟨b, off + j * 2 + 1, none⟩ = some (.slice ad len cp) ∧ R w (.agg #[.bool nb, .slice ad len cp]) (l.getD j 0) := by
  obtain ⟨a, c, h1, h2, h3, h4⟩ := h
  refine ⟨a, c, h1, h2, fun j hj => ?_⟩
  rcases h4 with h4 | ⟨b, off, ha, hb, ht, hi⟩
  · rw [h4] at hj; simp at hj
  · obtain ⟨nb, ad, len, cp, k1, k2, k3⟩ := hi j hj
    exact ⟨b, off, nb, ad, len, cp, ha, k1, k2, k3⟩
/-- what may stand in the cells of a list, and what keeps it -/
structure Prs {α : Type} (S : TypeId → Prop) (Pr : World → Value → α → Prop) : Prop where
  one : ∀ {w v x}, Pr w v x → v.oneCell' = true
  kp : ∀ {w w' v x}, Pr w v x → Kp S w w' → Pr w' v x
theorem prs_rowO {R : World → Value → Int → Prop} (hR : Lims R) (E : TypeId) (base : Nat) : Prs (fun t => t = 133 ∨ t = E) (RowO R E base) :=
  ⟨fun h => by obtain ⟨a, c, rfl⟩ := h.ex; rfl, fun h k => h.kp hR k (.inl rfl) (.inr rfl)⟩
theorem prs_row {R : World → Value → Int → Prop} (hR : Lims R) (E : TypeId) (base : Nat) : Prs (fun t => t = 133 ∨ t = E) (IsRow R E base) :=
  ⟨fun h => by obtain ⟨a, c, rfl, _⟩ := h; rfl, fun h k => h.kp hR k (.inl rfl) (.inr rfl)⟩
/-- a list in memory -/
def IsL {α : Type} (T : TypeId) (Pr : World → Value → α → Prop) (base : Nat) (w : World) (v : Value) (g : List α) : Prop :=
  ∃ a c, v = .slice a g.length c ∧ g.length ≤ c ∧ c ≤ maxLen ∧ (g = [] ∨ ∃ b off, a = some ⟨b, off, none⟩ ∧ base ≤ b ∧ typOf w b = some T ∧ ∀ k (hk : k < g.length), ∃ u, w.cell? ⟨b, off + k, none⟩ = some u ∧ Pr w u g[k])
/-- a list of the call's own, built by append -/
def OwnL {α : Type} (T : TypeId) (Pr : World → Value → α → Prop) (w0 wr : World) (v : Value) (g : List α) : Prop :=
  ∃ xs, OwnE T 1 w0 wr v g.length xs ∧ ∀ k (hk : k < g.length), ∃ u, xs[k]? = some u ∧ Pr wr u g[k]
section
variable {α : Type} {S : TypeId → Prop} {T : TypeId} {Pr : World → Value → α → Prop} {base : Nat} {w w' w0 wr : World} {v u : Value} {g : List α} {x : α}
theorem IsL.kp {S' : TypeId → Prop} (hP : Prs S Pr) (h : IsL T Pr base w v g) (k : Kp S' w w') (hs : ∀ t, S t → S' t) (hT : S' T) : IsL T Pr base w' v g := by
  obtain ⟨a, c, h1, h2, h3, h4⟩ := h
  refine ⟨a, c, h1, h2, h3, h4.imp id ?_⟩
  rintro ⟨b, off, e, hb, ht, hi⟩
  refine ⟨b, off, e, hb, k.typ ht hT, fun j hj => ?_⟩
  obtain ⟨u, hu, hr⟩ := hi j hj
  exact ⟨u, k.cell ht hT hu, hP.kp hr (k.weak hs)⟩
theorem IsL.keep (hP : Prs S Pr) (h : IsL T Pr base w v g) (k : Below w.heap.size w w') : IsL T Pr base w' v g := h.kp (S' := fun _ => True) hP (Kp.of_below _ k) (fun _ _ => trivial) trivial
theorem IsL.mono {Q : World → Value → α → Prop} (h : IsL T Pr base w v g) (hq : ∀ u x, Pr w u x → Q w u x) : IsL T Q base w v g := by
  obtain ⟨a, c, h1, h2, h3, h4⟩ := h
  refine ⟨a, c, h1, h2, h3, h4.imp id ?_⟩
  rintro ⟨b, off, e, hb, ht, hi⟩
  exact ⟨b, off, e, hb, ht, fun j hj => by obtain ⟨u, hu, hr⟩ := hi j hj; exact ⟨u, hu, hq _ _ hr⟩⟩
theorem IsL.rebase {base' : Nat} (h : IsL T Pr base w v g) (hb : base' ≤ base) : IsL T Pr base' w v g := by
  obtain ⟨a, c, h1, h2, h3, h4⟩ := h
  refine ⟨a, c, h1, h2, h3, h4.imp id ?_⟩
  rintro ⟨b, off, e, hb', r⟩
  exact ⟨b, off, e, Nat.le_trans hb hb', r⟩
theorem IsL.nil (T : TypeId) (Pr : World → Value → α → Prop) (base : Nat) (w : World) : IsL T Pr base w (.slice none 0 0) [] := ⟨none, 0, rfl, Nat.le_refl _, by unfold maxLen; omega, .inl rfl⟩
/-- a list's value, and what lies at each place -/
theorem IsL.view (h : IsL T Pr base w v g) : ∃ a c, v = .slice a g.length c ∧ g.length ≤ c ∧ ∀ k (hk : k < g.length), ∃ b off u, a = some ⟨b, off, none⟩ ∧ w.cell? ⟨b, off + k, none⟩ = some u ∧ Pr w u g[k] := by
  obtain ⟨a, c, h1, h2, h3, h4⟩ := h
  refine ⟨a, c, h1, h2, fun k hk => ?_⟩
  rcases h4 with h4 | ⟨b, off, e, hb, ht, hi⟩
  · subst h4; simp at hk
  · obtain ⟨u, hu, hr⟩ := hi k hk
    exact ⟨b, off, u, e, hu, hr⟩
theorem OwnL.nil (T : TypeId) (Pr : World → Value → α → Prop) (hb : Below w0.heap.size w0 wr) : OwnL T Pr w0 wr (.slice none 0 0) [] := ⟨[], OwnE.nil _ _ hb, fun k hk => absurd hk (by simp)⟩
theorem OwnL.below (hP : Prs S Pr) (h : OwnL T Pr w0 wr v g) (hb : Below wr.heap.size wr w') : OwnL T Pr w0 w' v g := by
  obtain ⟨xs, h1, h2⟩ := h
  refine ⟨xs, h1.below hb, fun k hk => ?_⟩
  obtain ⟨u, hu, hr⟩ := h2 k hk
  exact ⟨u, hu, hP.kp hr (Kp.of_below _ hb)⟩
theorem OwnL.bel (h : OwnL T Pr w0 wr v g) : Below w0.heap.size w0 wr := by obtain ⟨xs, h1, _⟩ := h; exact h1.2
theorem OwnL.ex (h : OwnL T Pr w0 wr v g) : ∃ a c, v = .slice a g.length c := by
  obtain ⟨xs, ⟨⟨_, h1⟩, _⟩, _⟩ := h
  rcases h1 with ⟨rfl, h0⟩ | ⟨b, cap, cur, rfl, _⟩
  · exact ⟨none, 0, by rw [h0]⟩
  · exact ⟨_, _, rfl⟩
theorem OwnL.isL (h : OwnL T Pr w0 wr v g) : IsL T Pr w0.heap.size wr v g := by
  obtain ⟨xs, ⟨⟨hl, h1⟩, _⟩, h2⟩ := h
  rcases h1 with ⟨rfl, h0⟩ | ⟨b, cap, cur, rfl, hg, hh, hc, hm, hs, ht⟩
  · have : g = [] := List.length_eq_zero_iff.1 h0
    subst this
    exact IsL.nil _ _ _ _
  · refine ⟨_, cap, rfl, hc, hm, .inr ⟨b, 0, rfl, hg, by unfold typOf; rw [hh], fun k hk => ?_⟩⟩
    obtain ⟨u, hu, hr⟩ := h2 k hk
    refine ⟨u, ?_, hr⟩
    rw [← ht, List.getElem?_take_of_lt (by omega)] at hu
    simpa [World.cell?, hh] using hu
theorem OwnL.snoc (hP : Prs S Pr) {xs : List Value} {v' : Value} (h2 : ∀ k (hk : k < g.length), ∃ u, xs[k]? = some u ∧ Pr wr u g[k]) (hl : xs.length = g.length) (hu : Pr wr u x)
    (k : Kp S wr w') (hO : OwnE T 1 w0 w' v' (g.length + 1) (xs ++ [u])) : OwnL T Pr w0 w' v' (g ++ [x]) := by
  refine ⟨_, by simpa using hO, fun j hj => ?_⟩
  simp at hj
  by_cases e : j < g.length
  · obtain ⟨u', hu', hr⟩ := h2 j e
    exact ⟨u', by rw [List.getElem?_append_left (by omega)]; exact hu', by rw [List.getElem_append_left e]; exact hP.kp hr k⟩
  · obtain rfl : j = g.length := by omega
    exact ⟨u, by rw [List.getElem?_append_right (by omega), hl]; simp, by rw [List.getElem_append_right (by omega)]; simpa using hP.kp hu k⟩
theorem OwnL.rebase {w1 : World} (h : OwnL T Pr w1 wr v g) (hb : Below w0.heap.size w0 w1) : OwnL T Pr w0 wr v g := by
  obtain ⟨xs, ⟨⟨hl, h1⟩, hB⟩, h2⟩ := h
  refine ⟨xs, ⟨⟨hl, ?_⟩, bthen hb hB⟩, h2⟩
  rcases h1 with h1 | ⟨b, cap, cur, hv, hg, r⟩
  · exact .inl h1
  · exact .inr ⟨b, cap, cur, hv, Nat.le_trans hb.size hg, r⟩
theorem OwnL.mono {Q : World → Value → α → Prop} (h : OwnL T Pr w0 wr v g) (hq : ∀ u x, Pr wr u x → Q wr u x) : OwnL T Q w0 wr v g := by
  obtain ⟨xs, h1, h2⟩ := h
  exact ⟨xs, h1, fun k hk => by obtain ⟨u, hu, hr⟩ := h2 k hk; exact ⟨u, hu, hq _ _ hr⟩⟩
/-- what is owned stays, where a cell of another type's block is set -/
theorem OwnL.set (hP : Prs S Pr) (h : OwnL T Pr w0 wr v g) {p : Addr} {t : TypeId} (ht : typOf wr p.block = some t) (h1 : t ≠ T) (h2 : ¬ S t) (hp : w0.heap.size ≤ p.block) (y : Value) : OwnL T Pr w0 (wr.setCell p y) v g := by
  obtain ⟨xs, ⟨hO, hB⟩, hx⟩ := h
  have hk : Kp S wr (wr.setCell p y) := (Kp.refl _ _).set (fun t' ht' => by rw [ht] at ht'; cases ht'; exact h2) y
  refine ⟨xs, ⟨ownsRow_setCell_other hO ?_ y, bset hB hp y⟩, fun k hk' => ?_⟩
  · intro hb
    have := own_typ ⟨hO, hB⟩ hb
    rw [ht] at this; cases this; exact h1 rfl
  · obtain ⟨u, hu, hr⟩ := hx k hk'
    exact ⟨u, hu, hP.kp hr hk⟩
end
section
variable {α : Type} {P : Program} {TT T : TypeId} {bytes : Nat} {S : TypeId → Prop} {Pr : World → Value → α → Prop} {ops : Array Oper} {o : Oper} {a : Act} {Q : Exit → Act → World → Prop} {w0 wr : World} {v u : Value} {g : List α} {y : α} {t : TypeId} {s x : Operand} {cc gb : Nat}
/-- append of one value: it lies in a variable of one cell -/
theorem wp_appL {K : Act → World → Prop} (el : Elt P TT T 1 bytes) (hP : Prs S Pr) (hT : ¬ S T)
    (ho : o.op = .call { callee := .builtin .append, args := #[s, x], argTypes := #[TT, TT] }) (hO : OwnL T Pr w0 wr v g) (hv : Pr wr u y) (hs : a.eval s = v)
    (hx : a.eval x = .slice (some ⟨gb, 0, none⟩) 1 cc) (hc : wr.cell? ⟨gb, 0, none⟩ = some u) (hn : (g.length + 1) * bytes ≤ 140737488355328) (hn2 : g.length + 1 ≤ maxLen)
    (h : ∀ v' w', OwnL T Pr w0 w' v' (g ++ [y]) → Kp (· ≠ T) wr w' → K (a.put o.dst v') w') : Oper.wp P o a wr K Q := by
  obtain ⟨i, z0, hi, hz, hsize, hby, hzs⟩ := el.info
  obtain ⟨xs, h1, h2⟩ := hO
  have hone : u.oneCell' = true := hP.one hv
  refine wp_append_own _ s x TT ho w0.heap.size T i z0 1 bytes el.ht hi hz hsize hby hzs el.pos v g.length xs hs h1.1 ⟨gb, 0, none⟩ 1 cc [u] hx rfl (fun j y hj => ?_) (fun y hy => by simp at hy; subst hy; exact hone) hn2 hn h1.2.size ?_
  · have hj1 : j < 1 := (List.getElem?_eq_some_iff.1 hj).1
    obtain rfl : j = 0 := by omega
    simp at hj; subst hj
    simpa [Addr.add] using hc
  intro v' w' hown hg _
  have hk : Kp (· ≠ T) wr w' := (Kp.refl _ wr).grown hg fun q hg' t' ht hne => hne (by
    rw [own_typ h1 hg'] at ht
    exact (Option.some.inj ht).symm)
  exact h v' w' (OwnL.snoc hP h2 (by simpa using h1.1.1) hv (hk.weak fun t hs e => hT (e ▸ hs)) ⟨hown, below_append (wr := wr) h1.2 h1.1 hg⟩) hk
theorem appL {rest : List Oper} (el : Elt P TT T 1 bytes) (hP : Prs S Pr) (hT : ¬ S T) (hgd : o.guard = none)
    (ho : o.op = .call { callee := .builtin .append, args := #[s, x], argTypes := #[TT, TT] }) (hO : OwnL T Pr w0 wr v g) (hv : Pr wr u y) (hs : a.eval s = v)
    (hx : a.eval x = .slice (some ⟨gb, 0, none⟩) 1 cc) (hc : wr.cell? ⟨gb, 0, none⟩ = some u) (hn : (g.length + 1) * bytes ≤ 140737488355328) (hn2 : g.length + 1 ≤ maxLen)
    (h : ∀ v' w', OwnL T Pr w0 w' v' (g ++ [y]) → Kp (· ≠ T) wr w' → wpList P ops Q rest (a.put o.dst v') w') : wpList P ops Q (o :: rest) a wr :=
  wpList_plain hgd fun _ hK => wp_appL el hP hT ho hO hv hs hx hc hn hn2 fun v' w' h1 h2 => hK _ _ (h v' w' h1 h2)
theorem stepL {K : Act → World → Prop} {Z : Prop} (el : Elt P TT T 1 bytes) (hP : Prs S Pr) (hT : ¬ S T) (hgd : o.guard = none)
    (ho : o.op = .call { callee := .builtin .append, args := #[s, x], argTypes := #[TT, TT] }) (hO : OwnL T Pr w0 wr v g) (hv : Pr wr u y) (hs : a.eval s = v)
    (hx : a.eval x = .slice (some ⟨gb, 0, none⟩) 1 cc) (hc : wr.cell? ⟨gb, 0, none⟩ = some u) (hn : (g.length + 1) * bytes ≤ 140737488355328) (hn2 : g.length + 1 ≤ maxLen)
    (h : ∀ v' w', OwnL T Pr w0 w' v' (g ++ [y]) → Kp (· ≠ T) wr w' → K (a.put o.dst v') w') : if Region.wanted o (yielded ops a.tmps) = true then Oper.wp P o a wr K Q else Z := by
  have hw : Region.wanted o (yielded ops a.tmps) = true := by simp [Region.wanted, hgd]
  rw [if_pos hw]
  exact wp_appL el hP hT ho hO hv hs hx hc hn hn2 h
end
/-- a new row of noughts -/
theorem RowO.make (w : World) (n : Nat) (hn : n ≤ maxLen) : RowO IsInt 36 w.heap.size (w.alloc (.cells (zcel n) 36)) (.slice (some ⟨w.heap.size, 0, none⟩) n n) (List.replicate n 0) := by
  have hs : (zcel n).size = n * 2 := by simp [zcel, size_madeCells]
  have hl : (zcel n).toList.length = n * 2 := by rw [Array.length_toList, hs]
  refine ⟨(zcel n).toList, ⟨by rw [List.length_replicate]; exact hl, .inr ⟨w.heap.size, n, zcel n, by rw [List.length_replicate], Nat.le_refl _, (MapKept.heap_alloc w _).1, by rw [List.length_replicate]; exact Nat.le_refl _, hn, hs, ?_⟩⟩, fun k hk => ?_⟩
  · rw [List.length_replicate, ← hl, List.take_length]
  · rw [List.length_replicate] at hk
    obtain ⟨h1, h2⟩ := zcel_at hk
    refine ⟨false, none, 0, 0, by rw [Array.getElem?_toList]; exact h1, by rw [Array.getElem?_toList]; exact h2, ?_⟩
    have : (List.replicate n (0 : Int)).getD k 0 = 0 := by simp [hk]
    rw [this]; exact isInt_zero _
theorem infoRow : (Tryz.prog.info? 59).map (fun i => (i.zero, i.size, i.bytes)) = some (some (.slice none 0 0), 1, 24) := by kernel_rfl
theorem elRow : Elt Tryz.prog 25 59 1 24 := Elt.mk' Tryz.underlying25 infoRow rfl (by decide) (by decide)
/-- what is owned, and not empty, by its block -/
theorem OwnL.blk {α : Type} {T : TypeId} {Pr : World → Value → α → Prop} {w0 wr : World} {v : Value} {g : List α} (h : OwnL T Pr w0 wr v g) (hg : 0 < g.length) : ∃ rb rc, v = .slice (some ⟨rb, 0, none⟩) g.length rc ∧ w0.heap.size ≤ rb ∧ g.length ≤ rc ∧ rc ≤ maxLen ∧ Free wr rb ∧ typOf wr rb = some T ∧ ∀ k (hk : k < g.length), ∃ u, wr.cell? ⟨rb, k, none⟩ = some u ∧ Pr wr u g[k] := by
  obtain ⟨xs, ⟨⟨hl, h1⟩, hB⟩, h2⟩ := h
  rcases h1 with ⟨rfl, h0⟩ | ⟨b, cap, cur, rfl, hb, hh, hc, hm, hs, ht⟩
  · omega
  · refine ⟨b, cap, rfl, hb, hc, hm, ⟨(Array.getElem?_eq_some_iff.1 hh).1, fun j => ?_⟩, by unfold typOf; rw [hh], fun k hk => ?_⟩
    · unfold World.frozen?
      rw [show wr.heap[(⟨b, j, none⟩ : Addr).block]? = _ from hh]
      simp
    · obtain ⟨u, hu, hr⟩ := h2 k hk
      refine ⟨u, ?_, hr⟩
      rw [← ht, List.getElem?_take_of_lt (by omega)] at hu
      simpa [World.cell?, hh] using hu
end Go.Proofs.YthaohpfbengabaaGreatDoor

/- slices.Clone at []integer.Int and at [][]integer.Int. -/
namespace Go.Proofs.YthaohpfbengabaaGreatDoor
open Num
open Go.ChangeShapes Go.WideShapes Go.ChangeAt Go.RowKit
set_option linter.unusedVariables false
set_option linter.unusedSimpArgs false
/-- what lies in a block from off on -/
def cellsAt (w : World) (b off m : Nat) : List Value := (List.range m).map fun j => (w.cell? ⟨b, off + j, none⟩).getD .nilFunc
theorem cellsAt_len (w : World) (b off m : Nat) : (cellsAt w b off m).length = m := by simp [cellsAt]
theorem cellsAt_get {w : World} {b off m j : Nat} {v : Value} (h : j < m) (hv : w.cell? ⟨b, off + j, none⟩ = some v) : (cellsAt w b off m)[j]? = some v := by simp [cellsAt, h, hv]
theorem cellsAt_lt {w : World} {b off m j : Nat} {v : Value} (h : (cellsAt w b off m)[j]? = some v) : j < m := by
  have := (List.getElem?_eq_some_iff.1 h).1
  rwa [cellsAt_len] at this
theorem cellsAt_at {w W : World} (hW : Below w.heap.size w W) {b off m : Nat} (hc : ∀ j, j < m → ∃ v, w.cell? ⟨b, off + j, none⟩ = some v) : ∀ j u, (cellsAt w b off m)[j]? = some u → W.cell? ((⟨b, off, none⟩ : Addr).add j) = some u := by
  intro j u hj
  have hl := cellsAt_lt hj
  obtain ⟨v, hv⟩ := hc j hl
  rw [cellsAt_get hl hv] at hj
  cases hj
  have := bkeep hW hv
  unfold Addr.add
  split
  · subst_vars; simpa using this
  · exact this
theorem cellsAt_all {w : World} {b off m : Nat} {p : Value → Prop} (hc : ∀ j, j < m → ∃ v, w.cell? ⟨b, off + j, none⟩ = some v ∧ p v) : ∀ u ∈ cellsAt w b off m, p u := by
  intro u hu
  obtain ⟨j, hj⟩ := List.mem_iff_getElem?.1 hu
  have hl := cellsAt_lt hj
  obtain ⟨v, hv, hp⟩ := hc j hl
  rw [cellsAt_get hl hv] at hj
  cases hj; exact hp
theorem intsF_cells {R : World → Value → Int → Prop} {w : World} {b off n : Nat} {f : Nat → Int} (h : IntsF R w b off n f) : ∀ j, j < n * 2 → ∃ v, w.cell? ⟨b, off + j, none⟩ = some v ∧ v.oneCell' = true := by
  intro j hj
  obtain ⟨nb, a, len, c, h1, h2, _⟩ := h (j / 2) (by omega)
  by_cases e : j % 2 = 0
  · exact ⟨_, by rw [show off + j = off + j / 2 * 2 by omega]; exact h1, rfl⟩
  · exact ⟨_, by rw [show off + j = off + j / 2 * 2 + 1 by omega]; exact h2, rfl⟩
theorem ownF_of_cells {R : World → Value → Int → Prop} (hR : Lims R) {E : TypeId} {w w' : World} {b off n : Nat} {f : Nat → Int} {v' : Value} (h : IntsF R w b off n f) (hb : Below w.heap.size w w') (hO : w'.ownsRow w.heap.size E 2 v' n (cellsAt w b off (n * 2))) : OwnF R E w w' v' n f := by
  refine ⟨_, ⟨hO, hb⟩, fun k hk => ?_⟩
  obtain ⟨nb, a, len, c, h1, h2, h3⟩ := h k hk
  exact ⟨nb, a, len, c, cellsAt_get (by omega) h1, cellsAt_get (by omega) h2, hR _ _ _ _ h3 (.of_below hb)⟩
set_option maxRecDepth 100000 in
set_option maxHeartbeats 1000000 in
theorem cloneRow_c (base : Nat) (v : Value) (l : List Int) (w : World) (hv : PRow base w v l) (h1 : l.length ≤ 1099511627776) :
    Calls Tryz.prog 82 #[v] w fun e w' => (∃ v', e = .returned v' ∧ RowO IsInt 36 w.heap.size w' v' l) ∧ Below w.heap.size w w' := by
  obtain ⟨a, ca, rfl, hlc, hcm, hl⟩ := hv
  have hB0 := Below.refl w.heap.size w
  have hq := fun w => Lib.run_eql_slice_nil w 59 36 a l.length ca 0 0 Tryz.underlying59
  cases a with
  | none =>
    obtain rfl : l = [] := by rcases hl with h | ⟨b, off, h, _⟩
                              · exact h
                              · cases h
    have hq2 : ∀ w, (binOp .eql 59 (.slice none 0 ca) (.slice none 0 0)).run Tryz.prog w = .ok (.bool true) w := hq
    clear hq hl
    go_enter Tryz.func82, Tryz.ntmps82
    go_wp2
    go_ret
    exact ⟨⟨_, rfl, RowO.nil _ _ _ _⟩, Below.refl _ _⟩
  | some ad =>
    obtain ⟨i0, z0, hi, hz0, hz1, hz2, hz3⟩ := elInt.info
    obtain ⟨xs, hx1, hx2, hx3, HX⟩ : ∃ xs : List Value, xs.length = l.length * 2 ∧ (∀ (W : World), Below w.heap.size w W → ∀ j u, xs[j]? = some u → W.cell? (ad.add j) = some u) ∧ (∀ u ∈ xs, u.oneCell' = true) ∧
        Hid (∀ v' w', Below w.heap.size w w' → w'.ownsRow w.heap.size 36 2 v' l.length xs → RowO IsInt 36 w.heap.size w' v' l) := by
      rcases hl with rfl | ⟨b, off, h, hb, ht, hi'⟩
      · refine ⟨[], by simp, fun W hW j u hj => by simp at hj, fun u hu => by simp at hu, Lib.hid fun v' w' hb' hO => ?_⟩
        have : OwnF IsInt 36 w w' v' ([] : List Int).length (fun k => ([] : List Int).getD k 0) := ⟨[], ⟨hO, hb'⟩, fun k hk => absurd hk (by simp)⟩
        exact this.rowO
      · cases h
        refine ⟨cellsAt w b off (l.length * 2), cellsAt_len _ _ _ _, fun W hW => cellsAt_at hW fun j hj => ?_, cellsAt_all (intsF_cells hi'), Lib.hid fun v' w' hb' hO => ?_⟩
        · obtain ⟨v, hv, _⟩ := intsF_cells hi' j hj; exact ⟨v, hv⟩
        · exact (ownF_of_cells lims_int hi' hb' hO).rowO
    clear hl
    have ho : (w.alloc (.cells #[] 36)).ownsRow w.heap.size 36 2 (.slice (some ⟨w.heap.size, 0, none⟩) 0 0) 0 [] := ⟨rfl, .inr ⟨w.heap.size, 0, #[], rfl, Nat.le_refl _, (MapKept.heap_alloc w _).1, Nat.le_refl _, by unfold maxLen; omega, rfl, rfl⟩⟩
    go_enter Tryz.func82, Tryz.ntmps82
    go_wp2_with (at_builtin; refine wpList_append_own _ rfl _ _ 59 rfl w.heap.size 36 i0 z0 2 32 Tryz.underlying59 hi hz0 hz1 hz2 hz3 (by decide) _ 0 [] rfl ho ad l.length ca xs rfl hx1 (hx2 _ (bal hB0 _)) hx3 (by unfold maxLen; omega) (by omega) (by simp) ?_)
    intro v' w1 hown hgrow _
    have hbel := below_append (wr := w) (bal hB0 _) ho hgrow
    try simp only [Nat.zero_add, List.nil_append] at hown
    have hr := HX.out v' w1 hbel hown
    have HU := Lib.hid hr
    obtain ⟨a', c', rfl⟩ := hr.ex
    clear hr
    clear hown hx1 hx2 hx3 hq hgrow ho
    go_wp2
    go_ret
    exact ⟨⟨_, rfl, HU.out⟩, hbel⟩
end Go.Proofs.YthaohpfbengabaaGreatDoor

/- prog: Check. -/
namespace Go.Proofs.YthaohpfbengabaaGreatDoor
open Go.ChangeShapes Go.WideShapes Go.ChangeAt Go.RowKit
set_option linter.unusedVariables false
set_option linter.unusedSimpArgs false
/-- a list of ints in memory -/
def IntsV (w : World) (a : Option Addr) (cap : Nat) (L : List Int) : Prop := L = [] ∨ ∃ b off, a = some ⟨b, off, none⟩ ∧ L.length ≤ cap ∧ ∀ k, k < L.length → w.cell? ⟨b, off + k, none⟩ = some (.int .i64 (L.getD k 0))
theorem IntsV.keep {w w' : World} {a : Option Addr} {cap : Nat} {L : List Int} (h : IntsV w a cap L) (hb : Below w.heap.size w w') : IntsV w' a cap L := by
  rcases h with h | ⟨b, off, h1, h2, h3⟩
  · exact .inl h
  · exact .inr ⟨b, off, h1, h2, fun k hk => bkeep hb (h3 k hk)⟩
/-- a list of instructions in memory -/
structure InsAt (w : World) (b off : Nat) (i : Ins) : Prop where
  c0 : w.cell? ⟨b, off, none⟩ = some (.int .i64 i.op)
  c1 : w.cell? ⟨b, off + 1, none⟩ = some (.int .i64 i.to)
  c2 : w.cell? ⟨b, off + 2, none⟩ = some (.int .i64 i.a)
  c3 : w.cell? ⟨b, off + 3, none⟩ = some (.int .i64 i.b)
  c4 : w.cell? ⟨b, off + 4, none⟩ = some (.int .i64 i.c)
def InsV (w : World) (a : Option Addr) (cap : Nat) (L : List Ins) : Prop := L = [] ∨ ∃ b off, a = some ⟨b, off, none⟩ ∧ L.length ≤ cap ∧ ∀ k, k < L.length → InsAt w b (off + k * 5) (L.getD k default)
theorem InsAt.keep {w w' : World} {b off : Nat} {i : Ins} (h : InsAt w b off i) (hb : Below w.heap.size w w') : InsAt w' b off i := ⟨bkeep hb h.c0, bkeep hb h.c1, bkeep hb h.c2, bkeep hb h.c3, bkeep hb h.c4⟩
theorem InsV.keep {w w' : World} {a : Option Addr} {cap : Nat} {L : List Ins} (h : InsV w a cap L) (hb : Below w.heap.size w w') : InsV w' a cap L := by
  rcases h with h | ⟨b, off, h1, h2, h3⟩
  · exact .inl h
  · exact .inr ⟨b, off, h1, h2, fun k hk => (h3 k hk).keep hb⟩
/-- a slice's address: in a block of the type t, from B on -/
def FromA (B : Nat) (t : TypeId) (w : World) (a : Option Addr) : Prop := ∀ p, a = some p → B ≤ p.block ∧ typOf w p.block = some t
theorem FromA.nil (B : Nat) (t : TypeId) (w : World) : FromA B t w none := fun _ e => by cases e
theorem FromA.keep {B : Nat} {t : TypeId} {w w' : World} {a : Option Addr} (h : FromA B t w a) (hb : Below w.heap.size w w') : FromA B t w' a := fun p e => ⟨(h p e).1, typ_keep (h p e).2 hb⟩
theorem FromA.mono {B C : Nat} {t : TypeId} {w : World} {a : Option Addr} (h : FromA B t w a) (hc : C ≤ B) : FromA C t w a := fun p e => ⟨Nat.le_trans hc (h p e).1, (h p e).2⟩
theorem FromA.set {B : Nat} {t : TypeId} {w : World} {a : Option Addr} (h : FromA B t w a) (q : Addr) (v : Value) : FromA B t (w.setCell q v) a := fun p e => ⟨(h p e).1, by rw [typ_set]; exact (h p e).2⟩
theorem IntsV.far {w : World} {a : Option Addr} {cap : Nat} {L : List Int} (h : IntsV w a cap L) {q : Addr} (hq : ∀ p, a = some p → p.block ≠ q.block) (v : Value) : IntsV (w.setCell q v) a cap L := by
  rcases h with h | ⟨b, off, h1, h2, h3⟩
  · exact .inl h
  · exact .inr ⟨b, off, h1, h2, fun k hk => cell_far (h3 k hk) (fun e => hq _ h1 (by rw [e])) v⟩
theorem InsV.far {w : World} {a : Option Addr} {cap : Nat} {L : List Ins} (h : InsV w a cap L) {q : Addr} (hq : ∀ p, a = some p → p.block ≠ q.block) (v : Value) : InsV (w.setCell q v) a cap L := by
  rcases h with h | ⟨b, off, h1, h2, h3⟩
  · exact .inl h
  · refine .inr ⟨b, off, h1, h2, fun k hk => ?_⟩
    have hn : ∀ o, q ≠ (⟨b, o, Option.none⟩ : Addr) := fun o e => hq _ h1 (by rw [e])
    obtain ⟨c0, c1, c2, c3, c4⟩ := h3 k hk
    exact ⟨cell_far c0 (hn _) v, cell_far c1 (hn _) v, cell_far c2 (hn _) v, cell_far c3 (hn _) v, cell_far c4 (hn _) v⟩
/-- what Check asks of a program -/
structure ProgOk (ins regs : Int) (code : List Ins) (outs : List Int) : Prop where
  i1 : 1 ≤ ins
  i2 : ins ≤ regs
  r1 : regs ≤ 128
  c1 : code.length ≤ 16384
  o1 : 1 ≤ outs.length
  o2 : outs.length ≤ 128
  os : ∀ k, k < outs.length → 0 ≤ outs.getD k 0 ∧ outs.getD k 0 < regs
  cs : ∀ k, k < code.length → mayB (code.getD k default).op (code.getD k default).to (code.getD k default).a (code.getD k default).b (code.getD k default).c regs = true

end Go.Proofs.YthaohpfbengabaaGreatDoor

/- Plain laws: sums, differences, small quotients, shifts of numbers as lists of limbs. -/
namespace Go.Proofs.YthaohpfbengabaaGreatDoor.Num

theorem val_set0 {l : List Nat} {k : Nat} (x : Nat) (hk : k < l.length) (h0 : l.getD k 0 = 0) : val (l.set k x) = val l + x * BB ^ k := by
  have := val_set x hk
  rw [h0] at this
  omega
theorem take_over {l : List Nat} {k : Nat} (hk : l.length ≤ k) : val (l.take (k + 1)) = val (l.take k) := by
  rw [List.take_of_length_le hk, List.take_of_length_le (by omega)]
theorem getD_set_ne {l : List Nat} {i j x : Nat} (h : i ≠ j) : (l.set i x).getD j 0 = l.getD j 0 := by
  simp [List.getD_eq_getElem?_getD, List.getElem?_set_ne h]
/-- a place of a sum -/
theorem add_step {O A B : List Nat} {i c t : Nat} (hO : i < O.length) (h0 : O.getD i 0 = 0) (hA : i < A.length) (ht : t = c + A.getD i 0 + B.getD i 0)
    (h : val O + c * BB ^ i = val (A.take i) + val (B.take i)) : val (O.set i (t % BB)) + t / BB * BB ^ (i + 1) = val (A.take (i + 1)) + val (B.take (i + 1)) := by
  have hB : val (B.take (i + 1)) = val (B.take i) + B.getD i 0 * BB ^ i := by
    by_cases hb : i < B.length
    · exact val_take_succ hb
    · rw [take_over (by omega)]; simp [hb]
  rw [val_set0 _ hO h0, val_take_succ hA, hB]
  have e : t * BB ^ i = t / BB * BB ^ (i + 1) + t % BB * BB ^ i := by
    conv => lhs; rw [← Nat.div_add_mod t BB, Nat.add_mul]
    rw [Nat.pow_succ]
    congr 1
    ac_rfl
  have e2 : t * BB ^ i = c * BB ^ i + A.getD i 0 * BB ^ i + B.getD i 0 * BB ^ i := by rw [ht]; simp only [Nat.add_mul]
  omega
/-- a place of a difference: what is borrowed is 0 or 1 -/
theorem sub_step {O A B : List Nat} {i br r br' : Nat} (hO : i < O.length) (h0 : O.getD i 0 = 0) (hA : i < A.length) (hr : r + (br + B.getD i 0) = A.getD i 0 + br' * BB)
    (h : val O + val (B.take i) = val (A.take i) - 0 + br * BB ^ i) : val (O.set i r) + val (B.take (i + 1)) = val (A.take (i + 1)) - 0 + br' * BB ^ (i + 1) := by
  have hB : val (B.take (i + 1)) = val (B.take i) + B.getD i 0 * BB ^ i := by
    by_cases hb : i < B.length
    · exact val_take_succ hb
    · rw [take_over (by omega)]; simp [hb]
  rw [val_set0 _ hO h0, val_take_succ hA, hB]
  have e := congrArg (· * BB ^ i) hr
  simp only [Nat.add_mul] at e
  have e2 : br' * BB * BB ^ i = br' * BB ^ (i + 1) := by rw [Nat.pow_succ]; ac_rfl
  omega
theorem sub_end {A B : List Nat} {V br : Nat} (hA : Limbs A) (hle : val B ≤ val A) (h : V + val (B.take A.length) = val (A.take A.length) - 0 + br * BB ^ A.length) (hV : V < BB ^ A.length) : V + val B = val A := by
  rw [List.take_length] at h
  have hlt := val_lt hA
  have hsplit : val B = val (B.take A.length) + BB ^ A.length * val (B.drop A.length) := by
    by_cases hb : A.length ≤ B.length
    · conv => lhs; rw [← List.take_append_drop A.length B, val_append]
      rw [List.length_take, Nat.min_eq_left hb]
    · rw [List.take_of_length_le (by omega), List.drop_eq_nil_of_le (by omega)]; simp [val]
  have hd : val (B.drop A.length) = 0 := by
    apply Nat.eq_zero_of_not_pos
    intro hp
    have : BB ^ A.length * 1 ≤ BB ^ A.length * val (B.drop A.length) := Nat.mul_le_mul_left _ hp
    omega
  rw [hd] at hsplit
  simp at hsplit
  rw [hsplit]
  cases br with
  | zero => omega
  | succ n =>
    exfalso
    have : BB ^ A.length * 1 ≤ BB ^ A.length * (n + 1) := Nat.mul_le_mul_left _ (by omega)
    rw [Nat.mul_comm] at h
    have e : (n + 1) * BB ^ A.length = BB ^ A.length * (n + 1) := Nat.mul_comm _ _
    omega
/-- a place of a quotient by a limb -/
theorem div_step {O A : List Nat} {j c rest : Nat} (hO : j < O.length) (h0 : O.getD j 0 = 0) (hA : j < A.length)
    (h : val O * c + rest * BB ^ (j + 1) + val (A.take (j + 1)) = val A) :
    val (O.set j ((rest * BB + A.getD j 0) / c)) * c + (rest * BB + A.getD j 0) % c * BB ^ j + val (A.take j) = val A := by
  rw [val_set0 _ hO h0, ← h, val_take_succ hA, Nat.add_mul]
  have e : (rest * BB + A.getD j 0) * BB ^ j = (rest * BB + A.getD j 0) / c * BB ^ j * c + (rest * BB + A.getD j 0) % c * BB ^ j := by
    conv => lhs; rw [← Nat.div_add_mod (rest * BB + A.getD j 0) c, Nat.add_mul]
    congr 1
    ac_rfl
  have e2 : (rest * BB + A.getD j 0) * BB ^ j = rest * BB ^ (j + 1) + A.getD j 0 * BB ^ j := by rw [Nat.add_mul, Nat.pow_succ, Nat.mul_assoc, Nat.mul_comm BB (BB ^ j)]
  omega
theorem div_lt {rest x c : Nat} (hr : rest < c) (hx : x < BB) : (rest * BB + x) / c < BB := by
  apply Nat.div_lt_of_lt_mul
  have : (rest + 1) * BB ≤ c * BB := Nat.mul_le_mul_right _ hr
  rw [Nat.add_mul] at this
  omega
/-- shifting up: a place; m limbs and k bits -/
theorem shl_step {O A : List Nat} {i m p x : Nat} (hO : i + m + 1 < O.length) (h0 : O.getD (i + m + 1) 0 = 0) (hA : i < A.length) (hx : x = A.getD i 0)
    (h : val O = val (A.take i) * (p * BB ^ m)) : val ((O.set (i + m) (O.getD (i + m) 0 + x * p % BB)).set (i + m + 1) (x * p / BB)) = val (A.take (i + 1)) * (p * BB ^ m) := by
  have h1 : (O.set (i + m) (O.getD (i + m) 0 + x * p % BB)).getD (i + m + 1) 0 = 0 := by rw [getD_set_ne (by omega), h0]
  rw [val_set0 _ (by simpa using hO) h1]
  have h2 := val_set (l := O) (k := i + m) (O.getD (i + m) 0 + x * p % BB) (by omega)
  rw [Nat.add_mul (O.getD (i + m) 0)] at h2
  rw [val_take_succ hA, ← hx, Nat.add_mul, ← h]
  have e : x * p * BB ^ (i + m) = x * p / BB * BB ^ (i + m + 1) + x * p % BB * BB ^ (i + m) := by
    conv => lhs; rw [← Nat.div_add_mod (x * p) BB, Nat.add_mul]
    rw [Nat.pow_succ]
    congr 1
    ac_rfl
  have e2 : x * BB ^ i * (p * BB ^ m) = x * p * BB ^ (i + m) := by rw [Nat.pow_add]; ac_rfl
  omega
/-- the low part of a place that is shifted up meets no bit -/
theorem or_low {x k o : Nat} (ho : o < 2 ^ k) (hk : k ≤ 32) : (x * 2 ^ k % BB) ||| o = o + x * 2 ^ k % BB := by
  have e : BB = 2 ^ k * 2 ^ (32 - k) := by rw [← Nat.pow_add, Nat.add_sub_cancel' hk]; rfl
  have e2 : x * 2 ^ k % BB = 2 ^ k * (x % 2 ^ (32 - k)) := by rw [e, Nat.mul_comm x, Nat.mul_mod_mul_left]
  rw [e2, ← Nat.two_pow_add_eq_or_of_lt ho]
  omega
theorem shl_hi {x k : Nat} (hx : x < BB) : x * 2 ^ k / BB < 2 ^ k := by
  apply Nat.div_lt_of_lt_mul
  rw [Nat.mul_comm BB, Nat.mul_comm]
  exact Nat.mul_lt_mul_of_pos_left hx (Nat.pow_pos (by omega))
theorem shl_lo {x k o : Nat} (ho : o < 2 ^ k) (hk : k ≤ 32) : o + x * 2 ^ k % BB < BB := by
  have e : BB = 2 ^ k * 2 ^ (32 - k) := by rw [← Nat.pow_add, Nat.add_sub_cancel' hk]; rfl
  have e2 : x * 2 ^ k % BB = 2 ^ k * (x % 2 ^ (32 - k)) := by rw [e, Nat.mul_comm x, Nat.mul_mod_mul_left]
  rw [e2, e]
  have h1 : x % 2 ^ (32 - k) < 2 ^ (32 - k) := Nat.mod_lt _ (Nat.pow_pos (by omega))
  have h2 : 2 ^ k * (x % 2 ^ (32 - k) + 1) ≤ 2 ^ k * 2 ^ (32 - k) := Nat.mul_le_mul_left _ h1
  rw [Nat.mul_add] at h2
  omega
/-- shifting down by less than a limb -/
def shrL (k : Nat) : List Nat → List Nat
  | [] => []
  | x :: l => (x + l.getD 0 0 * BB) / 2 ^ k % BB :: shrL k l
theorem shrL_len (k : Nat) (l : List Nat) : (shrL k l).length = l.length := by
  induction l with
  | nil => rfl
  | cons x l ih => simp [shrL, ih]
theorem shrL_get (k : Nat) (l : List Nat) (i : Nat) (hi : i < l.length) : (shrL k l).getD i 0 = (l.getD i 0 + l.getD (i + 1) 0 * BB) / 2 ^ k % BB := by
  induction l generalizing i with
  | nil => simp at hi
  | cons x l ih =>
    cases i with
    | zero => rw [shrL, List.getD_cons_zero, List.getD_cons_zero, List.getD_cons_succ]
    | succ i => rw [shrL, List.getD_cons_succ, List.getD_cons_succ, List.getD_cons_succ]; exact ih i (by simpa using hi)
theorem shrL_limbs (k : Nat) (l : List Nat) : Limbs (shrL k l) := by
  induction l with
  | nil => intro x hx; cases hx
  | cons x l ih =>
    intro y hy
    rcases List.mem_cons.1 hy with rfl | h
    · exact Nat.mod_lt _ BB_pos
    · exact ih y h
theorem shr_arith {B b K x V y : Nat} (e : B = b * K) (hp : 0 < b) (hx : x < B) (hmod : V % b = y % b) : (x + y * B) / b % B + B * (V / b) = (x + B * V) / b := by
  have h1 : (x + B * V) / b = x / b + K * V := by rw [e, Nat.mul_assoc, Nat.add_mul_div_left _ _ hp]
  have h2 : (x + y * B) / b = x / b + K * y := by rw [e, show y * (b * K) = b * (K * y) from by ac_rfl, Nat.add_mul_div_left _ _ hp]
  rw [h1, h2]
  have hxb : x / b < K := Nat.div_lt_of_lt_mul (by rw [← e]; exact hx)
  have key : ∀ z, (x / b + K * z) % B = x / b + K * (z % b) := fun z => by
    have e3 : K * z = B * (z / b) + K * (z % b) := by
      conv => lhs; rw [← Nat.div_add_mod z b, Nat.mul_add]
      rw [e]
      congr 1
      ac_rfl
    rw [e3, show x / b + (B * (z / b) + K * (z % b)) = x / b + K * (z % b) + B * (z / b) from by omega, Nat.add_mul_mod_self_left]
    apply Nat.mod_eq_of_lt
    have h5 : z % b + 1 ≤ b := Nat.mod_lt _ hp
    have h6 : K * (z % b + 1) ≤ K * b := Nat.mul_le_mul_left _ h5
    rw [Nat.mul_add] at h6
    rw [e, Nat.mul_comm b K]
    omega
  rw [key, ← hmod]
  have e4 : K * V = B * (V / b) + K * (V % b) := by
    conv => lhs; rw [← Nat.div_add_mod V b, Nat.mul_add]
    rw [e]
    congr 1
    ac_rfl
  omega
theorem BB_split {k : Nat} (hk : k ≤ 32) : BB = 2 ^ k * 2 ^ (32 - k) := by rw [← Nat.pow_add, Nat.add_sub_cancel' hk]; rfl
theorem val_mod (k : Nat) (hk : k ≤ 32) (l : List Nat) : val l % 2 ^ k = l.getD 0 0 % 2 ^ k := by
  cases l with
  | nil => rfl
  | cons y l =>
    rw [val, BB_split hk, Nat.mul_assoc, Nat.add_mul_mod_self_left]
    rfl
theorem shrL_val (k : Nat) (hk : k < 32) (l : List Nat) (hl : Limbs l) : val (shrL k l) = val l / 2 ^ k := by
  induction l with
  | nil => simp [shrL, val]
  | cons x l ih =>
    have hx := hl x (by simp)
    have ih := ih (fun y hy => hl y (by simp [hy]))
    rw [shrL, val, val, ih]
    exact shr_arith (BB_split (by omega)) (Nat.pow_pos (by omega)) hx (val_mod k (by omega) l)
theorem val_drop {l : List Nat} {m : Nat} (hl : Limbs l) (hm : m ≤ l.length) : val (l.drop m) = val l / BB ^ m := by
  have h : val l = val (l.take m) + BB ^ m * val (l.drop m) := by
    conv => lhs; rw [← List.take_append_drop m l, val_append]
    rw [List.length_take, Nat.min_eq_left hm]
  have h2 := val_lt (limbs_take hl m)
  rw [List.length_take, Nat.min_eq_left hm] at h2
  rw [h, Nat.add_mul_div_left _ _ (Nat.pow_pos BB_pos), Nat.div_eq_of_lt h2, Nat.zero_add]
end Go.Proofs.YthaohpfbengabaaGreatDoor.Num

/- limb: Add, Sub. -/
namespace Go.Proofs.YthaohpfbengabaaGreatDoor
open Num
open Go.ChangeShapes Go.WideShapes Go.ChangeAt Go.RowKit
set_option linter.unusedVariables false
set_option linter.unusedSimpArgs false
/-- what a function of the layer answers: limbs without high noughts that stand for v -/
def NewL (w' : World) (u : Value) (v : Nat) : Prop := ∃ a n L, u = .slice a n n ∧ n = List.length L ∧ U32 w' a n L ∧ Nrm L ∧ val L = v


set_option maxRecDepth 100000 in
set_option maxHeartbeats 4000000 in
theorem limbAdd_c (a b : Option Addr) (ca cb : Nat) (l m : List Nat) (w : World) (ha : U32 w a ca l) (hb : U32 w b cb m) (h1 : l.length ≤ 1099511627776) (h2 : m.length ≤ 1099511627776) :
    Calls Tryz.prog 139 #[.slice a l.length ca, .slice b m.length cb] w fun e w' => (∃ u, e = .returned u ∧ NewL w' u (val l + val m)) ∧ Below w.heap.size w w' := by
  by_cases hll : l.length < m.length
  ·
    have hmk := mk32 (m.length + 1) (by omega)
    have ec : ((m.length + 1 : Nat) : Int) = (m.length : Int) + 1 := by omega
    rw [ec] at hmk
    clear ec
    go_enter Tryz.func139, Tryz.ntmps139
    go_wp2
    clear hmk
    go_loopw [6, 22] (fun cv x wr => ∃ (i c : Nat) (O : List Nat), i ≤ m.length ∧ x = .int .i64 i ∧ cv = .int .u64 c ∧ c ≤ 1 ∧ Blk wr w.heap.size O ∧ Hid (O.length = m.length + 1) ∧ Limbs O ∧ (∀ j, i ≤ j → O.getD j 0 = 0) ∧ Hid (val O + c * BB ^ i = val (m.take i) + val (l.take i)) ∧ Below w.heap.size w wr) (fun _ x _ => m.length - (intOf x).toNat)
    case atStart => exact ⟨0, 0, List.replicate (m.length + 1) 0, by omega, rfl, rfl, by omega, blk_new w _, Lib.hid (by simp), (fun y hy => by simp at hy; rw [hy]; exact BB_pos), (fun j hj => by simp [List.getElem?_replicate]; split <;> rfl), Lib.hid (by simp [val, val_zeros]), bal (Below.refl _ _) _⟩
    case round =>
      obtain ⟨i, c, O, hi, rfl, rfl, hc1, hO, hOl, hOL, hO0, hV, hB⟩ := hrel
      have hol := hOl.out
      by_cases hlt : i < m.length
      · rcases hb.2.2.2 with hl0 | ⟨ba, oa, rfl, hca⟩
        · subst hl0; simp at hlt
        have c0 := bkeep hB (hca i hlt)
        have hx := limb_get hb.2.2.1 i
        have q0 := hO.cell i (by omega)
        have qf := hO.frozen i
        have HS := Lib.hid (add_step (O := O) (A := m) (B := l) (i := i) (c := c) (t := c + m.getD i 0 + l.getD i 0) (by omega) (hO0 i (Nat.le_refl _)) hlt rfl hV.out)
        by_cases hlm : i < l.length
        · rcases ha.2.2.2 with hm0 | ⟨bb, ob, rfl, hcb⟩
          · subst hm0; simp at hlm
          have d0 := bkeep hB (hcb i hlm)
          have hy := limb_get ha.2.2.1 i
          generalize m.getD i 0 = x at *
          generalize l.getD i 0 = y at *
          generalize O.getD i 0 = o at *
          have e1 := w64 (BB_sq x hx)
          have e2 := w64 (BB_sq y hy)
          have e3 : IntKind.u64.wrap ((c : Int) + (x : Int)) = ((c + x : Nat) : Int) := by rw [← Int.natCast_add]; exact w64 (by unfold BB at *; omega)
          have e4 : IntKind.u64.wrap (((c + x : Nat) : Int) + (y : Int)) = ((c + x + y : Nat) : Int) := by rw [← Int.natCast_add]; exact w64 (by unfold BB at *; omega)
          have ht : c + x + y < 2 * BB := by omega
          generalize c + x = t1 at e3 e4 HS ht
          generalize t1 + y = t at e4 HS ht
          have qb := hO.set i (t % BB)
          have ql := limbs_set hOL (k := i) (Nat.mod_lt t BB_pos)
          have eqb : ((t % BB : Nat) : Int) = (t : Int) % 4294967296 := by unfold BB; omega
          rw [eqb] at qb
          have bs := bset hB (p := ⟨w.heap.size, i, none⟩) (Nat.le_refl _) (.int .u32 ((t : Int) % 4294967296))
          clear hol eqb
          go_wp2
          refine ⟨⟨i + 1, t / BB, O.set i (t % BB), by omega, rfl, by unfold BB; simp, by unfold BB at *; omega, qb, Lib.hid (by simpa using hOl.out), ql, ?_, HS, bs⟩, by simp [intOf] <;> omega⟩
          intro j hj
          rw [Num.getD_set_ne (by omega)]
          exact hO0 j (by omega)
        · have hy0 : l.getD i 0 = 0 := by simp [hlm]
          rw [hy0] at HS
          have hlm' : decide (i < l.length) = false := by simp; omega
          generalize m.getD i 0 = x at *
          generalize O.getD i 0 = o at *
          have e1 := w64 (BB_sq x hx)
          have e3 : IntKind.u64.wrap ((c : Int) + (x : Int)) = ((c + x : Nat) : Int) := by rw [← Int.natCast_add]; exact w64 (by unfold BB at *; omega)
          have ht : c + x + 0 < 2 * BB := by omega
          rw [Nat.add_zero] at HS ht
          clear hy0
          generalize c + x = t at e3 HS ht
          have qb := hO.set i (t % BB)
          have ql := limbs_set hOL (k := i) (Nat.mod_lt t BB_pos)
          have eqb : ((t % BB : Nat) : Int) = (t : Int) % 4294967296 := by unfold BB; omega
          rw [eqb] at qb
          have bs := bset hB (p := ⟨w.heap.size, i, none⟩) (Nat.le_refl _) (.int .u32 ((t : Int) % 4294967296))
          clear hol eqb
          go_wp2
          refine ⟨⟨i + 1, t / BB, O.set i (t % BB), by omega, rfl, by unfold BB; simp, by unfold BB at *; omega, qb, Lib.hid (by simpa using hOl.out), ql, ?_, HS, bs⟩, by simp [intOf] <;> omega⟩
          intro j hj
          rw [Num.getD_set_ne (by omega)]
          exact hO0 j (by omega)
      · obtain rfl : i = m.length := by omega
        have hV2 := val_set0 c (show m.length < O.length by omega) (hO0 _ (Nat.le_refl _))
        have q0 := hO.cell m.length (by omega)
        have qf := hO.frozen m.length
        have qb := hO.set m.length c
        have ql := limbs_set hOL (k := m.length) (x := c) (by unfold BB; omega)
        have ec : (c : Int) % 4294967296 = c := by omega
        have hm2 : val (l.take m.length) = val l := by rw [List.take_of_length_le (by omega)]
        have HV := Lib.hid (show val (O.set m.length c) = val l + val m by have := hV.out; rw [List.take_length, hm2] at this; omega)
        have hu := qb.u32 ql (by simp [hol]; unfold maxLen; omega)
        have tc := trim_c _ _ _ _ hu
        have HT := Lib.hid (val_trim (O.set m.length c))
        have HN := trim_nrm (O.set m.length c)
        have hu2 := hu.trim
        have hl2 : (O.set m.length c).length = m.length + 1 := by simp [hol]
        generalize hOQ : O.set m.length c = Q at *
        generalize trimL Q = T at *
        rw [hl2] at tc
        clear hV2 hm2 hV hOl hOQ hu hl2 hol
        have hB2 := bset hB (p := ⟨w.heap.size, m.length, none⟩) (Nat.le_refl _) (.int .u32 (c : Int))
        go_wp2_with fail
        refine tc.mono ?_
        rintro e w1 ⟨rfl, rfl⟩
        clear tc
        go_wp2
        go_ret
        exact ⟨⟨_, rfl, _, _, T, rfl, rfl, hu2, HN, by rw [HT.out, HV.out]⟩, hB2⟩
  ·
    have hmk := mk32 (l.length + 1) (by omega)
    have ec : ((l.length + 1 : Nat) : Int) = (l.length : Int) + 1 := by omega
    rw [ec] at hmk
    clear ec
    go_enter Tryz.func139, Tryz.ntmps139
    go_wp2
    clear hmk
    go_loopw [6, 22] (fun cv x wr => ∃ (i c : Nat) (O : List Nat), i ≤ l.length ∧ x = .int .i64 i ∧ cv = .int .u64 c ∧ c ≤ 1 ∧ Blk wr w.heap.size O ∧ Hid (O.length = l.length + 1) ∧ Limbs O ∧ (∀ j, i ≤ j → O.getD j 0 = 0) ∧ Hid (val O + c * BB ^ i = val (l.take i) + val (m.take i)) ∧ Below w.heap.size w wr) (fun _ x _ => l.length - (intOf x).toNat)
    case atStart => exact ⟨0, 0, List.replicate (l.length + 1) 0, by omega, rfl, rfl, by omega, blk_new w _, Lib.hid (by simp), (fun y hy => by simp at hy; rw [hy]; exact BB_pos), (fun j hj => by simp [List.getElem?_replicate]; split <;> rfl), Lib.hid (by simp [val, val_zeros]), bal (Below.refl _ _) _⟩
    case round =>
      obtain ⟨i, c, O, hi, rfl, rfl, hc1, hO, hOl, hOL, hO0, hV, hB⟩ := hrel
      have hol := hOl.out
      by_cases hlt : i < l.length
      · rcases ha.2.2.2 with hl0 | ⟨ba, oa, rfl, hca⟩
        · subst hl0; simp at hlt
        have c0 := bkeep hB (hca i hlt)
        have hx := limb_get ha.2.2.1 i
        have q0 := hO.cell i (by omega)
        have qf := hO.frozen i
        have HS := Lib.hid (add_step (O := O) (A := l) (B := m) (i := i) (c := c) (t := c + l.getD i 0 + m.getD i 0) (by omega) (hO0 i (Nat.le_refl _)) hlt rfl hV.out)
        by_cases hlm : i < m.length
        · rcases hb.2.2.2 with hm0 | ⟨bb, ob, rfl, hcb⟩
          · subst hm0; simp at hlm
          have d0 := bkeep hB (hcb i hlm)
          have hy := limb_get hb.2.2.1 i
          generalize l.getD i 0 = x at *
          generalize m.getD i 0 = y at *
          generalize O.getD i 0 = o at *
          have e1 := w64 (BB_sq x hx)
          have e2 := w64 (BB_sq y hy)
          have e3 : IntKind.u64.wrap ((c : Int) + (x : Int)) = ((c + x : Nat) : Int) := by rw [← Int.natCast_add]; exact w64 (by unfold BB at *; omega)
          have e4 : IntKind.u64.wrap (((c + x : Nat) : Int) + (y : Int)) = ((c + x + y : Nat) : Int) := by rw [← Int.natCast_add]; exact w64 (by unfold BB at *; omega)
          have ht : c + x + y < 2 * BB := by omega
          generalize c + x = t1 at e3 e4 HS ht
          generalize t1 + y = t at e4 HS ht
          have qb := hO.set i (t % BB)
          have ql := limbs_set hOL (k := i) (Nat.mod_lt t BB_pos)
          have eqb : ((t % BB : Nat) : Int) = (t : Int) % 4294967296 := by unfold BB; omega
          rw [eqb] at qb
          have bs := bset hB (p := ⟨w.heap.size, i, none⟩) (Nat.le_refl _) (.int .u32 ((t : Int) % 4294967296))
          clear hol eqb
          go_wp2
          refine ⟨⟨i + 1, t / BB, O.set i (t % BB), by omega, rfl, by unfold BB; simp, by unfold BB at *; omega, qb, Lib.hid (by simpa using hOl.out), ql, ?_, HS, bs⟩, by simp [intOf] <;> omega⟩
          intro j hj
          rw [Num.getD_set_ne (by omega)]
          exact hO0 j (by omega)
        · have hy0 : m.getD i 0 = 0 := by simp [hlm]
          rw [hy0] at HS
          have hlm' : decide (i < m.length) = false := by simp; omega
          generalize l.getD i 0 = x at *
          generalize O.getD i 0 = o at *
          have e1 := w64 (BB_sq x hx)
          have e3 : IntKind.u64.wrap ((c : Int) + (x : Int)) = ((c + x : Nat) : Int) := by rw [← Int.natCast_add]; exact w64 (by unfold BB at *; omega)
          have ht : c + x + 0 < 2 * BB := by omega
          rw [Nat.add_zero] at HS ht
          clear hy0
          generalize c + x = t at e3 HS ht
          have qb := hO.set i (t % BB)
          have ql := limbs_set hOL (k := i) (Nat.mod_lt t BB_pos)
          have eqb : ((t % BB : Nat) : Int) = (t : Int) % 4294967296 := by unfold BB; omega
          rw [eqb] at qb
          have bs := bset hB (p := ⟨w.heap.size, i, none⟩) (Nat.le_refl _) (.int .u32 ((t : Int) % 4294967296))
          clear hol eqb
          go_wp2
          refine ⟨⟨i + 1, t / BB, O.set i (t % BB), by omega, rfl, by unfold BB; simp, by unfold BB at *; omega, qb, Lib.hid (by simpa using hOl.out), ql, ?_, HS, bs⟩, by simp [intOf] <;> omega⟩
          intro j hj
          rw [Num.getD_set_ne (by omega)]
          exact hO0 j (by omega)
      · obtain rfl : i = l.length := by omega
        have hV2 := val_set0 c (show l.length < O.length by omega) (hO0 _ (Nat.le_refl _))
        have q0 := hO.cell l.length (by omega)
        have qf := hO.frozen l.length
        have qb := hO.set l.length c
        have ql := limbs_set hOL (k := l.length) (x := c) (by unfold BB; omega)
        have ec : (c : Int) % 4294967296 = c := by omega
        have hm2 : val (m.take l.length) = val m := by rw [List.take_of_length_le (by omega)]
        have HV := Lib.hid (show val (O.set l.length c) = val l + val m by have := hV.out; rw [List.take_length, hm2] at this; omega)
        have hu := qb.u32 ql (by simp [hol]; unfold maxLen; omega)
        have tc := trim_c _ _ _ _ hu
        have HT := Lib.hid (val_trim (O.set l.length c))
        have HN := trim_nrm (O.set l.length c)
        have hu2 := hu.trim
        have hl2 : (O.set l.length c).length = l.length + 1 := by simp [hol]
        generalize hOQ : O.set l.length c = Q at *
        generalize trimL Q = T at *
        rw [hl2] at tc
        clear hV2 hm2 hV hOl hOQ hu hl2 hol
        have hB2 := bset hB (p := ⟨w.heap.size, l.length, none⟩) (Nat.le_refl _) (.int .u32 (c : Int))
        go_wp2_with fail
        refine tc.mono ?_
        rintro e w1 ⟨rfl, rfl⟩
        clear tc
        go_wp2
        go_ret
        exact ⟨⟨_, rfl, _, _, T, rfl, rfl, hu2, HN, by rw [HT.out, HV.out]⟩, hB2⟩
namespace Num
theorem cmpN_ge {x y : Nat} (h : y ≤ x) : ¬ cmpN x y < 0 := by
  unfold cmpN; rw [if_neg (by omega)]; split <;> omega
end Num

set_option maxRecDepth 100000 in
set_option maxHeartbeats 4000000 in
theorem limbSub_c (a b : Option Addr) (ca cb : Nat) (l m : List Nat) (w : World) (ha : U32 w a ca l) (hb : U32 w b cb m) (h1 : l.length ≤ 1099511627776) (hle : val m ≤ val l) :
    Calls Tryz.prog 140 #[.slice a l.length ca, .slice b m.length cb] w fun e w' => (∃ u, e = .returned (.tuple #[u, .int .i64 0]) ∧ NewL w' u (val l - val m)) ∧ Below w.heap.size w w' := by
  have hmk := mk32 l.length (by omega)
  have cc := limbCmp_c a b ca cb l m w ha hb
  have hcz : decide (cmpN (val l) (val m) < 0) = false := by simpa using cmpN_ge hle
  have HLE := Lib.hid hle
  clear hle
  generalize cmpN (val l) (val m) = z at *
  go_enter Tryz.func140, Tryz.ntmps140
  go_wp2_with fail
  refine cc.mono ?_
  rintro e w0 ⟨rfl, hb0⟩
  clear cc
  have ha0 := ha.keep hb0
  have hb1 := hb.keep hb0
  have HB0 := Lib.hid hb0
  clear ha hb hb0
  go_wp2
  clear hmk hcz
  go_loopw [7, 21] (fun cv x wr => ∃ (i c : Nat) (O : List Nat), i ≤ l.length ∧ x = .int .i64 i ∧ cv = .int .u64 c ∧ c ≤ 1 ∧ Blk wr w0.heap.size O ∧ Hid (O.length = l.length) ∧ Limbs O ∧ (∀ j, i ≤ j → O.getD j 0 = 0) ∧ Hid (val O + val (m.take i) = val (l.take i) - 0 + c * BB ^ i) ∧ Below w0.heap.size w0 wr) (fun _ x _ => l.length - (intOf x).toNat)
  case atStart => exact ⟨0, 0, List.replicate l.length 0, by omega, rfl, rfl, by omega, blk_new w0 _, Lib.hid (by simp), (fun y hy => by simp at hy; rw [hy.2]; exact BB_pos), (fun j hj => by simp [List.getElem?_replicate]; split <;> rfl), Lib.hid (by simp [val, val_zeros]), bal (Below.refl _ _) _⟩
  case round =>
    obtain ⟨i, c, O, hi, rfl, rfl, hc1, hO, hOl, hOL, hO0, hV, hB⟩ := hrel
    have hol := hOl.out
    by_cases hlt : i < l.length
    · rcases ha0.2.2.2 with hl0 | ⟨ba, oa, rfl, hca⟩
      · subst hl0; simp at hlt
      have c0 := bkeep hB (hca i hlt)
      have hx := limb_get ha0.2.2.1 i
      have q0 := hO.cell i (by omega)
      have qf := hO.frozen i
      have HS := Lib.hid (fun r br' hr => sub_step (O := O) (A := l) (B := m) (i := i) (br := c) (r := r) (br' := br') (by omega) (hO0 i (Nat.le_refl _)) hlt hr hV.out)
      by_cases hlm : i < m.length
      · rcases hb1.2.2.2 with hm0 | ⟨bb, ob, rfl, hcb⟩
        · subst hm0; simp at hlm
        have d0 := bkeep hB (hcb i hlm)
        have hy := limb_get hb1.2.2.1 i
        generalize l.getD i 0 = x at *
        generalize m.getD i 0 = y at *
        generalize O.getD i 0 = o at *
        have e1 := w64 (BB_sq x hx)
        have e2 := w64 (BB_sq y hy)
        have e3 : IntKind.u64.wrap ((c : Int) + (y : Int)) = ((c + y : Nat) : Int) := by rw [← Int.natCast_add]; exact w64 (by unfold BB at *; omega)
        have ht : c + y ≤ BB := by omega
        generalize c + y = y1 at e3 HS ht
        by_cases hlow : y1 ≤ x
        · have e4 : IntKind.u64.wrap ((x : Int) - (y1 : Int)) = ((x - y1 : Nat) : Int) := by rw [show (x : Int) - (y1 : Int) = ((x - y1 : Nat) : Int) by omega]; exact w64 (by unfold BB at *; omega)
          have hr1 : x - y1 < BB := by omega
          have HR := Lib.hid (HS.out (x - y1) 0 (by omega))
          generalize x - y1 = r at *
          have e5 : (r : Int) / 4294967296 = 0 := by unfold BB at hr1; omega
          have e6 : (r : Int) % 4294967296 = (r : Int) := by unfold BB at hr1; omega
          have b0 : bits .and .u64 0 1 = 0 := by rfl
          have qb := hO.set i r
          have ql := limbs_set hOL (k := i) hr1
          have bs := bset hB (p := ⟨w0.heap.size, i, none⟩) (Nat.le_refl _) (.int .u32 (r : Int))
          clear hol
          go_wp2
          refine ⟨⟨i + 1, 0, O.set i r, by omega, by go_num, rfl, by omega, qb, Lib.hid (by simpa using hOl.out), ql, ?_, HR, bs⟩, by simp [intOf] <;> omega⟩
          intro j hj
          rw [Num.getD_set_ne (by omega)]
          exact hO0 j (by omega)
        · have e4 : IntKind.u64.wrap ((x : Int) - (y1 : Int)) = ((18446744073709551616 - (y1 - x) : Nat) : Int) := by
            simp only [IntKind.wrap, IntKind.bits, IntKind.signed]
            simp
            unfold BB at *
            omega
          have hr1 : BB + x - y1 < BB := by omega
          have HR := Lib.hid (HS.out (BB + x - y1) 1 (by omega))
          have e6 : ((18446744073709551616 - (y1 - x) : Nat) : Int) % 4294967296 = ((BB + x - y1 : Nat) : Int) := by unfold BB at *; omega
          have e5 : ((18446744073709551616 - (y1 - x) : Nat) : Int) / 4294967296 = 4294967295 := by unfold BB at *; omega
          have hDD : 18446744073709551616 - (y1 - x) < 18446744073709551616 := by omega
          generalize 18446744073709551616 - (y1 - x) = D at e4 e5 e6 hDD
          generalize BB + x - y1 = r at *
          have b0 : bits .and .u64 4294967295 1 = 1 := by rfl
          have qb := hO.set i r
          have ql := limbs_set hOL (k := i) hr1
          have bs := bset hB (p := ⟨w0.heap.size, i, none⟩) (Nat.le_refl _) (.int .u32 (r : Int))
          clear hol hDD
          go_wp2
          refine ⟨⟨i + 1, 1, O.set i r, by omega, by go_num, rfl, by omega, qb, Lib.hid (by simpa using hOl.out), ql, ?_, HR, bs⟩, by simp [intOf] <;> omega⟩
          intro j hj
          rw [Num.getD_set_ne (by omega)]
          exact hO0 j (by omega)
      · have hy0 : m.getD i 0 = 0 := by simp [hlm]
        rw [hy0] at HS
        have hlm' : decide (i < m.length) = false := by simp; omega
        generalize l.getD i 0 = x at *
        generalize O.getD i 0 = o at *
        have e1 := w64 (BB_sq x hx)
        have ht : c + 0 ≤ BB := by unfold BB; omega
        rw [Nat.add_zero] at HS ht
        obtain ⟨y1, hy1⟩ : ∃ y1, y1 = c := ⟨_, rfl⟩
        subst hy1
        clear hy0
        by_cases hlow : y1 ≤ x
        · have e4 : IntKind.u64.wrap ((x : Int) - (y1 : Int)) = ((x - y1 : Nat) : Int) := by rw [show (x : Int) - (y1 : Int) = ((x - y1 : Nat) : Int) by omega]; exact w64 (by unfold BB at *; omega)
          have hr1 : x - y1 < BB := by omega
          have HR := Lib.hid (HS.out (x - y1) 0 (by omega))
          generalize x - y1 = r at *
          have e5 : (r : Int) / 4294967296 = 0 := by unfold BB at hr1; omega
          have e6 : (r : Int) % 4294967296 = (r : Int) := by unfold BB at hr1; omega
          have b0 : bits .and .u64 0 1 = 0 := by rfl
          have qb := hO.set i r
          have ql := limbs_set hOL (k := i) hr1
          have bs := bset hB (p := ⟨w0.heap.size, i, none⟩) (Nat.le_refl _) (.int .u32 (r : Int))
          clear hol
          go_wp2
          refine ⟨⟨i + 1, 0, O.set i r, by omega, by go_num, rfl, by omega, qb, Lib.hid (by simpa using hOl.out), ql, ?_, HR, bs⟩, by simp [intOf] <;> omega⟩
          intro j hj
          rw [Num.getD_set_ne (by omega)]
          exact hO0 j (by omega)
        · have e4 : IntKind.u64.wrap ((x : Int) - (y1 : Int)) = ((18446744073709551616 - (y1 - x) : Nat) : Int) := by
            simp only [IntKind.wrap, IntKind.bits, IntKind.signed]
            simp
            unfold BB at *
            omega
          have hr1 : BB + x - y1 < BB := by omega
          have HR := Lib.hid (HS.out (BB + x - y1) 1 (by omega))
          have e6 : ((18446744073709551616 - (y1 - x) : Nat) : Int) % 4294967296 = ((BB + x - y1 : Nat) : Int) := by unfold BB at *; omega
          have e5 : ((18446744073709551616 - (y1 - x) : Nat) : Int) / 4294967296 = 4294967295 := by unfold BB at *; omega
          have hDD : 18446744073709551616 - (y1 - x) < 18446744073709551616 := by omega
          generalize 18446744073709551616 - (y1 - x) = D at e4 e5 e6 hDD
          generalize BB + x - y1 = r at *
          have b0 : bits .and .u64 4294967295 1 = 1 := by rfl
          have qb := hO.set i r
          have ql := limbs_set hOL (k := i) hr1
          have bs := bset hB (p := ⟨w0.heap.size, i, none⟩) (Nat.le_refl _) (.int .u32 (r : Int))
          clear hol hDD
          go_wp2
          refine ⟨⟨i + 1, 1, O.set i r, by omega, by go_num, rfl, by omega, qb, Lib.hid (by simpa using hOl.out), ql, ?_, HR, bs⟩, by simp [intOf] <;> omega⟩
          intro j hj
          rw [Num.getD_set_ne (by omega)]
          exact hO0 j (by omega)
    · obtain rfl : i = l.length := by omega
      have hlt2 := val_lt hOL
      rw [hol] at hlt2
      have HV := Lib.hid (show val O = val l - val m by have := sub_end ha0.2.2.1 HLE.out hV.out hlt2; omega)
      have hu := hO.u32 hOL (by rw [hol]; unfold maxLen; omega)
      have tc := trim_c _ _ _ _ hu
      have HT := Lib.hid (val_trim O)
      have HN := trim_nrm O
      have hu2 := hu.trim
      generalize trimL O = T at *
      rw [hol] at tc
      clear hV hOl hu hol hlt2
      have hB2 := bthen HB0.out hB
      go_wp2_with fail
      refine tc.mono ?_
      rintro e w1 ⟨rfl, rfl⟩
      clear tc
      go_wp2
      go_ret2
      exact ⟨⟨_, rfl, _, _, T, rfl, rfl, hu2, HN, by rw [HT.out, HV.out]⟩, hB2⟩
end Go.Proofs.YthaohpfbengabaaGreatDoor

/- limb: DivSmall. -/
namespace Go.Proofs.YthaohpfbengabaaGreatDoor
open Num
open Go.ChangeShapes Go.WideShapes Go.ChangeAt Go.RowKit
set_option linter.unusedVariables false
set_option linter.unusedSimpArgs false
namespace Num
theorem hi_or {r x : Nat} (hr : r < BB) (hx : x < BB) : bits .or .u64 ((r * BB : Nat) : Int) (x : Int) = ((r * BB + x : Nat) : Int) := by
  have hx' : x < 2 ^ 32 := hx
  have e : r * BB = 2 ^ 32 * r := by rw [Nat.mul_comm]; rfl
  have hb : r * BB < 18446744073709551616 := by
    have : r * BB ≤ (BB - 1) * BB := Nat.mul_le_mul_right _ (by omega)
    have e2 : (BB - 1) * BB = 18446744069414584320 := by unfold BB; rfl
    omega
  rw [u64_or_nat _ _ hb (by unfold BB at hx; omega), e, ← Nat.two_pow_add_eq_or_of_lt hx']
end Num

set_option maxRecDepth 100000 in
set_option maxHeartbeats 4000000 in
theorem divSmallF_c (a : Option Addr) (ca : Nat) (l : List Nat) (c : Nat) (w : World) (ha : U32 w a ca l) (h1 : l.length ≤ 1099511627776) (hc : 0 < c) (hcB : c < BB) :
    Calls Tryz.prog 169 #[.slice a l.length ca, .int .u32 (c : Int)] w fun e w' => (∃ u, e = .returned (.tuple #[u, .int .u32 ((val l % c : Nat) : Int), .int .i64 0]) ∧ NewL w' u (val l / c) ∧ ∀ g f n k, u = .slice (some ⟨g, f, none⟩) n k → w.heap.size ≤ g) ∧ Below w.heap.size w w' := by
  have hmk := mk32 l.length (by omega)
  have hcz : ((c : Int) == 0) = false := by simp; omega
  have ecw := w64 (BB_sq c hcB)
  go_enter Tryz.func169, Tryz.ntmps169
  go_wp2
  clear hmk hcz
  go_loopw [8, 9] (fun rv x wr => ∃ (k r : Nat) (O : List Nat), k ≤ l.length ∧ x = .int .i64 ((k : Int) - 1) ∧ rv = .int .u64 r ∧ r < c ∧ Blk wr w.heap.size O ∧ Hid (O.length = l.length) ∧ Limbs O ∧ (∀ j, j < k → O.getD j 0 = 0) ∧ Hid (val O * c + r * BB ^ k + val (l.take k) = val l) ∧ Below w.heap.size w wr) (fun _ x _ => (intOf x + 1).toNat)
  case atStart => exact ⟨l.length, 0, List.replicate l.length 0, by omega, rfl, rfl, hc, blk_new w _, Lib.hid (by simp), (fun y hy => by simp at hy; rw [hy.2]; exact BB_pos), (fun j hj => by simp [List.getElem?_replicate]; split <;> rfl), Lib.hid (by simp [val_zeros]), bal (Below.refl _ _) _⟩
  case round =>
    obtain ⟨k, r, O, hk, rfl, rfl, hr, hO, hOl, hOL, hO0, hV, hB⟩ := hrel
    have hol := hOl.out
    cases k with
    | zero =>
      have HV := Lib.hid (show val O * c + r = val l by have := hV.out; simpa [val] using this)
      have HD := Lib.hid (show val O = val l / c by rw [← HV.out, Nat.mul_comm, Nat.mul_add_div hc, Nat.div_eq_of_lt hr, Nat.add_zero])
      have HM := Lib.hid (show r = val l % c by rw [← HV.out, Nat.mul_comm, Nat.mul_add_mod, Nat.mod_eq_of_lt hr])
      have hu := hO.u32 hOL (by rw [hol]; unfold maxLen; omega)
      have tc := trim_c _ _ _ _ hu
      have HT := Lib.hid (val_trim O)
      have HN := trim_nrm O
      have hu2 := hu.trim
      generalize trimL O = T at *
      rw [hol] at tc
      have er : (r : Int) % 4294967296 = (r : Int) := by unfold BB at hcB; omega
      clear hV hOl hu hol HV
      go_wp2_with fail
      refine tc.mono ?_
      rintro e w1 ⟨rfl, rfl⟩
      clear tc
      go_wp2
      go_ret3
      exact ⟨⟨_, by rw [← HM.out]; rfl, ⟨_, _, T, rfl, rfl, hu2, HN, by rw [HT.out, HD.out]⟩, fun g f n k h => by cases h; exact Nat.le_refl _⟩, hB⟩
    | succ j =>
      rcases ha.2.2.2 with hl0 | ⟨ba, oa, rfl, hca⟩
      · subst hl0; simp at hk
      have c0 := bkeep hB (hca j (by omega))
      have hx := limb_get ha.2.2.1 j
      have q0 := hO.cell j (by omega)
      have qf := hO.frozen j
      have hrB : r < BB := by omega
      have HS := Lib.hid (div_step (O := O) (A := l) (j := j) (c := c) (rest := r) (by omega) (hO0 j (by omega)) (by omega) hV.out)
      generalize l.getD j 0 = x at *
      generalize O.getD j 0 = o at *
      have e1 := w64 (BB_sq x hx)
      have e2 : bits .or .u64 ((r : Int) * 4294967296) (x : Int) = ((r * BB + x : Nat) : Int) := by rw [← hi_or hrB hx, Int.natCast_mul]; rfl
      have hq := div_lt hr hx
      have hm := Nat.mod_lt (r * BB + x) hc
      have hrl : (r : Int) < 4294967296 := by unfold BB at hrB; omega
      generalize r * BB + x = t at *
      have e3 : (t : Int).tdiv (c : Int) = ((t / c : Nat) : Int) := rfl
      have e4 : (t : Int).tmod (c : Int) = ((t % c : Nat) : Int) := rfl
      have hqr : val (O.set j (t / c)) * c + t % c * BB ^ j + val (l.take j) = val l := HS.out
      have HQR := Lib.hid hqr
      clear hqr HS
      generalize t / c = q at *
      generalize t % c = r2 at *
      have e5 := w64 (BB_sq q hq)
      have e6 : (q : Int) % 4294967296 = (q : Int) := by unfold BB at hq; omega
      have qb := hO.set j q
      have ql := limbs_set hOL (k := j) hq
      have bs := bset hB (p := ⟨w.heap.size, j, none⟩) (Nat.le_refl _) (.int .u32 (q : Int))
      clear hol
      go_wp2
      refine ⟨⟨j, r2, O.set j q, by omega, by go_num, rfl, hm, qb, Lib.hid (by simpa using hOl.out), ql, ?_, HQR, bs⟩, by simp [intOf] <;> omega⟩
      intro i hi
      rw [Num.getD_set_ne (by omega)]
      exact hO0 i (by omega)
theorem divSmall_c (a : Option Addr) (ca : Nat) (l : List Nat) (c : Nat) (w : World) (ha : U32 w a ca l) (h1 : l.length ≤ 1099511627776) (hc : 0 < c) (hcB : c < BB) :
    Calls Tryz.prog 169 #[.slice a l.length ca, .int .u32 (c : Int)] w fun e w' => (∃ u, e = .returned (.tuple #[u, .int .u32 ((val l % c : Nat) : Int), .int .i64 0]) ∧ NewL w' u (val l / c)) ∧ Below w.heap.size w w' :=
  (divSmallF_c a ca l c w ha h1 hc hcB).mono fun e w' ⟨⟨u, he, hn, _⟩, hb⟩ => ⟨⟨u, he, hn⟩, hb⟩
end Go.Proofs.YthaohpfbengabaaGreatDoor

/- limb: Shl, Shr. -/
namespace Go.Proofs.YthaohpfbengabaaGreatDoor
open Num
open Go.ChangeShapes Go.WideShapes Go.ChangeAt Go.RowKit
set_option linter.unusedVariables false
set_option linter.unusedSimpArgs false

namespace Num
theorem repl_getD (n j : Nat) : (List.replicate n 0).getD j 0 = 0 := by
  simp [List.getD_eq_getElem?_getD, List.getElem?_replicate]; split <;> rfl
theorem pow31 {k : Nat} (h : k < 32) : 2 ^ k ≤ 2147483648 := Nat.pow_le_pow_right (n := 2) (by omega) (show k ≤ 31 by omega)
theorem shl_lt {x k : Nat} (hx : x < BB) (h : k < 32) : x * 2 ^ k < BB * BB := by
  have h1 := pow31 h
  have h2 : x * 2 ^ k ≤ x * 2147483648 := Nat.mul_le_mul_left _ h1
  unfold BB at *
  omega
theorem getD_set_eq {l : List Nat} {i x : Nat} (h : i < l.length) : (l.set i x).getD i 0 = x := by
  simp [List.getD_eq_getElem?_getD, h]
end Num

set_option maxRecDepth 100000 in
set_option maxHeartbeats 4000000 in
theorem limbShl_c (a : Option Addr) (ca : Nat) (l : List Nat) (n : Nat) (w : World) (ha : U32 w a ca l) (h1 : l.length ≤ 1099511627776) (hn : n ≤ 65536) :
    Calls Tryz.prog 171 #[.slice a l.length ca, .int .i64 (n : Int)] w fun e w' => (∃ u, e = .returned (.tuple #[u, .int .i64 0]) ∧ NewL w' u (val l * 2 ^ n)) ∧ Below w.heap.size w w' := by
  obtain ⟨m, hm⟩ : ∃ m, m = n / 32 := ⟨_, rfl⟩
  obtain ⟨k, hk⟩ : ∃ k, k = n % 32 := ⟨_, rfl⟩
  have en1 : (n : Int) / 32 = (m : Int) := by omega
  have en2 : (n : Int) % 32 = (k : Int) := by omega
  have en3 : (n : Int).tdiv 32 = (m : Int) := by rw [Int.tdiv_eq_ediv_of_nonneg (by omega)]; exact en1
  have en4 : (n : Int).tmod 32 = (k : Int) := by rw [Int.tmod_eq_emod_of_nonneg (by omega)]; exact en2
  have hk32 : k < 32 := by omega
  have hm2 : m ≤ 2048 := by omega
  have HN := Lib.hid (show 2 ^ n = 2 ^ k * BB ^ m by rw [BB_pow, ← Nat.pow_add]; congr 1; omega)
  have hmk := mk32 (l.length + m + 1) (by omega)
  have ec : ((l.length + m + 1 : Nat) : Int) = (l.length : Int) + (m : Int) + 1 := by omega
  rw [ec] at hmk
  clear ec hm hk
  go_enter Tryz.func171, Tryz.ntmps171
  go_wp2
  clear hmk
  go_loopw [26] (fun x wr => ∃ (i : Nat) (O : List Nat), i ≤ l.length ∧ x = .int .i64 i ∧ Blk wr w.heap.size O ∧ Hid (O.length = l.length + m + 1) ∧ Limbs O ∧ (∀ j, i + m < j → O.getD j 0 = 0) ∧ O.getD (i + m) 0 < 2 ^ k ∧ Hid (val O = val (l.take i) * (2 ^ k * BB ^ m)) ∧ Below w.heap.size w wr) (fun x _ => l.length - (intOf x).toNat)
  case atStart => exact ⟨0, List.replicate (l.length + m + 1) 0, by omega, rfl, blk_new w _, Lib.hid (by simp), (fun y hy => by simp at hy; rw [hy]; exact BB_pos), (fun j hj => by simp [List.getElem?_replicate]; split <;> rfl), by rw [repl_getD]; exact Nat.pow_pos (by omega), Lib.hid (by simp [val, val_zeros]), bal (Below.refl _ _) _⟩
  case round =>
    obtain ⟨i, O, hi, rfl, hO, hOl, hOL, hO0, hOk, hV, hB⟩ := hrel
    have hol := hOl.out
    by_cases hlt : i < l.length
    · rcases ha.2.2.2 with hl0 | ⟨ba, oa, rfl, hca⟩
      · subst hl0; simp at hlt
      have c0 := bkeep hB (hca i hlt)
      have hx := limb_get ha.2.2.1 i
      obtain ⟨x, hxe⟩ : ∃ x, x = l.getD i 0 := ⟨_, rfl⟩
      rw [← hxe] at c0 hx
      have e1 := w64 (BB_sq x hx)
      have e2 : IntKind.u64.wrap ((x : Int) * 2 ^ k) = ((x * 2 ^ k : Nat) : Int) := by rw [show (x : Int) * 2 ^ k = ((x * 2 ^ k : Nat) : Int) by rw [Int.natCast_mul, Int.natCast_pow]; rfl]; exact w64 (shl_lt hx hk32)
      have q0 := hO.cell (i + m) (by omega)
      have qf := hO.frozen (i + m)
      have q1 := hO.cell (i + m + 1) (by omega)
      have qg := hO.frozen (i + m + 1)
      rw [hO0 (i + m + 1) (by omega)] at q1
      have HS := Lib.hid (shl_step (O := O) (A := l) (i := i) (m := m) (p := 2 ^ k) (x := x) (by omega) (hO0 (i + m + 1) (by omega)) hlt hxe hV.out)
      have hlo := or_low (x := x) (k := k) (o := O.getD (i + m) 0) hOk (by omega)
      have hlb := shl_lo (x := x) (k := k) (o := O.getD (i + m) 0) hOk (by omega)
      have hhi := shl_hi (k := k) hx
      have hob := limb_get hOL (i + m)
      have hp := pow31 hk32
      generalize O.getD (i + m) 0 = o at *
      generalize hy : x * 2 ^ k = y at *
      obtain ⟨lo, hlo1⟩ : ∃ lo, lo = y % BB := ⟨_, rfl⟩
      obtain ⟨hi2, hhi1⟩ : ∃ hi2, hi2 = y / BB := ⟨_, rfl⟩
      rw [← hlo1] at HS hlo hlb
      rw [← hhi1] at HS hhi
      have elo : (y : Int) % 4294967296 = (lo : Int) := by unfold BB at hlo1; omega
      have ehi : (y : Int) / 4294967296 = (hi2 : Int) := by unfold BB at hhi1; omega
      have hloB : lo < BB := by rw [hlo1]; exact Nat.mod_lt _ BB_pos
      have eor : bits .or .u32 (o : Int) (lo : Int) = ((o + lo : Nat) : Int) := by rw [u32_or_nat _ _ hob hloB, Nat.or_comm, hlo]
      have hhB : hi2 < BB := by unfold BB; omega
      have ehm : (hi2 : Int) % 4294967296 = (hi2 : Int) := by unfold BB at hhB; omega
      have eor2 : bits .or .u32 0 (hi2 : Int) = (hi2 : Int) := by
        have := u32_or_nat 0 hi2 (by omega) hhB
        simpa using this
      have hHI := hhi
      have HP := Lib.hid hhi
      clear hlo hhi hlo1 hhi1 hy hp hob hHI hOk hxe
      generalize hol2 : o + lo = s1 at *
      clear hol2
      have qb := (hO.set (i + m) s1).set (i + m + 1) hi2
      have ql := limbs_set (limbs_set hOL (k := i + m) hlb) (k := i + m + 1) hhB
      have bs := bset (bset hB (p := ⟨w.heap.size, i + m, none⟩) (Nat.le_refl _) (.int .u32 (s1 : Int))) (p := ⟨w.heap.size, i + m + 1, none⟩) (Nat.le_refl _) (.int .u32 (hi2 : Int))
      have hlt2 : (i : Int) + (m : Int) < (l.length : Int) + (m : Int) + 1 := by omega
      have hlt3 : (i : Int) + (m : Int) + 1 < (l.length : Int) + (m : Int) + 1 := by omega
      have HOL := Lib.hid hol
      clear hol
      go_wp2
      refine ⟨⟨i + 1, _, by omega, by go_num, qb, Lib.hid (by simpa using hOl.out), ql, ?_, ?_, HS, bs⟩, by simp [intOf] <;> omega⟩
      · intro j hj
        rw [Num.getD_set_ne (by omega), Num.getD_set_ne (by omega)]
        exact hO0 j (by omega)
      · rw [show i + 1 + m = i + m + 1 from by omega, Num.getD_set_eq (by have := HOL.out; simp; omega)]
        exact HP.out
    · obtain rfl : i = l.length := by omega
      have HV := Lib.hid (show val O = val l * 2 ^ n by rw [hV.out, List.take_length, HN.out])
      have hu := hO.u32 hOL (by rw [hol]; unfold maxLen; omega)
      have tc := trim_c _ _ _ _ hu
      have HT := Lib.hid (val_trim O)
      have HNr := trim_nrm O
      have hu2 := hu.trim
      generalize trimL O = T at *
      rw [hol] at tc
      clear hV hOl hu hol hOk
      go_wp2_with fail
      refine tc.mono ?_
      rintro e w1 ⟨rfl, rfl⟩
      clear tc
      go_wp2
      go_ret2
      exact ⟨⟨_, rfl, _, _, T, rfl, rfl, hu2, HNr, by rw [HT.out, HV.out]⟩, hB⟩
end Go.Proofs.YthaohpfbengabaaGreatDoor

/- limb: Shr. -/
namespace Go.Proofs.YthaohpfbengabaaGreatDoor
open Num
open Go.ChangeShapes Go.WideShapes Go.ChangeAt Go.RowKit
set_option linter.unusedVariables false
set_option linter.unusedSimpArgs false
namespace Num
theorem limbs_drop {l : List Nat} (h : Limbs l) (k : Nat) : Limbs (l.drop k) := fun x hx => h x (List.mem_of_mem_drop hx)
end Num
namespace Num
theorem set_fill {L : List Nat} {N i : Nat} (hL : L.length = N) (hi : i < N) : (L.take i ++ List.replicate (N - i) 0).set i (L.getD i 0) = L.take (i + 1) ++ List.replicate (N - (i + 1)) 0 := by
  have h1 : (L.take i).length = i := by rw [List.length_take]; omega
  rw [List.set_append_right _ _ (by omega), h1, Nat.sub_self, show N - i = (N - (i + 1)) + 1 from by omega, List.replicate_succ, List.set_cons_zero, List.take_succ_eq_append_getElem (by omega), List.append_assoc, show L.getD i 0 = L[i]'(by omega) from by simp [List.getD_eq_getElem?_getD, show i < L.length by omega]]
  rfl
end Num
theorem newL_nil (w : World) : NewL w (.slice none 0 0) 0 := ⟨none, 0, [], rfl, rfl, ⟨Nat.le_refl _, by unfold maxLen; omega, (fun _ h => by cases h), .inl rfl⟩, (fun h => absurd rfl h), rfl⟩

set_option maxRecDepth 100000 in
set_option maxHeartbeats 4000000 in
theorem limbShr_c (a : Option Addr) (ca : Nat) (l : List Nat) (n : Nat) (w : World) (ha : U32 w a ca l) (h1 : l.length ≤ 1099511627776) (hn : n ≤ 9223372036854775807) :
    Calls Tryz.prog 173 #[.slice a l.length ca, .int .i64 (n : Int)] w fun e w' => (∃ u, e = .returned (.tuple #[u, .int .i64 0]) ∧ NewL w' u (val l / 2 ^ n)) ∧ Below w.heap.size w w' := by
  obtain ⟨m, hm⟩ : ∃ m, m = n / 32 := ⟨_, rfl⟩
  obtain ⟨k, hk⟩ : ∃ k, k = n % 32 := ⟨_, rfl⟩
  have en1 : (n : Int) / 32 = (m : Int) := by omega
  have en2 : (n : Int) % 32 = (k : Int) := by omega
  have en3 : (n : Int).tdiv 32 = (m : Int) := by rw [Int.tdiv_eq_ediv_of_nonneg (by omega)]; exact en1
  have en4 : (n : Int).tmod 32 = (k : Int) := by rw [Int.tmod_eq_emod_of_nonneg (by omega)]; exact en2
  have hk32 : k < 32 := by omega
  have HN := Lib.hid (show 2 ^ n = BB ^ m * 2 ^ k by rw [BB_pow, ← Nat.pow_add]; congr 1; omega)
  clear hm hk
  have tc := trim_c a ca l w ha
  have ht := ha.trim
  have HV := Lib.hid (val_trim l)
  have hl1 := Nat.le_trans (trim_len l) h1
  generalize trimL l = T at *
  have hn0 : decide ((n : Int) < 0) = false := by simp
  by_cases hmT : T.length ≤ m
  · have HZ := Lib.hid (show val l / 2 ^ n = 0 by
      apply Nat.div_eq_of_lt
      rw [← HV.out, HN.out]
      have h2 := val_lt ht.2.2.1
      have h3 : BB ^ T.length ≤ BB ^ m := Nat.pow_le_pow_right BB_pos hmT
      have h4 : BB ^ m * 1 ≤ BB ^ m * 2 ^ k := Nat.mul_le_mul_left _ (Nat.pow_pos (by omega))
      omega)
    go_enter Tryz.func173, Tryz.ntmps173
    go_wp2_with fail
    refine tc.mono ?_
    rintro e w1 ⟨rfl, rfl⟩
    clear tc
    go_wp2
    go_ret2
    exact ⟨⟨_, rfl, by rw [HZ.out]; exact newL_nil _⟩, Below.refl _ _⟩
  · have hmT' : decide (T.length ≤ m) = false := by simp; omega
    rcases ht.2.2.2 with ht0 | ⟨b, off, rfl, hca⟩
    · subst ht0; simp at hmT
    have htl := ht.2.2.1
    have hd1 := limbs_drop htl m
    have HD := Lib.hid (show val (shrL k (T.drop m)) = val l / 2 ^ n by rw [shrL_val k hk32 _ hd1, val_drop htl (by omega), HV.out, HN.out, Nat.div_div_eq_div_mul])
    obtain ⟨D, hD⟩ : ∃ D, D = T.drop m := ⟨_, rfl⟩
    have hDl : D.length = T.length - m := by rw [hD, List.length_drop]
    have hcd : ∀ i, i < D.length → w.cell? ⟨b, off + m + i, none⟩ = some (.int .u32 (D.getD i 0 : Nat)) := fun i hi => by
      have := hca (m + i) (by omega)
      rw [hD, Nat.add_assoc, this]
      simp [List.getD_eq_getElem?_getD, List.getElem?_drop]
    rw [← hD] at HD hd1
    have HCD := Lib.hid hcd
    have hcap : ¬ T.length = m := by omega
    have hmk := mk32 D.length (by omega)
    have eD : ((T.length : Int) - (m : Int)) = (D.length : Int) := by omega
    have eD2 : T.length - m = D.length := hDl.symm
    have hDp : 0 < D.length := by omega
    clear hD hDl hcd HN HV
    go_enter Tryz.func173, Tryz.ntmps173
    go_wp2_with fail
    refine tc.mono ?_
    rintro e w1 ⟨rfl, rfl⟩
    clear tc
    go_wp2
    go_loopw [31] (fun x wr => ∃ (i : Nat) (O : List Nat), i ≤ D.length ∧ x = .int .i64 i ∧ Blk wr w.heap.size O ∧ Hid (O = (shrL k D).take i ++ List.replicate (D.length - i) 0) ∧ Below w.heap.size w wr) (fun x _ => D.length - (intOf x).toNat)
    case atStart => exact ⟨0, _, Nat.zero_le _, rfl, blk_new w (List.replicate D.length 0), Lib.hid (by simp), bal (Below.refl _ _) _⟩
    case round =>
      obtain ⟨i, O, hi, rfl, hO, hOe, hB⟩ := hrel
      have hol : O.length = D.length := by rw [hOe.out]; simp [shrL_len]; omega
      by_cases hlt : i < D.length
      · have c0 := bkeep hB (HCD.out i hlt)
        have hx := limb_get hd1 i
        have HG := Lib.hid (shrL_get k D i hlt)
        have q0 := hO.cell i (by omega)
        have qf := hO.frozen i
        have e1 := w64 (BB_sq _ hx)
        by_cases hl2 : i + 1 < D.length
        · have d0 := bkeep hB (HCD.out (i + 1) hl2)
          have hy := limb_get hd1 (i + 1)
          generalize D.getD i 0 = x at *
          generalize D.getD (i + 1) 0 = y at *
          have e2 := w64 (BB_sq y hy)
          have eor : bits .or .u64 (x : Int) ((y : Int) * 4294967296) = ((x + y * BB : Nat) : Int) := by
            have e : (y : Int) * 4294967296 = ((y * BB : Nat) : Int) := by rw [Int.natCast_mul]; rfl
            have h := hi_or hy hx
            have hb : y * BB < 18446744073709551616 := by unfold BB at *; omega
            rw [u64_or_nat _ _ hb (by unfold BB at hx; omega)] at h
            rw [e, u64_or_nat _ _ (by unfold BB at hx; omega) hb, Nat.or_comm, h, Nat.add_comm]
          have hyl : (y : Int) < 4294967296 := by unfold BB at hy; omega
          have hl3 : (i : Int) + 1 < (D.length : Int) := by omega
          generalize x + y * BB = t at *
          have e3 : (t : Int) / 2 ^ k = ((t / 2 ^ k : Nat) : Int) := by rw [show (2 : Int) ^ k = ((2 ^ k : Nat) : Int) by rw [Int.natCast_pow]; rfl]; rfl
          have hr2 : (shrL k D).getD i 0 = t / 2 ^ k % BB := HG.out
          have e4 : ((t / 2 ^ k : Nat) : Int) % 4294967296 = ((t / 2 ^ k % BB : Nat) : Int) := by unfold BB; omega
          generalize t / 2 ^ k = q at *
          generalize hrr : q % BB = r at *
          have HR := Lib.hid hr2
          have qb := hO.set i r
          have bs := bset hB (p := ⟨w.heap.size, i, none⟩) (Nat.le_refl _) (.int .u32 (r : Int))
          clear hr2 hrr hol HG
          go_wp2
          exact ⟨⟨i + 1, _, by omega, by go_num, qb, Lib.hid (by rw [hOe.out, ← HR.out]; exact set_fill (shrL_len k D) hlt), bs⟩, by simp [intOf] <;> omega⟩
        · have hy0 : D.getD (i + 1) 0 = 0 := by simp [hl2]
          rw [hy0, Nat.zero_mul, Nat.add_zero] at HG
          have hl3 : decide ((i : Int) + 1 < (D.length : Int)) = false := by simp; omega
          generalize D.getD i 0 = x at *
          clear hy0
          obtain ⟨t, ht2⟩ : ∃ t, t = x := ⟨_, rfl⟩
          subst ht2
          have e3 : (t : Int) / 2 ^ k = ((t / 2 ^ k : Nat) : Int) := by rw [show (2 : Int) ^ k = ((2 ^ k : Nat) : Int) by rw [Int.natCast_pow]; rfl]; rfl
          have hr2 : (shrL k D).getD i 0 = t / 2 ^ k % BB := HG.out
          have e4 : ((t / 2 ^ k : Nat) : Int) % 4294967296 = ((t / 2 ^ k % BB : Nat) : Int) := by unfold BB; omega
          generalize t / 2 ^ k = q at *
          generalize hrr : q % BB = r at *
          have HR := Lib.hid hr2
          have qb := hO.set i r
          have bs := bset hB (p := ⟨w.heap.size, i, none⟩) (Nat.le_refl _) (.int .u32 (r : Int))
          clear hr2 hrr hol HG
          go_wp2
          exact ⟨⟨i + 1, _, by omega, by go_num, qb, Lib.hid (by rw [hOe.out, ← HR.out]; exact set_fill (shrL_len k D) hlt), bs⟩, by simp [intOf] <;> omega⟩
      · obtain rfl : i = D.length := by omega
        have hLs := shrL_len k D
        have hOe2 : O = shrL k D := by rw [hOe.out, List.take_of_length_le (by omega)]; simp
        have hOL : Limbs O := by rw [hOe2]; exact shrL_limbs k D
        have HV := Lib.hid (show val O = val l / 2 ^ n by rw [hOe2]; exact HD.out)
        have hu := hO.u32 hOL (by rw [hol]; unfold maxLen; omega)
        have tc := trim_c _ _ _ _ hu
        have HT := Lib.hid (val_trim O)
        have HNr := trim_nrm O
        have hu2 := hu.trim
        generalize trimL O = T2 at *
        rw [hol] at tc
        clear hOe hOe2 hu hol hLs
        go_wp2_with fail
        refine tc.mono ?_
        rintro e w1 ⟨rfl, rfl⟩
        clear tc
        go_wp2
        go_ret2
        exact ⟨⟨_, rfl, _, _, T2, rfl, rfl, hu2, HNr, by rw [HT.out, HV.out]⟩, hB⟩
end Go.Proofs.YthaohpfbengabaaGreatDoor

/- Contracts of Go's library, laid from the shelf (printed by wip/bin/mk_sh.sh): math/bits, strings.Builder, strings.TrimLeft. -/
namespace Go.Proofs.YthaohpfbengabaaGreatDoor
open Num
open Go.ChangeShapes Go.WideShapes Go.ChangeAt Go.RowKit
set_option linter.unusedVariables false
def sh_lays169_ren : Go.Shelf.Ren := ⟨fun | 169 => 137 | n => n, fun | 70 => 179 | 9 => 9 | 0 => 0 | 72 => 181 | 37 => 163 | 127 => 210 | 3 => 3 | 5 => 5 | n => n, fun | n => n⟩
theorem sh_lays169 : Go.Proofs.Lays.n169 Tryz.prog sh_lays169_ren := {
  mixed := by kernel_rfl
  f169 := Tryz.func137.trans (congrArg some (by kernel_rfl))
  t0 := Tryz.underlying0
  a0 := Tryz.isAgg0
  z0 := Tryz.sizeOf0
  v0 := Tryz.zeroValue0
  t3 := Tryz.underlying3
  a3 := Tryz.isAgg3
  z3 := Tryz.sizeOf3
  v3 := Tryz.zeroValue3
  t9 := Tryz.underlying9
  a9 := Tryz.isAgg9
  z9 := Tryz.sizeOf9
  v9 := Tryz.zeroValue9
  t37 := Tryz.underlying163
  a37 := Tryz.isAgg163
  z37 := Tryz.sizeOf163
  v37 := Tryz.zeroValue163
  t70 := Tryz.underlying179
  a70 := Tryz.isAgg179
  z70 := Tryz.sizeOf179
  v70 := Tryz.zeroValue179
  t72 := Tryz.underlying181
  a72 := Tryz.isAgg181
  z72 := Tryz.sizeOf181
  v72 := Tryz.zeroValue181
  t127 := Tryz.underlying210
  a127 := Tryz.isAgg210
  z127 := Tryz.sizeOf210
  v127 := Tryz.zeroValue210 }
theorem sh_Builder_Extra_169 : Go.Proofs.Builder.Extra Tryz.prog sh_lays169_ren := {
  sizeBuilder := by kernel_rfl
  liesBuilder := by kernel_rfl
  t5 := Tryz.underlying5
  a5 := Tryz.isAgg5
  z5 := Tryz.sizeOf5
  v5 := Tryz.zeroValue5
  infoByte := by kernel_rfl
  cellsByte := by kernel_rfl
  sizeByte := by kernel_rfl
  neB5 := by decide }
def sh_lays161_ren : Go.Shelf.Ren := ⟨fun | 161 => 176 | 231 => 184 | 227 => 185 | 233 => 186 | 235 => 187 | 228 => 190 | 197 => 191 | 151 => 192 | 260 => 194 | 152 => 195 | 137 => 157 | 119 => 196 | 224 => 197 | 225 => 198 | 217 => 177 | 266 => 188 | n => n, fun | 9 => 9 | 4 => 4 | 3 => 3 | 5 => 5 | 117 => 230 | 116 => 229 | 0 => 0 | 124 => 233 | 105 => 236 | 21 => 21 | 119 => 241 | 46 => 134 | 139 => 244 | 138 => 243 | n => n, fun | 3 => 1 | 4 => 2 | n => n⟩
theorem sh_lays161 : Go.Proofs.Lays.n161 Tryz.prog sh_lays161_ren := {
  mixed := by kernel_rfl
  f119 := Tryz.func196.trans (congrArg some (by kernel_rfl))
  f137 := Tryz.func157.trans (congrArg some (by kernel_rfl))
  f151 := Tryz.func192.trans (congrArg some (by kernel_rfl))
  f152 := Tryz.func195.trans (congrArg some (by kernel_rfl))
  f161 := Tryz.func176.trans (congrArg some (by kernel_rfl))
  f197 := Tryz.func191.trans (congrArg some (by kernel_rfl))
  f217 := Tryz.func177.trans (congrArg some (by kernel_rfl))
  f224 := Tryz.func197.trans (congrArg some (by kernel_rfl))
  f225 := Tryz.func198.trans (congrArg some (by kernel_rfl))
  f227 := Tryz.func185.trans (congrArg some (by kernel_rfl))
  f228 := Tryz.func190.trans (congrArg some (by kernel_rfl))
  f231 := Tryz.func184.trans (congrArg some (by kernel_rfl))
  f233 := Tryz.func186.trans (congrArg some (by kernel_rfl))
  f235 := Tryz.func187.trans (congrArg some (by kernel_rfl))
  f260 := Tryz.func194.trans (congrArg some (by kernel_rfl))
  f266 := Tryz.func188.trans (congrArg some (by kernel_rfl))
  t0 := Tryz.underlying0
  a0 := Tryz.isAgg0
  z0 := Tryz.sizeOf0
  v0 := Tryz.zeroValue0
  t3 := Tryz.underlying3
  a3 := Tryz.isAgg3
  z3 := Tryz.sizeOf3
  v3 := Tryz.zeroValue3
  t4 := Tryz.underlying4
  a4 := Tryz.isAgg4
  z4 := Tryz.sizeOf4
  v4 := Tryz.zeroValue4
  t5 := Tryz.underlying5
  a5 := Tryz.isAgg5
  z5 := Tryz.sizeOf5
  v5 := Tryz.zeroValue5
  t9 := Tryz.underlying9
  a9 := Tryz.isAgg9
  z9 := Tryz.sizeOf9
  v9 := Tryz.zeroValue9
  t21 := Tryz.underlying21
  a21 := Tryz.isAgg21
  z21 := Tryz.sizeOf21
  v21 := Tryz.zeroValue21
  t46 := Tryz.underlying134
  a46 := Tryz.isAgg134
  z46 := Tryz.sizeOf134
  v46 := Tryz.zeroValue134
  t105 := Tryz.underlying236
  a105 := Tryz.isAgg236
  z105 := Tryz.sizeOf236
  v105 := Tryz.zeroValue236
  t116 := Tryz.underlying229
  a116 := Tryz.isAgg229
  z116 := Tryz.sizeOf229
  t117 := Tryz.underlying230
  a117 := Tryz.isAgg230
  z117 := Tryz.sizeOf230
  v117 := Tryz.zeroValue230
  t119 := Tryz.underlying241
  a119 := Tryz.isAgg241
  z119 := Tryz.sizeOf241
  t124 := Tryz.underlying233
  a124 := Tryz.isAgg233
  z124 := Tryz.sizeOf233
  v124 := Tryz.zeroValue233
  t138 := Tryz.underlying243
  a138 := Tryz.isAgg243
  z138 := Tryz.sizeOf243
  v138 := Tryz.zeroValue243
  t139 := Tryz.underlying244
  a139 := Tryz.isAgg244
  z139 := Tryz.sizeOf244
  v139 := Tryz.zeroValue244
  g3 := by kernel_rfl
  g4 := by kernel_rfl }
def sh_lays133_ren : Go.Shelf.Ren := ⟨fun | 133 => 170 | 128 => 181 | n => n, fun | 51 => 133 | 3 => 3 | 4 => 4 | 46 => 134 | 5 => 5 | 9 => 9 | n => n, fun | n => n⟩
theorem sh_lays133 : Go.Proofs.Lays.n133 Tryz.prog sh_lays133_ren := {
  mixed := by kernel_rfl
  f128 := Tryz.func181.trans (congrArg some (by kernel_rfl))
  f133 := Tryz.func170.trans (congrArg some (by kernel_rfl))
  t3 := Tryz.underlying3
  a3 := Tryz.isAgg3
  z3 := Tryz.sizeOf3
  v3 := Tryz.zeroValue3
  t4 := Tryz.underlying4
  a4 := Tryz.isAgg4
  z4 := Tryz.sizeOf4
  v4 := Tryz.zeroValue4
  t5 := Tryz.underlying5
  a5 := Tryz.isAgg5
  z5 := Tryz.sizeOf5
  v5 := Tryz.zeroValue5
  t9 := Tryz.underlying9
  a9 := Tryz.isAgg9
  z9 := Tryz.sizeOf9
  v9 := Tryz.zeroValue9
  t46 := Tryz.underlying134
  a46 := Tryz.isAgg134
  z46 := Tryz.sizeOf134
  v46 := Tryz.zeroValue134
  t51 := Tryz.underlying133
  a51 := Tryz.isAgg133
  z51 := Tryz.sizeOf133
  v51 := Tryz.zeroValue133 }

def sh_lays166_ren : Go.Shelf.Ren := ⟨fun | 166 => 136 | 240 => 164 | 276 => 179 | n => n, fun | 0 => 0 | 3 => 3 | 4 => 4 | 5 => 5 | 9 => 9 | 20 => 20 | 37 => 163 | 70 => 179 | 72 => 181 | 75 => 184 | 80 => 66 | 164 => 223 | n => n, fun n => n⟩
theorem sh_lays166 : Go.Proofs.Lays.n166 Tryz.prog sh_lays166_ren := {
  mixed := by kernel_rfl
  f166 := Tryz.func136.trans (congrArg some (by kernel_rfl))
  f240 := Tryz.func164.trans (congrArg some (by kernel_rfl))
  f276 := Tryz.func179.trans (congrArg some (by kernel_rfl))
  t0 := Tryz.underlying0
  a0 := Tryz.isAgg0
  z0 := Tryz.sizeOf0
  v0 := Tryz.zeroValue0
  t3 := Tryz.underlying3
  a3 := Tryz.isAgg3
  z3 := Tryz.sizeOf3
  v3 := Tryz.zeroValue3
  t4 := Tryz.underlying4
  a4 := Tryz.isAgg4
  z4 := Tryz.sizeOf4
  v4 := Tryz.zeroValue4
  t9 := Tryz.underlying9
  a9 := Tryz.isAgg9
  z9 := Tryz.sizeOf9
  v9 := Tryz.zeroValue9
  t20 := Tryz.underlying20
  a20 := Tryz.isAgg20
  z20 := Tryz.sizeOf20
  v20 := Tryz.zeroValue20
  t37 := Tryz.underlying163
  a37 := Tryz.isAgg163
  z37 := Tryz.sizeOf163
  v37 := Tryz.zeroValue163
  t70 := Tryz.underlying179
  a70 := Tryz.isAgg179
  z70 := Tryz.sizeOf179
  v70 := Tryz.zeroValue179
  t72 := Tryz.underlying181
  a72 := Tryz.isAgg181
  z72 := Tryz.sizeOf181
  v72 := Tryz.zeroValue181
  t75 := Tryz.underlying184
  a75 := Tryz.isAgg184
  z75 := Tryz.sizeOf184
  v75 := Tryz.zeroValue184
  t164 := Tryz.underlying223
  a164 := Tryz.isAgg223
  z164 := Tryz.sizeOf223
  v164 := Tryz.zeroValue223 }
theorem sh_Builder_Extra_166 : Go.Proofs.Builder.Extra Tryz.prog sh_lays166_ren := {
  sizeBuilder := by kernel_rfl
  liesBuilder := by kernel_rfl
  t5 := Tryz.underlying5
  a5 := Tryz.isAgg5
  z5 := Tryz.sizeOf5
  v5 := Tryz.zeroValue5
  infoByte := by kernel_rfl
  cellsByte := by kernel_rfl
  sizeByte := by kernel_rfl
  neB5 := by decide }

theorem lz32_c (x : Nat) (w : World) (h : x < BB) :
    Calls Tryz.prog 170 #[.int .u32 (x : Int)] w fun e w' => e = .returned (.int .i64 (32 - (bitN x : Int))) ∧ w = w' := by
  unfold BB at h
  have := Go.Proofs.Any.bits_LeadingZeros32 sh_lays133 (x : Int) w (by omega) (by omega)
  rw [Int.toNat_natCast, bitLen_eq x (by omega)] at this
  refine this.mono ?_
  rintro e w' ⟨rfl, rfl⟩
  exact ⟨rfl, rfl⟩
/-- a builder of the call's own that holds the bytes l -/
def Bld (B b : Nat) (l : List UInt8) (w : World) : Prop := Lib.IsBuilder 181 5 B b (Lib.byteCells l) w
theorem bytes_str (s : ByteArray) : Lib.strCells s = Lib.byteCells s.data.toList := rfl
theorem bytes_app (l m : List UInt8) : Lib.byteCells (l ++ m) = Lib.byteCells l ++ Lib.byteCells m := by simp [Lib.byteCells]
theorem bwrite_c (B b : Nat) (l : List UInt8) (s : ByteArray) (w : World) (h : Bld B b l w) (hlen : l.length + s.size ≤ 1099511627776) (hB : B ≤ w.heap.size) :
    Calls Tryz.prog 136 #[.pointer (some ⟨b, 0, none⟩), .string s] w fun e w' => e = .returned (.tuple #[.int .i64 s.size, .nilIface]) ∧ Bld B b (l ++ s.data.toList) w' ∧ Below B w w' := by
  refine (Go.Proofs.Any.Builder_WriteString sh_lays166 sh_Builder_Extra_166 B b (Lib.byteCells l) s w h (by rw [Lib.byteCells_length]; omega) hB).mono ?_
  rintro e w' ⟨rfl, h1, h2⟩
  refine ⟨rfl, ?_, h2⟩
  unfold Bld
  rw [bytes_app, ← bytes_str]
  exact .inr h1
theorem bstring_c (B b : Nat) (l : List UInt8) (w : World) (h : Bld B b l w) (hB : B ≤ w.heap.size) :
    Calls Tryz.prog 137 #[.pointer (some ⟨b, 0, none⟩)] w fun e w' => e = .returned (.string ⟨l.toArray⟩) ∧ Below B w w' :=
  Go.Proofs.Any.Builder_String_any sh_lays169 sh_Builder_Extra_169 B b l w h hB
theorem trimLeft_c (s : ByteArray) (w : World) :
    Calls Tryz.prog 176 #[.string s, .string ⟨#[48]⟩] w fun e w' => e = .returned (.string ⟨(Lib.trimLeftB s.data.toList 48).toArray⟩) ∧ w = w' := by
  refine (Go.Proofs.Any.strings_TrimLeft_one sh_lays161 s 48 (by decide) w).mono ?_
  rintro e w' ⟨rfl, rfl⟩
  exact ⟨rfl, rfl⟩
end Go.Proofs.YthaohpfbengabaaGreatDoor

