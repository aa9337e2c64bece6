/- Texts of this seat, laid together: Row, RowH, VmA, NumS, Kn. Each opens with its own remark, which says what it proves, and under which conditions. -/
import Derived.Test.YtbmaffijncapiaaGreatDoorD04
import Derived.OneCell
import Derived.Laws.AppendOwn
import Derived.Test.YtbmaffijncapiaaGreatDoorD02
set_option linter.unusedVariables false
set_option linter.unusedSimpArgs false
/- Rows of numbers as values; rows of rows. 'Kp S w w'': the blocks of the types S are as they were. -/
namespace Go.Proofs.YtbmaffijncapiaaGreatDoor
open Num
open Go.ChangeShapes Go.WideShapes Go.ChangeAt Go.RowKit
set_option linter.unusedVariables false
set_option linter.unusedSimpArgs false
def Kp (S : TypeId → Prop) (w w' : World) : Prop := ∀ b t, typOf w b = some t → S t → w'.heap[b]? = w.heap[b]?
section
variable {S : TypeId → Prop} {a b c w w' : World}
theorem Kp.refl (S : TypeId → Prop) (w : World) : Kp S w w := fun _ _ _ _ => rfl
theorem Kp.trans (h : Kp S a b) (k : Kp S b c) : Kp S a c := fun q t ht hs => (k q t (by rw [typ_of_block (w := a) (h q t ht hs)]; exact ht) hs).trans (h q t ht hs)
theorem Kp.of_below (S : TypeId → Prop) (h : Below a.heap.size a b) : Kp S a b := fun q t ht _ => h.block q (typ_lt ht)
theorem Kp.below (h : Kp S a b) (k : Below b.heap.size b c) : Kp S a c := h.trans (.of_below S k)
theorem Kp.alloc (h : Kp S a b) (o : Obj) : Kp S a (b.alloc o) := h.below (bal (Below.refl _ _) o)
theorem Kp.drew (h : Kp S a b) : Kp S a b.drew := h
theorem Kp.drewN (h : Kp S a b) (n : Nat) : Kp S a (b.drewN n) := h
theorem Kp.grown {row : Option Nat} (h : Kp S a b) (hg : b.grownBy c row) (hr : ∀ g, row = some g → ∀ t, typOf b g = some t → ¬ S t) : Kp S a c :=
  h.trans fun q t ht hs => hg.block q (typ_lt ht) fun e => hr q e.symm t ht hs
theorem Kp.set (h : Kp S a b) {p : Addr} (hp : ∀ t, typOf b p.block = some t → ¬ S t) (u : Value) : Kp S a (b.setCell p u) :=
  h.trans fun q t ht hs => Below.heap_setCell _ _ _ _ fun e => hp t (by rw [← e]; exact ht) hs
theorem Kp.lim (h : Kp S a b) (hs : S 177) : Lim a b := fun q ht => by
  have e := h q _ ht hs
  exact ⟨by rw [typ_of_block (w := a) e]; exact ht, fun o n hc => by rw [World.cell?_of_block (w := a) e]; exact hc⟩
theorem Kp.typ (h : Kp S a b) {q : Nat} {t : TypeId} (ht : typOf a q = some t) (hs : S t) : typOf b q = some t := by rw [typ_of_block (w := a) (h q t ht hs)]; exact ht
theorem Kp.out {X : Nat → Prop} (h : Out X a b) (hx : ∀ q t, X q → typOf a q = some t → ¬ S t) : Kp S a b := fun q t ht hs => h.block q (typ_lt ht) fun hq => hx q t hq ht hs
end
def IsRow (R : World → Value → Int → Prop) (E : TypeId) (base : Nat) (w : World) (v : Value) (l : List Int) : Prop :=
  ∃ a c, v = .slice a l.length c ∧ l.length ≤ c ∧ c ≤ maxLen ∧ (l = [] ∨ ∃ b off, a = some ⟨b, off, none⟩ ∧ base ≤ b ∧ typOf w b = some E ∧ IntsF R w b off l.length (fun k => l.getD k 0))
def PRow := IsRow IsInt 50
def RRow := IsRow IsRef 56
section
variable {R : World → Value → Int → Prop} {E : TypeId} {base : Nat} {w w' : World} {v : Value} {l : List Int}
theorem IsRow.kp {S : TypeId → Prop} (hR : Lims R) (h : IsRow R E base w v l) (k : Kp S w w') (hs : S 177) (hE : S E) : IsRow R E base w' v l := by
  obtain ⟨a, c, h1, h2, h3, h4⟩ := h
  refine ⟨a, c, h1, h2, h3, h4.imp id ?_⟩
  rintro ⟨b, off, e, hb, ht, hi⟩
  exact ⟨b, off, e, hb, k.typ ht hE, hi.stay hR (k b _ ht hE) (k.lim hs)⟩
theorem IsRow.keep (hR : Lims R) (h : IsRow R E base w v l) (k : Below w.heap.size w w') : IsRow R E base w' v l := by
  obtain ⟨a, c, h1, h2, h3, h4⟩ := h
  refine ⟨a, c, h1, h2, h3, h4.imp id ?_⟩
  rintro ⟨b, off, e, hb, ht, hi⟩
  exact ⟨b, off, e, hb, typ_keep ht k, hi.keep hR k⟩
theorem IsRow.rebase {base' : Nat} (h : IsRow R E base w v l) (hb : base' ≤ base) : IsRow R E base' w v l := by
  obtain ⟨a, c, h1, h2, h3, h4⟩ := h
  refine ⟨a, c, h1, h2, h3, h4.imp id ?_⟩
  rintro ⟨b, off, e, hb', r⟩
  exact ⟨b, off, e, Nat.le_trans hb hb', r⟩
theorem IsRow.nil (R : World → Value → Int → Prop) (E : TypeId) (base : Nat) (w : World) : IsRow R E base w (.slice none 0 0) [] := ⟨none, 0, rfl, Nat.le_refl _, by unfold maxLen; omega, .inl rfl⟩
theorem OwnF.row {w0 wr : World} (h : OwnF R E w0 wr v l.length (fun k => l.getD k 0)) : IsRow R E w0.heap.size wr v l := by
  obtain ⟨xs, ⟨⟨hl, h1⟩, hB⟩, h2⟩ := h
  rcases h1 with ⟨rfl, h0⟩ | ⟨g, cap, cur, rfl, hg, hh, hc, hm, hs, ht⟩
  · have : l = [] := List.length_eq_zero_iff.1 h0
    subst this
    exact IsRow.nil R E _ _
  · refine ⟨_, cap, rfl, hc, hm, .inr ⟨g, 0, rfl, hg, by unfold typOf; rw [hh], fun k hk => ?_⟩⟩
    obtain ⟨nb, a, len, c, k1, k2, k3⟩ := h2 k hk
    have cel : ∀ j u, xs[j]? = some u → wr.cell? ⟨g, j, none⟩ = some u := fun j u hj => by
      have hj2 : j < l.length * 2 := by have := (List.getElem?_eq_some_iff.1 hj).1; omega
      rw [← ht, List.getElem?_take_of_lt (by omega)] at hj
      simpa [World.cell?, hh] using hj
    exact ⟨nb, a, len, c, by rw [Nat.zero_add]; exact cel _ _ k1, by rw [Nat.zero_add]; exact cel _ _ k2, k3⟩
end
section
variable {R : World → Value → Int → Prop} {E T : TypeId} {base : Nat} {w w' : World} {v : Value} {g : List (List Int)}
end
section
variable {R : World → Value → Int → Prop} {E T : TypeId} {base : Nat} {w0 wr w' : World} {v : Value} {g : List (List Int)}
end
section
variable {P : Program} {TT T E : TypeId} {base bytes : Nat} {R : World → Value → Int → Prop} {ops : Array Oper} {o : Oper} {a : Act} {Q : Exit → Act → World → Prop} {w0 wr : World} {v u : Value} {g : List (List Int)} {l : List Int} {t : TypeId} {s x : Operand} {cc : Nat}
end
end Go.Proofs.YtbmaffijncapiaaGreatDoor

/- Lists of one-cell values in memory, whatever each of them stands for: 'Pr w v x'. Rows of numbers of the call's own. -/
namespace Go.Proofs.YtbmaffijncapiaaGreatDoor
open Num
open Go.ChangeShapes Go.WideShapes Go.ChangeAt Go.RowKit
set_option linter.unusedVariables false
set_option linter.unusedSimpArgs false
section
variable {S : TypeId → Prop} {w w' : World}
theorem Kp.cell (k : Kp S w w') {b o : Nat} {s : Option Nat} {t : TypeId} {v : Value} (ht : typOf w b = some t) (hs : S t) (h : w.cell? ⟨b, o, s⟩ = some v) : w'.cell? ⟨b, o, s⟩ = some v := by
  rw [World.cell?_of_block (w := w) (k b t ht hs)]; exact h
theorem Kp.frz (k : Kp S w w') {b o : Nat} {s : Option Nat} {t : TypeId} (ht : typOf w b = some t) (hs : S t) (h : w.frozen? ⟨b, o, s⟩ = false) : w'.frozen? ⟨b, o, s⟩ = false := by
  rw [World.frozen?_of_block (w := w) (k b t ht hs)]; exact h
theorem Kp.weak {T : TypeId → Prop} (k : Kp S w w') (h : ∀ t, T t → S t) : Kp T w w' := fun b t ht hs => k b t ht (h t hs)
end
def RowO (R : World → Value → Int → Prop) (E : TypeId) (base : Nat) (w : World) (v : Value) (l : List Int) : Prop :=
  ∃ xs, w.ownsRow base E 2 v l.length xs ∧ ∀ k, k < l.length → ∃ nb a len c, xs[k * 2]? = some (.bool nb) ∧ xs[k * 2 + 1]? = some (.slice a len c) ∧ R w (.agg #[.bool nb, .slice a len c]) (l.getD k 0)
section
variable {R : World → Value → Int → Prop} {E : TypeId} {base : Nat} {w w' w0 : World} {v : Value} {l : List Int}
theorem own_typ' {T : TypeId} {size n : Nat} {xs : List Value} (h : w.ownsRow base T size v n xs) {g : Nat} (hg : v.ownBlock = some g) : typOf w g = some T := by
  rcases h.2 with ⟨rfl, _⟩ | ⟨g', c, cur, rfl, _, hh, _⟩
  · simp [Value.ownBlock] at hg
  · simp [Value.ownBlock] at hg
    subst hg
    unfold typOf; rw [hh]
theorem owns_kp {S : TypeId → Prop} {T : TypeId} {size n : Nat} {xs : List Value} (h : w.ownsRow base T size v n xs) (k : Kp S w w') (hT : S T) : w'.ownsRow base T size v n xs := by
  refine ⟨h.1, ?_⟩
  rcases h.2 with h2 | ⟨g, cap, cur, rfl, hg, hh, r⟩
  · exact .inl h2
  · exact .inr ⟨g, cap, cur, rfl, hg, by rw [k g T (by unfold typOf; rw [hh]) hT]; exact hh, r⟩
theorem RowO.row (h : RowO R E base w v l) : IsRow R E base w v l := by
  obtain ⟨xs, ⟨hl, h1⟩, h2⟩ := h
  rcases h1 with ⟨rfl, h0⟩ | ⟨g, cap, cur, rfl, hg, hh, hc, hm, hs, ht⟩
  · have : l = [] := List.length_eq_zero_iff.1 h0
    subst this
    exact IsRow.nil R E _ _
  · refine ⟨_, cap, rfl, hc, hm, .inr ⟨g, 0, rfl, hg, by unfold typOf; rw [hh], fun k hk => ?_⟩⟩
    obtain ⟨nb, a, len, c, k1, k2, k3⟩ := h2 k hk
    have cel : ∀ j u, xs[j]? = some u → w.cell? ⟨g, j, none⟩ = some u := fun j u hj => by
      have hj2 : j < l.length * 2 := by have := (List.getElem?_eq_some_iff.1 hj).1; omega
      rw [← ht, List.getElem?_take_of_lt (by omega)] at hj
      simpa [World.cell?, hh] using hj
    exact ⟨nb, a, len, c, by rw [Nat.zero_add]; exact cel _ _ k1, by rw [Nat.zero_add]; exact cel _ _ k2, k3⟩
theorem RowO.nil (R : World → Value → Int → Prop) (E : TypeId) (base : Nat) (w : World) : RowO R E base w (.slice none 0 0) [] := ⟨[], World.ownsRow_nil _ _ _ _, fun k hk => absurd hk (by simp)⟩
theorem RowO.kp {S : TypeId → Prop} (hR : Lims R) (h : RowO R E base w v l) (k : Kp S w w') (hs : S 177) (hE : S E) : RowO R E base w' v l := by
  obtain ⟨xs, h1, h2⟩ := h
  refine ⟨xs, owns_kp h1 k hE, fun j hj => ?_⟩
  obtain ⟨nb, a, len, c, k1, k2, k3⟩ := h2 j hj
  exact ⟨nb, a, len, c, k1, k2, hR _ _ _ _ k3 (k.lim hs)⟩
theorem RowO.keep (hR : Lims R) (h : RowO R E base w v l) (k : Below w.heap.size w w') : RowO R E base w' v l := h.kp (S := fun _ => True) hR (Kp.of_below _ k) trivial trivial
theorem RowO.rebase {base' : Nat} (h : RowO R E base w v l) (hb : base' ≤ base) : RowO R E base' w v l := by
  obtain ⟨xs, ⟨hl, h1⟩, h2⟩ := h
  refine ⟨xs, ⟨hl, ?_⟩, h2⟩
  rcases h1 with h1 | ⟨g, cap, cur, hv, hg, r⟩
  · exact .inl h1
  · exact .inr ⟨g, cap, cur, hv, Nat.le_trans hb hg, r⟩
theorem OwnF.rowO (h : OwnF R E w0 w v l.length (fun k => l.getD k 0)) : RowO R E w0.heap.size w v l := by
  obtain ⟨xs, h1, h2⟩ := h
  exact ⟨xs, h1.1, h2⟩
theorem RowO.ex (h : RowO R E base w v l) : ∃ a c, v = .slice a l.length c := by
  obtain ⟨a, c, h1, _⟩ := h.row; exact ⟨a, c, h1⟩
end
theorem IsRow.view {R : World → Value → Int → Prop} {E : TypeId} {base : Nat} {w : World} {v : Value} {l : List Int} (h : IsRow R E base w v l) : ∃ a c, v = .slice a l.length c ∧ l.length ≤ c ∧ ∀ j, j < l.length → ∃ b off nb ad len cp, a = some ⟨b, off, none⟩ ∧ w.cell? ⟨b, off + j * 2, none⟩ = some (.bool nb) ∧ w.cell? ⟨b, off + j * 2 + 1, none⟩ = some (.slice ad len cp) ∧ R w (.agg #[.bool nb, .slice ad len cp]) (l.getD j 0) := by
  obtain ⟨a, c, h1, h2, h3, h4⟩ := h
  refine ⟨a, c, h1, h2, fun j hj => ?_⟩
  rcases h4 with h4 | ⟨b, off, ha, hb, ht, hi⟩
  · rw [h4] at hj; simp at hj
  · obtain ⟨nb, ad, len, cp, k1, k2, k3⟩ := hi j hj
    exact ⟨b, off, nb, ad, len, cp, ha, k1, k2, k3⟩
structure Prs {α : Type} (S : TypeId → Prop) (Pr : World → Value → α → Prop) : Prop where
  one : ∀ {w v x}, Pr w v x → v.oneCell' = true
  kp : ∀ {w w' v x}, Pr w v x → Kp S w w' → Pr w' v x
theorem prs_rowO {R : World → Value → Int → Prop} (hR : Lims R) (E : TypeId) (base : Nat) : Prs (fun t => t = 177 ∨ t = E) (RowO R E base) :=
  ⟨fun h => by obtain ⟨a, c, rfl⟩ := h.ex; rfl, fun h k => h.kp hR k (.inl rfl) (.inr rfl)⟩
theorem prs_row {R : World → Value → Int → Prop} (hR : Lims R) (E : TypeId) (base : Nat) : Prs (fun t => t = 177 ∨ t = E) (IsRow R E base) :=
  ⟨fun h => by obtain ⟨a, c, rfl, _⟩ := h; rfl, fun h k => h.kp hR k (.inl rfl) (.inr rfl)⟩
def IsL {α : Type} (T : TypeId) (Pr : World → Value → α → Prop) (base : Nat) (w : World) (v : Value) (g : List α) : Prop :=
  ∃ a c, v = .slice a g.length c ∧ g.length ≤ c ∧ c ≤ maxLen ∧ (g = [] ∨ ∃ b off, a = some ⟨b, off, none⟩ ∧ base ≤ b ∧ typOf w b = some T ∧ ∀ k (hk : k < g.length), ∃ u, w.cell? ⟨b, off + k, none⟩ = some u ∧ Pr w u g[k])
def OwnL {α : Type} (T : TypeId) (Pr : World → Value → α → Prop) (w0 wr : World) (v : Value) (g : List α) : Prop :=
  ∃ xs, OwnE T 1 w0 wr v g.length xs ∧ ∀ k (hk : k < g.length), ∃ u, xs[k]? = some u ∧ Pr wr u g[k]
section
variable {α : Type} {S : TypeId → Prop} {T : TypeId} {Pr : World → Value → α → Prop} {base : Nat} {w w' w0 wr : World} {v u : Value} {g : List α} {x : α}
theorem IsL.kp {S' : TypeId → Prop} (hP : Prs S Pr) (h : IsL T Pr base w v g) (k : Kp S' w w') (hs : ∀ t, S t → S' t) (hT : S' T) : IsL T Pr base w' v g := by
  obtain ⟨a, c, h1, h2, h3, h4⟩ := h
  refine ⟨a, c, h1, h2, h3, h4.imp id ?_⟩
  rintro ⟨b, off, e, hb, ht, hi⟩
  refine ⟨b, off, e, hb, k.typ ht hT, fun j hj => ?_⟩
  obtain ⟨u, hu, hr⟩ := hi j hj
  exact ⟨u, k.cell ht hT hu, hP.kp hr (k.weak hs)⟩
theorem IsL.keep (hP : Prs S Pr) (h : IsL T Pr base w v g) (k : Below w.heap.size w w') : IsL T Pr base w' v g := h.kp (S' := fun _ => True) hP (Kp.of_below _ k) (fun _ _ => trivial) trivial
theorem IsL.mono {Q : World → Value → α → Prop} (h : IsL T Pr base w v g) (hq : ∀ u x, Pr w u x → Q w u x) : IsL T Q base w v g := by
  obtain ⟨a, c, h1, h2, h3, h4⟩ := h
  refine ⟨a, c, h1, h2, h3, h4.imp id ?_⟩
  rintro ⟨b, off, e, hb, ht, hi⟩
  exact ⟨b, off, e, hb, ht, fun j hj => by obtain ⟨u, hu, hr⟩ := hi j hj; exact ⟨u, hu, hq _ _ hr⟩⟩
theorem IsL.rebase {base' : Nat} (h : IsL T Pr base w v g) (hb : base' ≤ base) : IsL T Pr base' w v g := by
  obtain ⟨a, c, h1, h2, h3, h4⟩ := h
  refine ⟨a, c, h1, h2, h3, h4.imp id ?_⟩
  rintro ⟨b, off, e, hb', r⟩
  exact ⟨b, off, e, Nat.le_trans hb hb', r⟩
theorem IsL.nil (T : TypeId) (Pr : World → Value → α → Prop) (base : Nat) (w : World) : IsL T Pr base w (.slice none 0 0) [] := ⟨none, 0, rfl, Nat.le_refl _, by unfold maxLen; omega, .inl rfl⟩
theorem IsL.view (h : IsL T Pr base w v g) : ∃ a c, v = .slice a g.length c ∧ g.length ≤ c ∧ ∀ k (hk : k < g.length), ∃ b off u, a = some ⟨b, off, none⟩ ∧ w.cell? ⟨b, off + k, none⟩ = some u ∧ Pr w u g[k] := by
  obtain ⟨a, c, h1, h2, h3, h4⟩ := h
  refine ⟨a, c, h1, h2, fun k hk => ?_⟩
  rcases h4 with h4 | ⟨b, off, e, hb, ht, hi⟩
  · subst h4; simp at hk
  · obtain ⟨u, hu, hr⟩ := hi k hk
    exact ⟨b, off, u, e, hu, hr⟩
theorem OwnL.nil (T : TypeId) (Pr : World → Value → α → Prop) (hb : Below w0.heap.size w0 wr) : OwnL T Pr w0 wr (.slice none 0 0) [] := ⟨[], OwnE.nil _ _ hb, fun k hk => absurd hk (by simp)⟩
theorem OwnL.below (hP : Prs S Pr) (h : OwnL T Pr w0 wr v g) (hb : Below wr.heap.size wr w') : OwnL T Pr w0 w' v g := by
  obtain ⟨xs, h1, h2⟩ := h
  refine ⟨xs, h1.below hb, fun k hk => ?_⟩
  obtain ⟨u, hu, hr⟩ := h2 k hk
  exact ⟨u, hu, hP.kp hr (Kp.of_below _ hb)⟩
theorem OwnL.bel (h : OwnL T Pr w0 wr v g) : Below w0.heap.size w0 wr := by obtain ⟨xs, h1, _⟩ := h; exact h1.2
theorem OwnL.ex (h : OwnL T Pr w0 wr v g) : ∃ a c, v = .slice a g.length c := by
  obtain ⟨xs, ⟨⟨_, h1⟩, _⟩, _⟩ := h
  rcases h1 with ⟨rfl, h0⟩ | ⟨b, cap, cur, rfl, _⟩
  · exact ⟨none, 0, by rw [h0]⟩
  · exact ⟨_, _, rfl⟩
theorem OwnL.isL (h : OwnL T Pr w0 wr v g) : IsL T Pr w0.heap.size wr v g := by
  obtain ⟨xs, ⟨⟨hl, h1⟩, _⟩, h2⟩ := h
  rcases h1 with ⟨rfl, h0⟩ | ⟨b, cap, cur, rfl, hg, hh, hc, hm, hs, ht⟩
  · have : g = [] := List.length_eq_zero_iff.1 h0
    subst this
    exact IsL.nil _ _ _ _
  · refine ⟨_, cap, rfl, hc, hm, .inr ⟨b, 0, rfl, hg, by unfold typOf; rw [hh], fun k hk => ?_⟩⟩
    obtain ⟨u, hu, hr⟩ := h2 k hk
    refine ⟨u, ?_, hr⟩
    rw [← ht, List.getElem?_take_of_lt (by omega)] at hu
    simpa [World.cell?, hh] using hu
theorem OwnL.snoc (hP : Prs S Pr) {xs : List Value} {v' : Value} (h2 : ∀ k (hk : k < g.length), ∃ u, xs[k]? = some u ∧ Pr wr u g[k]) (hl : xs.length = g.length) (hu : Pr wr u x)
    (k : Kp S wr w') (hO : OwnE T 1 w0 w' v' (g.length + 1) (xs ++ [u])) : OwnL T Pr w0 w' v' (g ++ [x]) := by
  refine ⟨_, by simpa using hO, fun j hj => ?_⟩
  simp at hj
  by_cases e : j < g.length
  · obtain ⟨u', hu', hr⟩ := h2 j e
    exact ⟨u', by rw [List.getElem?_append_left (by omega)]; exact hu', by rw [List.getElem_append_left e]; exact hP.kp hr k⟩
  · obtain rfl : j = g.length := by omega
    exact ⟨u, by rw [List.getElem?_append_right (by omega), hl]; simp, by rw [List.getElem_append_right (by omega)]; simpa using hP.kp hu k⟩
theorem OwnL.set (hP : Prs S Pr) (h : OwnL T Pr w0 wr v g) {p : Addr} {t : TypeId} (ht : typOf wr p.block = some t) (h1 : t ≠ T) (h2 : ¬ S t) (hp : w0.heap.size ≤ p.block) (y : Value) : OwnL T Pr w0 (wr.setCell p y) v g := by
  obtain ⟨xs, ⟨hO, hB⟩, hx⟩ := h
  have hk : Kp S wr (wr.setCell p y) := (Kp.refl _ _).set (fun t' ht' => by rw [ht] at ht'; cases ht'; exact h2) y
  refine ⟨xs, ⟨ownsRow_setCell_other hO ?_ y, bset hB hp y⟩, fun k hk' => ?_⟩
  · intro hb
    have := own_typ ⟨hO, hB⟩ hb
    rw [ht] at this; cases this; exact h1 rfl
  · obtain ⟨u, hu, hr⟩ := hx k hk'
    exact ⟨u, hu, hP.kp hr hk⟩
end
section
variable {α : Type} {P : Program} {TT T : TypeId} {bytes : Nat} {S : TypeId → Prop} {Pr : World → Value → α → Prop} {ops : Array Oper} {o : Oper} {a : Act} {Q : Exit → Act → World → Prop} {w0 wr : World} {v u : Value} {g : List α} {y : α} {t : TypeId} {s x : Operand} {cc gb : Nat}
theorem wp_appL {K : Act → World → Prop} (el : Elt P TT T 1 bytes) (hP : Prs S Pr) (hT : ¬ S T)
    (ho : o.op = .call { callee := .builtin .append, args := #[s, x], argTypes := #[TT, TT] }) (hO : OwnL T Pr w0 wr v g) (hv : Pr wr u y) (hs : a.eval s = v)
    (hx : a.eval x = .slice (some ⟨gb, 0, none⟩) 1 cc) (hc : wr.cell? ⟨gb, 0, none⟩ = some u) (hn : (g.length + 1) * bytes ≤ 140737488355328) (hn2 : g.length + 1 ≤ maxLen)
    (h : ∀ v' w', OwnL T Pr w0 w' v' (g ++ [y]) → Kp (· ≠ T) wr w' → K (a.put o.dst v') w') : Oper.wp P o a wr K Q := by
  obtain ⟨i, z0, hi, hz, hsize, hby, hzs⟩ := el.info
  obtain ⟨xs, h1, h2⟩ := hO
  have hone : u.oneCell' = true := hP.one hv
  refine wp_append_own _ s x TT ho w0.heap.size T i z0 1 bytes el.ht hi hz hsize hby hzs el.pos v g.length xs hs h1.1 ⟨gb, 0, none⟩ 1 cc [u] hx rfl (fun j y hj => ?_) (fun y hy => by simp at hy; subst hy; exact hone) hn2 hn h1.2.size ?_
  · have hj1 : j < 1 := (List.getElem?_eq_some_iff.1 hj).1
    obtain rfl : j = 0 := by omega
    simp at hj; subst hj
    simpa [Addr.add] using hc
  intro v' w' hown hg _
  have hk : Kp (· ≠ T) wr w' := (Kp.refl _ wr).grown hg fun q hg' t' ht hne => hne (by
    rw [own_typ h1 hg'] at ht
    exact (Option.some.inj ht).symm)
  exact h v' w' (OwnL.snoc hP h2 (by simpa using h1.1.1) hv (hk.weak fun t hs e => hT (e ▸ hs)) ⟨hown, below_append (wr := wr) h1.2 h1.1 hg⟩) hk
theorem appL {rest : List Oper} (el : Elt P TT T 1 bytes) (hP : Prs S Pr) (hT : ¬ S T) (hgd : o.guard = none)
    (ho : o.op = .call { callee := .builtin .append, args := #[s, x], argTypes := #[TT, TT] }) (hO : OwnL T Pr w0 wr v g) (hv : Pr wr u y) (hs : a.eval s = v)
    (hx : a.eval x = .slice (some ⟨gb, 0, none⟩) 1 cc) (hc : wr.cell? ⟨gb, 0, none⟩ = some u) (hn : (g.length + 1) * bytes ≤ 140737488355328) (hn2 : g.length + 1 ≤ maxLen)
    (h : ∀ v' w', OwnL T Pr w0 w' v' (g ++ [y]) → Kp (· ≠ T) wr w' → wpList P ops Q rest (a.put o.dst v') w') : wpList P ops Q (o :: rest) a wr :=
  wpList_plain hgd fun _ hK => wp_appL el hP hT ho hO hv hs hx hc hn hn2 fun v' w' h1 h2 => hK _ _ (h v' w' h1 h2)
theorem stepL {K : Act → World → Prop} {Z : Prop} (el : Elt P TT T 1 bytes) (hP : Prs S Pr) (hT : ¬ S T) (hgd : o.guard = none)
    (ho : o.op = .call { callee := .builtin .append, args := #[s, x], argTypes := #[TT, TT] }) (hO : OwnL T Pr w0 wr v g) (hv : Pr wr u y) (hs : a.eval s = v)
    (hx : a.eval x = .slice (some ⟨gb, 0, none⟩) 1 cc) (hc : wr.cell? ⟨gb, 0, none⟩ = some u) (hn : (g.length + 1) * bytes ≤ 140737488355328) (hn2 : g.length + 1 ≤ maxLen)
    (h : ∀ v' w', OwnL T Pr w0 w' v' (g ++ [y]) → Kp (· ≠ T) wr w' → K (a.put o.dst v') w') : if Region.wanted o (yielded ops a.tmps) = true then Oper.wp P o a wr K Q else Z := by
  have hw : Region.wanted o (yielded ops a.tmps) = true := by simp [Region.wanted, hgd]
  rw [if_pos hw]
  exact wp_appL el hP hT ho hO hv hs hx hc hn hn2 h
end
theorem infoRow : (Tryz.prog.info? 68).map (fun i => (i.zero, i.size, i.bytes)) = some (some (.slice none 0 0), 1, 24) := by kernel_rfl
theorem elRow : Elt Tryz.prog 45 68 1 24 := Elt.mk' Tryz.underlying45 infoRow rfl (by decide) (by decide)
end Go.Proofs.YtbmaffijncapiaaGreatDoor

/- slices.Clone at []integer.Int and at [][]integer.Int. -/
namespace Go.Proofs.YtbmaffijncapiaaGreatDoor
open Num
open Go.ChangeShapes Go.WideShapes Go.ChangeAt Go.RowKit
set_option linter.unusedVariables false
set_option linter.unusedSimpArgs false
def cellsAt (w : World) (b off m : Nat) : List Value := (List.range m).map fun j => (w.cell? ⟨b, off + j, none⟩).getD .nilFunc
theorem cellsAt_len (w : World) (b off m : Nat) : (cellsAt w b off m).length = m := by simp [cellsAt]
theorem cellsAt_get {w : World} {b off m j : Nat} {v : Value} (h : j < m) (hv : w.cell? ⟨b, off + j, none⟩ = some v) : (cellsAt w b off m)[j]? = some v := by simp [cellsAt, h, hv]
theorem cellsAt_lt {w : World} {b off m j : Nat} {v : Value} (h : (cellsAt w b off m)[j]? = some v) : j < m := by
  have := (List.getElem?_eq_some_iff.1 h).1
  rwa [cellsAt_len] at this
theorem cellsAt_at {w W : World} (hW : Below w.heap.size w W) {b off m : Nat} (hc : ∀ j, j < m → ∃ v, w.cell? ⟨b, off + j, none⟩ = some v) : ∀ j u, (cellsAt w b off m)[j]? = some u → W.cell? ((⟨b, off, none⟩ : Addr).add j) = some u := by
  intro j u hj
  have hl := cellsAt_lt hj
  obtain ⟨v, hv⟩ := hc j hl
  rw [cellsAt_get hl hv] at hj
  cases hj
  have := bkeep hW hv
  unfold Addr.add
  split
  · subst_vars; simpa using this
  · exact this
theorem cellsAt_all {w : World} {b off m : Nat} {p : Value → Prop} (hc : ∀ j, j < m → ∃ v, w.cell? ⟨b, off + j, none⟩ = some v ∧ p v) : ∀ u ∈ cellsAt w b off m, p u := by
  intro u hu
  obtain ⟨j, hj⟩ := List.mem_iff_getElem?.1 hu
  have hl := cellsAt_lt hj
  obtain ⟨v, hv, hp⟩ := hc j hl
  rw [cellsAt_get hl hv] at hj
  cases hj; exact hp
theorem intsF_cells {R : World → Value → Int → Prop} {w : World} {b off n : Nat} {f : Nat → Int} (h : IntsF R w b off n f) : ∀ j, j < n * 2 → ∃ v, w.cell? ⟨b, off + j, none⟩ = some v ∧ v.oneCell' = true := by
  intro j hj
  obtain ⟨nb, a, len, c, h1, h2, _⟩ := h (j / 2) (by omega)
  by_cases e : j % 2 = 0
  · exact ⟨_, by rw [show off + j = off + j / 2 * 2 by omega]; exact h1, rfl⟩
  · exact ⟨_, by rw [show off + j = off + j / 2 * 2 + 1 by omega]; exact h2, rfl⟩
theorem ownF_of_cells {R : World → Value → Int → Prop} (hR : Lims R) {E : TypeId} {w w' : World} {b off n : Nat} {f : Nat → Int} {v' : Value} (h : IntsF R w b off n f) (hb : Below w.heap.size w w') (hO : w'.ownsRow w.heap.size E 2 v' n (cellsAt w b off (n * 2))) : OwnF R E w w' v' n f := by
  refine ⟨_, ⟨hO, hb⟩, fun k hk => ?_⟩
  obtain ⟨nb, a, len, c, h1, h2, h3⟩ := h k hk
  exact ⟨nb, a, len, c, cellsAt_get (by omega) h1, cellsAt_get (by omega) h2, hR _ _ _ _ h3 (.of_below hb)⟩
set_option maxRecDepth 100000 in
set_option maxHeartbeats 1000000 in
theorem cloneRow_c (base : Nat) (v : Value) (l : List Int) (w : World) (hv : PRow base w v l) (h1 : l.length ≤ 1099511627776) :
    Calls Tryz.prog 129 #[v] w fun e w' => (∃ v', e = .returned v' ∧ RowO IsInt 50 w.heap.size w' v' l) ∧ Below w.heap.size w w' := by
  obtain ⟨a, ca, rfl, hlc, hcm, hl⟩ := hv
  have hB0 := Below.refl w.heap.size w
  have hq := fun w => Lib.run_eql_slice_nil w 68 50 a l.length ca 0 0 Tryz.underlying68
  cases a with
  | none =>
    obtain rfl : l = [] := by rcases hl with h | ⟨b, off, h, _⟩
                              · exact h
                              · cases h
    have hq2 : ∀ w, (binOp .eql 68 (.slice none 0 ca) (.slice none 0 0)).run Tryz.prog w = .ok (.bool true) w := hq
    clear hq hl
    go_enter Tryz.func129, Tryz.ntmps129
    go_wp2
    go_ret
    exact ⟨⟨_, rfl, RowO.nil _ _ _ _⟩, Below.refl _ _⟩
  | some ad =>
    obtain ⟨i0, z0, hi, hz0, hz1, hz2, hz3⟩ := elInt.info
    obtain ⟨xs, hx1, hx2, hx3, HX⟩ : ∃ xs : List Value, xs.length = l.length * 2 ∧ (∀ (W : World), Below w.heap.size w W → ∀ j u, xs[j]? = some u → W.cell? (ad.add j) = some u) ∧ (∀ u ∈ xs, u.oneCell' = true) ∧
        Hid (∀ v' w', Below w.heap.size w w' → w'.ownsRow w.heap.size 50 2 v' l.length xs → RowO IsInt 50 w.heap.size w' v' l) := by
      rcases hl with rfl | ⟨b, off, h, hb, ht, hi'⟩
      · refine ⟨[], by simp, fun W hW j u hj => by simp at hj, fun u hu => by simp at hu, Lib.hid fun v' w' hb' hO => ?_⟩
        have : OwnF IsInt 50 w w' v' ([] : List Int).length (fun k => ([] : List Int).getD k 0) := ⟨[], ⟨hO, hb'⟩, fun k hk => absurd hk (by simp)⟩
        exact this.rowO
      · cases h
        refine ⟨cellsAt w b off (l.length * 2), cellsAt_len _ _ _ _, fun W hW => cellsAt_at hW fun j hj => ?_, cellsAt_all (intsF_cells hi'), Lib.hid fun v' w' hb' hO => ?_⟩
        · obtain ⟨v, hv, _⟩ := intsF_cells hi' j hj; exact ⟨v, hv⟩
        · exact (ownF_of_cells lims_int hi' hb' hO).rowO
    clear hl
    have ho : (w.alloc (.cells #[] 50)).ownsRow w.heap.size 50 2 (.slice (some ⟨w.heap.size, 0, none⟩) 0 0) 0 [] := ⟨rfl, .inr ⟨w.heap.size, 0, #[], rfl, Nat.le_refl _, (MapKept.heap_alloc w _).1, Nat.le_refl _, by unfold maxLen; omega, rfl, rfl⟩⟩
    go_enter Tryz.func129, Tryz.ntmps129
    go_wp2_with (at_builtin; refine wpList_append_own _ rfl _ _ 68 rfl w.heap.size 50 i0 z0 2 32 Tryz.underlying68 hi hz0 hz1 hz2 hz3 (by decide) _ 0 [] rfl ho ad l.length ca xs rfl hx1 (hx2 _ (bal hB0 _)) hx3 (by unfold maxLen; omega) (by omega) (by simp) ?_)
    intro v' w1 hown hgrow _
    have hbel := below_append (wr := w) (bal hB0 _) ho hgrow
    try simp only [Nat.zero_add, List.nil_append] at hown
    have hr := HX.out v' w1 hbel hown
    have HU := Lib.hid hr
    obtain ⟨a', c', rfl⟩ := hr.ex
    clear hr
    clear hown hx1 hx2 hx3 hq hgrow ho
    go_wp2
    go_ret
    exact ⟨⟨_, rfl, HU.out⟩, hbel⟩
end Go.Proofs.YtbmaffijncapiaaGreatDoor

/- Plain laws: sums, differences, small quotients, shifts of numbers as lists of limbs. -/
namespace Go.Proofs.YtbmaffijncapiaaGreatDoor.Num

theorem val_set0 {l : List Nat} {k : Nat} (x : Nat) (hk : k < l.length) (h0 : l.getD k 0 = 0) : val (l.set k x) = val l + x * BB ^ k := by
  have := val_set x hk
  rw [h0] at this
  omega
theorem take_over {l : List Nat} {k : Nat} (hk : l.length ≤ k) : val (l.take (k + 1)) = val (l.take k) := by
  rw [List.take_of_length_le hk, List.take_of_length_le (by omega)]
theorem getD_set_ne {l : List Nat} {i j x : Nat} (h : i ≠ j) : (l.set i x).getD j 0 = l.getD j 0 := by
  simp [List.getD_eq_getElem?_getD, List.getElem?_set_ne h]
theorem add_step {O A B : List Nat} {i c t : Nat} (hO : i < O.length) (h0 : O.getD i 0 = 0) (hA : i < A.length) (ht : t = c + A.getD i 0 + B.getD i 0)
    (h : val O + c * BB ^ i = val (A.take i) + val (B.take i)) : val (O.set i (t % BB)) + t / BB * BB ^ (i + 1) = val (A.take (i + 1)) + val (B.take (i + 1)) := by
  have hB : val (B.take (i + 1)) = val (B.take i) + B.getD i 0 * BB ^ i := by
    by_cases hb : i < B.length
    · exact val_take_succ hb
    · rw [take_over (by omega)]; simp [hb]
  rw [val_set0 _ hO h0, val_take_succ hA, hB]
  have e : t * BB ^ i = t / BB * BB ^ (i + 1) + t % BB * BB ^ i := by
    conv => lhs; rw [← Nat.div_add_mod t BB, Nat.add_mul]
    rw [Nat.pow_succ]
    congr 1
    ac_rfl
  have e2 : t * BB ^ i = c * BB ^ i + A.getD i 0 * BB ^ i + B.getD i 0 * BB ^ i := by rw [ht]; simp only [Nat.add_mul]
  omega
theorem sub_step {O A B : List Nat} {i br r br' : Nat} (hO : i < O.length) (h0 : O.getD i 0 = 0) (hA : i < A.length) (hr : r + (br + B.getD i 0) = A.getD i 0 + br' * BB)
    (h : val O + val (B.take i) = val (A.take i) - 0 + br * BB ^ i) : val (O.set i r) + val (B.take (i + 1)) = val (A.take (i + 1)) - 0 + br' * BB ^ (i + 1) := by
  have hB : val (B.take (i + 1)) = val (B.take i) + B.getD i 0 * BB ^ i := by
    by_cases hb : i < B.length
    · exact val_take_succ hb
    · rw [take_over (by omega)]; simp [hb]
  rw [val_set0 _ hO h0, val_take_succ hA, hB]
  have e := congrArg (· * BB ^ i) hr
  simp only [Nat.add_mul] at e
  have e2 : br' * BB * BB ^ i = br' * BB ^ (i + 1) := by rw [Nat.pow_succ]; ac_rfl
  omega
theorem sub_end {A B : List Nat} {V br : Nat} (hA : Limbs A) (hle : val B ≤ val A) (h : V + val (B.take A.length) = val (A.take A.length) - 0 + br * BB ^ A.length) (hV : V < BB ^ A.length) : V + val B = val A := by
  rw [List.take_length] at h
  have hlt := val_lt hA
  have hsplit : val B = val (B.take A.length) + BB ^ A.length * val (B.drop A.length) := by
    by_cases hb : A.length ≤ B.length
    · conv => lhs; rw [← List.take_append_drop A.length B, val_append]
      rw [List.length_take, Nat.min_eq_left hb]
    · rw [List.take_of_length_le (by omega), List.drop_eq_nil_of_le (by omega)]; simp [val]
  have hd : val (B.drop A.length) = 0 := by
    apply Nat.eq_zero_of_not_pos
    intro hp
    have : BB ^ A.length * 1 ≤ BB ^ A.length * val (B.drop A.length) := Nat.mul_le_mul_left _ hp
    omega
  rw [hd] at hsplit
  simp at hsplit
  rw [hsplit]
  cases br with
  | zero => omega
  | succ n =>
    exfalso
    have : BB ^ A.length * 1 ≤ BB ^ A.length * (n + 1) := Nat.mul_le_mul_left _ (by omega)
    rw [Nat.mul_comm] at h
    have e : (n + 1) * BB ^ A.length = BB ^ A.length * (n + 1) := Nat.mul_comm _ _
    omega
theorem div_step {O A : List Nat} {j c rest : Nat} (hO : j < O.length) (h0 : O.getD j 0 = 0) (hA : j < A.length)
    (h : val O * c + rest * BB ^ (j + 1) + val (A.take (j + 1)) = val A) :
    val (O.set j ((rest * BB + A.getD j 0) / c)) * c + (rest * BB + A.getD j 0) % c * BB ^ j + val (A.take j) = val A := by
  rw [val_set0 _ hO h0, ← h, val_take_succ hA, Nat.add_mul]
  have e : (rest * BB + A.getD j 0) * BB ^ j = (rest * BB + A.getD j 0) / c * BB ^ j * c + (rest * BB + A.getD j 0) % c * BB ^ j := by
    conv => lhs; rw [← Nat.div_add_mod (rest * BB + A.getD j 0) c, Nat.add_mul]
    congr 1
    ac_rfl
  have e2 : (rest * BB + A.getD j 0) * BB ^ j = rest * BB ^ (j + 1) + A.getD j 0 * BB ^ j := by rw [Nat.add_mul, Nat.pow_succ, Nat.mul_assoc, Nat.mul_comm BB (BB ^ j)]
  omega
theorem div_lt {rest x c : Nat} (hr : rest < c) (hx : x < BB) : (rest * BB + x) / c < BB := by
  apply Nat.div_lt_of_lt_mul
  have : (rest + 1) * BB ≤ c * BB := Nat.mul_le_mul_right _ hr
  rw [Nat.add_mul] at this
  omega
theorem shl_step {O A : List Nat} {i m p x : Nat} (hO : i + m + 1 < O.length) (h0 : O.getD (i + m + 1) 0 = 0) (hA : i < A.length) (hx : x = A.getD i 0)
    (h : val O = val (A.take i) * (p * BB ^ m)) : val ((O.set (i + m) (O.getD (i + m) 0 + x * p % BB)).set (i + m + 1) (x * p / BB)) = val (A.take (i + 1)) * (p * BB ^ m) := by
  have h1 : (O.set (i + m) (O.getD (i + m) 0 + x * p % BB)).getD (i + m + 1) 0 = 0 := by rw [getD_set_ne (by omega), h0]
  rw [val_set0 _ (by simpa using hO) h1]
  have h2 := val_set (l := O) (k := i + m) (O.getD (i + m) 0 + x * p % BB) (by omega)
  rw [Nat.add_mul (O.getD (i + m) 0)] at h2
  rw [val_take_succ hA, ← hx, Nat.add_mul, ← h]
  have e : x * p * BB ^ (i + m) = x * p / BB * BB ^ (i + m + 1) + x * p % BB * BB ^ (i + m) := by
    conv => lhs; rw [← Nat.div_add_mod (x * p) BB, Nat.add_mul]
    rw [Nat.pow_succ]
    congr 1
    ac_rfl
  have e2 : x * BB ^ i * (p * BB ^ m) = x * p * BB ^ (i + m) := by rw [Nat.pow_add]; ac_rfl
  omega
theorem or_low {x k o : Nat} (ho : o < 2 ^ k) (hk : k ≤ 32) : (x * 2 ^ k % BB) ||| o = o + x * 2 ^ k % BB := by
  have e : BB = 2 ^ k * 2 ^ (32 - k) := by rw [← Nat.pow_add, Nat.add_sub_cancel' hk]; rfl
  have e2 : x * 2 ^ k % BB = 2 ^ k * (x % 2 ^ (32 - k)) := by rw [e, Nat.mul_comm x, Nat.mul_mod_mul_left]
  rw [e2, ← Nat.two_pow_add_eq_or_of_lt ho]
  omega
theorem shl_hi {x k : Nat} (hx : x < BB) : x * 2 ^ k / BB < 2 ^ k := by
  apply Nat.div_lt_of_lt_mul
  rw [Nat.mul_comm BB, Nat.mul_comm]
  exact Nat.mul_lt_mul_of_pos_left hx (Nat.pow_pos (by omega))
theorem shl_lo {x k o : Nat} (ho : o < 2 ^ k) (hk : k ≤ 32) : o + x * 2 ^ k % BB < BB := by
  have e : BB = 2 ^ k * 2 ^ (32 - k) := by rw [← Nat.pow_add, Nat.add_sub_cancel' hk]; rfl
  have e2 : x * 2 ^ k % BB = 2 ^ k * (x % 2 ^ (32 - k)) := by rw [e, Nat.mul_comm x, Nat.mul_mod_mul_left]
  rw [e2, e]
  have h1 : x % 2 ^ (32 - k) < 2 ^ (32 - k) := Nat.mod_lt _ (Nat.pow_pos (by omega))
  have h2 : 2 ^ k * (x % 2 ^ (32 - k) + 1) ≤ 2 ^ k * 2 ^ (32 - k) := Nat.mul_le_mul_left _ h1
  rw [Nat.mul_add] at h2
  omega
def shrL (k : Nat) : List Nat → List Nat
  | [] => []
  | x :: l => (x + l.getD 0 0 * BB) / 2 ^ k % BB :: shrL k l
theorem shrL_len (k : Nat) (l : List Nat) : (shrL k l).length = l.length := by
  induction l with
  | nil => rfl
  | cons x l ih => simp [shrL, ih]
theorem shrL_get (k : Nat) (l : List Nat) (i : Nat) (hi : i < l.length) : (shrL k l).getD i 0 = (l.getD i 0 + l.getD (i + 1) 0 * BB) / 2 ^ k % BB := by
  induction l generalizing i with
  | nil => simp at hi
  | cons x l ih =>
    cases i with
    | zero => rw [shrL, List.getD_cons_zero, List.getD_cons_zero, List.getD_cons_succ]
    | succ i => rw [shrL, List.getD_cons_succ, List.getD_cons_succ, List.getD_cons_succ]; exact ih i (by simpa using hi)
theorem shrL_limbs (k : Nat) (l : List Nat) : Limbs (shrL k l) := by
  induction l with
  | nil => intro x hx; cases hx
  | cons x l ih =>
    intro y hy
    rcases List.mem_cons.1 hy with rfl | h
    · exact Nat.mod_lt _ BB_pos
    · exact ih y h
theorem shr_arith {B b K x V y : Nat} (e : B = b * K) (hp : 0 < b) (hx : x < B) (hmod : V % b = y % b) : (x + y * B) / b % B + B * (V / b) = (x + B * V) / b := by
  have h1 : (x + B * V) / b = x / b + K * V := by rw [e, Nat.mul_assoc, Nat.add_mul_div_left _ _ hp]
  have h2 : (x + y * B) / b = x / b + K * y := by rw [e, show y * (b * K) = b * (K * y) from by ac_rfl, Nat.add_mul_div_left _ _ hp]
  rw [h1, h2]
  have hxb : x / b < K := Nat.div_lt_of_lt_mul (by rw [← e]; exact hx)
  have key : ∀ z, (x / b + K * z) % B = x / b + K * (z % b) := fun z => by
    have e3 : K * z = B * (z / b) + K * (z % b) := by
      conv => lhs; rw [← Nat.div_add_mod z b, Nat.mul_add]
      rw [e]
      congr 1
      ac_rfl
    rw [e3, show x / b + (B * (z / b) + K * (z % b)) = x / b + K * (z % b) + B * (z / b) from by omega, Nat.add_mul_mod_self_left]
    apply Nat.mod_eq_of_lt
    have h5 : z % b + 1 ≤ b := Nat.mod_lt _ hp
    have h6 : K * (z % b + 1) ≤ K * b := Nat.mul_le_mul_left _ h5
    rw [Nat.mul_add] at h6
    rw [e, Nat.mul_comm b K]
    omega
  rw [key, ← hmod]
  have e4 : K * V = B * (V / b) + K * (V % b) := by
    conv => lhs; rw [← Nat.div_add_mod V b, Nat.mul_add]
    rw [e]
    congr 1
    ac_rfl
  omega
theorem BB_split {k : Nat} (hk : k ≤ 32) : BB = 2 ^ k * 2 ^ (32 - k) := by rw [← Nat.pow_add, Nat.add_sub_cancel' hk]; rfl
theorem val_mod (k : Nat) (hk : k ≤ 32) (l : List Nat) : val l % 2 ^ k = l.getD 0 0 % 2 ^ k := by
  cases l with
  | nil => rfl
  | cons y l =>
    rw [val, BB_split hk, Nat.mul_assoc, Nat.add_mul_mod_self_left]
    rfl
theorem shrL_val (k : Nat) (hk : k < 32) (l : List Nat) (hl : Limbs l) : val (shrL k l) = val l / 2 ^ k := by
  induction l with
  | nil => simp [shrL, val]
  | cons x l ih =>
    have hx := hl x (by simp)
    have ih := ih (fun y hy => hl y (by simp [hy]))
    rw [shrL, val, val, ih]
    exact shr_arith (BB_split (by omega)) (Nat.pow_pos (by omega)) hx (val_mod k (by omega) l)
theorem val_drop {l : List Nat} {m : Nat} (hl : Limbs l) (hm : m ≤ l.length) : val (l.drop m) = val l / BB ^ m := by
  have h : val l = val (l.take m) + BB ^ m * val (l.drop m) := by
    conv => lhs; rw [← List.take_append_drop m l, val_append]
    rw [List.length_take, Nat.min_eq_left hm]
  have h2 := val_lt (limbs_take hl m)
  rw [List.length_take, Nat.min_eq_left hm] at h2
  rw [h, Nat.add_mul_div_left _ _ (Nat.pow_pos BB_pos), Nat.div_eq_of_lt h2, Nat.zero_add]
end Go.Proofs.YtbmaffijncapiaaGreatDoor.Num

/- Plain: long division, limb by limb. -/
namespace Go.Proofs.YtbmaffijncapiaaGreatDoor.Num
def win (U : List Nat) (k i : Nat) : Nat := val ((U.drop k).take i)
theorem take_any (l : List Nat) (k : Nat) : val (l.take (k + 1)) = val (l.take k) + l.getD k 0 * BB ^ k := by
  by_cases h : k < l.length
  · exact val_take_succ h
  · rw [List.take_of_length_le (by omega), List.take_of_length_le (by omega)]; simp [show l.length ≤ k by omega]
theorem win_zero (U : List Nat) (k : Nat) : win U k 0 = 0 := by simp [win, val]
theorem win_succ {U : List Nat} {k i : Nat} (h : k + i < U.length) : win U k (i + 1) = win U k i + U.getD (k + i) 0 * BB ^ i := by
  unfold win
  rw [val_take_succ (by simp; omega)]
  simp [List.getElem?_drop]
theorem win_set {U : List Nat} {k i j x : Nat} (h : j < k ∨ k + i ≤ j) : win (U.set j x) k i = win U k i := by
  unfold win
  congr 1
  apply List.ext_getElem?
  intro m
  simp only [List.getElem?_take, List.getElem?_drop, List.getElem?_set]
  by_cases hm : m < i
  · rw [if_pos hm, if_neg (by omega)]; simp [hm]
  · simp [hm]
theorem win_lt {U : List Nat} (h : Limbs U) (k i : Nat) : win U k i < BB ^ i := by
  unfold win
  refine Nat.lt_of_lt_of_le (val_lt (fun x hx => h x (List.mem_of_mem_drop (List.mem_of_mem_take hx)))) (Nat.pow_le_pow_right BB_pos ?_)
  simp; omega
theorem win_set_succ {U : List Nat} {k i x : Nat} (h : k + i < U.length) : win (U.set (k + i) x) k (i + 1) = win U k i + x * BB ^ i := by
  rw [win_succ (by simpa using h), win_set (.inr (Nat.le_refl _))]
  simp [h]
theorem getD_set_far {l : List Nat} {i j x : Nat} (h : i ≠ j) : (l.set i x).getD j 0 = l.getD j 0 := getD_set_ne h
theorem less_arith {W V W0 c b P vi t ui m c1 r b1 B : Nat} (h : W + V * t = W0 + (c + b) * P) (hc : c + vi * t = c1 * B + m) (hr : r + m + b = ui + b1 * B) :
    W + r * P + (V + vi * P) * t = W0 + ui * P + (c1 + b1) * (B * P) := by
  have e1 : (V + vi * P) * t = V * t + vi * t * P := by rw [Nat.add_mul]; congr 1; ac_rfl
  have e2 : (c1 + b1) * (B * P) = c1 * B * P + b1 * B * P := by rw [Nat.add_mul]; congr 1 <;> ac_rfl
  have e3 : c * P + vi * t * P = c1 * B * P + m * P := by rw [← Nat.add_mul, hc, Nat.add_mul]
  have e4 : r * P + m * P + b * P = ui * P + b1 * B * P := by rw [← Nat.add_mul, ← Nat.add_mul, hr, Nat.add_mul]
  have e5 : (c + b) * P = c * P + b * P := Nat.add_mul _ _ _
  rw [e1, e2]
  omega
theorem back_arith {W V W1 c P vi ui c1 r B : Nat} (h : W + c * P = W1 + V) (hc : c + ui + vi = c1 * B + r) :
    W + r * P + c1 * (B * P) = W1 + ui * P + (V + vi * P) := by
  have e1 : c * P + ui * P + vi * P = c1 * (B * P) + r * P := by
    rw [← Nat.add_mul, ← Nat.add_mul, hc, Nat.add_mul]; congr 1; ac_rfl
  omega
theorem top_two {v : List Nat} {n : Nat} (h : v.length = n + 2) : val v = v.getD (n + 1) 0 * BB ^ (n + 1) + v.getD n 0 * BB ^ n + val (v.take n) := by
  have h1 := val_take_succ (l := v) (k := n + 1) (by omega)
  have h2 := val_take_succ (l := v) (k := n) (by omega)
  rw [List.take_of_length_le (by omega)] at h1
  omega
theorem win_top {U : List Nat} {k n : Nat} (h : k + (n + 3) ≤ U.length) : win U k (n + 3) = (U.getD (k + (n + 2)) 0 * BB + U.getD (k + (n + 1)) 0) * BB ^ (n + 1) + U.getD (k + n) 0 * BB ^ n + win U k n := by
  rw [win_succ (by omega), win_succ (by omega), win_succ (by omega)]
  have : BB ^ (n + 2) = BB * BB ^ (n + 1) := by rw [Nat.pow_succ BB (n + 1), Nat.mul_comm]
  rw [this, Nat.add_mul]
  have : U.getD (k + (n + 2)) 0 * (BB * BB ^ (n + 1)) = U.getD (k + (n + 2)) 0 * BB * BB ^ (n + 1) := by ac_rfl
  omega
section
variable {N D v1 v2 low high u2 lowN P1 P2 B g r : Nat}
theorem kn_first (hP : 0 < P1) (hD : v1 * P1 ≤ D) (hN : N < (high + 1) * P1) (hD0 : 0 < D) (hv : 0 < v1) : N / D ≤ high / v1 := by
  rw [Nat.le_div_iff_mul_le hv]
  have h1 : N / D * D ≤ N := Nat.div_mul_le_self N D
  have h2 : N / D * (v1 * P1) ≤ N / D * D := Nat.mul_le_mul (Nat.le_refl _) hD
  have h3 : N / D * v1 * P1 < (high + 1) * P1 := by rw [Nat.mul_assoc]; omega
  have := Nat.lt_of_mul_lt_mul_right h3
  omega
theorem kn_big (h : N < D * B) : N / D < B := Nat.div_lt_of_lt_mul h
theorem kn_step (hP : 0 < P2) (hD0 : 0 < D) (hD : D = v1 * (B * P2) + v2 * P2 + low) (hN : N = high * (B * P2) + u2 * P2 + lowN) (hlN : lowN < P2) (hg : g * v1 + r = high) (ht : r * B + u2 < g * v2) : N / D < g := by
  rw [Nat.div_lt_iff_lt_mul hD0, hN, hD]
  have e1 : g * (v1 * (B * P2) + v2 * P2 + low) = g * v1 * (B * P2) + g * v2 * P2 + g * low := by
    rw [Nat.mul_add, Nat.mul_add]; congr 1; congr 1 <;> ac_rfl
  have e2 : high * (B * P2) = g * v1 * (B * P2) + r * B * P2 := by rw [← hg, Nat.add_mul]; congr 1; ac_rfl
  have e3 : (r * B + u2 + 1) * P2 ≤ g * v2 * P2 := Nat.mul_le_mul ht (Nat.le_refl _)
  have e4 : (r * B + u2 + 1) * P2 = r * B * P2 + u2 * P2 + P2 := by rw [Nat.add_mul, Nat.add_mul]; omega
  omega
theorem kn_exit (hv1 : 0 < v1) (hB : 0 < B) (hgB : g < B) (hlow : low < P2) (hD : D = v1 * (B * P2) + v2 * P2 + low) (hN : N = high * (B * P2) + u2 * P2 + lowN) (hg : g * v1 + r = high) (ht : g * v2 ≤ r * B + u2) : g * D < N + D := by
  have e1 : g * D = g * v1 * (B * P2) + g * v2 * P2 + g * low := by
    rw [hD, Nat.mul_add, Nat.mul_add]; congr 1; congr 1 <;> ac_rfl
  have e2 : high * (B * P2) = g * v1 * (B * P2) + r * B * P2 := by rw [← hg, Nat.add_mul]; congr 1; ac_rfl
  have e3 : g * v2 * P2 ≤ (r * B + u2) * P2 := Nat.mul_le_mul ht (Nat.le_refl _)
  have e4 : (r * B + u2) * P2 = r * B * P2 + u2 * P2 := Nat.add_mul _ _ _
  have e5 : g * low < B * P2 := Nat.mul_lt_mul'' hgB hlow
  have e6 : B * P2 ≤ v1 * (B * P2) := Nat.le_mul_of_pos_left _ hv1
  omega
theorem kn_far (hlow : v2 * P2 + low < B * P2) (hD : D = v1 * (B * P2) + v2 * P2 + low) (hN : N = high * (B * P2) + u2 * P2 + lowN) (hg : g * v1 + r = high) (hr : g ≤ r) : g * D ≤ N := by
  have e1 : D ≤ (v1 + 1) * (B * P2) := by rw [Nat.add_mul]; omega
  have e2 : g * D ≤ g * ((v1 + 1) * (B * P2)) := Nat.mul_le_mul (Nat.le_refl _) e1
  have e3 : g * ((v1 + 1) * (B * P2)) = (g * v1 + g) * (B * P2) := by rw [← Nat.mul_assoc, Nat.mul_add, Nat.mul_one]
  have e4 : (g * v1 + g) * (B * P2) ≤ high * (B * P2) := Nat.mul_le_mul (by omega) (Nat.le_refl _)
  omega
end
theorem low_two {v2 low P2 B : Nat} (h2 : v2 < B) (hl : low < P2) : v2 * P2 + low < B * P2 := by
  have : (v2 + 1) * P2 ≤ B * P2 := Nat.mul_le_mul h2 (Nat.le_refl _)
  rw [Nat.add_mul] at this
  omega
theorem kn_done {N D g W : Nat} (hD : 0 < D) (hq : N / D ≤ g) (h : W + D * g = N) : N / D = g ∧ N % D = W := by
  have h1 : g ≤ N / D := by rw [Nat.le_div_iff_mul_le hD, Nat.mul_comm]; omega
  have h2 : N / D = g := by omega
  refine ⟨h2, ?_⟩
  have := Nat.div_add_mod N D
  rw [h2] at this
  omega
theorem kn_over {N D g W P : Nat} (hD : 0 < D) (hg : g * D < N + D) (hW : W < P) (h : W + D * g = N + P) : g = N / D + 1 ∧ W + D = N % D + P := by
  have e : D * g = g * D := Nat.mul_comm _ _
  have h1 : N < g * D := by omega
  have h2 : N / D < g := (Nat.div_lt_iff_lt_mul hD).2 h1
  have h3 : g ≤ N / D + 1 := by
    apply Nat.le_of_not_lt
    intro hlt
    have : (N / D + 2) * D ≤ g * D := Nat.mul_le_mul hlt (Nat.le_refl _)
    have h4 := Nat.lt_div_mul_add (a := N) hD
    rw [Nat.add_mul] at this
    omega
  have hq : g = N / D + 1 := by omega
  refine ⟨hq, ?_⟩
  have := Nat.div_add_mod N D
  rw [hq, Nat.mul_add, Nat.mul_one] at h
  omega
theorem kn_back {R W P c : Nat} (hR : R < P) (hW : W < P) (h : W + c * P = R + P) : W = R := by
  rcases Nat.lt_or_ge c 1 with h0 | h0
  · obtain rfl : c = 0 := by omega
    omega
  · rcases Nat.lt_or_ge 1 c with h1 | h1
    · have : 2 * P ≤ c * P := Nat.mul_le_mul h1 (Nat.le_refl _)
      omega
    · obtain rfl : c = 1 := by omega
      omega
theorem val_cut {U : List Nat} {k : Nat} (h : k ≤ U.length) : val U = val (U.take k) + BB ^ k * val (U.drop k) := by
  conv => lhs; rw [← List.take_append_drop k U]
  rw [val_append, List.length_take, Nat.min_eq_left h]
end Go.Proofs.YtbmaffijncapiaaGreatDoor.Num

