/- Texts of this seat, laid together: RowH, PrgA. Each opens with its own remark, which says what it proves, and under which conditions. -/
import Derived.Test.YtannhpadoooedaaDoorG11
import Derived.OneCell
import Derived.Test.YtannhpadoooedaaDoorG02
import Derived.Test.YtannhpadoooedaaDoorG07
/- Lists of one-cell values in memory, whatever each of them stands for: 'Pr w v x'. Rows of numbers of the call's own. -/
namespace Go.Proofs.YtannhpadoooedaaDoor
open Num
open Go.ChangeShapes Go.WideShapes Go.ChangeAt Go.RowKit
set_option linter.unusedVariables false
set_option linter.unusedSimpArgs false
section
variable {S : TypeId → Prop} {w w' : World}
theorem Kp.cell (k : Kp S w w') {b o : Nat} {s : Option Nat} {t : TypeId} {v : Value} (ht : typOf w b = some t) (hs : S t) (h : w.cell? ⟨b, o, s⟩ = some v) : w'.cell? ⟨b, o, s⟩ = some v := by
  rw [World.cell?_of_block (w := w) (k b t ht hs)]; exact h
theorem Kp.frz (k : Kp S w w') {b o : Nat} {s : Option Nat} {t : TypeId} (ht : typOf w b = some t) (hs : S t) (h : w.frozen? ⟨b, o, s⟩ = false) : w'.frozen? ⟨b, o, s⟩ = false := by
  rw [World.frozen?_of_block (w := w) (k b t ht hs)]; exact h
theorem Kp.weak {T : TypeId → Prop} (k : Kp S w w') (h : ∀ t, T t → S t) : Kp T w w' := fun b t ht hs => k b t ht (h t hs)
end
/-- a row of numbers that lies in a block of the call's own (from base on), that may be written up to its capacity -/
def RowO (R : World → Value → Int → Prop) (E : TypeId) (base : Nat) (w : World) (v : Value) (l : List Int) : Prop :=
  ∃ xs, w.ownsRow base E 2 v l.length xs ∧ ∀ k, k < l.length → ∃ nb a len c, xs[k * 2]? = some (.bool nb) ∧ xs[k * 2 + 1]? = some (.slice a len c) ∧ R w (.agg #[.bool nb, .slice a len c]) (l.getD k 0)
section
variable {R : World → Value → Int → Prop} {E : TypeId} {base : Nat} {w w' w0 : World} {v : Value} {l : List Int}
theorem own_typ' {T : TypeId} {size n : Nat} {xs : List Value} (h : w.ownsRow base T size v n xs) {g : Nat} (hg : v.ownBlock = some g) : typOf w g = some T := by
  rcases h.2 with ⟨rfl, _⟩ | ⟨g', c, cur, rfl, _, hh, _⟩
  · simp [Value.ownBlock] at hg
  · simp [Value.ownBlock] at hg
    subst hg
    unfold typOf; rw [hh]
theorem owns_kp {S : TypeId → Prop} {T : TypeId} {size n : Nat} {xs : List Value} (h : w.ownsRow base T size v n xs) (k : Kp S w w') (hT : S T) : w'.ownsRow base T size v n xs := by
  refine ⟨h.1, ?_⟩
  rcases h.2 with h2 | ⟨g, cap, cur, rfl, hg, hh, r⟩
  · exact .inl h2
  · exact .inr ⟨g, cap, cur, rfl, hg, by rw [k g T (by unfold typOf; rw [hh]) hT]; exact hh, r⟩
theorem RowO.row (h : RowO R E base w v l) : IsRow R E base w v l := by
  obtain ⟨xs, ⟨hl, h1⟩, h2⟩ := h
  rcases h1 with ⟨rfl, h0⟩ | ⟨g, cap, cur, rfl, hg, hh, hc, hm, hs, ht⟩
  · have : l = [] := List.length_eq_zero_iff.1 h0
    subst this
    exact IsRow.nil R E _ _
  · refine ⟨_, cap, rfl, hc, hm, .inr ⟨g, 0, rfl, hg, by unfold typOf; rw [hh], fun k hk => ?_⟩⟩
    obtain ⟨nb, a, len, c, k1, k2, k3⟩ := h2 k hk
    have cel : ∀ j u, xs[j]? = some u → w.cell? ⟨g, j, none⟩ = some u := fun j u hj => by
      have hj2 : j < l.length * 2 := by have := (List.getElem?_eq_some_iff.1 hj).1; omega
      rw [← ht, List.getElem?_take_of_lt (by omega)] at hj
      simpa [World.cell?, hh] using hj
    exact ⟨nb, a, len, c, by rw [Nat.zero_add]; exact cel _ _ k1, by rw [Nat.zero_add]; exact cel _ _ k2, k3⟩
theorem RowO.nil (R : World → Value → Int → Prop) (E : TypeId) (base : Nat) (w : World) : RowO R E base w (.slice none 0 0) [] := ⟨[], World.ownsRow_nil _ _ _ _, fun k hk => absurd hk (by simp)⟩
theorem RowO.kp {S : TypeId → Prop} (hR : Lims R) (h : RowO R E base w v l) (k : Kp S w w') (hs : S 120) (hE : S E) : RowO R E base w' v l := by
  obtain ⟨xs, h1, h2⟩ := h
  refine ⟨xs, owns_kp h1 k hE, fun j hj => ?_⟩
  obtain ⟨nb, a, len, c, k1, k2, k3⟩ := h2 j hj
  exact ⟨nb, a, len, c, k1, k2, hR _ _ _ _ k3 (k.lim hs)⟩
theorem RowO.keep (hR : Lims R) (h : RowO R E base w v l) (k : Below w.heap.size w w') : RowO R E base w' v l := h.kp (S := fun _ => True) hR (Kp.of_below _ k) trivial trivial
theorem RowO.rebase {base' : Nat} (h : RowO R E base w v l) (hb : base' ≤ base) : RowO R E base' w v l := by
  obtain ⟨xs, ⟨hl, h1⟩, h2⟩ := h
  refine ⟨xs, ⟨hl, ?_⟩, h2⟩
  rcases h1 with h1 | ⟨g, cap, cur, hv, hg, r⟩
  · exact .inl h1
  · exact .inr ⟨g, cap, cur, hv, Nat.le_trans hb hg, r⟩
theorem OwnF.rowO (h : OwnF R E w0 w v l.length (fun k => l.getD k 0)) : RowO R E w0.heap.size w v l := by
  obtain ⟨xs, h1, h2⟩ := h
  exact ⟨xs, h1.1, h2⟩
theorem RowO.ownF (h : RowO R E w0.heap.size w v l) (hb : Below w0.heap.size w0 w) : OwnF R E w0 w v l.length (fun k => l.getD k 0) := by
  obtain ⟨xs, h1, h2⟩ := h
  exact ⟨xs, ⟨h1, hb⟩, h2⟩
theorem RowO.ex (h : RowO R E base w v l) : ∃ a c, v = .slice a l.length c := by
  obtain ⟨a, c, h1, _⟩ := h.row; exact ⟨a, c, h1⟩
end
theorem IsRow.view {R : World → Value → Int → Prop} {E : TypeId} {base : Nat} {w : World} {v : Value} {l : List Int} (h : IsRow R E base w v l) : ∃ a c, v = .slice a l.length c ∧ l.length ≤ c ∧ ∀ j, j < l.length → ∃ b off nb ad len cp, a = some ⟨b, off, none⟩ ∧ w.cell? ⟨b, off + j * 2, none⟩ = some (.bool nb) ∧ w.cell? ⟨b, off + j * 2 + 1, none⟩ = some (.slice ad len cp) ∧ R w (.agg #[.bool nb, .slice ad len cp]) (l.getD j 0) := by
  obtain ⟨a, c, h1, h2, h3, h4⟩ := h
  refine ⟨a, c, h1, h2, fun j hj => ?_⟩
  rcases h4 with h4 | ⟨b, off, ha, hb, ht, hi⟩
  · rw [h4] at hj; simp at hj
  · obtain ⟨nb, ad, len, cp, k1, k2, k3⟩ := hi j hj
    exact ⟨b, off, nb, ad, len, cp, ha, k1, k2, k3⟩
/-- what may stand in the cells of a list, and what keeps it -/
structure Prs {α : Type} (S : TypeId → Prop) (Pr : World → Value → α → Prop) : Prop where
  one : ∀ {w v x}, Pr w v x → v.oneCell' = true
  kp : ∀ {w w' v x}, Pr w v x → Kp S w w' → Pr w' v x
theorem prs_rowO {R : World → Value → Int → Prop} (hR : Lims R) (E : TypeId) (base : Nat) : Prs (fun t => t = 120 ∨ t = E) (RowO R E base) :=
  ⟨fun h => by obtain ⟨a, c, rfl⟩ := h.ex; rfl, fun h k => h.kp hR k (.inl rfl) (.inr rfl)⟩
theorem prs_row {R : World → Value → Int → Prop} (hR : Lims R) (E : TypeId) (base : Nat) : Prs (fun t => t = 120 ∨ t = E) (IsRow R E base) :=
  ⟨fun h => by obtain ⟨a, c, rfl, _⟩ := h; rfl, fun h k => h.kp hR k (.inl rfl) (.inr rfl)⟩
/-- a list in memory -/
def IsL {α : Type} (T : TypeId) (Pr : World → Value → α → Prop) (base : Nat) (w : World) (v : Value) (g : List α) : Prop :=
  ∃ a c, v = .slice a g.length c ∧ g.length ≤ c ∧ c ≤ maxLen ∧ (g = [] ∨ ∃ b off, a = some ⟨b, off, none⟩ ∧ base ≤ b ∧ typOf w b = some T ∧ ∀ k (hk : k < g.length), ∃ u, w.cell? ⟨b, off + k, none⟩ = some u ∧ Pr w u g[k])
/-- a list of the call's own, built by append -/
def OwnL {α : Type} (T : TypeId) (Pr : World → Value → α → Prop) (w0 wr : World) (v : Value) (g : List α) : Prop :=
  ∃ xs, OwnE T 1 w0 wr v g.length xs ∧ ∀ k (hk : k < g.length), ∃ u, xs[k]? = some u ∧ Pr wr u g[k]
section
variable {α : Type} {S : TypeId → Prop} {T : TypeId} {Pr : World → Value → α → Prop} {base : Nat} {w w' w0 wr : World} {v u : Value} {g : List α} {x : α}
theorem IsL.kp {S' : TypeId → Prop} (hP : Prs S Pr) (h : IsL T Pr base w v g) (k : Kp S' w w') (hs : ∀ t, S t → S' t) (hT : S' T) : IsL T Pr base w' v g := by
  obtain ⟨a, c, h1, h2, h3, h4⟩ := h
  refine ⟨a, c, h1, h2, h3, h4.imp id ?_⟩
  rintro ⟨b, off, e, hb, ht, hi⟩
  refine ⟨b, off, e, hb, k.typ ht hT, fun j hj => ?_⟩
  obtain ⟨u, hu, hr⟩ := hi j hj
  exact ⟨u, k.cell ht hT hu, hP.kp hr (k.weak hs)⟩
theorem IsL.keep (hP : Prs S Pr) (h : IsL T Pr base w v g) (k : Below w.heap.size w w') : IsL T Pr base w' v g := h.kp (S' := fun _ => True) hP (Kp.of_below _ k) (fun _ _ => trivial) trivial
theorem IsL.mono {Q : World → Value → α → Prop} (h : IsL T Pr base w v g) (hq : ∀ u x, Pr w u x → Q w u x) : IsL T Q base w v g := by
  obtain ⟨a, c, h1, h2, h3, h4⟩ := h
  refine ⟨a, c, h1, h2, h3, h4.imp id ?_⟩
  rintro ⟨b, off, e, hb, ht, hi⟩
  exact ⟨b, off, e, hb, ht, fun j hj => by obtain ⟨u, hu, hr⟩ := hi j hj; exact ⟨u, hu, hq _ _ hr⟩⟩
theorem IsL.rebase {base' : Nat} (h : IsL T Pr base w v g) (hb : base' ≤ base) : IsL T Pr base' w v g := by
  obtain ⟨a, c, h1, h2, h3, h4⟩ := h
  refine ⟨a, c, h1, h2, h3, h4.imp id ?_⟩
  rintro ⟨b, off, e, hb', r⟩
  exact ⟨b, off, e, Nat.le_trans hb hb', r⟩
theorem IsL.nil (T : TypeId) (Pr : World → Value → α → Prop) (base : Nat) (w : World) : IsL T Pr base w (.slice none 0 0) [] := ⟨none, 0, rfl, Nat.le_refl _, by unfold maxLen; omega, .inl rfl⟩
/-- a list's value, and what lies at each place -/
theorem IsL.view (h : IsL T Pr base w v g) : ∃ a c, v = .slice a g.length c ∧ g.length ≤ c ∧ ∀ k (hk : k < g.length), ∃ b off u, a = some ⟨b, off, none⟩ ∧ w.cell? ⟨b, off + k, none⟩ = some u ∧ Pr w u g[k] := by
  obtain ⟨a, c, h1, h2, h3, h4⟩ := h
  refine ⟨a, c, h1, h2, fun k hk => ?_⟩
  rcases h4 with h4 | ⟨b, off, e, hb, ht, hi⟩
  · subst h4; simp at hk
  · obtain ⟨u, hu, hr⟩ := hi k hk
    exact ⟨b, off, u, e, hu, hr⟩
theorem OwnL.nil (T : TypeId) (Pr : World → Value → α → Prop) (hb : Below w0.heap.size w0 wr) : OwnL T Pr w0 wr (.slice none 0 0) [] := ⟨[], OwnE.nil _ _ hb, fun k hk => absurd hk (by simp)⟩
theorem OwnL.below (hP : Prs S Pr) (h : OwnL T Pr w0 wr v g) (hb : Below wr.heap.size wr w') : OwnL T Pr w0 w' v g := by
  obtain ⟨xs, h1, h2⟩ := h
  refine ⟨xs, h1.below hb, fun k hk => ?_⟩
  obtain ⟨u, hu, hr⟩ := h2 k hk
  exact ⟨u, hu, hP.kp hr (Kp.of_below _ hb)⟩
theorem OwnL.bel (h : OwnL T Pr w0 wr v g) : Below w0.heap.size w0 wr := by obtain ⟨xs, h1, _⟩ := h; exact h1.2
theorem OwnL.ex (h : OwnL T Pr w0 wr v g) : ∃ a c, v = .slice a g.length c := by
  obtain ⟨xs, ⟨⟨_, h1⟩, _⟩, _⟩ := h
  rcases h1 with ⟨rfl, h0⟩ | ⟨b, cap, cur, rfl, _⟩
  · exact ⟨none, 0, by rw [h0]⟩
  · exact ⟨_, _, rfl⟩
theorem OwnL.isL (h : OwnL T Pr w0 wr v g) : IsL T Pr w0.heap.size wr v g := by
  obtain ⟨xs, ⟨⟨hl, h1⟩, _⟩, h2⟩ := h
  rcases h1 with ⟨rfl, h0⟩ | ⟨b, cap, cur, rfl, hg, hh, hc, hm, hs, ht⟩
  · have : g = [] := List.length_eq_zero_iff.1 h0
    subst this
    exact IsL.nil _ _ _ _
  · refine ⟨_, cap, rfl, hc, hm, .inr ⟨b, 0, rfl, hg, by unfold typOf; rw [hh], fun k hk => ?_⟩⟩
    obtain ⟨u, hu, hr⟩ := h2 k hk
    refine ⟨u, ?_, hr⟩
    rw [← ht, List.getElem?_take_of_lt (by omega)] at hu
    simpa [World.cell?, hh] using hu
theorem OwnL.snoc (hP : Prs S Pr) {xs : List Value} {v' : Value} (h2 : ∀ k (hk : k < g.length), ∃ u, xs[k]? = some u ∧ Pr wr u g[k]) (hl : xs.length = g.length) (hu : Pr wr u x)
    (k : Kp S wr w') (hO : OwnE T 1 w0 w' v' (g.length + 1) (xs ++ [u])) : OwnL T Pr w0 w' v' (g ++ [x]) := by
  refine ⟨_, by simpa using hO, fun j hj => ?_⟩
  simp at hj
  by_cases e : j < g.length
  · obtain ⟨u', hu', hr⟩ := h2 j e
    exact ⟨u', by rw [List.getElem?_append_left (by omega)]; exact hu', by rw [List.getElem_append_left e]; exact hP.kp hr k⟩
  · obtain rfl : j = g.length := by omega
    exact ⟨u, by rw [List.getElem?_append_right (by omega), hl]; simp, by rw [List.getElem_append_right (by omega)]; simpa using hP.kp hu k⟩
theorem OwnL.rebase {w1 : World} (h : OwnL T Pr w1 wr v g) (hb : Below w0.heap.size w0 w1) : OwnL T Pr w0 wr v g := by
  obtain ⟨xs, ⟨⟨hl, h1⟩, hB⟩, h2⟩ := h
  refine ⟨xs, ⟨⟨hl, ?_⟩, bthen hb hB⟩, h2⟩
  rcases h1 with h1 | ⟨b, cap, cur, hv, hg, r⟩
  · exact .inl h1
  · exact .inr ⟨b, cap, cur, hv, Nat.le_trans hb.size hg, r⟩
theorem OwnL.mono {Q : World → Value → α → Prop} (h : OwnL T Pr w0 wr v g) (hq : ∀ u x, Pr wr u x → Q wr u x) : OwnL T Q w0 wr v g := by
  obtain ⟨xs, h1, h2⟩ := h
  exact ⟨xs, h1, fun k hk => by obtain ⟨u, hu, hr⟩ := h2 k hk; exact ⟨u, hu, hq _ _ hr⟩⟩
/-- what is owned stays, where a cell of another type's block is set -/
theorem OwnL.set (hP : Prs S Pr) (h : OwnL T Pr w0 wr v g) {p : Addr} {t : TypeId} (ht : typOf wr p.block = some t) (h1 : t ≠ T) (h2 : ¬ S t) (hp : w0.heap.size ≤ p.block) (y : Value) : OwnL T Pr w0 (wr.setCell p y) v g := by
  obtain ⟨xs, ⟨hO, hB⟩, hx⟩ := h
  have hk : Kp S wr (wr.setCell p y) := (Kp.refl _ _).set (fun t' ht' => by rw [ht] at ht'; cases ht'; exact h2) y
  refine ⟨xs, ⟨ownsRow_setCell_other hO ?_ y, bset hB hp y⟩, fun k hk' => ?_⟩
  · intro hb
    have := own_typ ⟨hO, hB⟩ hb
    rw [ht] at this; cases this; exact h1 rfl
  · obtain ⟨u, hu, hr⟩ := hx k hk'
    exact ⟨u, hu, hP.kp hr hk⟩
end
section
variable {α : Type} {P : Program} {TT T : TypeId} {bytes : Nat} {S : TypeId → Prop} {Pr : World → Value → α → Prop} {ops : Array Oper} {o : Oper} {a : Act} {Q : Exit → Act → World → Prop} {w0 wr : World} {v u : Value} {g : List α} {y : α} {t : TypeId} {s x : Operand} {cc gb : Nat}
/-- append of one value: it lies in a variable of one cell -/
theorem wp_appL {K : Act → World → Prop} (el : Elt P TT T 1 bytes) (hP : Prs S Pr) (hT : ¬ S T)
    (ho : o.op = .call { callee := .builtin .append, args := #[s, x], argTypes := #[TT, TT] }) (hO : OwnL T Pr w0 wr v g) (hv : Pr wr u y) (hs : a.eval s = v)
    (hx : a.eval x = .slice (some ⟨gb, 0, none⟩) 1 cc) (hc : wr.cell? ⟨gb, 0, none⟩ = some u) (hn : (g.length + 1) * bytes ≤ 140737488355328) (hn2 : g.length + 1 ≤ maxLen)
    (h : ∀ v' w', OwnL T Pr w0 w' v' (g ++ [y]) → Kp (· ≠ T) wr w' → K (a.put o.dst v') w') : Oper.wp P o a wr K Q := by
  obtain ⟨i, z0, hi, hz, hsize, hby, hzs⟩ := el.info
  obtain ⟨xs, h1, h2⟩ := hO
  have hone : u.oneCell' = true := hP.one hv
  refine wp_append_own _ s x TT ho w0.heap.size T i z0 1 bytes el.ht hi hz hsize hby hzs el.pos v g.length xs hs h1.1 ⟨gb, 0, none⟩ 1 cc [u] hx rfl (fun j y hj => ?_) (fun y hy => by simp at hy; subst hy; exact hone) hn2 hn h1.2.size ?_
  · have hj1 : j < 1 := (List.getElem?_eq_some_iff.1 hj).1
    obtain rfl : j = 0 := by omega
    simp at hj; subst hj
    simpa [Addr.add] using hc
  intro v' w' hown hg _
  have hk : Kp (· ≠ T) wr w' := (Kp.refl _ wr).grown hg fun q hg' t' ht hne => hne (by
    rw [own_typ h1 hg'] at ht
    exact (Option.some.inj ht).symm)
  exact h v' w' (OwnL.snoc hP h2 (by simpa using h1.1.1) hv (hk.weak fun t hs e => hT (e ▸ hs)) ⟨hown, below_append (wr := wr) h1.2 h1.1 hg⟩) hk
theorem appL {rest : List Oper} (el : Elt P TT T 1 bytes) (hP : Prs S Pr) (hT : ¬ S T) (hgd : o.guard = none)
    (ho : o.op = .call { callee := .builtin .append, args := #[s, x], argTypes := #[TT, TT] }) (hO : OwnL T Pr w0 wr v g) (hv : Pr wr u y) (hs : a.eval s = v)
    (hx : a.eval x = .slice (some ⟨gb, 0, none⟩) 1 cc) (hc : wr.cell? ⟨gb, 0, none⟩ = some u) (hn : (g.length + 1) * bytes ≤ 140737488355328) (hn2 : g.length + 1 ≤ maxLen)
    (h : ∀ v' w', OwnL T Pr w0 w' v' (g ++ [y]) → Kp (· ≠ T) wr w' → wpList P ops Q rest (a.put o.dst v') w') : wpList P ops Q (o :: rest) a wr :=
  wpList_plain hgd fun _ hK => wp_appL el hP hT ho hO hv hs hx hc hn hn2 fun v' w' h1 h2 => hK _ _ (h v' w' h1 h2)
theorem stepL {K : Act → World → Prop} {Z : Prop} (el : Elt P TT T 1 bytes) (hP : Prs S Pr) (hT : ¬ S T) (hgd : o.guard = none)
    (ho : o.op = .call { callee := .builtin .append, args := #[s, x], argTypes := #[TT, TT] }) (hO : OwnL T Pr w0 wr v g) (hv : Pr wr u y) (hs : a.eval s = v)
    (hx : a.eval x = .slice (some ⟨gb, 0, none⟩) 1 cc) (hc : wr.cell? ⟨gb, 0, none⟩ = some u) (hn : (g.length + 1) * bytes ≤ 140737488355328) (hn2 : g.length + 1 ≤ maxLen)
    (h : ∀ v' w', OwnL T Pr w0 w' v' (g ++ [y]) → Kp (· ≠ T) wr w' → K (a.put o.dst v') w') : if Region.wanted o (yielded ops a.tmps) = true then Oper.wp P o a wr K Q else Z := by
  have hw : Region.wanted o (yielded ops a.tmps) = true := by simp [Region.wanted, hgd]
  rw [if_pos hw]
  exact wp_appL el hP hT ho hO hv hs hx hc hn hn2 h
end
/-- a new row of noughts -/
theorem RowO.make (w : World) (n : Nat) (hn : n ≤ maxLen) : RowO IsInt 34 w.heap.size (w.alloc (.cells (zcel n) 34)) (.slice (some ⟨w.heap.size, 0, none⟩) n n) (List.replicate n 0) := by
  have hs : (zcel n).size = n * 2 := by simp [zcel, size_madeCells]
  have hl : (zcel n).toList.length = n * 2 := by rw [Array.length_toList, hs]
  refine ⟨(zcel n).toList, ⟨by rw [List.length_replicate]; exact hl, .inr ⟨w.heap.size, n, zcel n, by rw [List.length_replicate], Nat.le_refl _, (MapKept.heap_alloc w _).1, by rw [List.length_replicate]; exact Nat.le_refl _, hn, hs, ?_⟩⟩, fun k hk => ?_⟩
  · rw [List.length_replicate, ← hl, List.take_length]
  · rw [List.length_replicate] at hk
    obtain ⟨h1, h2⟩ := zcel_at hk
    refine ⟨false, none, 0, 0, by rw [Array.getElem?_toList]; exact h1, by rw [Array.getElem?_toList]; exact h2, ?_⟩
    have : (List.replicate n (0 : Int)).getD k 0 = 0 := by simp [hk]
    rw [this]; exact isInt_zero _
theorem infoRow : (Tryd.prog.info? 31).map (fun i => (i.zero, i.size, i.bytes)) = some (some (.slice none 0 0), 1, 24) := by kernel_rfl
theorem elRow : Elt Tryd.prog 29 31 1 24 := Elt.mk' Tryd.underlying29 infoRow rfl (by decide) (by decide)
/-- what is owned, and not empty, by its block -/
theorem OwnL.blk {α : Type} {T : TypeId} {Pr : World → Value → α → Prop} {w0 wr : World} {v : Value} {g : List α} (h : OwnL T Pr w0 wr v g) (hg : 0 < g.length) : ∃ rb rc, v = .slice (some ⟨rb, 0, none⟩) g.length rc ∧ w0.heap.size ≤ rb ∧ g.length ≤ rc ∧ rc ≤ maxLen ∧ Free wr rb ∧ typOf wr rb = some T ∧ ∀ k (hk : k < g.length), ∃ u, wr.cell? ⟨rb, k, none⟩ = some u ∧ Pr wr u g[k] := by
  obtain ⟨xs, ⟨⟨hl, h1⟩, hB⟩, h2⟩ := h
  rcases h1 with ⟨rfl, h0⟩ | ⟨b, cap, cur, rfl, hb, hh, hc, hm, hs, ht⟩
  · omega
  · refine ⟨b, cap, rfl, hb, hc, hm, ⟨(Array.getElem?_eq_some_iff.1 hh).1, fun j => ?_⟩, by unfold typOf; rw [hh], fun k hk => ?_⟩
    · unfold World.frozen?
      rw [show wr.heap[(⟨b, j, none⟩ : Addr).block]? = _ from hh]
      simp
    · obtain ⟨u, hu, hr⟩ := h2 k hk
      refine ⟨u, ?_, hr⟩
      rw [← ht, List.getElem?_take_of_lt (by omega)] at hu
      simpa [World.cell?, hh] using hu
end Go.Proofs.YtannhpadoooedaaDoor
/- prog: an instruction: two, constant, Asks. -/
namespace Go.Proofs.YtannhpadoooedaaDoor
open Go.ChangeShapes Go.WideShapes Go.ChangeAt Go.RowKit
set_option linter.unusedVariables false
set_option linter.unusedSimpArgs false
theorem bret {a b : Bool} (h : a = b) : Ending.returned (.bool a) = Ending.returned (.bool b) := by rw [h]
/-- an instruction -/
structure Ins where
  op : Int
  to : Int
  a : Int
  b : Int
  c : Int
deriving Inhabited
def Ins.v (i : Ins) : Value := .agg #[.int .i64 i.op, .int .i64 i.to, .int .i64 i.a, .int .i64 i.b, .int .i64 i.c]
def twoB (op : Int) : Bool := decide (op = 3 ∨ op = 4)
def constB (op c : Int) : Bool := if op = 5 ∨ op = 6 then decide (c ≠ 0 ∧ -512 ≤ c ∧ c ≤ 512) else if op = 7 ∨ op = 8 then decide (1 ≤ c ∧ c ≤ 64) else decide (c = 0)
theorem constB_mul {op c : Int} (h : op = 5 ∨ op = 6) : constB op c = decide (c ≠ 0 ∧ -512 ≤ c ∧ c ≤ 512) := by unfold constB; rw [if_pos h]
theorem constB_shift {op c : Int} (h : op = 7 ∨ op = 8) : constB op c = decide (1 ≤ c ∧ c ≤ 64) := by unfold constB; rw [if_neg (by omega), if_pos h]
theorem constB_else {op c : Int} (h : ¬ (op = 5 ∨ op = 6)) (h2 : ¬ (op = 7 ∨ op = 8)) : constB op c = decide (c = 0) := by unfold constB; rw [if_neg h, if_neg h2]

theorem two_c (op : Int) (w : World) : Calls Tryd.prog 102 #[.int .i64 op] w fun e w' => e = .returned (.bool (twoB op)) ∧ w' = w := by
  go_enter Tryd.func102, Tryd.ntmps102
  go_wp2
  all_goals go_ret
  all_goals exact ⟨bret (by rw [Bool.eq_iff_iff]; simp [twoB] <;> omega), rfl⟩

set_option maxRecDepth 100000 in
theorem constant_c (op t a b c : Int) (w : World) : Calls Tryd.prog 103 #[.agg #[.int .i64 op, .int .i64 t, .int .i64 a, .int .i64 b, .int .i64 c]] w fun e w' => e = .returned (.bool (constB op c)) ∧ Below w.heap.size w w' := by
  by_cases h : op = 5 ∨ op = 6
  · rw [constB_mul h]
    rcases h with rfl | rfl
    all_goals
      go_enter Tryd.func103, Tryd.ntmps103
      go_wp2
      all_goals go_ret
      all_goals exact ⟨bret (by rw [Bool.eq_iff_iff]; simp <;> omega), by repeat (first | exact Below.refl _ _ | assumption | refine bal ?_ _)⟩
  · by_cases h2 : op = 7 ∨ op = 8
    · rw [constB_shift h2]
      rcases h2 with rfl | rfl
      all_goals
        go_enter Tryd.func103, Tryd.ntmps103
        go_wp2
        all_goals go_ret
        all_goals exact ⟨bret (by rw [Bool.eq_iff_iff]; simp <;> omega), by repeat (first | exact Below.refl _ _ | assumption | refine bal ?_ _)⟩
    · rw [constB_else h h2]
      have t5 : (op == 5) = false := by simp; omega
      have t6 : (op == 6) = false := by simp; omega
      have t7 : (op == 7) = false := by simp; omega
      have t8 : (op == 8) = false := by simp; omega
      clear h h2
      go_enter Tryd.func103, Tryd.ntmps103
      go_wp2
      all_goals go_ret
      all_goals exact ⟨bret (by rw [Bool.eq_iff_iff]; simp <;> omega), by repeat (first | exact Below.refl _ _ | assumption | refine bal ?_ _)⟩
theorem asks_two (op t a b c : Int) (w : World) (h : op = 3 ∨ op = 4) : Calls Tryd.prog 104 #[.agg #[.int .i64 op, .int .i64 t, .int .i64 a, .int .i64 b, .int .i64 c]] w fun e w' => e = .returned (.slice (some ⟨w.heap.size + 1, 0, none⟩) 2 2) ∧ w'.cell? ⟨w.heap.size + 1, 0, none⟩ = some (.int .i64 a) ∧ w'.cell? ⟨w.heap.size + 1, 1, none⟩ = some (.int .i64 b) ∧ Below w.heap.size w w' := by
  rcases h with rfl | rfl
  all_goals
    go_enter Tryd.func104, Tryd.ntmps104
    go_wp2
    go_ret
    exact ⟨rfl, cell_new (by simp) rfl, cell_new (by simp) rfl, bal (bal (Below.refl _ _) _) _⟩
theorem asks_one (op t a b c : Int) (w : World) (h1 : 1 ≤ op) (h2 : op ≤ 8) (h : twoB op = false) : Calls Tryd.prog 104 #[.agg #[.int .i64 op, .int .i64 t, .int .i64 a, .int .i64 b, .int .i64 c]] w fun e w' => e = .returned (.slice (some ⟨w.heap.size + 1, 0, none⟩) 1 1) ∧ w'.cell? ⟨w.heap.size + 1, 0, none⟩ = some (.int .i64 a) ∧ Below w.heap.size w w' := by
  have h3 : ¬ (op = 3 ∨ op = 4) := by simpa [twoB] using h
  clear h
  have hc : op = 1 ∨ op = 2 ∨ op = 5 ∨ op = 6 ∨ op = 7 ∨ op = 8 := by omega
  clear h1 h2 h3
  rcases hc with rfl | rfl | rfl | rfl | rfl | rfl
  all_goals
    go_enter Tryd.func104, Tryd.ntmps104
    go_wp2
    go_ret
    exact ⟨rfl, cell_new (by simp) rfl, bal (bal (Below.refl _ _) _) _⟩
end Go.Proofs.YtannhpadoooedaaDoor
