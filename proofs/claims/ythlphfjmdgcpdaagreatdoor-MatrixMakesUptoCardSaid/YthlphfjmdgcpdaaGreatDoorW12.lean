/- Texts of this seat, laid together: RowH, Jn, VmA, LimbM. Each opens with its own remark, which says what it proves, and under which conditions. -/
import Derived.Test.YthlphfjmdgcpdaaGreatDoorW11
import Derived.OneCell
import Derived.Shelf.Strings.OnBuilder
import Derived.Laws.AppendOwn
import Derived.Test.YthlphfjmdgcpdaaGreatDoorW10
import Derived.Test.YthlphfjmdgcpdaaGreatDoorW02
set_option linter.unusedVariables false
set_option linter.unusedSimpArgs false
/- Lists of one-cell values in memory, whatever each of them stands for: 'Pr w v x'. Rows of numbers of the call's own. -/
namespace Go.Proofs.YthlphfjmdgcpdaaGreatDoor
open Num
open Go.ChangeShapes Go.WideShapes Go.ChangeAt Go.RowKit
set_option linter.unusedVariables false
set_option linter.unusedSimpArgs false
section
variable {S : TypeId → Prop} {w w' : World}
theorem Kp.cell (k : Kp S w w') {b o : Nat} {s : Option Nat} {t : TypeId} {v : Value} (ht : typOf w b = some t) (hs : S t) (h : w.cell? ⟨b, o, s⟩ = some v) : w'.cell? ⟨b, o, s⟩ = some v := by
  rw [World.cell?_of_block (w := w) (k b t ht hs)]; exact h
theorem Kp.frz (k : Kp S w w') {b o : Nat} {s : Option Nat} {t : TypeId} (ht : typOf w b = some t) (hs : S t) (h : w.frozen? ⟨b, o, s⟩ = false) : w'.frozen? ⟨b, o, s⟩ = false := by
  rw [World.frozen?_of_block (w := w) (k b t ht hs)]; exact h
theorem Kp.weak {T : TypeId → Prop} (k : Kp S w w') (h : ∀ t, T t → S t) : Kp T w w' := fun b t ht hs => k b t ht (h t hs)
end
/-- a row of numbers that lies in a block of the call's own (from base on), that may be written up to its capacity -/
def RowO (R : World → Value → Int → Prop) (E : TypeId) (base : Nat) (w : World) (v : Value) (l : List Int) : Prop :=
  ∃ xs, w.ownsRow base E 2 v l.length xs ∧ ∀ k, k < l.length → ∃ nb a len c, xs[k * 2]? = some (.bool nb) ∧ xs[k * 2 + 1]? = some (.slice a len c) ∧ R w (.agg #[.bool nb, .slice a len c]) (l.getD k 0)
section
variable {R : World → Value → Int → Prop} {E : TypeId} {base : Nat} {w w' w0 : World} {v : Value} {l : List Int}
theorem own_typ' {T : TypeId} {size n : Nat} {xs : List Value} (h : w.ownsRow base T size v n xs) {g : Nat} (hg : v.ownBlock = some g) : typOf w g = some T := by
  rcases h.2 with ⟨rfl, _⟩ | ⟨g', c, cur, rfl, _, hh, _⟩
  · simp [Value.ownBlock] at hg
  · simp [Value.ownBlock] at hg
    subst hg
    unfold typOf; rw [hh]
theorem owns_kp {S : TypeId → Prop} {T : TypeId} {size n : Nat} {xs : List Value} (h : w.ownsRow base T size v n xs) (k : Kp S w w') (hT : S T) : w'.ownsRow base T size v n xs := by
  refine ⟨h.1, ?_⟩
  rcases h.2 with h2 | ⟨g, cap, cur, rfl, hg, hh, r⟩
  · exact .inl h2
  · exact .inr ⟨g, cap, cur, rfl, hg, by rw [k g T (by unfold typOf; rw [hh]) hT]; exact hh, r⟩
theorem RowO.row (h : RowO R E base w v l) : IsRow R E base w v l := by
  obtain ⟨xs, ⟨hl, h1⟩, h2⟩ := h
  rcases h1 with ⟨rfl, h0⟩ | ⟨g, cap, cur, rfl, hg, hh, hc, hm, hs, ht⟩
  · have : l = [] := List.length_eq_zero_iff.1 h0
    subst this
    exact IsRow.nil R E _ _
  · refine ⟨_, cap, rfl, hc, hm, .inr ⟨g, 0, rfl, hg, by unfold typOf; rw [hh], fun k hk => ?_⟩⟩
    obtain ⟨nb, a, len, c, k1, k2, k3⟩ := h2 k hk
    have cel : ∀ j u, xs[j]? = some u → w.cell? ⟨g, j, none⟩ = some u := fun j u hj => by
      have hj2 : j < l.length * 2 := by have := (List.getElem?_eq_some_iff.1 hj).1; omega
      rw [← ht, List.getElem?_take_of_lt (by omega)] at hj
      simpa [World.cell?, hh] using hj
    exact ⟨nb, a, len, c, by rw [Nat.zero_add]; exact cel _ _ k1, by rw [Nat.zero_add]; exact cel _ _ k2, k3⟩
theorem RowO.nil (R : World → Value → Int → Prop) (E : TypeId) (base : Nat) (w : World) : RowO R E base w (.slice none 0 0) [] := ⟨[], World.ownsRow_nil _ _ _ _, fun k hk => absurd hk (by simp)⟩
theorem RowO.kp {S : TypeId → Prop} (hR : Lims R) (h : RowO R E base w v l) (k : Kp S w w') (hs : S 121) (hE : S E) : RowO R E base w' v l := by
  obtain ⟨xs, h1, h2⟩ := h
  refine ⟨xs, owns_kp h1 k hE, fun j hj => ?_⟩
  obtain ⟨nb, a, len, c, k1, k2, k3⟩ := h2 j hj
  exact ⟨nb, a, len, c, k1, k2, hR _ _ _ _ k3 (k.lim hs)⟩
theorem RowO.keep (hR : Lims R) (h : RowO R E base w v l) (k : Below w.heap.size w w') : RowO R E base w' v l := h.kp (S := fun _ => True) hR (Kp.of_below _ k) trivial trivial
theorem RowO.rebase {base' : Nat} (h : RowO R E base w v l) (hb : base' ≤ base) : RowO R E base' w v l := by
  obtain ⟨xs, ⟨hl, h1⟩, h2⟩ := h
  refine ⟨xs, ⟨hl, ?_⟩, h2⟩
  rcases h1 with h1 | ⟨g, cap, cur, hv, hg, r⟩
  · exact .inl h1
  · exact .inr ⟨g, cap, cur, hv, Nat.le_trans hb hg, r⟩
theorem OwnF.rowO (h : OwnF R E w0 w v l.length (fun k => l.getD k 0)) : RowO R E w0.heap.size w v l := by
  obtain ⟨xs, h1, h2⟩ := h
  exact ⟨xs, h1.1, h2⟩
theorem RowO.ex (h : RowO R E base w v l) : ∃ a c, v = .slice a l.length c := by
  obtain ⟨a, c, h1, _⟩ := h.row; exact ⟨a, c, h1⟩
end
theorem IsRow.view {R : World → Value → Int → Prop} {E : TypeId} {base : Nat} {w : World} {v : Value} {l : List Int} (h : IsRow R E base w v l) : ∃ a c, v = .slice a l.length c ∧ l.length ≤ c ∧ ∀ j, j < l.length → ∃ b off nb ad len cp, a = some ⟨b, off, none⟩ ∧ w.cell? ⟨b, off + j * 2, none⟩ = some (.bool nb) ∧ w.cell? ⟨b, off + j * 2 + 1, none⟩ = some (.slice ad len cp) ∧ R w (.agg #[.bool nb, .slice ad len cp]) (l.getD j 0) := by
  obtain ⟨a, c, h1, h2, h3, h4⟩ := h
  refine ⟨a, c, h1, h2, fun j hj => ?_⟩
  rcases h4 with h4 | ⟨b, off, ha, hb, ht, hi⟩
  · rw [h4] at hj; simp at hj
  · obtain ⟨nb, ad, len, cp, k1, k2, k3⟩ := hi j hj
    exact ⟨b, off, nb, ad, len, cp, ha, k1, k2, k3⟩
/-- what may stand in the cells of a list, and what keeps it -/
structure Prs {α : Type} (S : TypeId → Prop) (Pr : World → Value → α → Prop) : Prop where
  one : ∀ {w v x}, Pr w v x → v.oneCell' = true
  kp : ∀ {w w' v x}, Pr w v x → Kp S w w' → Pr w' v x
theorem prs_rowO {R : World → Value → Int → Prop} (hR : Lims R) (E : TypeId) (base : Nat) : Prs (fun t => t = 121 ∨ t = E) (RowO R E base) :=
  ⟨fun h => by obtain ⟨a, c, rfl⟩ := h.ex; rfl, fun h k => h.kp hR k (.inl rfl) (.inr rfl)⟩
theorem prs_row {R : World → Value → Int → Prop} (hR : Lims R) (E : TypeId) (base : Nat) : Prs (fun t => t = 121 ∨ t = E) (IsRow R E base) :=
  ⟨fun h => by obtain ⟨a, c, rfl, _⟩ := h; rfl, fun h k => h.kp hR k (.inl rfl) (.inr rfl)⟩
/-- a list in memory -/
def IsL {α : Type} (T : TypeId) (Pr : World → Value → α → Prop) (base : Nat) (w : World) (v : Value) (g : List α) : Prop :=
  ∃ a c, v = .slice a g.length c ∧ g.length ≤ c ∧ c ≤ maxLen ∧ (g = [] ∨ ∃ b off, a = some ⟨b, off, none⟩ ∧ base ≤ b ∧ typOf w b = some T ∧ ∀ k (hk : k < g.length), ∃ u, w.cell? ⟨b, off + k, none⟩ = some u ∧ Pr w u g[k])
/-- a list of the call's own, built by append -/
def OwnL {α : Type} (T : TypeId) (Pr : World → Value → α → Prop) (w0 wr : World) (v : Value) (g : List α) : Prop :=
  ∃ xs, OwnE T 1 w0 wr v g.length xs ∧ ∀ k (hk : k < g.length), ∃ u, xs[k]? = some u ∧ Pr wr u g[k]
section
variable {α : Type} {S : TypeId → Prop} {T : TypeId} {Pr : World → Value → α → Prop} {base : Nat} {w w' w0 wr : World} {v u : Value} {g : List α} {x : α}
theorem IsL.kp {S' : TypeId → Prop} (hP : Prs S Pr) (h : IsL T Pr base w v g) (k : Kp S' w w') (hs : ∀ t, S t → S' t) (hT : S' T) : IsL T Pr base w' v g := by
  obtain ⟨a, c, h1, h2, h3, h4⟩ := h
  refine ⟨a, c, h1, h2, h3, h4.imp id ?_⟩
  rintro ⟨b, off, e, hb, ht, hi⟩
  refine ⟨b, off, e, hb, k.typ ht hT, fun j hj => ?_⟩
  obtain ⟨u, hu, hr⟩ := hi j hj
  exact ⟨u, k.cell ht hT hu, hP.kp hr (k.weak hs)⟩
theorem IsL.keep (hP : Prs S Pr) (h : IsL T Pr base w v g) (k : Below w.heap.size w w') : IsL T Pr base w' v g := h.kp (S' := fun _ => True) hP (Kp.of_below _ k) (fun _ _ => trivial) trivial
theorem IsL.mono {Q : World → Value → α → Prop} (h : IsL T Pr base w v g) (hq : ∀ u x, Pr w u x → Q w u x) : IsL T Q base w v g := by
  obtain ⟨a, c, h1, h2, h3, h4⟩ := h
  refine ⟨a, c, h1, h2, h3, h4.imp id ?_⟩
  rintro ⟨b, off, e, hb, ht, hi⟩
  exact ⟨b, off, e, hb, ht, fun j hj => by obtain ⟨u, hu, hr⟩ := hi j hj; exact ⟨u, hu, hq _ _ hr⟩⟩
theorem IsL.rebase {base' : Nat} (h : IsL T Pr base w v g) (hb : base' ≤ base) : IsL T Pr base' w v g := by
  obtain ⟨a, c, h1, h2, h3, h4⟩ := h
  refine ⟨a, c, h1, h2, h3, h4.imp id ?_⟩
  rintro ⟨b, off, e, hb', r⟩
  exact ⟨b, off, e, Nat.le_trans hb hb', r⟩
theorem IsL.nil (T : TypeId) (Pr : World → Value → α → Prop) (base : Nat) (w : World) : IsL T Pr base w (.slice none 0 0) [] := ⟨none, 0, rfl, Nat.le_refl _, by unfold maxLen; omega, .inl rfl⟩
/-- a list's value, and what lies at each place -/
theorem IsL.view (h : IsL T Pr base w v g) : ∃ a c, v = .slice a g.length c ∧ g.length ≤ c ∧ ∀ k (hk : k < g.length), ∃ b off u, a = some ⟨b, off, none⟩ ∧ w.cell? ⟨b, off + k, none⟩ = some u ∧ Pr w u g[k] := by
  obtain ⟨a, c, h1, h2, h3, h4⟩ := h
  refine ⟨a, c, h1, h2, fun k hk => ?_⟩
  rcases h4 with h4 | ⟨b, off, e, hb, ht, hi⟩
  · subst h4; simp at hk
  · obtain ⟨u, hu, hr⟩ := hi k hk
    exact ⟨b, off, u, e, hu, hr⟩
theorem OwnL.nil (T : TypeId) (Pr : World → Value → α → Prop) (hb : Below w0.heap.size w0 wr) : OwnL T Pr w0 wr (.slice none 0 0) [] := ⟨[], OwnE.nil _ _ hb, fun k hk => absurd hk (by simp)⟩
theorem OwnL.below (hP : Prs S Pr) (h : OwnL T Pr w0 wr v g) (hb : Below wr.heap.size wr w') : OwnL T Pr w0 w' v g := by
  obtain ⟨xs, h1, h2⟩ := h
  refine ⟨xs, h1.below hb, fun k hk => ?_⟩
  obtain ⟨u, hu, hr⟩ := h2 k hk
  exact ⟨u, hu, hP.kp hr (Kp.of_below _ hb)⟩
theorem OwnL.bel (h : OwnL T Pr w0 wr v g) : Below w0.heap.size w0 wr := by obtain ⟨xs, h1, _⟩ := h; exact h1.2
theorem OwnL.ex (h : OwnL T Pr w0 wr v g) : ∃ a c, v = .slice a g.length c := by
  obtain ⟨xs, ⟨⟨_, h1⟩, _⟩, _⟩ := h
  rcases h1 with ⟨rfl, h0⟩ | ⟨b, cap, cur, rfl, _⟩
  · exact ⟨none, 0, by rw [h0]⟩
  · exact ⟨_, _, rfl⟩
theorem OwnL.isL (h : OwnL T Pr w0 wr v g) : IsL T Pr w0.heap.size wr v g := by
  obtain ⟨xs, ⟨⟨hl, h1⟩, _⟩, h2⟩ := h
  rcases h1 with ⟨rfl, h0⟩ | ⟨b, cap, cur, rfl, hg, hh, hc, hm, hs, ht⟩
  · have : g = [] := List.length_eq_zero_iff.1 h0
    subst this
    exact IsL.nil _ _ _ _
  · refine ⟨_, cap, rfl, hc, hm, .inr ⟨b, 0, rfl, hg, by unfold typOf; rw [hh], fun k hk => ?_⟩⟩
    obtain ⟨u, hu, hr⟩ := h2 k hk
    refine ⟨u, ?_, hr⟩
    rw [← ht, List.getElem?_take_of_lt (by omega)] at hu
    simpa [World.cell?, hh] using hu
theorem OwnL.snoc (hP : Prs S Pr) {xs : List Value} {v' : Value} (h2 : ∀ k (hk : k < g.length), ∃ u, xs[k]? = some u ∧ Pr wr u g[k]) (hl : xs.length = g.length) (hu : Pr wr u x)
    (k : Kp S wr w') (hO : OwnE T 1 w0 w' v' (g.length + 1) (xs ++ [u])) : OwnL T Pr w0 w' v' (g ++ [x]) := by
  refine ⟨_, by simpa using hO, fun j hj => ?_⟩
  simp at hj
  by_cases e : j < g.length
  · obtain ⟨u', hu', hr⟩ := h2 j e
    exact ⟨u', by rw [List.getElem?_append_left (by omega)]; exact hu', by rw [List.getElem_append_left e]; exact hP.kp hr k⟩
  · obtain rfl : j = g.length := by omega
    exact ⟨u, by rw [List.getElem?_append_right (by omega), hl]; simp, by rw [List.getElem_append_right (by omega)]; simpa using hP.kp hu k⟩
theorem OwnL.rebase {w1 : World} (h : OwnL T Pr w1 wr v g) (hb : Below w0.heap.size w0 w1) : OwnL T Pr w0 wr v g := by
  obtain ⟨xs, ⟨⟨hl, h1⟩, hB⟩, h2⟩ := h
  refine ⟨xs, ⟨⟨hl, ?_⟩, bthen hb hB⟩, h2⟩
  rcases h1 with h1 | ⟨b, cap, cur, hv, hg, r⟩
  · exact .inl h1
  · exact .inr ⟨b, cap, cur, hv, Nat.le_trans hb.size hg, r⟩
theorem OwnL.mono {Q : World → Value → α → Prop} (h : OwnL T Pr w0 wr v g) (hq : ∀ u x, Pr wr u x → Q wr u x) : OwnL T Q w0 wr v g := by
  obtain ⟨xs, h1, h2⟩ := h
  exact ⟨xs, h1, fun k hk => by obtain ⟨u, hu, hr⟩ := h2 k hk; exact ⟨u, hu, hq _ _ hr⟩⟩
/-- what is owned stays, where a cell of another type's block is set -/
theorem OwnL.set (hP : Prs S Pr) (h : OwnL T Pr w0 wr v g) {p : Addr} {t : TypeId} (ht : typOf wr p.block = some t) (h1 : t ≠ T) (h2 : ¬ S t) (hp : w0.heap.size ≤ p.block) (y : Value) : OwnL T Pr w0 (wr.setCell p y) v g := by
  obtain ⟨xs, ⟨hO, hB⟩, hx⟩ := h
  have hk : Kp S wr (wr.setCell p y) := (Kp.refl _ _).set (fun t' ht' => by rw [ht] at ht'; cases ht'; exact h2) y
  refine ⟨xs, ⟨ownsRow_setCell_other hO ?_ y, bset hB hp y⟩, fun k hk' => ?_⟩
  · intro hb
    have := own_typ ⟨hO, hB⟩ hb
    rw [ht] at this; cases this; exact h1 rfl
  · obtain ⟨u, hu, hr⟩ := hx k hk'
    exact ⟨u, hu, hP.kp hr hk⟩
end
section
variable {α : Type} {P : Program} {TT T : TypeId} {bytes : Nat} {S : TypeId → Prop} {Pr : World → Value → α → Prop} {ops : Array Oper} {o : Oper} {a : Act} {Q : Exit → Act → World → Prop} {w0 wr : World} {v u : Value} {g : List α} {y : α} {t : TypeId} {s x : Operand} {cc gb : Nat}
/-- append of one value: it lies in a variable of one cell -/
theorem wp_appL {K : Act → World → Prop} (el : Elt P TT T 1 bytes) (hP : Prs S Pr) (hT : ¬ S T)
    (ho : o.op = .call { callee := .builtin .append, args := #[s, x], argTypes := #[TT, TT] }) (hO : OwnL T Pr w0 wr v g) (hv : Pr wr u y) (hs : a.eval s = v)
    (hx : a.eval x = .slice (some ⟨gb, 0, none⟩) 1 cc) (hc : wr.cell? ⟨gb, 0, none⟩ = some u) (hn : (g.length + 1) * bytes ≤ 140737488355328) (hn2 : g.length + 1 ≤ maxLen)
    (h : ∀ v' w', OwnL T Pr w0 w' v' (g ++ [y]) → Kp (· ≠ T) wr w' → K (a.put o.dst v') w') : Oper.wp P o a wr K Q := by
  obtain ⟨i, z0, hi, hz, hsize, hby, hzs⟩ := el.info
  obtain ⟨xs, h1, h2⟩ := hO
  have hone : u.oneCell' = true := hP.one hv
  refine wp_append_own _ s x TT ho w0.heap.size T i z0 1 bytes el.ht hi hz hsize hby hzs el.pos v g.length xs hs h1.1 ⟨gb, 0, none⟩ 1 cc [u] hx rfl (fun j y hj => ?_) (fun y hy => by simp at hy; subst hy; exact hone) hn2 hn h1.2.size ?_
  · have hj1 : j < 1 := (List.getElem?_eq_some_iff.1 hj).1
    obtain rfl : j = 0 := by omega
    simp at hj; subst hj
    simpa [Addr.add] using hc
  intro v' w' hown hg _
  have hk : Kp (· ≠ T) wr w' := (Kp.refl _ wr).grown hg fun q hg' t' ht hne => hne (by
    rw [own_typ h1 hg'] at ht
    exact (Option.some.inj ht).symm)
  exact h v' w' (OwnL.snoc hP h2 (by simpa using h1.1.1) hv (hk.weak fun t hs e => hT (e ▸ hs)) ⟨hown, below_append (wr := wr) h1.2 h1.1 hg⟩) hk
theorem appL {rest : List Oper} (el : Elt P TT T 1 bytes) (hP : Prs S Pr) (hT : ¬ S T) (hgd : o.guard = none)
    (ho : o.op = .call { callee := .builtin .append, args := #[s, x], argTypes := #[TT, TT] }) (hO : OwnL T Pr w0 wr v g) (hv : Pr wr u y) (hs : a.eval s = v)
    (hx : a.eval x = .slice (some ⟨gb, 0, none⟩) 1 cc) (hc : wr.cell? ⟨gb, 0, none⟩ = some u) (hn : (g.length + 1) * bytes ≤ 140737488355328) (hn2 : g.length + 1 ≤ maxLen)
    (h : ∀ v' w', OwnL T Pr w0 w' v' (g ++ [y]) → Kp (· ≠ T) wr w' → wpList P ops Q rest (a.put o.dst v') w') : wpList P ops Q (o :: rest) a wr :=
  wpList_plain hgd fun _ hK => wp_appL el hP hT ho hO hv hs hx hc hn hn2 fun v' w' h1 h2 => hK _ _ (h v' w' h1 h2)
theorem stepL {K : Act → World → Prop} {Z : Prop} (el : Elt P TT T 1 bytes) (hP : Prs S Pr) (hT : ¬ S T) (hgd : o.guard = none)
    (ho : o.op = .call { callee := .builtin .append, args := #[s, x], argTypes := #[TT, TT] }) (hO : OwnL T Pr w0 wr v g) (hv : Pr wr u y) (hs : a.eval s = v)
    (hx : a.eval x = .slice (some ⟨gb, 0, none⟩) 1 cc) (hc : wr.cell? ⟨gb, 0, none⟩ = some u) (hn : (g.length + 1) * bytes ≤ 140737488355328) (hn2 : g.length + 1 ≤ maxLen)
    (h : ∀ v' w', OwnL T Pr w0 w' v' (g ++ [y]) → Kp (· ≠ T) wr w' → K (a.put o.dst v') w') : if Region.wanted o (yielded ops a.tmps) = true then Oper.wp P o a wr K Q else Z := by
  have hw : Region.wanted o (yielded ops a.tmps) = true := by simp [Region.wanted, hgd]
  rw [if_pos hw]
  exact wp_appL el hP hT ho hO hv hs hx hc hn hn2 h
end
/-- a new row of noughts -/
theorem RowO.make (w : World) (n : Nat) (hn : n ≤ maxLen) : RowO IsInt 36 w.heap.size (w.alloc (.cells (zcel n) 36)) (.slice (some ⟨w.heap.size, 0, none⟩) n n) (List.replicate n 0) := by
  have hs : (zcel n).size = n * 2 := by simp [zcel, size_madeCells]
  have hl : (zcel n).toList.length = n * 2 := by rw [Array.length_toList, hs]
  refine ⟨(zcel n).toList, ⟨by rw [List.length_replicate]; exact hl, .inr ⟨w.heap.size, n, zcel n, by rw [List.length_replicate], Nat.le_refl _, (MapKept.heap_alloc w _).1, by rw [List.length_replicate]; exact Nat.le_refl _, hn, hs, ?_⟩⟩, fun k hk => ?_⟩
  · rw [List.length_replicate, ← hl, List.take_length]
  · rw [List.length_replicate] at hk
    obtain ⟨h1, h2⟩ := zcel_at hk
    refine ⟨false, none, 0, 0, by rw [Array.getElem?_toList]; exact h1, by rw [Array.getElem?_toList]; exact h2, ?_⟩
    have : (List.replicate n (0 : Int)).getD k 0 = 0 := by simp [hk]
    rw [this]; exact isInt_zero _
theorem infoRow : (Tryz.prog.info? 59).map (fun i => (i.zero, i.size, i.bytes)) = some (some (.slice none 0 0), 1, 24) := by kernel_rfl
theorem elRow : Elt Tryz.prog 25 59 1 24 := Elt.mk' Tryz.underlying25 infoRow rfl (by decide) (by decide)
/-- what is owned, and not empty, by its block -/
theorem OwnL.blk {α : Type} {T : TypeId} {Pr : World → Value → α → Prop} {w0 wr : World} {v : Value} {g : List α} (h : OwnL T Pr w0 wr v g) (hg : 0 < g.length) : ∃ rb rc, v = .slice (some ⟨rb, 0, none⟩) g.length rc ∧ w0.heap.size ≤ rb ∧ g.length ≤ rc ∧ rc ≤ maxLen ∧ Free wr rb ∧ typOf wr rb = some T ∧ ∀ k (hk : k < g.length), ∃ u, wr.cell? ⟨rb, k, none⟩ = some u ∧ Pr wr u g[k] := by
  obtain ⟨xs, ⟨⟨hl, h1⟩, hB⟩, h2⟩ := h
  rcases h1 with ⟨rfl, h0⟩ | ⟨b, cap, cur, rfl, hb, hh, hc, hm, hs, ht⟩
  · omega
  · refine ⟨b, cap, rfl, hb, hc, hm, ⟨(Array.getElem?_eq_some_iff.1 hh).1, fun j => ?_⟩, by unfold typOf; rw [hh], fun k hk => ?_⟩
    · unfold World.frozen?
      rw [show wr.heap[(⟨b, j, none⟩ : Addr).block]? = _ from hh]
      simp
    · obtain ⟨u, hu, hr⟩ := h2 k hk
      refine ⟨u, ?_, hr⟩
      rw [← ht, List.getElem?_take_of_lt (by omega)] at hu
      simpa [World.cell?, hh] using hu
end Go.Proofs.YthlphfjmdgcpdaaGreatDoor

/- strings.Join, laid from the shelf; lists of texts. -/
namespace Go.Proofs.YthlphfjmdgcpdaaGreatDoor
open Num
open Go.ChangeShapes Go.WideShapes Go.ChangeAt Go.RowKit
set_option linter.unusedVariables false
set_option linter.unusedSimpArgs false
def jn_lays156_ren : Go.Shelf.Ren := ⟨fun | 156 => 72 | 165 => 117 | 166 => 118 | 169 => 119 | 240 => 146 | 241 => 147 | 276 => 162 | 277 => 163 | n => n, fun | 0 => 0 | 3 => 3 | 4 => 4 | 5 => 5 | 9 => 9 | 20 => 20 | 31 => 124 | 37 => 147 | 70 => 164 | 72 => 166 | 75 => 169 | 76 => 170 | 80 => 66 | 127 => 195 | 164 => 209 | n => n, fun n => n⟩
theorem jn_lays156 : Go.Proofs.Lays.n156 Tryz.prog jn_lays156_ren := {
  mixed := by kernel_rfl
  f156 := Tryz.func72.trans (congrArg some (by kernel_rfl))
  f165 := Tryz.func117.trans (congrArg some (by kernel_rfl))
  f166 := Tryz.func118.trans (congrArg some (by kernel_rfl))
  f169 := Tryz.func119.trans (congrArg some (by kernel_rfl))
  f240 := Tryz.func146.trans (congrArg some (by kernel_rfl))
  f241 := Tryz.func147.trans (congrArg some (by kernel_rfl))
  f276 := Tryz.func162.trans (congrArg some (by kernel_rfl))
  f277 := Tryz.func163.trans (congrArg some (by kernel_rfl))
  t0 := Tryz.underlying0
  a0 := Tryz.isAgg0
  z0 := Tryz.sizeOf0
  v0 := Tryz.zeroValue0
  t3 := Tryz.underlying3
  a3 := Tryz.isAgg3
  z3 := Tryz.sizeOf3
  v3 := Tryz.zeroValue3
  t4 := Tryz.underlying4
  a4 := Tryz.isAgg4
  z4 := Tryz.sizeOf4
  v4 := Tryz.zeroValue4
  t9 := Tryz.underlying9
  a9 := Tryz.isAgg9
  z9 := Tryz.sizeOf9
  v9 := Tryz.zeroValue9
  t20 := Tryz.underlying20
  a20 := Tryz.isAgg20
  z20 := Tryz.sizeOf20
  v20 := Tryz.zeroValue20
  t31 := Tryz.underlying124
  a31 := Tryz.isAgg124
  z31 := Tryz.sizeOf124
  v31 := Tryz.zeroValue124
  t37 := Tryz.underlying147
  a37 := Tryz.isAgg147
  z37 := Tryz.sizeOf147
  v37 := Tryz.zeroValue147
  t70 := Tryz.underlying164
  a70 := Tryz.isAgg164
  z70 := Tryz.sizeOf164
  v70 := Tryz.zeroValue164
  t72 := Tryz.underlying166
  a72 := Tryz.isAgg166
  z72 := Tryz.sizeOf166
  v72 := Tryz.zeroValue166
  t75 := Tryz.underlying169
  a75 := Tryz.isAgg169
  z75 := Tryz.sizeOf169
  v75 := Tryz.zeroValue169
  t76 := Tryz.underlying170
  a76 := Tryz.isAgg170
  z76 := Tryz.sizeOf170
  v76 := Tryz.zeroValue170
  t127 := Tryz.underlying195
  a127 := Tryz.isAgg195
  z127 := Tryz.sizeOf195
  v127 := Tryz.zeroValue195
  t164 := Tryz.underlying209
  a164 := Tryz.isAgg209
  z164 := Tryz.sizeOf209
  v164 := Tryz.zeroValue209 }
theorem jn_Builder_Extra : Go.Proofs.Builder.Extra Tryz.prog jn_lays156_ren := {
  sizeBuilder := by kernel_rfl
  liesBuilder := by kernel_rfl
  t5 := Tryz.underlying5
  a5 := Tryz.isAgg5
  z5 := Tryz.sizeOf5
  v5 := Tryz.zeroValue5
  infoByte := by kernel_rfl
  cellsByte := by kernel_rfl
  sizeByte := by kernel_rfl
  neB5 := by decide }
/-- a text in a list of texts -/
def PTx (w : World) (u : Value) (x : List UInt8) : Prop := u = .string ⟨x.toArray⟩
theorem prs_ptx : Prs (fun _ => False) PTx := ⟨fun h => by cases h; rfl, fun h _ => h⟩
theorem infoStr : (Tryz.prog.info? 9).map (fun i => (i.zero, i.size, i.bytes)) = some (some (.string ⟨#[]⟩), 1, 16) := by kernel_rfl
theorem elStr : Elt Tryz.prog 124 9 1 16 := Elt.mk' Tryz.underlying124 infoStr rfl (by decide) (by decide)
theorem txt_back (L : List (List UInt8)) : (L.map fun x => (⟨x.toArray⟩ : ByteArray)).map (·.data.toList) = L := by
  rw [List.map_map]; conv => rhs; rw [← List.map_id L]
  rfl
theorem join_c (v : Value) (L : List (List UInt8)) (base : Nat) (w : World) (hv : IsL 9 PTx base w v L) (hN : L.length ≤ 140737488355328) (hlen : (Lib.join L [32]).length ≤ 140737488355328) :
    Calls Tryz.prog 72 #[v, .string ⟨#[32]⟩] w fun e w' => e = .returned (.string ⟨(Lib.join L [32]).toArray⟩) ∧ Below w.heap.size w w' := by
  obtain ⟨a, c, rfl, hcap, hvw⟩ := hv.view
  cases L with
  | nil =>
    have h := (Any.strings_Join_none jn_lays156 jn_Builder_Extra a c ⟨#[32]⟩ w).mono fun e w' ⟨he, hw⟩ => (⟨he, hw ▸ Below.refl _ _⟩ : _ ∧ Below w.heap.size w w')
    exact h
  | cons x L =>
    obtain ⟨b, off, u, rfl, hu, -⟩ := hvw 0 (by simp)
    have h := Any.strings_Join jn_lays156 jn_Builder_Extra b off c ((x :: L).map fun x => (⟨x.toArray⟩ : ByteArray)) ⟨#[32]⟩ w (fun j y hj => by
      rw [List.getElem?_map] at hj
      obtain ⟨z, hz, rfl⟩ := Option.map_eq_some_iff.1 hj
      obtain ⟨hj', rfl⟩ := List.getElem?_eq_some_iff.1 hz
      obtain ⟨b2, off2, u2, e2, hu2, hp⟩ := hvw j hj'
      cases e2
      rw [← show u2 = _ from hp]; exact hu2) (cell_lt hu) (by simpa using hN) (by simpa using hcap) (by rw [txt_back]; exact hlen)
    rw [txt_back, List.length_map] at h
    exact h
end Go.Proofs.YthlphfjmdgcpdaaGreatDoor

/- slices.Clone at []integer.Int and at [][]integer.Int. -/
namespace Go.Proofs.YthlphfjmdgcpdaaGreatDoor
open Num
open Go.ChangeShapes Go.WideShapes Go.ChangeAt Go.RowKit
set_option linter.unusedVariables false
set_option linter.unusedSimpArgs false
/-- what lies in a block from off on -/
def cellsAt (w : World) (b off m : Nat) : List Value := (List.range m).map fun j => (w.cell? ⟨b, off + j, none⟩).getD .nilFunc
theorem cellsAt_len (w : World) (b off m : Nat) : (cellsAt w b off m).length = m := by simp [cellsAt]
theorem cellsAt_get {w : World} {b off m j : Nat} {v : Value} (h : j < m) (hv : w.cell? ⟨b, off + j, none⟩ = some v) : (cellsAt w b off m)[j]? = some v := by simp [cellsAt, h, hv]
theorem cellsAt_lt {w : World} {b off m j : Nat} {v : Value} (h : (cellsAt w b off m)[j]? = some v) : j < m := by
  have := (List.getElem?_eq_some_iff.1 h).1
  rwa [cellsAt_len] at this
theorem cellsAt_at {w W : World} (hW : Below w.heap.size w W) {b off m : Nat} (hc : ∀ j, j < m → ∃ v, w.cell? ⟨b, off + j, none⟩ = some v) : ∀ j u, (cellsAt w b off m)[j]? = some u → W.cell? ((⟨b, off, none⟩ : Addr).add j) = some u := by
  intro j u hj
  have hl := cellsAt_lt hj
  obtain ⟨v, hv⟩ := hc j hl
  rw [cellsAt_get hl hv] at hj
  cases hj
  have := bkeep hW hv
  unfold Addr.add
  split
  · subst_vars; simpa using this
  · exact this
theorem cellsAt_all {w : World} {b off m : Nat} {p : Value → Prop} (hc : ∀ j, j < m → ∃ v, w.cell? ⟨b, off + j, none⟩ = some v ∧ p v) : ∀ u ∈ cellsAt w b off m, p u := by
  intro u hu
  obtain ⟨j, hj⟩ := List.mem_iff_getElem?.1 hu
  have hl := cellsAt_lt hj
  obtain ⟨v, hv, hp⟩ := hc j hl
  rw [cellsAt_get hl hv] at hj
  cases hj; exact hp
theorem intsF_cells {R : World → Value → Int → Prop} {w : World} {b off n : Nat} {f : Nat → Int} (h : IntsF R w b off n f) : ∀ j, j < n * 2 → ∃ v, w.cell? ⟨b, off + j, none⟩ = some v ∧ v.oneCell' = true := by
  intro j hj
  obtain ⟨nb, a, len, c, h1, h2, _⟩ := h (j / 2) (by omega)
  by_cases e : j % 2 = 0
  · exact ⟨_, by rw [show off + j = off + j / 2 * 2 by omega]; exact h1, rfl⟩
  · exact ⟨_, by rw [show off + j = off + j / 2 * 2 + 1 by omega]; exact h2, rfl⟩
theorem ownF_of_cells {R : World → Value → Int → Prop} (hR : Lims R) {E : TypeId} {w w' : World} {b off n : Nat} {f : Nat → Int} {v' : Value} (h : IntsF R w b off n f) (hb : Below w.heap.size w w') (hO : w'.ownsRow w.heap.size E 2 v' n (cellsAt w b off (n * 2))) : OwnF R E w w' v' n f := by
  refine ⟨_, ⟨hO, hb⟩, fun k hk => ?_⟩
  obtain ⟨nb, a, len, c, h1, h2, h3⟩ := h k hk
  exact ⟨nb, a, len, c, cellsAt_get (by omega) h1, cellsAt_get (by omega) h2, hR _ _ _ _ h3 (.of_below hb)⟩
set_option maxRecDepth 100000 in
set_option maxHeartbeats 1000000 in
theorem cloneRow_c (base : Nat) (v : Value) (l : List Int) (w : World) (hv : PRow base w v l) (h1 : l.length ≤ 1099511627776) :
    Calls Tryz.prog 68 #[v] w fun e w' => (∃ v', e = .returned v' ∧ RowO IsInt 36 w.heap.size w' v' l) ∧ Below w.heap.size w w' := by
  obtain ⟨a, ca, rfl, hlc, hcm, hl⟩ := hv
  have hB0 := Below.refl w.heap.size w
  have hq := fun w => Lib.run_eql_slice_nil w 59 36 a l.length ca 0 0 Tryz.underlying59
  cases a with
  | none =>
    obtain rfl : l = [] := by rcases hl with h | ⟨b, off, h, _⟩
                              · exact h
                              · cases h
    have hq2 : ∀ w, (binOp .eql 59 (.slice none 0 ca) (.slice none 0 0)).run Tryz.prog w = .ok (.bool true) w := hq
    clear hq hl
    go_enter Tryz.func68, Tryz.ntmps68
    go_wp2
    go_ret
    exact ⟨⟨_, rfl, RowO.nil _ _ _ _⟩, Below.refl _ _⟩
  | some ad =>
    obtain ⟨i0, z0, hi, hz0, hz1, hz2, hz3⟩ := elInt.info
    obtain ⟨xs, hx1, hx2, hx3, HX⟩ : ∃ xs : List Value, xs.length = l.length * 2 ∧ (∀ (W : World), Below w.heap.size w W → ∀ j u, xs[j]? = some u → W.cell? (ad.add j) = some u) ∧ (∀ u ∈ xs, u.oneCell' = true) ∧
        Hid (∀ v' w', Below w.heap.size w w' → w'.ownsRow w.heap.size 36 2 v' l.length xs → RowO IsInt 36 w.heap.size w' v' l) := by
      rcases hl with rfl | ⟨b, off, h, hb, ht, hi'⟩
      · refine ⟨[], by simp, fun W hW j u hj => by simp at hj, fun u hu => by simp at hu, Lib.hid fun v' w' hb' hO => ?_⟩
        have : OwnF IsInt 36 w w' v' ([] : List Int).length (fun k => ([] : List Int).getD k 0) := ⟨[], ⟨hO, hb'⟩, fun k hk => absurd hk (by simp)⟩
        exact this.rowO
      · cases h
        refine ⟨cellsAt w b off (l.length * 2), cellsAt_len _ _ _ _, fun W hW => cellsAt_at hW fun j hj => ?_, cellsAt_all (intsF_cells hi'), Lib.hid fun v' w' hb' hO => ?_⟩
        · obtain ⟨v, hv, _⟩ := intsF_cells hi' j hj; exact ⟨v, hv⟩
        · exact (ownF_of_cells lims_int hi' hb' hO).rowO
    clear hl
    have ho : (w.alloc (.cells #[] 36)).ownsRow w.heap.size 36 2 (.slice (some ⟨w.heap.size, 0, none⟩) 0 0) 0 [] := ⟨rfl, .inr ⟨w.heap.size, 0, #[], rfl, Nat.le_refl _, (MapKept.heap_alloc w _).1, Nat.le_refl _, by unfold maxLen; omega, rfl, rfl⟩⟩
    go_enter Tryz.func68, Tryz.ntmps68
    go_wp2_with (at_builtin; refine wpList_append_own _ rfl _ _ 59 rfl w.heap.size 36 i0 z0 2 32 Tryz.underlying59 hi hz0 hz1 hz2 hz3 (by decide) _ 0 [] rfl ho ad l.length ca xs rfl hx1 (hx2 _ (bal hB0 _)) hx3 (by unfold maxLen; omega) (by omega) (by simp) ?_)
    intro v' w1 hown hgrow _
    have hbel := below_append (wr := w) (bal hB0 _) ho hgrow
    try simp only [Nat.zero_add, List.nil_append] at hown
    have hr := HX.out v' w1 hbel hown
    have HU := Lib.hid hr
    obtain ⟨a', c', rfl⟩ := hr.ex
    clear hr
    clear hown hx1 hx2 hx3 hq hgrow ho
    go_wp2
    go_ret
    exact ⟨⟨_, rfl, HU.out⟩, hbel⟩
end Go.Proofs.YthlphfjmdgcpdaaGreatDoor

/- limb: DivMod by a divisor of two limbs or more; DivMod. -/
namespace Go.Proofs.YthlphfjmdgcpdaaGreatDoor
open Num
open Go.ChangeShapes Go.WideShapes Go.ChangeAt Go.RowKit
set_option linter.unusedVariables false
set_option linter.unusedSimpArgs false
theorem rw_of_own {w : World} {base : Nat} {v : Value} {n : Nat} {L : List Nat} (h : w.ownsRow base 121 1 v n (cel L)) (h0 : L ≠ []) : ∃ g cap, v = .slice (some ⟨g, 0, none⟩) L.length cap ∧ base ≤ g ∧ L.length ≤ cap ∧ cap ≤ maxLen ∧ Rw32 w g L := by
  obtain ⟨hl, h1⟩ := h
  rw [cel_len, Nat.mul_one] at hl
  rcases h1 with ⟨rfl, h2⟩ | ⟨g, cap, cur, rfl, hg, hh, hc, hm, hs, ht⟩
  · exact absurd (List.length_eq_zero_iff.1 (hl.trans h2)) h0
  · subst hl
    exact ⟨g, cap, rfl, hg, hc, hm, cur, hh, by rwa [Nat.mul_one] at ht⟩

/-- what an append makes of a full slice -/
def Grown32 (B : Nat) (w' : World) (v : Value) (L : List Nat) : Prop := ∃ g cap, v = .slice (some ⟨g, 0, none⟩) L.length cap ∧ B ≤ g ∧ L.length ≤ cap ∧ cap ≤ maxLen ∧ Rw32 w' g L
set_option maxRecDepth 100000 in
theorem app32g {ops : Array Oper} {rest : List Oper} {o : Oper} {a : Act} {Q : Exit → Act → World → Prop} {wr : World} {b off : Nat} {L X : List Nat} {t : TypeId} (hgd : o.guard = none) {s x : Operand}
    (ho : o.op = .call { callee := .builtin .append, args := #[s, x], argTypes := #[34, 34] }) (hL : At32 wr b off L) (hs : a.eval s = .slice (some ⟨b, off, none⟩) L.length L.length)
    {c : Nat} (hx : a.eval x = .slice (some ⟨wr.heap.size, 0, none⟩) X.length c) (hX : X ≠ []) (hn : L.length + X.length ≤ 1099511627776)
    (h : ∀ v' w', Grown32 wr.heap.size w' v' (L ++ X) → Below wr.heap.size wr w' → wpList Tryz.prog ops Q rest (a.put o.dst v') w') : wpList Tryz.prog ops Q (o :: rest) a (wr.alloc (.cells (cel X).toArray t)) := by
  obtain ⟨i0, hi, hz0, hz1, hz2⟩ := info_parts info32
  have hXl : 0 < X.length := List.length_pos_iff.2 hX
  refine wpList_append_grows _ hgd s x 34 ho 121 i0 (.int .u32 0) 1 4 Tryz.underlying34 hi hz0 hz1 hz2 rfl (by decide) (some ⟨b, off, none⟩) L.length L.length (cel L) hs (fun h => by cases h) (by rw [cel_len, Nat.mul_one]) ?_ ⟨wr.heap.size, 0, none⟩ X.length c (cel X) hx (by rw [cel_len, Nat.mul_one]) (cells_new wr _ _) (cel_one _) (by omega) (by unfold maxLen; omega) (by omega) ?_
  · intro b' hb' j u hj
    cases hb'
    have hjl : j < L.length := by have := (List.getElem?_eq_some_iff.1 hj).1; rwa [cel_len] at this
    rw [cel_get L j hjl] at hj
    cases hj
    have := hL j hjl
    refine cell_alloc ?_ _
    unfold Addr.add
    split
    · subst_vars; simpa using this
    · exact this
  · intro v' w' hown hgr
    rw [← cel_app] at hown
    obtain ⟨g, cap, e, hg, r⟩ := rw_of_own hown (by simp [hX])
    exact h v' w' ⟨g, cap, e, by simp at hg; omega, r⟩ ((bal (Below.refl _ _) (.cells (cel X).toArray t)).grown hgr (by simp) (fun k e => by cases e))

theorem At32.okeepA {X : Nat → Prop} {a b : World} {q off : Nat} {l : List Nat} (h : At32 a q off l) (k : Out X a b) (hx : ∀ i, i = q → ¬ X i) : At32 b q off l :=
  ⟨fun i hi => okeep k (h i hi) (hx q rfl), by rw [typ_of_block (w := a) (k.block q (typ_lt h.ty) (hx q rfl))]; exact h.ty⟩

set_option maxRecDepth 100000 in
set_option maxHeartbeats 8000000 in
theorem divmod_great (a b : Option Addr) (ca cb : Nat) (l lb : List Nat) (w : World) (ha : U32 w a ca l) (hb : U32 w b cb lb) (h1 : l.length ≤ 274877906944) (h2 : lb.length ≤ 274877906944) (hge : val lb ≤ val l) (hs : 2 ≤ (trimL lb).length) :
    Calls Tryz.prog 124 #[.slice a l.length ca, .slice b lb.length cb] w fun e w' => (∃ u v, e = .returned (.tuple #[u, v, .int .i64 0]) ∧ NewL w' u (val l / val lb) ∧ NewL w' v (val l % val lb)) ∧ Below w.heap.size w w' := by
  have tc := trim_c b cb lb w hb
  have hbt := hb.trim
  have hbn := trim_nrm lb
  have h3 := Nat.le_trans (trim_len lb) h2
  rw [← val_trim lb] at *
  generalize trimL lb = m at *
  have cc := fun W (hB : Below w.heap.size w W) => limbCmp_c a b ca m.length l m W (ha.keep hB) (hbt.keep hB)
  have hcz := cmpN_neg (x := val l) (y := val m)
  rw [show decide (val l < val m) = false from by simpa using hge] at hcz
  obtain ⟨p, hp⟩ : ∃ p, m.length = p + 2 := ⟨m.length - 2, by omega⟩
  obtain ⟨hs1, hs2, hs3, hs4⟩ := shift_top hbt.2.2.1 hbn hp
  rcases hbt.2.2.2 with hm0 | ⟨bb, ob, rfl, hcell⟩
  · subst hm0; simp at hp
  have c0 := hcell (p + 1) (by omega)
  have htop := limb_get hbt.2.2.1 (p + 1)
  have HBT := Lib.hid hbt
  have HA := Lib.hid ha
  have hvm : 0 < val m := by
    apply Nat.pos_of_ne_zero; intro e
    rw [e, Nat.zero_mul] at hs3
    have : 0 < 2147483648 * BB ^ (p + 1) := Nat.mul_pos (by omega) (Nat.pow_pos BB_pos)
    omega
  generalize m.getD (p + 1) 0 = top at *
  obtain ⟨s, hse⟩ : ∃ s : Nat, s = 32 - bitN top := ⟨_, rfl⟩
  have es : 32 - (bitN top : Int) = (s : Int) := by omega
  rw [← hse] at hs3 hs4
  have hs32 : s ≤ 31 := by omega
  have lz := fun W => lz32_c top W htop
  rw [es] at lz
  have sc := fun W (hB : Below w.heap.size w W) => limbShl_c (some ⟨bb, ob, none⟩) m.length m s W (HBT.out.keep hB) (by omega) (by omega)
  have sd := fun W (hB : Below w.heap.size w W) => limbShl_c a ca l s W (HA.out.keep hB) (by omega) (by omega)
  have hml : (m.length : Int) - 1 = ((p + 1 : Nat) : Int) := by omega
  have hmz : ((m.length : Int) == 0) = false := by rw [beq_eq_false_iff_ne]; omega
  have hmz1 : ((m.length : Int) == 1) = false := by rw [beq_eq_false_iff_ne]; omega
  have hmi : ((p + 1 : Nat) : Int) < (m.length : Int) := by omega
  have HP := Lib.hid hp
  have HS := Lib.hid (And.intro hs3 hs4)
  have HGE := Lib.hid (And.intro hge hvm)
  clear hcell hbt hbn ha hb hs1 hs2 hs3 hs4 hse es hge hs hp
  generalize hp1 : p + 1 = p1 at *
  have HP1 := Lib.hid hp1
  clear hp1
  generalize hmn : m.length = ml at *
  have HML := Lib.hid hmn
  clear hmn
  generalize cmpN (val l) (val m) = z at *
  go_enter Tryz.func124, Tryz.ntmps124
  go_wp2_with fail
  refine tc.mono ?_
  rintro e w1 ⟨rfl, rfl⟩
  clear tc
  go_wp2_with fail
  refine (cc _ (Below.refl _ _)).mono ?_
  rintro e w1 ⟨rfl, hb1⟩
  have k0 := bkeep hb1 c0
  go_wp2_with fail
  refine (lz _).mono ?_
  rintro e w2 ⟨rfl, rfl⟩
  go_wp2_with fail
  refine (sc _ hb1).mono ?_
  rintro e w3 ⟨⟨uV, rfl, hV⟩, hb3⟩
  have hB3 := bthen hb1 hb3
  obtain ⟨aV, nV, V, rfl, hnV, hVu, hVn, hVv⟩ := hV
  go_wp2_with fail
  refine (sd _ hB3).mono ?_
  rintro e w4 ⟨⟨uL, rfl, hL⟩, hb4⟩
  have hB4 := bthen hB3 hb4
  obtain ⟨aL, nL, L, rfl, hnL, hLu, hLn, hLv⟩ := hL
  have hVu4 := hVu.keep hb4
  clear cc lz sc sd hb1 hb3 hb4 hcz k0 c0 hVu
  -- the lengths
  have hVlen : V.length = p + 2 := by
    have h1 := nrm_len_le (k := p1 + 1) hVn (by rw [hVv]; exact HS.out.2)
    have h2 := le_len (k := p1) hVu4.2.2.1 (by rw [hVv]; exact Nat.le_trans (Nat.le_mul_of_pos_left _ (by omega)) HS.out.1)
    have := HP1.out
    omega
  have hLlen : p + 2 ≤ L.length := by
    have h2 := le_len (k := p1) hLu.2.2.1 (by
      rw [hLv]
      refine Nat.le_trans (Nat.le_trans (Nat.le_mul_of_pos_left _ (by omega)) HS.out.1) (Nat.mul_le_mul HGE.out.1 (Nat.le_refl _)))
    have := HP1.out
    omega
  have hLmax : L.length ≤ l.length + 1 := nrm_len_le hLn (by
    rw [hLv, Nat.pow_succ]
    refine Nat.mul_lt_mul'' (val_lt HA.out.2.2.1) ?_
    refine Nat.lt_of_le_of_lt (Nat.pow_le_pow_right (by omega) hs32) (by unfold BB; omega))
  rcases hVu4.2.2.2 with hv0 | ⟨bv, ov, rfl, hVc⟩
  · subst hv0; simp at hVlen
  rcases hLu.2.2.2 with hv0 | ⟨bl, ol, rfl, hLc⟩
  · subst hv0; simp at hLlen
  have hVtop := top_of_val (p := p1) hVu4.2.2.1 (by have := HP1.out; omega) (by rw [hVv]; exact HS.out.1)
  have hbv := typ_lt hVc.ty
  subst hnV hnL
  have hLn1 : L.length + 1 ≤ 274877906946 := by omega
  obtain ⟨nv, hnv⟩ : ∃ nv, nv = V.length := ⟨_, rfl⟩
  rw [← hnv]
  obtain ⟨M, hM⟩ : ∃ M, L.length + 1 = M + nv := ⟨L.length + 1 - nv, by omega⟩
  have eM : (L.length : Int) + 1 - (nv : Int) = (M : Int) := by omega
  have hmk := mk32 M (by omega)
  have HM := Lib.hid (And.intro hM (And.intro hnv hVlen))
  have hVL := hVu4.2.2.1
  have hLL := hLu.2.2.1
  have hMm : M ≤ 274877906946 := by omega
  have hnvm : nv ≤ 274877906946 := by omega
  clear hVlen hM hnv hVu4 hLu hLlen hLmax
  go_wp2_with (at_builtin; refine app32g (X := [0]) rfl rfl hLc rfl rfl ?_ ?_ ?_; exact List.cons_ne_nil _ _; (simp; omega); rintro u5 w5 ⟨gu, cu, rfl, hgu, hcu, hcm, hU⟩ hb5)
  have hB5 := bthen hB4 hb5
  have HU := Lib.hid hU
  have hV5 : At32 w5 bv ov V := ⟨fun j hj => bkeep hb5 (hVc j hj), typ_keep hVc.ty hb5⟩
  have hgb : bv ≠ gu := by omega
  have hgl := hU.lt
  have hw5 : w.heap.size ≤ w4.heap.size := hB4.size
  have hcuL : L.length + 1 ≤ cu := by simpa using hcu
  clear hU hLc hVc hcu hb5 hB4 hB3
  have HV5 := Lib.hid hV5
  have hbv5 := typ_lt hV5.ty
  clear hV5
  go_wp2
  have HL0 := Lib.hid (show val ((L ++ [0]).drop M) < val V by
    refine Nat.lt_of_lt_of_le (m := BB ^ p1) ?_ (by rw [hVv]; exact Nat.le_trans (Nat.le_mul_of_pos_left _ (by omega)) HS.out.1)
    have h5 := HM.out
    have h6 := HP1.out
    rw [List.drop_append_of_le_length (by omega), val_append]
    simp only [val, Nat.mul_zero, Nat.add_zero]
    refine Nat.lt_of_lt_of_le (val_lt fun x hx => hLL x (List.mem_of_mem_drop hx)) (Nat.pow_le_pow_right BB_pos ?_)
    rw [List.length_drop]; omega)
  have HA0 := Lib.hid (show val (List.replicate M 0) * val V + val (L ++ [0]) = val L by rw [val_zeros, val_append]; simp [val])
  go_loopw [17] (fun x wr => ∃ (j : Nat) (U Q : List Nat), j ≤ M ∧ x = .int .i64 ((j : Int) - 1) ∧ Rw32 wr gu U ∧ Blk wr w5.heap.size Q ∧ Hid (U.length = L.length + 1) ∧ Hid (Q.length = M) ∧ Limbs U ∧ Limbs Q ∧ Hid (∀ i, i < j → Q.getD i 0 = 0) ∧ Hid (val Q * val V + val U = val L) ∧ Hid (val (U.drop j) < val V) ∧ Out (fun k => k = gu ∨ k = w5.heap.size) w5 wr) (fun x _ => (intOf x + 1).toNat)
  case atStart => exact ⟨M, L ++ [0], List.replicate M 0, Nat.le_refl _, rfl, HU.out.keep (bal (Below.refl _ _) _), blk_new w5 _, Lib.hid (by simp), Lib.hid (by simp), (fun y hy => by
    rcases List.mem_append.1 hy with h | h
    · exact hLL y h
    · simp at h; subst h; exact BB_pos), (fun y hy => by simp at hy; rw [hy.2]; exact BB_pos), Lib.hid (fun i hi => by simp [hi]), HA0, HL0, Out.of_below _ (bal (Below.refl _ _) _)⟩
  case round =>
    obtain ⟨j, U, Q, hj, rfl, hU, hQ, hUl, hQl, hUL, hQL, hQ0, hA, hH, hOut⟩ := hrel
    cases j with
    | zero =>
      have hUc := Lib.hid (hU.u32 hUL (c := cu) (by have := hUl.out; omega) hcm)
      have hQu := hQ.u32 hQL (by have := hQl.out; unfold maxLen; omega)
      have hB9 : Below w.heap.size w wr := hB5.trans (hOut.to_below (fun k hk _ h => by rcases h with h | h <;> omega) (by have := hB5.size; omega))
      have sh := fun W (h : Below wr.heap.size wr W) => limbShr_c (some ⟨gu, 0, none⟩) cu U s W (hUc.out.keep h) (by have := hUl.out; omega) (by omega)
      rw [hUl.out] at sh
      have tc := fun W (h : Below wr.heap.size wr W) => trim_c (some ⟨w5.heap.size, 0, none⟩) Q.length Q W (hQu.keep h)
      rw [hQl.out] at tc
      have HE := Lib.hid (dm_end (A := val l) (B := val m) (s := s) (Q := val Q) (R := val U) HGE.out.2 (by rw [← hVv, ← hLv]; exact hA.out) (by rw [← hVv]; exact hH.out))
      have HT := Lib.hid (val_trim Q)
      have HN := Lib.hid (trim_nrm Q)
      have HQ := Lib.hid hQu.trim
      generalize trimL Q = T at *
      clear hUc hQu hU hQ hOut hA hH hQ0
      go_wp2_with fail
      (with_reducible refine (sh _ (Below.refl _ _)).mono ?_)
      rintro e w6 ⟨⟨uR, rfl, hR⟩, hb6⟩
      have HR := Lib.hid hR
      obtain ⟨aR, nR, R, rfl, -⟩ := hR
      go_wp2_with fail
      (with_reducible refine (tc _ hb6).mono ?_)
      rintro e w7 ⟨rfl, rfl⟩
      clear tc sh
      go_wp2
      go_ret3
      exact ⟨⟨_, _, rfl, ⟨_, _, T, rfl, rfl, HQ.out.keep hb6, HN.out, by rw [HT.out, HE.out.1]⟩, by rw [HE.out.2]; exact HR.out⟩, bthen hB9 hb6⟩
    | succ j =>
      have dc := fun W (hu : Rw32 W gu U) (hv : At32 W bv ov V) => digit_c gu j p (cu - j) bv ov nv U V W hu hUL (by have := hUl.out; have := HM.out; omega) (by have := HM.out; omega) (by have := hUl.out; omega) hv hVL HM.out.2.2 (by have := HM.out; omega) hgb (by rw [HP1.out]; exact hVtop) (by
        have h7 := dm_pre (U := U) (k := j) (n := p + 2) (D := val V) hUL (by have := hUl.out; have := HM.out; omega) hH.out (by rw [← HM.out.2.2]; exact val_lt hVL)
        rw [h7.1]; exact h7.2)
      rw [show p + 3 = nv + 1 by have := HM.out; omega, show p + 2 = nv by have := HM.out; omega] at dc
      have ej : ((j : Int) + (nv : Int) + 1 - (j : Int)).toNat = nv + 1 := by omega
      have hjc : j < cu := by omega
      go_wp2_with fail
      rw [show j + nv + 1 - j = nv + 1 by omega]
      (with_reducible refine (dc _ hU (HV5.out.okeepA hOut (by intro i e; show ¬ (i = gu ∨ i = w5.heap.size); omega))).mono ?_)
      rintro e w6 ⟨⟨O, rfl, hO, hOl, hOL, hO0, hOw⟩, hOut2⟩
      have hgq : gu ≠ w5.heap.size := by omega
      have hQ6 := Lib.hid (show Blk w6 w5.heap.size Q from hOut2.blk hQ (fun h => hgq (show _ = _ from h).symm))
      have HW6 := Lib.hid (hOut.trans (hOut2.mono (fun i _ h => .inl h)))
      have HS6 := Lib.hid (fun d hd => dm_step (U := U) (O := O) (Q := Q) (j := j) (n := nv) (D := val V) (A := val L) (d := d) hUL hOL hOl (by have := hUl.out; have := HM.out; omega) (by have := hQl.out; omega) (hQ0.out j (by omega)) (by have h := val_lt hVL; rwa [HM.out.2.1.symm] at h) (by have := HL0.out; omega) hH.out hA.out hO0 hd hOw)
      have hdB : win U j (nv + 1) / val V < BB := Nat.div_lt_of_lt_mul (by
        have h7 := dm_pre (U := U) (k := j) (n := nv) (D := val V) hUL (by have := hUl.out; have := HM.out; omega) hH.out (by rw [HM.out.2.1]; exact val_lt hVL)
        rw [h7.1]; exact h7.2)
      obtain ⟨d, hd⟩ : ∃ d, d = win U j (nv + 1) / val V := ⟨_, rfl⟩
      have HD := Lib.hid (HS6.out d hd)
      rw [← hd] at hdB
      rw [← hd]
      have q0 := hQ6.out.cell j (by have := hQl.out; omega)
      have qf := hQ6.out.frozen j
      have qb := hQ6.out.set j d
      have ub := hO
      have uo := HW6.out.set (p := ⟨w5.heap.size, j, none⟩) (fun _ => .inr rfl) (.int .u32 (d : Int))
      have HUO := Lib.hid (show Rw32 (w6.setCell ⟨w5.heap.size, j, none⟩ (.int .u32 (d : Int))) gu O from hO.out (X := fun k => k = w5.heap.size) ((Out.refl (fun k => k = w5.heap.size) w6).set (p := ⟨w5.heap.size, j, none⟩) (fun _ => rfl) _) (fun h => hgq h))
      have ql := limbs_set hQL (k := j) hdB
      have hjM : (j : Int) < (M : Int) := by omega
      have HO := Lib.hid (And.intro hOl (And.intro hOL hO0))
      clear dc hOl hO0 hOw hd HS6 hOut hOut2 hU hQ ub hO
      go_wp2
      refine ⟨⟨j, O, Q.set j d, by omega, rfl, HUO.out, qb, Lib.hid (HO.out.1.trans hUl.out), Lib.hid (by simpa using hQl.out), HO.out.2.1, ql, Lib.hid ?_, Lib.hid HD.out.1, Lib.hid HD.out.2, uo⟩, by simp [intOf] <;> omega⟩
      intro i hi
      rw [getD_set_far (by omega)]
      exact hQ0.out i (by omega)

theorem limbDivMod_c (a b : Option Addr) (ca cb : Nat) (l lb : List Nat) (w : World) (ha : U32 w a ca l) (hb : U32 w b cb lb) (h1 : l.length ≤ 274877906944) (h2 : lb.length ≤ 274877906944) (h0 : 0 < val lb) :
    Calls Tryz.prog 124 #[.slice a l.length ca, .slice b lb.length cb] w fun e w' => (∃ u v, e = .returned (.tuple #[u, v, .int .i64 0]) ∧ NewL w' u (val l / val lb) ∧ NewL w' v (val l % val lb)) ∧ Below w.heap.size w w' := by
  by_cases hlt : val l < val lb
  · exact divmod_small a b ca cb l lb w ha hb (by omega) (by omega) h0 (.inl hlt)
  · by_cases h : (trimL lb).length = 1
    · exact divmod_small a b ca cb l lb w ha hb (by omega) (by omega) h0 (.inr h)
    · refine divmod_great a b ca cb l lb w ha hb h1 h2 (by omega) ?_
      have h3 : trimL lb ≠ [] := by
        intro e
        rw [← val_trim lb, e] at h0
        simp [val] at h0
      have := List.length_pos_iff.2 h3
      omega
end Go.Proofs.YthlphfjmdgcpdaaGreatDoor

