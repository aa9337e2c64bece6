/- Texts of this seat, laid together: QRow, QPa, QRef, QrA, QrB, QrC, QrD, QrE, IntBits, QRows, QrF, MwE. Each opens with its own remark, which says what it proves, and under which conditions. -/
import Derived.Test.YtbmaffijncapiaaGreatDoorL03
import Derived.Test.YtbmaffijncapiaaGreatDoorL18
import Derived.Deep.RegionLaw
import Derived.Test.YtbmaffijncapiaaGreatDoorL08
import Derived.Test.YtbmaffijncapiaaGreatDoorL07
import Derived.Test.YtbmaffijncapiaaGreatDoorL15
import Derived.Test.YtbmaffijncapiaaGreatDoorL02
import Derived.Test.YtbmaffijncapiaaGreatDoorL14
import Derived.Test.YtbmaffijncapiaaGreatDoorL12
set_option linter.unusedVariables false
set_option linter.unusedSimpArgs false
/- Rows of fractions in memory, of any kind of fractions: four cells each; rows built by append; rows that are written. -/
namespace Go.Proofs.YtbmaffijncapiaaGreatDoor
open Num
open Go.ChangeShapes Go.WideShapes Go.ChangeAt Go.RowKit
set_option linter.unusedVariables false
set_option linter.unusedSimpArgs false
structure FrK (Q : World → Value → Rat → Prop) : Prop where
  lim : ∀ {w w' : World} {v : Value} {q : Rat}, Lim w w' → Q w v q → Q w' v q
  sh : ∀ {w : World} {v : Value} {q : Rat}, Q w v q → ∃ n1 a1 l1 c1 n2 a2 l2 c2, v = .agg #[.bool n1, .slice a1 l1 c1, .bool n2, .slice a2 l2 c2]
theorem FrK.keep {Q : World → Value → Rat → Prop} (hQ : FrK Q) {w w' : World} {v : Value} {q : Rat} (h : Q w v q) (k : Below w.heap.size w w') : Q w' v q := hQ.lim (.of_below k) h
def FrC (Q : World → Value → Rat → Prop) (w : World) (b o : Nat) (q : Rat) : Prop :=
  ∃ n1 a1 l1 c1 n2 a2 l2 c2, w.cell? ⟨b, o, none⟩ = some (.bool n1) ∧ w.cell? ⟨b, o + 1, none⟩ = some (.slice a1 l1 c1) ∧ w.cell? ⟨b, o + 2, none⟩ = some (.bool n2) ∧ w.cell? ⟨b, o + 3, none⟩ = some (.slice a2 l2 c2) ∧ Q w (.agg #[.bool n1, .slice a1 l1 c1, .bool n2, .slice a2 l2 c2]) q
section
variable {Q : World → Value → Rat → Prop} {w w' : World} {b o : Nat} {q : Rat}
theorem FrC.keep (hQ : FrK Q) (h : FrC Q w b o q) (k : Below w.heap.size w w') : FrC Q w' b o q := by
  obtain ⟨n1, a1, l1, c1, n2, a2, l2, c2, h0, h1, h2, h3, h4⟩ := h
  exact ⟨n1, a1, l1, c1, n2, a2, l2, c2, bkeep k h0, bkeep k h1, bkeep k h2, bkeep k h3, hQ.keep h4 k⟩
theorem FrC.stay (hQ : FrK Q) (h : FrC Q w b o q) (hb : w'.heap[b]? = w.heap[b]?) (hl : Lim w w') : FrC Q w' b o q := by
  obtain ⟨n1, a1, l1, c1, n2, a2, l2, c2, h0, h1, h2, h3, h4⟩ := h
  exact ⟨n1, a1, l1, c1, n2, a2, l2, c2, by rw [World.cell?_of_block (w := w) hb]; exact h0, by rw [World.cell?_of_block (w := w) hb]; exact h1, by rw [World.cell?_of_block (w := w) hb]; exact h2, by rw [World.cell?_of_block (w := w) hb]; exact h3, hQ.lim hl h4⟩
theorem FrC.limS (h : FrC Q w b o q) (u0 u1 u2 u3 : Value) : Lim w ((((w.setCell ⟨b, o, none⟩ u0).setCell ⟨b, o + 1, none⟩ u1).setCell ⟨b, o + 2, none⟩ u2).setCell ⟨b, o + 3, none⟩ u3) := by
  obtain ⟨n1, a1, l1, c1, n2, a2, l2, c2, h0, h1, h2, h3, h4⟩ := h
  exact ((((Lim.refl w).bool h0 _).slice (cell_far h1 (by simp) _) _).bool (cell_far (cell_far h2 (by simp) _) (by simp) _) _).slice (cell_far (cell_far (cell_far h3 (by simp) _) (by simp) _) (by simp) _) _
end
def FrRow (Q : World → Value → Rat → Prop) (E : TypeId) (base : Nat) (w : World) (v : Value) (L : List Rat) : Prop :=
  ∃ a c, v = .slice a L.length c ∧ L.length ≤ c ∧ (L = [] ∨ ∃ b off, a = some ⟨b, off, none⟩ ∧ base ≤ b ∧ typOf w b = some E ∧ ∀ k, k < L.length → FrC Q w b (off + k * 4) (L.getD k 0))
section
variable {Q : World → Value → Rat → Prop} {E : TypeId} {base base' : Nat} {w w' w0 wr : World} {v : Value} {L : List Rat}
theorem FrRow.keep (hQ : FrK Q) (h : FrRow Q E base w v L) (k : Below w.heap.size w w') : FrRow Q E base w' v L := by
  obtain ⟨a, c, e, hc, h2⟩ := h
  refine ⟨a, c, e, hc, h2.imp id ?_⟩
  rintro ⟨b, off, e2, hb, ht, h3⟩
  exact ⟨b, off, e2, hb, typ_keep ht k, fun j hj => (h3 j hj).keep hQ k⟩
theorem FrRow.kp {S : TypeId → Prop} (hQ : FrK Q) (h : FrRow Q E base w v L) (k : Kp S w w') (h1 : S 177) (h2 : S E) : FrRow Q E base w' v L := by
  obtain ⟨a, c, e, hc, h3⟩ := h
  refine ⟨a, c, e, hc, h3.imp id ?_⟩
  rintro ⟨b, off, e2, hb, ht, h4⟩
  exact ⟨b, off, e2, hb, k.typ ht h2, fun j hj => (h4 j hj).stay hQ (k b E ht h2) (k.lim h1)⟩
theorem FrRow.rebase (h : FrRow Q E base w v L) (hb : base' ≤ base) : FrRow Q E base' w v L := by
  obtain ⟨a, c, e, hc, h2⟩ := h
  refine ⟨a, c, e, hc, h2.imp id ?_⟩
  rintro ⟨b, off, e2, hb', ht, h3⟩
  exact ⟨b, off, e2, Nat.le_trans hb hb', ht, h3⟩
theorem FrRow.ex (h : FrRow Q E base w v L) : ∃ a c, v = .slice a L.length c := by
  obtain ⟨a, c, e, _⟩ := h; exact ⟨a, c, e⟩
theorem FrRow.at {a : Option Addr} {n c k : Nat} (h : FrRow Q E base w (.slice a n c) L) (hk : k < n) : ∃ b off, a = some ⟨b, off, none⟩ ∧ typOf w b = some E ∧ FrC Q w b (off + k * 4) (L.getD k 0) := by
  obtain ⟨a', c', e, hc, h2⟩ := h
  obtain ⟨rfl, rfl, rfl⟩ := Value.slice.inj e
  rcases h2 with h2 | ⟨b, off, e2, hb, ht, h3⟩
  · subst h2; simp at hk
  · exact ⟨b, off, e2, ht, h3 k hk⟩
end
def FrOwn (Q : World → Value → Rat → Prop) (E : TypeId) (w0 wr : World) (v : Value) (L : List Rat) : Prop :=
  ∃ xs, OwnE E 4 w0 wr v L.length xs ∧ ∀ k, k < L.length → ∃ n1 a1 l1 c1 n2 a2 l2 c2, xs[k * 4]? = some (.bool n1) ∧ xs[k * 4 + 1]? = some (.slice a1 l1 c1) ∧ xs[k * 4 + 2]? = some (.bool n2) ∧ xs[k * 4 + 3]? = some (.slice a2 l2 c2) ∧ Q wr (.agg #[.bool n1, .slice a1 l1 c1, .bool n2, .slice a2 l2 c2]) (L.getD k 0)
section
variable {Q : World → Value → Rat → Prop} {E : TypeId} {w0 wr w' : World} {v : Value} {L : List Rat}
theorem FrOwn.nil (Q : World → Value → Rat → Prop) (E : TypeId) {w0 wr : World} (hb : Below w0.heap.size w0 wr) : FrOwn Q E w0 wr (.slice none 0 0) [] := ⟨[], OwnE.nil _ _ hb, fun k hk => absurd hk (by simp)⟩
theorem FrOwn.ex (h : FrOwn Q E w0 wr v L) : ∃ a c, v = .slice a L.length c := by obtain ⟨xs, h1, _⟩ := h; exact h1.ex
theorem FrOwn.bel (h : FrOwn Q E w0 wr v L) : Below w0.heap.size w0 wr := by obtain ⟨xs, h1, _⟩ := h; exact h1.2
theorem FrOwn.below (hQ : FrK Q) (h : FrOwn Q E w0 wr v L) (k : Below wr.heap.size wr w') : FrOwn Q E w0 w' v L := by
  obtain ⟨xs, h1, h2⟩ := h
  refine ⟨xs, h1.below k, fun j hj => ?_⟩
  obtain ⟨n1, a1, l1, c1, n2, a2, l2, c2, e0, e1, e2, e3, e4⟩ := h2 j hj
  exact ⟨n1, a1, l1, c1, n2, a2, l2, c2, e0, e1, e2, e3, hQ.keep e4 k⟩
theorem FrOwn.view (h : FrOwn Q E w0 wr v L) : ∃ a c, v = .slice a L.length c ∧ L.length ≤ c ∧ (L.length = 0 ∨ ∃ g, a = some ⟨g, 0, none⟩ ∧ w0.heap.size ≤ g ∧ Free wr g ∧ typOf wr g = some E ∧ ∀ k, k < L.length → FrC Q wr g (k * 4) (L.getD k 0)) := by
  obtain ⟨xs, ⟨⟨hl, h1⟩, _⟩, h2⟩ := h
  rcases h1 with ⟨rfl, h0⟩ | ⟨g, cap, cur, rfl, hg, hh, hc, hm, hs, ht⟩
  · exact ⟨none, 0, by rw [h0], by omega, .inl h0⟩
  · have hgt : typOf wr g = some E := by unfold typOf; rw [hh]
    refine ⟨_, cap, rfl, hc, .inr ⟨g, rfl, hg, ⟨typ_lt hgt, fun j => ?_⟩, hgt, fun k hk => ?_⟩⟩
    · simp [World.frozen?, hh]
    · obtain ⟨n1, a1, l1, c1, n2, a2, l2, c2, e0, e1, e2, e3, e4⟩ := h2 k hk
      have cel : ∀ j u, xs[j]? = some u → wr.cell? ⟨g, j, none⟩ = some u := fun j u hj => by
        have hj2 : j < L.length * 4 := by have := (List.getElem?_eq_some_iff.1 hj).1; omega
        rw [← ht, List.getElem?_take_of_lt (by omega)] at hj
        simpa [World.cell?, hh] using hj
      exact ⟨n1, a1, l1, c1, n2, a2, l2, c2, cel _ _ e0, cel _ _ e1, cel _ _ e2, cel _ _ e3, e4⟩
theorem FrOwn.row (h : FrOwn Q E w0 wr v L) : FrRow Q E w0.heap.size wr v L := by
  obtain ⟨a, c, e, hc, h2⟩ := h.view
  refine ⟨a, c, e, hc, ?_⟩
  rcases h2 with h2 | ⟨g, e2, hg, _, ht, h3⟩
  · exact .inl (List.length_eq_zero_iff.1 h2)
  · exact .inr ⟨g, 0, e2, hg, ht, fun k hk => by rw [Nat.zero_add]; exact h3 k hk⟩
end
section
variable {P : Program} {T E : TypeId} {bytes : Nat} {Q : World → Value → Rat → Prop} {ops : Array Oper} {o : Oper} {a : Act} {Z : Exit → Act → World → Prop} {w0 wr : World} {v : Value} {L : List Rat} {t : TypeId} {s x : Operand} {n1 n2 : Bool} {a1 a2 : Option Addr} {l1 c1 l2 c2 cc : Nat} {q : Rat}
end
structure FrBlk (Q : World → Value → Rat → Prop) (E : TypeId) (w : World) (b n : Nat) (F : Nat → Rat) : Prop where
  ty : typOf w b = some E
  fr : Free w b
  at_ : ∀ k, k < n → FrC Q w b (k * 4) (F k)
section
variable {Q : World → Value → Rat → Prop} {E : TypeId} {w w' : World} {b n : Nat} {F G : Nat → Rat}
theorem FrBlk.congr (h : FrBlk Q E w b n F) (e : ∀ k, k < n → F k = G k) : FrBlk Q E w b n G := ⟨h.ty, h.fr, fun k hk => by rw [← e k hk]; exact h.at_ k hk⟩
theorem FrBlk.keep (hQ : FrK Q) (h : FrBlk Q E w b n F) (k : Below w.heap.size w w') : FrBlk Q E w' b n F := ⟨typ_keep h.ty k, h.fr.keep k, fun j hj => (h.at_ j hj).keep hQ k⟩
theorem FrBlk.out {X : Nat → Prop} (hQ : FrK Q) (h : FrBlk Q E w b n F) (ho : Out X w w') (hx : ¬ X b) (hl : Lim w w') : FrBlk Q E w' b n F :=
  ⟨by rw [typ_of_block (w := w) (ho.block b (typ_lt h.ty) hx)]; exact h.ty, h.fr.out ho hx, fun j hj => (h.at_ j hj).stay hQ (ho.block b (typ_lt h.ty) hx) hl⟩
theorem FrBlk.put (hQ : FrK Q) (h : FrBlk Q E w b n F) {k : Nat} (hk : k < n) {n1 n2 : Bool} {a1 a2 : Option Addr} {l1 c1 l2 c2 : Nat} {q : Rat} (hv : Q w (.agg #[.bool n1, .slice a1 l1 c1, .bool n2, .slice a2 l2 c2]) q) :
    FrBlk Q E ((((w.setCell ⟨b, k * 4, none⟩ (.bool n1)).setCell ⟨b, k * 4 + 1, none⟩ (.slice a1 l1 c1)).setCell ⟨b, k * 4 + 2, none⟩ (.bool n2)).setCell ⟨b, k * 4 + 3, none⟩ (.slice a2 l2 c2)) b n (fun i => if i = k then q else F i) := by
  have hl := (h.at_ k hk).limS (.bool n1) (.slice a1 l1 c1) (.bool n2) (.slice a2 l2 c2)
  refine ⟨by rw [typ_set, typ_set, typ_set, typ_set]; exact h.ty, (((h.fr.set _ _).set _ _).set _ _).set _ _, fun i hi => ?_⟩
  by_cases e : i = k
  · subst e
    obtain ⟨m1, b1, x1, d1, m2, b2, x2, d2, e0, e1, e2, e3, e4⟩ := h.at_ i hi
    refine ⟨n1, a1, l1, c1, n2, a2, l2, c2, cell_far (cell_far (cell_far (cell_here e0 _) (by simp) _) (by simp) _) (by simp) _, cell_far (cell_far (cell_here (cell_far e1 (by simp) _) _) (by simp) _) (by simp) _, cell_far (cell_here (cell_far (cell_far e2 (by simp) _) (by simp) _) _) (by simp) _, cell_here (cell_far (cell_far (cell_far e3 (by simp) _) (by simp) _) (by simp) _) _, ?_⟩
    rw [if_pos rfl]; exact hQ.lim hl hv
  · obtain ⟨m1, b1, x1, d1, m2, b2, x2, d2, e0, e1, e2, e3, e4⟩ := h.at_ i hi
    have fa : ∀ {o : Nat} {u : Value} (r : Nat), r < 4 → o = i * 4 + r → w.cell? ⟨b, o, none⟩ = some u → ((((w.setCell ⟨b, k * 4, none⟩ (.bool n1)).setCell ⟨b, k * 4 + 1, none⟩ (.slice a1 l1 c1)).setCell ⟨b, k * 4 + 2, none⟩ (.bool n2)).setCell ⟨b, k * 4 + 3, none⟩ (.slice a2 l2 c2)).cell? ⟨b, o, none⟩ = some u := fun r hr ho h => by
      subst ho
      exact cell_far (cell_far (cell_far (cell_far h (by simp <;> omega) _) (by simp <;> omega) _) (by simp <;> omega) _) (by simp <;> omega) _
    refine ⟨m1, b1, x1, d1, m2, b2, x2, d2, fa 0 (by omega) rfl e0, fa 1 (by omega) rfl e1, fa 2 (by omega) rfl e2, fa 3 (by omega) rfl e3, ?_⟩
    rw [if_neg e]; exact hQ.lim hl e4
theorem FrBlk.row {c m : Nat} (h : FrBlk Q E w b n F) {L : List Rat} (hl : L.length = n) (hc : n ≤ c) (he : ∀ k, k < n → F k = L.getD k 0) : FrRow Q E 0 w (.slice (some ⟨b, 0, none⟩) n c) L :=
  ⟨_, c, by rw [hl], by omega, .inr ⟨b, 0, rfl, Nat.zero_le _, h.ty, fun k hk => by rw [Nat.zero_add, ← he k (by omega)]; exact h.at_ k (by omega)⟩⟩
end
end Go.Proofs.YtbmaffijncapiaaGreatDoor

/- ratio: the program's fractions as they lie in memory; lowest, Make. -/
namespace Go.Proofs.YtbmaffijncapiaaGreatDoor
open Num
open Go.ChangeShapes Go.WideShapes Go.ChangeAt Go.RowKit
set_option linter.unusedVariables false
set_option linter.unusedSimpArgs false
attribute [local go_sem ↓] Go.wp_at_zero Go.wp_at_succ
def IsQP (w : World) (v : Value) (q : Rat) : Prop := ∃ n1 a1 l1 c1 n2 a2 l2 c2, v = .agg #[.bool n1, .slice a1 l1 c1, .bool n2, .slice a2 l2 c2] ∧ IsInt w (.agg #[.bool n1, .slice a1 l1 c1]) q.num ∧ IsInt w (.agg #[.bool n2, .slice a2 l2 c2]) ((q.den : Int) - 1)
theorem IsQP.rat {w : World} {v : Value} {q : Rat} (h : IsQP w v q) : IsRat w v q.num (q.den : Int) := h
theorem frk_prog : FrK IsQP := ⟨fun k h => by
  obtain ⟨n1, a1, l1, c1, n2, a2, l2, c2, e, h1, h2⟩ := h
  exact ⟨n1, a1, l1, c1, n2, a2, l2, c2, e, h1.lim k, h2.lim k⟩, fun h => by
  obtain ⟨n1, a1, l1, c1, n2, a2, l2, c2, e, h1, h2⟩ := h
  exact ⟨n1, a1, l1, c1, n2, a2, l2, c2, e⟩⟩
theorem IsQP.keep {w w' : World} {v : Value} {q : Rat} (h : IsQP w v q) (k : Below w.heap.size w w') : IsQP w' v q := frk_prog.keep h k
theorem IsQP.zero (w : World) : IsQP w (.agg #[.bool false, .slice none 0 0, .bool false, .slice none 0 0]) 0 := ⟨_, _, _, _, _, _, _, _, rfl, isInt_zero w, isInt_zero w⟩
theorem IsQP.put4 {w : World} {v : Value} {q : Rat} {g : Nat} {b b' : Bool} {a a' : Option Addr} {n c n' c' : Nat} (h : IsQP w v q) (r0 : w.cell? ⟨g, 0, none⟩ = some (.bool b)) (r1 : w.cell? ⟨g, 1, none⟩ = some (.slice a n c)) (r2 : w.cell? ⟨g, 2, none⟩ = some (.bool b')) (r3 : w.cell? ⟨g, 3, none⟩ = some (.slice a' n' c')) (u0 u1 u2 u3 : Value) : IsQP ((((w.setCell ⟨g, 0, none⟩ u0).setCell ⟨g, 1, none⟩ u1).setCell ⟨g, 2, none⟩ u2).setCell ⟨g, 3, none⟩ u3) v q := by
  obtain ⟨n1, a1, l1, c1, n2, a2, l2, c2, e, h1, h2⟩ := h
  exact ⟨n1, a1, l1, c1, n2, a2, l2, c2, e, h1.put4 r0 r1 r2 r3 u0 u1 u2 u3, h2.put4 r0 r1 r2 r3 u0 u1 u2 u3⟩
theorem IsRat.qp {w : World} {v : Value} {n d : Int} (hd : 0 < d) (h : IsRat w v (n / gcdI n d) (d / gcdI n d)) : IsQP w v (Rat.divInt n d) := by
  rw [← dq_num hd, ← dq_den hd] at h
  exact h
theorem pqLow_c (vn vd : Value) (n d : Int) (k : Nat) (w : World) (hn : IsInt w vn n) (hd : IsInt w vd d) (bn : Bd k n) (bd : Bd k d) (hk : k ≤ 17179869180) (h0 : 0 < d) :
    Calls Tryz.prog 126 #[vn, vd] w fun e w' => (∃ v, e = .returned v ∧ IsQP w' v (Rat.divInt n d)) ∧ Below w.heap.size w w' :=
  (lowest_c vn vd n d k w hn hd bn bd hk (by omega)).mono fun e w' ⟨⟨v, h1, h2⟩, hb⟩ => ⟨⟨v, h1, h2.qp h0⟩, hb⟩
theorem bd_den {k : Nat} {q : Rat} (h : BdQ k q) : Bd k ((q.den : Int) - 1) ∧ Bd k 1 := by
  have h1 := den_pos q
  have h2 := h.2
  unfold Bd at *
  have : (1 : Int).natAbs = 1 := rfl
  omega
theorem pqDen_c (v : Value) (q : Rat) (k : Nat) (w : World) (hv : IsQP w v q) (bq : BdQ k q) (hk : k ≤ 17179869180) :
    Calls Tryz.prog 127 #[v] w fun e w' => (∃ u, e = .returned u ∧ IsInt w' u (q.den : Int)) ∧ Below w.heap.size w w' :=
  den_c v q.num q.den k w hv.rat (bd_den bq).1 (bd_den bq).2 hk
theorem pqNum_c (v : Value) (q : Rat) (w : World) (hv : IsQP w v q) :
    Calls Tryz.prog 56 #[v] w fun e w' => (∃ u, e = .returned u ∧ IsInt w' u q.num) ∧ Below w.heap.size w w' := num_c v q.num q.den w hv.rat
def MkPost (n d : Int) (w : World) (e : Ending) (w' : World) : Prop := (∃ v, e = .returned (.tuple #[v, .int .i64 0]) ∧ IsQP w' v (Rat.divInt n d)) ∧ Below w.heap.size w w'
set_option maxRecDepth 100000 in
set_option maxHeartbeats 16000000 in
theorem pqMake_c (vn vd : Value) (n d : Int) (k : Nat) (w : World) (hn : IsInt w vn n) (hd : IsInt w vd d) (bn : Bd k n) (bd : Bd k d) (hk9 : k ≤ 17179869180) (h0 : d ≠ 0) :
    Calls Tryz.prog 130 #[vn, vd] w (MkPost n d w) := by
  rcases Int.lt_or_lt_of_ne h0 with hdn | hd0
  rotate_left
  · exact (makePos_c vn vd n d k w hn hd bn bd hk9 hd0).mono fun e w' ⟨⟨v, h1, h2⟩, hb⟩ => ⟨⟨v, h1, h2.qp hd0⟩, hb⟩
  have SC := Lib.hid (fun V (q : Below w.heap.size w V) => sign_c vd d V (hd.keep q))
  rw [Int.sign_eq_neg_one_of_neg hdn] at SC
  have NC := Lib.hid (fun V (q : Below w.heap.size w V) => neg_c vn n V (hn.keep q))
  have DC := Lib.hid (fun V (q : Below w.heap.size w V) => neg_c vd d V (hd.keep q))
  have LC := Lib.hid (show ∀ u v V, IsInt V u (-n) → IsInt V v (-d) → Calls Tryz.prog 126 #[u, v] V (fun e w' => (∃ v, e = .returned v ∧ IsQP w' v (Rat.divInt n d)) ∧ Below V.heap.size V w') from fun u v V hu hv => by rw [divInt_swap hdn]; exact pqLow_c u v (-n) (-d) k V hu hv bn.neg bd.neg hk9 (by omega))
  unfold MkPost
  obtain ⟨q, hq⟩ : ∃ q, Rat.divInt n d = q := ⟨_, rfl⟩
  rw [hq] at LC ⊢
  obtain ⟨nn, na, nl, nc, rfl⟩ := hn.lit
  obtain ⟨dn, da, dl, dc, rfl⟩ := hd.lit
  clear hn hd bn bd h0 hdn hq hk9
  have hB := Below.refl w.heap.size w
  go_enter Tryz.func130, Tryz.ntmps130
  go_wp2_with fail
  (with_reducible refine (SC.out _ ?_).mono ?_); (repeat (first|exact bzR _ _|exact hB|refine bzD ?_|refine bzN ?_|refine bzS ?_|refine bzA ?_))
  rintro e w1 ⟨rfl, hb1⟩
  have n0 : w1.cell? ⟨w.heap.size, 0, none⟩ = some (.bool nn) := bkc hb1
  have zn0 := cell_lt n0
  have n0f : w1.frozen? ⟨w.heap.size, 0, none⟩ = false := bkcf (v := .bool nn) hb1
  have n1 : w1.cell? ⟨w.heap.size, 1, none⟩ = some (.slice na nl nc) := bkc hb1
  have n1f : w1.frozen? ⟨w.heap.size, 1, none⟩ = false := bkcf (v := .slice na nl nc) hb1
  have d0 : w1.cell? ⟨w.heap.size + 1, 0, none⟩ = some (.bool dn) := bkc hb1
  have zd0 := cell_lt d0
  have d0f : w1.frozen? ⟨w.heap.size + 1, 0, none⟩ = false := bkcf (v := .bool dn) hb1
  have d1 : w1.cell? ⟨w.heap.size + 1, 1, none⟩ = some (.slice da dl dc) := bkc hb1
  have d1f : w1.frozen? ⟨w.heap.size + 1, 1, none⟩ = false := bkcf (v := .slice da dl dc) hb1
  have r0 : w1.cell? ⟨w.heap.size + 1 + 1, 0, none⟩ = some (.bool false) := bkc hb1
  have zr0 := cell_lt r0
  have r0f : w1.frozen? ⟨w.heap.size + 1 + 1, 0, none⟩ = false := bkcf (v := .bool false) hb1
  have r1 : w1.cell? ⟨w.heap.size + 1 + 1, 1, none⟩ = some (.slice none 0 0) := bkc hb1
  have r1f : w1.frozen? ⟨w.heap.size + 1 + 1, 1, none⟩ = false := bkcf (v := .slice none 0 0) hb1
  have r2 : w1.cell? ⟨w.heap.size + 1 + 1, 2, none⟩ = some (.bool false) := bkc hb1
  have r2f : w1.frozen? ⟨w.heap.size + 1 + 1, 2, none⟩ = false := bkcf (v := .bool false) hb1
  have r3 : w1.cell? ⟨w.heap.size + 1 + 1, 3, none⟩ = some (.slice none 0 0) := bkc hb1
  have r3f : w1.frozen? ⟨w.heap.size + 1 + 1, 3, none⟩ = false := bkcf (v := .slice none 0 0) hb1
  have hB : Below w.heap.size w w1 := bthen (by repeat (first|exact bzR _ _|exact hB|refine bzD ?_|refine bzN ?_|refine bzS ?_|refine bzA ?_)) hb1
  have hz : w.heap.size ≤ w1.heap.size := hB.size
  have hBw := Below.refl w1.heap.size w1
  have HBB := Lib.hid hB
  have HS := Lib.hid (show ∀ V, Below w1.heap.size w1 V → (V.cell? ⟨w.heap.size, 0, none⟩ = some (.bool nn) ∧ V.cell? ⟨w.heap.size, 1, none⟩ = some (.slice na nl nc) ∧ V.cell? ⟨w.heap.size + 1, 0, none⟩ = some (.bool dn) ∧ V.cell? ⟨w.heap.size + 1, 1, none⟩ = some (.slice da dl dc)) ∧ (V.frozen? ⟨w.heap.size, 0, none⟩ = false ∧ V.frozen? ⟨w.heap.size, 1, none⟩ = false ∧ V.frozen? ⟨w.heap.size + 1, 0, none⟩ = false ∧ V.frozen? ⟨w.heap.size + 1, 1, none⟩ = false) ∧ (V.cell? ⟨w.heap.size + 1 + 1, 0, none⟩ = some (.bool false) ∧ V.cell? ⟨w.heap.size + 1 + 1, 1, none⟩ = some (.slice none 0 0) ∧ V.cell? ⟨w.heap.size + 1 + 1, 2, none⟩ = some (.bool false) ∧ V.cell? ⟨w.heap.size + 1 + 1, 3, none⟩ = some (.slice none 0 0)) ∧ (V.frozen? ⟨w.heap.size + 1 + 1, 0, none⟩ = false ∧ V.frozen? ⟨w.heap.size + 1 + 1, 1, none⟩ = false ∧ V.frozen? ⟨w.heap.size + 1 + 1, 2, none⟩ = false ∧ V.frozen? ⟨w.heap.size + 1 + 1, 3, none⟩ = false) from fun V q => ⟨⟨bkeep q n0, bkeep q n1, bkeep q d0, bkeep q d1⟩, ⟨bkeepf q n0 n0f, bkeepf q n1 n1f, bkeepf q d0 d0f, bkeepf q d1 d1f⟩, ⟨bkeep q r0, bkeep q r1, bkeep q r2, bkeep q r3⟩, ⟨bkeepf q r0 r0f, bkeepf q r1 r1f, bkeepf q r2 r2f, bkeepf q r3 r3f⟩⟩)
  have zr := cell_lt r0
  clear SC hb1
  go_upto_region 5 with (fail)
  go_region_law (go_simp; go_wp2_with (first
    | (go_at_call 160; (with_reducible show Calls _ _ #[.agg #[.bool nn, .slice na nl nc]] _ _); (with_reducible refine (NC.out _ (bthen HBB.out ?_)).mono ?_); (repeat (first|exact bzR _ _|exact hBw|refine bzD ?_|refine bzN ?_|refine bzS ?_|refine bzA ?_)); rintro e w2 ⟨⟨u2, rfl, hu2⟩, hb2⟩; (have hBd : Below w1.heap.size w1 w2 := bthen (by repeat (first|exact bzR _ _|exact hBw|refine bzD ?_|refine bzN ?_|refine bzS ?_|refine bzA ?_)) hb2; clear hBw; have hBw := hBd; clear hBd); obtain ⟨⟨n0, n1, d0, d1⟩, ⟨n0f, n1f, d0f, d1f⟩, -, -⟩ := HS.out w2 hBw; have HU2 := Lib.hid hu2; have hy2 := Below.refl w2.heap.size w2; obtain ⟨pn, pa, pl, pc, rfl⟩ := hu2.lit)
    | (go_at_call 160; (with_reducible refine (DC.out _ (bthen HBB.out ?_)).mono ?_); (repeat (first|exact bzR _ _|exact hBw|refine bzD ?_|refine bzN ?_|refine bzS ?_|refine bzA ?_)); rintro e w3 ⟨⟨u3, rfl, hu3⟩, hb3⟩; (have hBd : Below w1.heap.size w1 w3 := bthen (by repeat (first|exact bzR _ _|exact hBw|refine bzD ?_|refine bzN ?_|refine bzS ?_|refine bzA ?_)) hb3; clear hBw; have hBw := hBd; clear hBd); obtain ⟨⟨n0, n1, d0, d1⟩, ⟨n0f, n1f, d0f, d1f⟩, ⟨r0, r1, r2, r3⟩, ⟨r0f, r1f, r2f, r3f⟩⟩ := HS.out w3 hBw; have HU3 := Lib.hid hu3; (have hBd : Below w2.heap.size w2 w3 := bthen (by repeat (first|exact bzR _ _|exact hy2|refine bzD ?_|refine bzN ?_|refine bzS ?_|refine bzA ?_)) hb3; clear hy2; have hy2 := hBd; clear hBd); obtain ⟨sn, sa, sl, sc, rfl⟩ := hu3.lit)
    | fail))
  all_goals
    go_upto_region 6 with (fail)
    refine wp_name fun w9 hW9 => ?_
    have HN := Lib.hid (show IsInt w9 (.agg #[.bool pn, .slice pa pl pc]) (-n) from by rw [hW9]; exact ((HU2.out.keep hy2).put2 n0 n1 _ _).put2 (cell_far (cell_far d0 (by simp) _) (by simp) _) (cell_far (cell_far d1 (by simp) _) (by simp) _) _ _)
    have HD := Lib.hid (show IsInt w9 (.agg #[.bool sn, .slice sa sl sc]) (-d) from by rw [hW9]; exact (HU3.out.put2 n0 n1 _ _).put2 (cell_far (cell_far d0 (by simp) _) (by simp) _) (cell_far (cell_far d1 (by simp) _) (by simp) _) _ _)
    have n0q : w9.cell? ⟨w.heap.size, 0, none⟩ = some (.bool pn) := by rw [hW9]; exact cell_far (cell_far (cell_far (cell_here n0 _) (by simp) _) (by simp) _) (by simp) _
    have n1q : w9.cell? ⟨w.heap.size, 1, none⟩ = some (.slice pa pl pc) := by rw [hW9]; exact cell_far (cell_far (cell_here (cell_far n1 (by simp) _) _) (by simp) _) (by simp) _
    have d0q : w9.cell? ⟨w.heap.size + 1, 0, none⟩ = some (.bool sn) := by rw [hW9]; exact cell_far (cell_here (cell_far (cell_far d0 (by simp) _) (by simp) _) _) (by simp) _
    have d1q : w9.cell? ⟨w.heap.size + 1, 1, none⟩ = some (.slice sa sl sc) := by rw [hW9]; exact cell_here (cell_far (cell_far (cell_far d1 (by simp) _) (by simp) _) (by simp) _) _
    have f4 : ∀ p, w3.frozen? p = false → w9.frozen? p = false := fun p h => by rw [hW9, World.frozen?_setCell, World.frozen?_setCell, World.frozen?_setCell, World.frozen?_setCell]; exact h
    have c4 : ∀ i u, w3.cell? ⟨w.heap.size + 1 + 1, i, none⟩ = some u → w9.cell? ⟨w.heap.size + 1 + 1, i, none⟩ = some u := fun i u h => by rw [hW9]; exact cell_far (cell_far (cell_far (cell_far h (by simp <;> omega) _) (by simp <;> omega) _) (by simp <;> omega) _) (by simp <;> omega) _
    have r0q := c4 _ _ r0
    have r1q := c4 _ _ r1
    have r2q := c4 _ _ r2
    have r3q := c4 _ _ r3
    have r0qf := f4 _ r0f
    have r1qf := f4 _ r1f
    have r2qf := f4 _ r2f
    have r3qf := f4 _ r3f
    have hBn : Below w.heap.size w w9 := by rw [hW9]; exact bset (bset (bset (bset (bthen HBB.out hBw) (Nat.le_refl _) _) (Nat.le_refl _) _) (Nat.le_succ _) _) (Nat.le_succ _) _
    have hBw9 := Below.refl w9.heap.size w9
    have LC9 := Lib.hid (fun V (q : Below w9.heap.size w9 V) => LC.out _ _ V (HN.out.keep q) (HD.out.keep q))
    clear hW9 hB hBw HBB f4 c4 n0 n1 d0 d1 r0 r1 r2 r3 n0f n1f d0f d1f r0f r1f r2f r3f HU2 HU3 NC DC HS hy2 zr HN HD LC
    have zn := cell_lt n0q
    have zd := cell_lt d0q
    have zr := cell_lt r0q
    go_wp2_with fail
    (with_reducible refine (LC9.out _ ?_).mono ?_); (repeat (first|exact bzR _ _|exact hBw9|refine bzD ?_|refine bzN ?_|refine bzS ?_|refine bzA ?_))
    rintro e w10 ⟨⟨v10, rfl, hv10⟩, hb10⟩
    have hk : Below w9.heap.size w9 w10 := bthen (by repeat (first|exact bzR _ _|exact hBw9|refine bzD ?_|refine bzN ?_|refine bzS ?_|refine bzA ?_)) hb10
    have HV := Lib.hid hv10
    have r0 := bkeep hk r0q
    have r1 := bkeep hk r1q
    have r2 := bkeep hk r2q
    have r3 := bkeep hk r3q
    have r0f := bkeepf hk r0q r0qf
    have r1f := bkeepf hk r1q r1qf
    have r2f := bkeepf hk r2q r2qf
    have r3f := bkeepf hk r3q r3qf
    have zr2 := cell_lt r0
    have hBf := bthen hBn hk
    obtain ⟨m1, b1, k1, d1, m2, b2, k2, d2, rfl, -, -⟩ := hv10
    have HQ := Lib.hid (IsQP.put4 HV.out r0 r1 r2 r3 (.bool m1) (.slice b1 k1 d1) (.bool m2) (.slice b2 k2 d2))
    clear LC9 hb10 hk HV n0q n1q d0q d1q r0q r1q r2q r3q r0qf r1qf r2qf r3qf zn zd zr hBn hBw9
    go_wp2
    refine bodyPost_ret (v := .tuple #[.agg #[.bool m1, .slice b1 k1 d1, .bool m2, .slice b2 k2 d2], .int .i64 0]) (by simp [results, Tryz.results130, go_sem, *]) rfl ⟨⟨_, rfl, ?_⟩, ?_⟩
    · exact HQ.out
    ·
      repeat (first|exact bzR _ _|exact hBf|refine bzD ?_|refine bzN ?_|refine bzS ?_|refine bzA ?_)
end Go.Proofs.YtbmaffijncapiaaGreatDoor

/- The reference's fractions, and the program's, as they lie in memory. -/
namespace Go.Proofs.YtbmaffijncapiaaGreatDoor
open Num
open Go.ChangeShapes Go.WideShapes Go.ChangeAt Go.RowKit
set_option linter.unusedVariables false
set_option linter.unusedSimpArgs false
def IsQR (w : World) (v : Value) (q : Rat) : Prop := ∃ n1 a1 l1 c1 n2 a2 l2 c2, v = .agg #[.bool n1, .slice a1 l1 c1, .bool n2, .slice a2 l2 c2] ∧ IsRef w (.agg #[.bool n1, .slice a1 l1 c1]) q.num ∧ IsRef w (.agg #[.bool n2, .slice a2 l2 c2]) (q.den : Int)
theorem IsRef.limQ {w w' : World} {v : Value} {z : Int} (h : IsRef w v z) (k : Lim w w') : IsRef w' v z := lims_ref _ _ _ _ h k
theorem frk_ref : FrK IsQR := ⟨fun k h => by
  obtain ⟨n1, a1, l1, c1, n2, a2, l2, c2, e, h1, h2⟩ := h
  exact ⟨n1, a1, l1, c1, n2, a2, l2, c2, e, h1.limQ k, h2.limQ k⟩, fun h => by
  obtain ⟨n1, a1, l1, c1, n2, a2, l2, c2, e, h1, h2⟩ := h
  exact ⟨n1, a1, l1, c1, n2, a2, l2, c2, e⟩⟩
theorem IsQR.keep {w w' : World} {v : Value} {q : Rat} (h : IsQR w v q) (k : Below w.heap.size w w') : IsQR w' v q := frk_ref.keep h k
end Go.Proofs.YtbmaffijncapiaaGreatDoor

/- The reference: the greatest common divisor. -/
namespace Go.Proofs.YtbmaffijncapiaaGreatDoor
open Num
open Go.ChangeShapes Go.WideShapes Go.ChangeAt Go.RowKit
set_option linter.unusedVariables false
set_option linter.unusedSimpArgs false
attribute [local go_sem ↓] Go.wp_at_zero Go.wp_at_succ
def VarR (ub : Nat) (m : Int) (W : World) : Prop := typOf W ub = some 56 ∧ ∃ n a ln c, W.cell? ⟨ub, 0, none⟩ = some (.bool n) ∧ W.cell? ⟨ub, 1, none⟩ = some (.slice a ln c) ∧ W.frozen? ⟨ub, 0, none⟩ = false ∧ W.frozen? ⟨ub, 1, none⟩ = false ∧ IsRef W (.agg #[.bool n, .slice a ln c]) m
theorem VarR.keep {ub : Nat} {m : Int} {W V : World} (h : VarR ub m W) (k : Below W.heap.size W V) : VarR ub m V := by
  obtain ⟨ht, n, a, ln, c, h0, h1, f0, f1, hi⟩ := h
  exact ⟨typ_keep ht k, n, a, ln, c, bkeep k h0, bkeep k h1, bkeepf k h0 f0, bkeepf k h1 f1, hi.keep k⟩
theorem Lim.setT {a b : World} (h : Lim a b) {p : Addr} {t : TypeId} (hp : typOf b p.block = some t) (ht : t ≠ 177) (u : Value) : Lim a (b.setCell p u) := h.trans fun q hq => by
  have hne : q ≠ p.block := fun e => by subst e; rw [hp] at hq; exact ht (Option.some.inj hq)
  exact ⟨by rw [typ_set]; exact hq, fun o n hc => cell_far hc (fun e => hne (by rw [e])) _⟩
end Go.Proofs.YtbmaffijncapiaaGreatDoor

/- The reference: Make. -/
namespace Go.Proofs.YtbmaffijncapiaaGreatDoor
open Num
open Go.ChangeShapes Go.WideShapes Go.ChangeAt Go.RowKit
set_option linter.unusedVariables false
set_option linter.unusedSimpArgs false
attribute [local go_sem ↓] Go.wp_at_zero Go.wp_at_succ
end Go.Proofs.YtbmaffijncapiaaGreatDoor

/- The reference: Mul, Over, Add of fractions. -/
namespace Go.Proofs.YtbmaffijncapiaaGreatDoor
open Num
open Go.ChangeShapes Go.WideShapes Go.ChangeAt Go.RowKit
set_option linter.unusedVariables false
set_option linter.unusedSimpArgs false
attribute [local go_sem ↓] Go.wp_at_zero Go.wp_at_succ
theorem far4 {w : World} {b g i : Nat} {v : Value} (h : w.cell? ⟨b, i, none⟩ = some v) (hne : b ≠ g) (u0 u1 u2 u3 : Value) : ((((w.setCell ⟨g, 0, none⟩ u0).setCell ⟨g, 1, none⟩ u1).setCell ⟨g, 2, none⟩ u2).setCell ⟨g, 3, none⟩ u3).cell? ⟨b, i, none⟩ = some v :=
  cell_far (cell_far (cell_far (cell_far h (addr_ne (Ne.symm hne)) _) (addr_ne (Ne.symm hne)) _) (addr_ne (Ne.symm hne)) _) (addr_ne (Ne.symm hne)) _
end Go.Proofs.YtbmaffijncapiaaGreatDoor

/- The reference: Add, Sub, Neg of fractions. -/
namespace Go.Proofs.YtbmaffijncapiaaGreatDoor
open Num
open Go.ChangeShapes Go.WideShapes Go.ChangeAt Go.RowKit
set_option linter.unusedVariables false
set_option linter.unusedSimpArgs false
attribute [local go_sem ↓] Go.wp_at_zero Go.wp_at_succ
end Go.Proofs.YtbmaffijncapiaaGreatDoor

/- The reference: Whole, Zero, Sign, Same, IsWhole, Text of fractions. -/
namespace Go.Proofs.YtbmaffijncapiaaGreatDoor
open Num
open Go.ChangeShapes Go.WideShapes Go.ChangeAt Go.RowKit
set_option linter.unusedVariables false
set_option linter.unusedSimpArgs false
attribute [local go_sem ↓] Go.wp_at_zero Go.wp_at_succ
end Go.Proofs.YtbmaffijncapiaaGreatDoor

/- integer: Bits. -/
namespace Go.Proofs.YtbmaffijncapiaaGreatDoor
open Num
open Go.ChangeShapes Go.WideShapes Go.ChangeAt Go.RowKit
set_option linter.unusedVariables false
set_option linter.unusedSimpArgs false
set_option maxRecDepth 100000 in
set_option maxHeartbeats 1000000 in
theorem bits_c (vx : Value) (x : Int) (k : Nat) (w : World) (hx : IsInt w vx x) (bx : Bd k x) (hk : k ≤ 17179869184) :
    Calls Tryz.prog 57 #[vx] w fun e w' => e = .returned (.int .i64 (bitN x.natAbs)) ∧ Below w.heap.size w w' := by
  obtain ⟨n1, a1, c1, l1, rfl, u1, g1, s1, rfl⟩ := hx
  have k1 := bd_len g1 (sg_bd bx) hk
  have bc := fun w h => limbBits_c a1 c1 l1 w h (by omega)
  rw [sg_abs]
  clear bx g1 s1 k1
  generalize bitN (val l1) = z at *
  unfold iv
  have hB0 := Below.refl w.heap.size w
  go_enter Tryz.func57, Tryz.ntmps57
  go_wp2_with fail
  refine (bc _ (u1.keep (by repeat (first|exact bzR _ _|exact hB0|refine bzD ?_|refine bzN ?_|refine bzS ?_|refine bzA ?_)))).mono ?_
  rintro e w1 ⟨rfl, rfl⟩
  clear bc
  go_wp2
  go_ret
  refine ⟨rfl, ?_⟩
  repeat (first|exact bzR _ _|exact hB0|refine bzD ?_|refine bzN ?_|refine bzS ?_|refine bzA ?_)

end Go.Proofs.YtbmaffijncapiaaGreatDoor

/- The reference's rows of fractions that are written, each in a block of its own; what clearing a column makes of them. -/
namespace Go.Proofs.YtbmaffijncapiaaGreatDoor
open Num
open Go.ChangeShapes Go.WideShapes Go.ChangeAt Go.RowKit
set_option linter.unusedVariables false
set_option linter.unusedSimpArgs false
structure FrRows (base top B n m : Nat) (w : World) (bs : Nat → Nat) (g : Det.M) : Prop where
  tB : typOf w B = some 43
  lo : base ≤ B
  hi : B < top
  fB : Free w B
  cell : ∀ i, i < n → ∃ c, w.cell? ⟨B, i, none⟩ = some (.slice (some ⟨bs i, 0, none⟩) m c) ∧ m ≤ c
  lob : ∀ i, i < n → base ≤ bs i
  hib : ∀ i, i < n → bs i < top
  inj : ∀ i j, i < n → j < n → bs i = bs j → i = j
  blk : ∀ i, i < n → FrBlk IsQR 91 w (bs i) m (g i)
section
variable {base top B n m : Nat} {w w' : World} {bs : Nat → Nat} {g g' : Det.M}
theorem FrRows.congr (h : FrRows base top B n m w bs g) (e : ∀ r c, r < n → c < m → g r c = g' r c) : FrRows base top B n m w bs g' :=
  ⟨h.tB, h.lo, h.hi, h.fB, h.cell, h.lob, h.hib, h.inj, fun i hi => (h.blk i hi).congr fun k hk => e i k hi hk⟩
theorem FrRows.out {X : Nat → Prop} (h : FrRows base top B n m w bs g) (ho : Out X w w') (hx : ∀ q, base ≤ q → q < top → ¬ X q) (hl : Lim w w') : FrRows base top B n m w' bs g := by
  have bB := hx B h.lo h.hi
  have bi : ∀ i, i < n → ¬ X (bs i) := fun i hi => hx _ (h.lob i hi) (h.hib i hi)
  refine ⟨by rw [typ_of_block (w := w) (ho.block B (typ_lt h.tB) bB)]; exact h.tB, h.lo, h.hi, h.fB.out ho bB, fun i hi => ?_, h.lob, h.hib, h.inj, fun i hi => (h.blk i hi).out frk_ref ho (bi i hi) hl⟩
  obtain ⟨c, hc, hm⟩ := h.cell i hi
  exact ⟨c, okeep ho hc bB, hm⟩
theorem FrRows.keep (h : FrRows base top B n m w bs g) (k : Below w.heap.size w w') : FrRows base top B n m w' bs g :=
  h.out (X := fun _ => False) (Out.of_below _ k) (fun _ _ _ hf => hf) (Lim.of_below k)
end
end Go.Proofs.YtbmaffijncapiaaGreatDoor

/- The reference: clear: a column is cleared but for one row. -/
namespace Go.Proofs.YtbmaffijncapiaaGreatDoor
open Num
open Go.ChangeShapes Go.WideShapes Go.ChangeAt Go.RowKit
set_option linter.unusedVariables false
set_option linter.unusedSimpArgs false
attribute [local go_sem ↓] Go.wp_at_zero Go.wp_at_succ
end Go.Proofs.YtbmaffijncapiaaGreatDoor

/- the reference's identity. -/
namespace Go.Proofs.YtbmaffijncapiaaGreatDoor
open Num
open Go.ChangeShapes Go.WideShapes Go.ChangeAt Go.RowKit
set_option linter.unusedVariables false
set_option linter.unusedSimpArgs false
attribute [local go_sem ↓] Go.wp_at_zero Go.wp_at_succ
end Go.Proofs.YtbmaffijncapiaaGreatDoor

