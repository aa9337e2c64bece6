/- Texts of this seat, laid together: Ints, ScA, ScB, ScC, IntG, RefE. Each opens with its own remark, which says what it proves, and under which conditions. -/
import Derived.Test.YtkejdmdldhlkgaaDoorP05
import Derived.Test.YtkejdmdldhlkgaaDoorP03
import Derived.Test.YtkejdmdldhlkgaaDoorP04
import Derived.Deep.DrawnRows
import Derived.BigQuiet
import Derived.Test.YtkejdmdldhlkgaaDoorP01
set_option linter.unusedVariables false
set_option linter.unusedSimpArgs false
/- Rows of numbers in memory. -/
namespace Go.Proofs.YtkejdmdldhlkgaaDoor
open Num
open Go.ChangeShapes Go.WideShapes Go.ChangeAt Go.RowKit
set_option linter.unusedVariables false
set_option linter.unusedSimpArgs false
/-- n numbers in block b from off on -/
def IntsF (R : World → Value → Int → Prop) (w : World) (b off n : Nat) (f : Nat → Int) : Prop :=
  ∀ k, k < n → ∃ nb a len c, w.cell? ⟨b, off + k * 2, none⟩ = some (.bool nb) ∧ w.cell? ⟨b, off + k * 2 + 1, none⟩ = some (.slice a len c) ∧ R w (.agg #[.bool nb, .slice a len c]) (f k)
section
variable {R : World → Value → Int → Prop} {w w' : World} {b off n : Nat} {f f' : Nat → Int}
theorem IntsF.congr (h : IntsF R w b off n f) (he : ∀ k, k < n → f k = f' k) : IntsF R w b off n f' := fun k hk => by
  rw [← he k hk]; exact h k hk
theorem IntsF.take {m : Nat} (h : IntsF R w b off n f) (hm : m ≤ n) : IntsF R w b off m f := fun k hk => h k (by omega)
/-- the row's own block as it was, no limb turned -/
theorem IntsF.stay (hR : Lims R) (h : IntsF R w b off n f) (hb : w'.heap[b]? = w.heap[b]?) (hl : Lim w w') : IntsF R w' b off n f := fun k hk => by
  obtain ⟨nb, a, len, c, h1, h2, h3⟩ := h k hk
  exact ⟨nb, a, len, c, by rw [World.cell?_of_block (w := w) hb]; exact h1, by rw [World.cell?_of_block (w := w) hb]; exact h2, hR _ _ _ _ h3 hl⟩
theorem IntsF.keep (hR : Lims R) (h : IntsF R w b off n f) (hb : Below w.heap.size w w') : IntsF R w' b off n f := fun k hk => by
  obtain ⟨nb, a, len, c, h1, h2, h3⟩ := h k hk
  exact ⟨nb, a, len, c, bkeep hb h1, bkeep hb h2, hR _ _ _ _ h3 (.of_below hb)⟩
theorem IntsF.out {X : Nat → Prop} (hR : Lims R) (h : IntsF R w b off n f) (ho : Out X w w') (hx : ¬ X b) (hl : Lim w w') : IntsF R w' b off n f := fun k hk => by
  obtain ⟨nb, a, len, c, h1, h2, h3⟩ := h k hk
  exact ⟨nb, a, len, c, okeep ho h1 hx, okeep ho h2 hx, hR _ _ _ _ h3 hl⟩
/-- one of them is set -/
theorem IntsF.store (hR : Lims R) (h : IntsF R w b off n f) {k : Nat} (hk : k < n) {nb : Bool} {a : Option Addr} {len c : Nat} {z : Int} (hv : R w (.agg #[.bool nb, .slice a len c]) z) :
    IntsF R ((w.setCell ⟨b, off + k * 2, none⟩ (.bool nb)).setCell ⟨b, off + k * 2 + 1, none⟩ (.slice a len c)) b off n (fun i => if i = k then z else f i) := by
  obtain ⟨nb0, a0, len0, c0, h1, h2, h3⟩ := h k hk
  have hl : Lim w ((w.setCell ⟨b, off + k * 2, none⟩ (.bool nb)).setCell ⟨b, off + k * 2 + 1, none⟩ (.slice a len c)) :=
    ((Lim.refl w).bool h1 _).slice (cell_far h2 (by simp) _) _
  intro i hi
  by_cases e : i = k
  · subst e
    refine ⟨nb, a, len, c, cell_far (cell_here h1 _) (by simp) _, cell_here (cell_far h2 (by simp) _) _, ?_⟩
    simp only [if_true]
    exact hR _ _ _ _ hv hl
  · obtain ⟨nb1, a1, len1, c1, k1, k2, k3⟩ := h i hi
    refine ⟨nb1, a1, len1, c1, cell_far (cell_far k1 (by simp <;> omega) _) (by simp <;> omega) _, cell_far (cell_far k2 (by simp <;> omega) _) (by simp <;> omega) _, ?_⟩
    show R _ _ (if i = k then z else f i)
    rw [if_neg e]
    exact hR _ _ _ _ k3 hl
/-- two cells elsewhere are set -/
theorem IntsF.far (hR : Lims R) (h : IntsF R w b off n f) {g o : Nat} (hg : g ≠ b) {x : Bool} {y : Option Addr} {p q : Nat} (r0 : w.cell? ⟨g, o, none⟩ = some (.bool x)) (r1 : w.cell? ⟨g, o + 1, none⟩ = some (.slice y p q)) (u v : Value) :
    IntsF R ((w.setCell ⟨g, o, none⟩ u).setCell ⟨g, o + 1, none⟩ v) b off n f := fun i hi => by
  obtain ⟨nb1, a1, len1, c1, k1, k2, k3⟩ := h i hi
  exact ⟨nb1, a1, len1, c1, cell_far (cell_far k1 (addr_ne hg) _) (addr_ne hg) _, cell_far (cell_far k2 (addr_ne hg) _) (addr_ne hg) _, hR _ _ _ _ k3 (((Lim.refl w).bool r0 _).slice (cell_far r1 (by simp) _) _)⟩
end
theorem isInt_zero (w : World) : IsInt w (.agg #[.bool false, .slice none 0 0]) 0 :=
  ⟨false, none, 0, [], rfl, ⟨Nat.le_refl _, by unfold maxLen; omega, (fun _ h => by cases h), .inl rfl⟩, (fun h => absurd rfl h), (fun h => by cases h), rfl⟩
/-- the cells of n noughts -/
def zcel (n : Nat) : Array Value := madeCells #[.bool false, .slice none 0 0] (n * 2)
theorem zcel_at {n k : Nat} (h : k < n) : (zcel n)[k * 2]? = some (.bool false) ∧ (zcel n)[k * 2 + 1]? = some (.slice none 0 0) := by
  unfold zcel madeCells
  constructor
  · simp [Array.getElem?_map, Array.getElem?_range, show k * 2 < n * 2 from by omega]
  · have e : (k * 2 + 1) % 2 = 1 := by omega
    simp [Array.getElem?_map, Array.getElem?_range, show k * 2 + 1 < n * 2 from by omega, e]
theorem zcel_ints {R : World → Value → Int → Prop} (hz : ∀ w, R w (.agg #[.bool false, .slice none 0 0]) 0) (w : World) (n : Nat) (t : TypeId) {g : Nat} (hg : g = w.heap.size) : IntsF R (w.alloc (.cells (zcel n) t)) g 0 n (fun _ => 0) := fun k hk => by
  obtain ⟨h1, h2⟩ := zcel_at hk
  exact ⟨false, none, 0, 0, by rw [Nat.zero_add]; exact cell_new hg h1, by rw [Nat.zero_add]; exact cell_new hg h2, hz _⟩
theorem infoInt : (Tryd.prog.info? 37).map (fun i => (i.zero, i.size, i.bytes)) = some (some (.agg #[.bool false, .slice none 0 0]), 2, 32) := by kernel_rfl
theorem mkInts (n : Nat) (hn : n ≤ 1099511627776) (w : World) : (Instr.makeSlice 42 (.int .i64 (n : Int)) (.int .i64 (n : Int))).run Tryd.prog w = .ok (.slice (some ⟨w.heap.size, 0, none⟩) n n) (w.alloc (.cells (zcel n) 37)) := by
  obtain ⟨i0, hi, hz0, hz1, hz2⟩ := info_parts infoInt
  rw [run_make w _ _ i0 _ Tryd.underlying42 hi hz0 .i64 .i64 n n (by omega) (by omega) (by rw [hz2]; omega) (by omega), hz1]
  rfl
/-- a row of numbers of the call's own, built by append -/
def OwnF (R : World → Value → Int → Prop) (E : TypeId) (w0 wr : World) (v : Value) (n : Nat) (f : Nat → Int) : Prop :=
  ∃ xs, OwnE E 2 w0 wr v n xs ∧ ∀ k, k < n → ∃ nb a len c, xs[k * 2]? = some (.bool nb) ∧ xs[k * 2 + 1]? = some (.slice a len c) ∧ R wr (.agg #[.bool nb, .slice a len c]) (f k)
section
variable {R : World → Value → Int → Prop} {E : TypeId} {w0 wr w' : World} {v : Value} {n : Nat} {f : Nat → Int}
theorem OwnF.nil (R : World → Value → Int → Prop) (E : TypeId) {w0 wr : World} (f : Nat → Int) (hb : Below w0.heap.size w0 wr) : OwnF R E w0 wr (.slice none 0 0) 0 f := ⟨[], OwnE.nil _ _ hb, fun k hk => absurd hk (by omega)⟩
theorem OwnF.below (hR : Lims R) (h : OwnF R E w0 wr v n f) (hb : Below wr.heap.size wr w') : OwnF R E w0 w' v n f := by
  obtain ⟨xs, h1, h2⟩ := h
  refine ⟨xs, h1.below hb, fun k hk => ?_⟩
  obtain ⟨nb, a, len, c, k1, k2, k3⟩ := h2 k hk
  exact ⟨nb, a, len, c, k1, k2, hR _ _ _ _ k3 (.of_below hb)⟩
theorem OwnF.bel (h : OwnF R E w0 wr v n f) : Below w0.heap.size w0 wr := by obtain ⟨xs, h1, _⟩ := h; exact h1.2
theorem OwnF.view (h : OwnF R E w0 wr v n f) : ∃ a c, v = .slice a n c ∧ n ≤ c ∧ c ≤ maxLen ∧ (n = 0 ∨ ∃ g, a = some ⟨g, 0, none⟩ ∧ w0.heap.size ≤ g ∧ IntsF R wr g 0 n f) := by
  obtain ⟨xs, ⟨⟨hl, h1⟩, _⟩, h2⟩ := h
  rcases h1 with ⟨rfl, rfl⟩ | ⟨g, cap, cur, rfl, hg, hh, hc, hm, hs, ht⟩
  · exact ⟨none, 0, rfl, Nat.le_refl _, by unfold maxLen; omega, .inl rfl⟩
  · refine ⟨_, cap, rfl, hc, hm, .inr ⟨g, rfl, hg, fun k hk => ?_⟩⟩
    obtain ⟨nb, a, len, c, k1, k2, k3⟩ := h2 k hk
    have cel : ∀ j u, xs[j]? = some u → wr.cell? ⟨g, j, none⟩ = some u := fun j u hj => by
      have hj2 : j < n * 2 := by have := (List.getElem?_eq_some_iff.1 hj).1; omega
      rw [← ht, List.getElem?_take_of_lt (by omega)] at hj
      simpa [World.cell?, hh] using hj
    exact ⟨nb, a, len, c, by rw [Nat.zero_add]; exact cel _ _ k1, by rw [Nat.zero_add]; exact cel _ _ k2, k3⟩
end
/-- what an append of one number makes of such a row -/
theorem own_snoc {R : World → Value → Int → Prop} (hR : Lims R) {E : TypeId} {w0 wr w' : World} {v' : Value} {n : Nat} {f : Nat → Int} {xs : List Value} {nb : Bool} {a : Option Addr} {len c : Nat} {z : Int}
    (h2 : ∀ k, k < n → ∃ nb a len c, xs[k * 2]? = some (.bool nb) ∧ xs[k * 2 + 1]? = some (.slice a len c) ∧ R wr (.agg #[.bool nb, .slice a len c]) (f k)) (hl : xs.length = n * 2)
    (hv : R wr (.agg #[.bool nb, .slice a len c]) z) (hlim : Lim wr w') (hO : OwnE E 2 w0 w' v' (n + 1) (xs ++ [.bool nb, .slice a len c])) : OwnF R E w0 w' v' (n + 1) (fun i => if i = n then z else f i) := by
  refine ⟨_, hO, fun k hk => ?_⟩
  by_cases e : k = n
  · subst e
    refine ⟨nb, a, len, c, ?_, ?_, ?_⟩
    · rw [List.getElem?_append_right (by omega), hl]; simp
    · rw [List.getElem?_append_right (by omega), hl]; simp
    · simp only [if_true]; exact hR _ _ _ _ hv hlim
  · obtain ⟨nb1, a1, len1, c1, k1, k2, k3⟩ := h2 k (by omega)
    refine ⟨nb1, a1, len1, c1, ?_, ?_, ?_⟩
    · rw [List.getElem?_append_left (by omega)]; exact k1
    · rw [List.getElem?_append_left (by omega)]; exact k2
    · show R _ _ (if k = n then z else f k)
      rw [if_neg e]; exact hR _ _ _ _ k3 hlim
section
variable {P : Program} {T E : TypeId} {bytes : Nat} {R : World → Value → Int → Prop} {ops : Array Oper} {o : Oper} {a : Act} {Q : Exit → Act → World → Prop} {w0 wr : World} {v : Value} {n : Nat} {f : Nat → Int} {t : TypeId} {s x : Operand} {nb : Bool} {ad : Option Addr} {len c m cc : Nat} {z : Int}
/-- append of one number -/
theorem app_num {rest : List Oper} (el : Elt P T E 2 bytes) (hE : E ≠ 64) (hR : Lims R) (hgd : o.guard = none)
    (ho : o.op = .call { callee := .builtin .append, args := #[s, x], argTypes := #[T, T] }) (hO : OwnF R E w0 wr v n f) (hv : R wr (.agg #[.bool nb, .slice ad len c]) z) (hs : a.eval s = v)
    (hx : a.eval x = .slice (some ⟨wr.heap.size, 0, none⟩) 1 cc) (hn : n + 1 ≤ 1099511627776)
    (h : ∀ v' w', OwnF R E w0 w' v' (n + 1) (fun i => if i = n then z else f i) → Lim wr w' → Out (fun k => v.ownBlock = some k) wr w' → wpList P ops Q rest (a.put o.dst v') w') : wpList P ops Q (o :: rest) a (wr.alloc (.cells #[.bool nb, .slice ad len c] t)) := by
  obtain ⟨i, z0, hi, hz, hsize, hby, hzs⟩ := el.info
  obtain ⟨xs, h1, h2⟩ := hO
  have hb : (n + 1) * bytes ≤ 1099511627776 * 128 := Nat.mul_le_mul hn el.small
  refine wpList_append_own _ hgd s x T ho w0.heap.size E i z0 2 bytes el.ht hi hz hsize hby hzs el.pos v n xs hs (h1.1.alloc _) ⟨wr.heap.size, 0, none⟩ 1 cc [.bool nb, .slice ad len c] hx rfl (cells_new wr _ t) (fun u hu => by simp at hu; rcases hu with rfl | rfl <;> rfl) (by unfold maxLen; omega) (by omega) (by have := h1.2.size; simp; omega) ?_
  intro v' w' hown hg _
  have hl : Lim wr w' := ((Lim.refl wr).alloc _).grown hg fun g hg' ht => hE (by
    rw [typ_keep (own_typ h1 hg') (bal (Below.refl _ _) _)] at ht
    exact Option.some.inj ht)
  exact h v' w' (own_snoc hR h2 h1.1.1 hv hl ⟨hown, below_append (wr := wr) (bal h1.2 _) (h1.1.alloc _) hg⟩) hl (((Out.refl _ wr).alloc _).grown hg fun k hk _ => hk)
end
theorem elInt : Elt Tryd.prog 42 37 2 32 := Elt.mk' Tryd.underlying42 infoInt rfl (by decide) (by decide)
/-- a block without frozen cells -/
def Free (w : World) (g : Nat) : Prop := g < w.heap.size ∧ ∀ j, w.frozen? ⟨g, j, none⟩ = false
theorem Free.keep {w w' : World} {g : Nat} (h : Free w g) (hb : Below w.heap.size w w') : Free w' g :=
  ⟨Nat.lt_of_lt_of_le h.1 hb.size, fun j => by rw [hb.frozen h.1]; exact h.2 j⟩
theorem Free.new {w : World} {c : Array Value} {t : TypeId} {g : Nat} (hg : g = w.heap.size) : Free (w.alloc (.cells c t)) g :=
  ⟨by simp <;> omega, fun j => by rw [World.frozen?_alloc_at (hn := hg)] <;> rfl⟩
theorem Free.set {w : World} {g : Nat} (h : Free w g) (p : Addr) (v : Value) : Free (w.setCell p v) g := ⟨by simpa using h.1, fun j => by rw [World.frozen?_setCell]; exact h.2 j⟩
theorem Free.out {X : Nat → Prop} {w w' : World} {g : Nat} (h : Free w g) (ho : Out X w w') (hx : ¬ X g) : Free w' g :=
  ⟨Nat.lt_of_lt_of_le h.1 ho.size, fun j => by rw [World.frozen?_of_block (w := w) (ho.block g h.1 hx)]; exact h.2 j⟩
theorem IntsF.at0 {R : World → Value → Int → Prop} {w : World} {b n k : Nat} {f : Nat → Int} (h : IntsF R w b 0 n f) (hk : k < n) : ∃ nb a len c, w.cell? ⟨b, k * 2, none⟩ = some (.bool nb) ∧ w.cell? ⟨b, k * 2 + 1, none⟩ = some (.slice a len c) ∧ R w (.agg #[.bool nb, .slice a len c]) (f k) := by
  simpa using h k hk
theorem IntsF.store0 {R : World → Value → Int → Prop} {w : World} {b n : Nat} {f : Nat → Int} (hR : Lims R) (h : IntsF R w b 0 n f) {k : Nat} (hk : k < n) {nb : Bool} {a : Option Addr} {len c : Nat} {z : Int} (hv : R w (.agg #[.bool nb, .slice a len c]) z) :
    IntsF R ((w.setCell ⟨b, k * 2, none⟩ (.bool nb)).setCell ⟨b, k * 2 + 1, none⟩ (.slice a len c)) b 0 n (fun i => if i = k then z else f i) := by
  have := h.store hR hk hv
  simpa using this
/-- two cells of a struct are set: no limb turns -/
theorem Lim.set2 {w : World} {g o : Nat} {x : Bool} {y : Option Addr} {p q : Nat} (r0 : w.cell? ⟨g, o, none⟩ = some (.bool x)) (r1 : w.cell? ⟨g, o + 1, none⟩ = some (.slice y p q)) (u v : Value) : Lim w ((w.setCell ⟨g, o, none⟩ u).setCell ⟨g, o + 1, none⟩ v) :=
  ((Lim.refl w).bool r0 _).slice (cell_far r1 (by simp) _) _
theorem Out.set2 {X : Nat → Prop} {a b : World} (h : Out X a b) {g o : Nat} (hx : g < a.heap.size → X g) (u v : Value) : Out X a ((b.setCell ⟨g, o, none⟩ u).setCell ⟨g, o + 1, none⟩ v) := (h.set hx u).set hx v
end Go.Proofs.YtkejdmdldhlkgaaDoor

/- lists of points: their cells, slices.Clone. -/
namespace Go.Proofs.YtkejdmdldhlkgaaDoor
open Pt
open Go.ChangeShapes Go.WideShapes Go.ChangeAt Go.RowKit
set_option linter.unusedVariables false
set_option linter.unusedSimpArgs false
/-- the cells of points -/
def pcells (l : List (Int × Int)) : List Value := l.flatMap fun x => [.int .i64 x.1, .int .i64 x.2]
theorem pcells_app (l m : List (Int × Int)) : pcells (l ++ m) = pcells l ++ pcells m := by simp [pcells]
theorem pcells_one (l : List (Int × Int)) : ∀ u ∈ pcells l, u.oneCell' = true := by
  intro u hu
  simp only [pcells, List.mem_flatMap] at hu
  obtain ⟨x, _, hu⟩ := hu
  simp at hu
  rcases hu with rfl | rfl <;> rfl
theorem infoPt : (Tryd.prog.info? 31).map (fun i => (i.zero, i.size, i.bytes)) = some (some (.agg #[.int .i64 0, .int .i64 0]), 2, 16) := by kernel_rfl
theorem elPt : Elt Tryd.prog 22 31 2 16 := Elt.mk' Tryd.underlying22 infoPt rfl (by decide) (by decide)
theorem pcells_len (L : List (Int × Int)) : (pcells L).length = L.length * 2 := by
  induction L with
  | nil => rfl
  | cons i L ih => simp only [pcells, List.flatMap_cons, List.length_append, List.length_cons] at ih ⊢; rw [ih]; simp; omega
theorem pcells_get (L : List (Int × Int)) : ∀ k, k < L.length → (pcells L)[k * 2]? = some (.int .i64 (L.getD k (0, 0)).1) ∧ (pcells L)[k * 2 + 1]? = some (.int .i64 (L.getD k (0, 0)).2) := by
  induction L with
  | nil => intro k hk; simp at hk
  | cons x L ih =>
    intro k hk
    cases k with
    | zero => exact ⟨rfl, rfl⟩
    | succ k =>
      have := ih k (by simpa using hk)
      have e : pcells (x :: L) = [.int .i64 x.1, .int .i64 x.2] ++ pcells L := rfl
      rw [e, show (k + 1) * 2 = k * 2 + 2 from by omega]
      simpa [List.getElem?_append] using this
/-- the first n of a list that is told by a function -/
def upL (f : Nat → Int × Int) (n : Nat) : List (Int × Int) := (List.range n).map f
theorem upL_len (f : Nat → Int × Int) (n : Nat) : (upL f n).length = n := by simp [upL]
theorem upL_get (f : Nat → Int × Int) {n k : Nat} (h : k < n) : (upL f n).getD k (0, 0) = f k := by
  simp [upL, h]
/-- points in a block of the call's own -/
theorem own_pts {w : World} {base : Nat} {v : Value} {n m : Nat} {f : Nat → Int × Int} (h : w.ownsRow base 31 2 v m (pcells (upL f n))) (hm : m = n) : ∃ a c, v = .slice a n c ∧ n ≤ c ∧ PtsV w a n c f ∧ FromA base 31 w a ∧ (n = 0 ∨ ∃ b, a = some ⟨b, 0, none⟩ ∧ Free w b) := by
  subst hm
  have h' := h
  obtain ⟨h1, h2⟩ := h
  rcases h2 with ⟨rfl, h0⟩ | ⟨g, cap, cur, rfl, hg, hh, hc, hm, hs, ht⟩
  · obtain rfl : m = 0 := h0
    exact ⟨none, 0, rfl, Nat.le_refl _, .inl rfl, FromA.nil _ _ _, .inl rfl⟩
  · refine ⟨some ⟨g, 0, none⟩, cap, rfl, hc, .inr ⟨g, 0, rfl, hc, fun k hk => ?_⟩, fun p e => by cases e; exact ⟨hg, by unfold typOf; rw [hh]⟩, .inr ⟨g, rfl, ?_⟩⟩
    · obtain ⟨c0, c1⟩ := pcells_get (upL f m) k (by rw [upL_len]; exact hk)
      rw [upL_get f hk] at c0 c1
      rw [← ht] at c0 c1
      constructor
      · have e := c0
        rw [List.getElem?_take_of_lt (by omega)] at e
        simpa [World.cell?, hh] using e
      · have e := c1
        rw [List.getElem?_take_of_lt (by omega)] at e
        simpa [World.cell?, hh] using e
    · exact ⟨typ_lt (t := 31) (by unfold typOf; rw [hh]), fun j => by simp [World.frozen?, hh]⟩
set_option maxRecDepth 100000 in
set_option maxHeartbeats 1000000 in
theorem clonePts_c (a : Option Addr) (ca n : Nat) (f : Nat → Int × Int) (w : World) (ha : PtsV w a n ca f) (hn : a = none → n = 0) (h1 : n * 16 ≤ 140737488355328) :
    Calls Tryd.prog 10 #[.slice a n ca] w fun e w' => (∃ a' c', e = .returned (.slice a' n c') ∧ n ≤ c' ∧ PtsV w' a' n c' f ∧ FromA w.heap.size 31 w' a' ∧ (n = 0 ∨ ∃ b, a' = some ⟨b, 0, none⟩ ∧ Free w' b)) ∧ Below w.heap.size w w' := by
  have hB0 := Below.refl w.heap.size w
  have hq := fun w => Lib.run_eql_slice_nil w 22 31 a n ca 0 0 Tryd.underlying22
  cases a with
  | none =>
    have HN := Lib.hid (hn rfl)
    clear hn
    have hq2 : ∀ w, (binOp .eql 22 (.slice none n ca) (.slice none 0 0)).run Tryd.prog w = .ok (.bool true) w := hq
    clear hq
    go_enter Tryd.func10, Tryd.ntmps10
    go_wp2
    go_ret
    obtain rfl : n = 0 := HN.out
    exact ⟨⟨none, 0, rfl, Nat.le_refl _, .inl rfl, FromA.nil _ _ _, .inl rfl⟩, Below.refl _ _⟩
  | some ad =>
    obtain ⟨i0, z0, hi, hz0, hz1, hz2, hz3⟩ := elPt.info
    have hnews : ∀ (W : World), Below w.heap.size w W → ∀ j u, (pcells (upL f n))[j]? = some u → W.cell? (ad.add j) = some u := by
      intro W hW j v hj
      have hjl : j < n * 2 := by have := (List.getElem?_eq_some_iff.1 hj).1; rwa [pcells_len, upL_len] at this
      obtain ⟨g0, g1⟩ := pcells_get (upL f n) (j / 2) (by rw [upL_len]; omega)
      rw [upL_get f (by omega)] at g0 g1
      rcases ha with h | ⟨b, off, h, _, hcell⟩
      · subst h; simp at hjl
      · cases h
        obtain ⟨h3, h4⟩ := hcell (j / 2) (by omega)
        have e2 : (⟨b, off, none⟩ : Addr).add j = ⟨b, off + j, none⟩ := by unfold Addr.add; split <;> simp_all
        rw [e2]
        rcases (show j = j / 2 * 2 ∨ j = j / 2 * 2 + 1 by omega) with e | e
        · rw [e] at hj ⊢; rw [hj] at g0; cases g0
          exact bkeep hW h3
        · rw [e] at hj ⊢; rw [hj] at g1; cases g1
          exact bkeep hW h4
    clear ha
    have ho : (w.alloc (.cells #[] 31)).ownsRow w.heap.size 31 2 (.slice (some ⟨w.heap.size, 0, none⟩) 0 0) 0 [] := ⟨rfl, .inr ⟨w.heap.size, 0, #[], rfl, Nat.le_refl _, (MapKept.heap_alloc w _).1, Nat.le_refl _, by unfold maxLen; omega, rfl, rfl⟩⟩
    go_enter Tryd.func10, Tryd.ntmps10
    go_wp2_with (at_builtin; refine wpList_append_own _ rfl _ _ 22 rfl w.heap.size 31 i0 z0 2 16 Tryd.underlying22 hi hz0 hz1 hz2 hz3 (by decide) _ 0 [] rfl ho ad n ca (pcells (upL f n)) rfl (by rw [pcells_len, upL_len]) (hnews _ (bal hB0 _)) (pcells_one _) (by unfold maxLen; omega) (by omega) (by simp) ?_)
    intro v' w1 hown hgrow _
    have hbel := below_append (wr := w) (bal hB0 _) ho hgrow
    obtain ⟨a', c', rfl, hcc, hu, hfr, hfree⟩ := own_pts (n := n) hown (by omega)
    have HU := Lib.hid (And.intro hcc (And.intro hu (And.intro hfr hfree)))
    clear hown hnews hq hgrow hu ho hfr hfree
    go_wp2
    go_ret
    exact ⟨⟨a', c', rfl, HU.out⟩, hbel⟩
end Go.Proofs.YtkejdmdldhlkgaaDoor

/- lists of points: slices.IndexFunc and slices.ContainsFunc by point.None, slices.Equal. -/
namespace Go.Proofs.YtkejdmdldhlkgaaDoor
open Pt
open Go.ChangeShapes Go.WideShapes Go.ChangeAt Go.RowKit
set_option linter.unusedVariables false
set_option linter.unusedSimpArgs false
attribute [local go_sem ↓] Go.wp_at_zero Go.wp_at_succ
theorem measS {N c : Nat} (h : c < N) {a b : Value} (ha : a = .int .i64 ((c + 1 : Nat) : Int)) (hb : b = .int .i64 (c : Nat)) : N - (intOf a).toNat < N - (intOf b).toNat := by
  subst ha hb
  simp [intOf]
  omega
theorem ptNone_v (a b : Int) (v : Bool) (w : World) (hv : nn a b = v) : Calls Tryd.prog 24 #[pv a b] w fun e w' => e = .returned (.bool v) ∧ Below w.heap.size w w' := by
  rw [← hv]; exact ptNone_c a b w
theorem ptIn_v (a b : Int) (v : Bool) (w : World) (hv : inB a b = v) : Calls Tryd.prog 9 #[pv a b] w fun e w' => e = .returned (.bool v) ∧ Below w.heap.size w w' := by
  rw [← hv]; exact ptIn_c a b w
set_option maxRecDepth 100000 in
set_option maxHeartbeats 4000000 in
theorem idxNone_c (a : Option Addr) (n cap : Nat) (f : Nat → Int × Int) (w : World) (h : PtsV w a n cap f) (hn : n ≤ 4611686018427387904) :
    Calls Tryd.prog 40 #[.slice a n cap, .func (.func 24) #[] #[]] w fun e w' => ((e = .returned (.int .i64 (-1)) ∧ NoNone n f) ∨ (∃ j : Nat, e = .returned (.int .i64 j) ∧ ¬ NoNone n f)) ∧ Below w.heap.size w w' := by
  have hB := Below.refl w.heap.size w
  rcases h with rfl | ⟨b, off, rfl, hcap, hp⟩
  ·
    go_enter Tryd.func40, Tryd.ntmps40
    go_wp2
    refine wp_loop_rounds 1 ?_
    rw [rounds_succ]
    go_wp2
    go_ret
    exact ⟨.inl ⟨rfl, fun i hi => by omega⟩, by repeat (first | exact Below.refl _ _ | exact hB | refine Below.drew ?_ | refine below_drewN ?_ _ | refine bset ?_ (by simp <;> omega) _ | refine bal ?_ _)⟩
  · have HP := Lib.hid hp
    clear hp
    go_enter Tryd.func40, Tryd.ntmps40
    go_wp2
    go_loopw [8] (fun x wr => ∃ j : Nat, j ≤ n ∧ x = .int .i64 j ∧ Below w.heap.size w wr ∧ Hid (∀ t, t < j → nn (f t).1 (f t).2 = false)) (fun x _ => n - (intOf x).toNat)
    case atStart => exact ⟨0, Nat.zero_le _, rfl, hB, Lib.hid (fun t ht => by omega)⟩
    case round =>
      obtain ⟨j, hj, rfl, hBr, hE⟩ := hrel
      by_cases hlt : j < n
      · have hltI : (j : Int) < (n : Int) := by omega
        obtain ⟨c0, c1⟩ := HP.out j hlt
        replace c0 := bkeep hBr c0
        replace c1 := bkeep hBr c1
        have zb := cell_lt c0
        obtain ⟨q, hq⟩ : ∃ q, f j = q := ⟨_, rfl⟩
        rw [hq] at c0 c1
        obtain ⟨q1, q2⟩ := q
        obtain ⟨v, hv⟩ : ∃ v, nn q1 q2 = v := ⟨_, rfl⟩
        have NC := Lib.hid (fun W => ptNone_v q1 q2 v W hv)
        have HV := Lib.hid (show nn (f j).1 (f j).2 = v by rw [hq]; exact hv)
        have hBw := Below.refl wr.heap.size wr
        have HLT := Lib.hid hlt
        clear hq hv
        go_wp2_with fail
        (with_reducible refine (NC.out _).mono ?_)
        rintro e w5 ⟨rfl, hb5⟩
        have hB5 := bthen hBr (bthen (show Below wr.heap.size wr _ by repeat (first | exact Below.refl _ _ | exact hBw | refine Below.drew ?_ | refine below_drewN ?_ _ | refine bset ?_ (by simp <;> omega) _ | refine bal ?_ _)) hb5)
        cases v with
        | true =>
          have HNO := Lib.hid (show ¬ NoNone n f from fun k => by have h1 := k j HLT.out; rw [HV.out] at h1; cases h1)
          go_wp2
          go_ret
          exact ⟨.inr ⟨j, rfl, HNO.out⟩, hB5⟩
        | false =>
          have HE2 := Lib.hid (show ∀ t, t < j + 1 → nn (f t).1 (f t).2 = false from fun t ht => by
            by_cases e : t = j
            · subst e; exact HV.out
            · exact hE.out t (by omega))
          go_wp2
          exact ⟨⟨j + 1, hlt, by go_num, hB5, HE2⟩, measS hlt (by go_num) rfl⟩
      · obtain rfl : j = n := by omega
        go_wp2
        go_ret
        exact ⟨.inl ⟨rfl, hE.out⟩, hBr⟩
theorem cntNone_v (a : Option Addr) (n cap : Nat) (f : Nat → Int × Int) (v : Bool) (w : World) (h : PtsV w a n cap f) (hn : n ≤ 4611686018427387904) (hv : v = false ↔ NoNone n f) :
    Calls Tryd.prog 23 #[.slice a n cap, .func (.func 24) #[] #[]] w fun e w' => e = .returned (.bool v) ∧ Below w.heap.size w w' := by
  have IC := Lib.hid (fun W (q : Below w.heap.size w W) => idxNone_c a n cap f W (h.keep q) hn)
  have HV := Lib.hid hv
  clear hv h
  have hB := Below.refl w.heap.size w
  go_enter Tryd.func23, Tryd.ntmps23
  go_wp2_with fail
  (with_reducible refine (IC.out _ ?_).mono ?_); (repeat (first | exact Below.refl _ _ | exact hB | refine Below.drew ?_ | refine below_drewN ?_ _ | refine bset ?_ (by simp <;> omega) _ | refine bal ?_ _))
  rintro e w1 ⟨(⟨rfl, hN⟩ | ⟨j, rfl, hN⟩), hb1⟩
  · have hB1 : Below w.heap.size w w1 := bthen (by repeat (first | exact Below.refl _ _ | exact hB | refine Below.drew ?_ | refine below_drewN ?_ _ | refine bset ?_ (by simp <;> omega) _ | refine bal ?_ _)) hb1
    obtain rfl : v = false := HV.out.2 hN
    clear HV hN IC
    go_wp2
    go_ret
    exact ⟨rfl, hB1⟩
  · have hB1 : Below w.heap.size w w1 := bthen (by repeat (first | exact Below.refl _ _ | exact hB | refine Below.drew ?_ | refine below_drewN ?_ _ | refine bset ?_ (by simp <;> omega) _ | refine bal ?_ _)) hb1
    obtain rfl : v = true := by
      cases v with
      | true => rfl
      | false => exact absurd (HV.out.1 rfl) hN
    have h0 : (0 : Int) ≤ (j : Int) := by omega
    clear HV hN IC
    go_wp2
    go_ret
    exact ⟨rfl, hB1⟩
theorem ne_pv (x y u v : Int) (w : World) : (binOp .neq 31 (.agg #[.int .i64 x, .int .i64 y]) (.agg #[.int .i64 u, .int .i64 v])).run Tryd.prog w = .ok (.bool (!(x == u && y == v))) w := by
  by_cases h : x = u
  · subst h
    simp [go_sem]
    by_cases h : y = v
    · subst h; simp
    · simp [h]
  · simp [go_sem, h]
theorem ne_pts (p q : Int × Int) : (!(p.1 == q.1 && p.2 == q.2)) = !decide (p = q) := by
  congr 1
  rw [Bool.eq_iff_iff]; simp [Prod.ext_iff]
set_option maxRecDepth 100000 in
set_option maxHeartbeats 4000000 in
theorem eqPts_v (a b : Option Addr) (n m cap cup : Nat) (f g : Nat → Int × Int) (v : Bool) (w : World) (h : PtsV w a n cap f) (k : PtsV w b m cup g) (hn : n ≤ 4611686018427387904) (hm : m ≤ 4611686018427387904) (hv : v = true ↔ n = m ∧ ∀ i, i < n → f i = g i) :
    Calls Tryd.prog 8 #[.slice a n cap, .slice b m cup] w fun e w' => e = .returned (.bool v) ∧ Below w.heap.size w w' := by
  have hB := Below.refl w.heap.size w
  have HV := Lib.hid hv
  clear hv
  by_cases hnm : n = m
  · subst hnm
    have HVT := Lib.hid (show (∀ i, i < n → f i = g i) → v = true from fun h => HV.out.2 ⟨rfl, h⟩)
    have HVF := Lib.hid (show v = true → ∀ i, i < n → f i = g i from fun h => (HV.out.1 h).2)
    clear HV
    have hnn : ((n : Int) != (n : Int)) = false := by simp
    by_cases h0 : n = 0
    · subst h0
      obtain rfl : v = true := HVT.out (fun i hi => by omega)
      go_enter Tryd.func8, Tryd.ntmps8
      go_wp2
      refine wp_loop_rounds 1 ?_
      rw [rounds_succ]
      go_wp2
      go_ret
      exact ⟨rfl, by repeat (first | exact Below.refl _ _ | exact hB | refine Below.drew ?_ | refine below_drewN ?_ _ | refine bset ?_ (by simp <;> omega) _ | refine bal ?_ _)⟩
    · obtain ⟨ab, ao, rfl, hc1, hp⟩ : ∃ b off, a = some ⟨b, off, none⟩ ∧ n ≤ cap ∧ PtsIn w b off n f := h.elim (fun h => absurd h h0) id
      obtain ⟨bb, bo, rfl, hc2, hr⟩ : ∃ b' off, b = some ⟨b', off, none⟩ ∧ n ≤ cup ∧ PtsIn w b' off n g := k.elim (fun h => absurd h h0) id
      have HP := Lib.hid hp
      have HR := Lib.hid hr
      clear hp hr h k h0
      go_enter Tryd.func8, Tryd.ntmps8
      go_wp2
      go_loopw [13] (fun x wr => ∃ j : Nat, j ≤ n ∧ x = .int .i64 j ∧ Below w.heap.size w wr ∧ Hid (∀ t, t < j → f t = g t)) (fun x _ => n - (intOf x).toNat)
      case atStart => exact ⟨0, Nat.zero_le _, rfl, hB, Lib.hid (fun t ht => by omega)⟩
      case round =>
        obtain ⟨j, hj, rfl, hBr, hE⟩ := hrel
        by_cases hlt : j < n
        · have hltI : (j : Int) < (n : Int) := by omega
          obtain ⟨c0, c1⟩ := HP.out j hlt
          obtain ⟨d0, d1⟩ := HR.out j hlt
          replace c0 := bkeep hBr c0
          replace c1 := bkeep hBr c1
          replace d0 := bkeep hBr d0
          replace d1 := bkeep hBr d1
          have zb := cell_lt c0
          have zd := cell_lt d0
          have hne := fun W => ne_pv (f j).1 (f j).2 (g j).1 (g j).2 W
          rw [ne_pts] at hne
          obtain ⟨p, hp⟩ : ∃ p, decide (f j = g j) = p := ⟨_, rfl⟩
          rw [hp] at hne
          have HPE := Lib.hid hp
          obtain ⟨q1, hq1⟩ : ∃ q, (f j).1 = q := ⟨_, rfl⟩
          obtain ⟨q2, hq2⟩ : ∃ q, (f j).2 = q := ⟨_, rfl⟩
          obtain ⟨r1, hr1⟩ : ∃ q, (g j).1 = q := ⟨_, rfl⟩
          obtain ⟨r2, hr2⟩ : ∃ q, (g j).2 = q := ⟨_, rfl⟩
          rw [hq1] at c0 hne
          rw [hq2] at c1 hne
          rw [hr1] at d0 hne
          rw [hr2] at d1 hne
          have HLT := Lib.hid hlt
          clear hp hq1 hq2 hr1 hr2
          cases p with
          | true =>
            have HE2 := Lib.hid (show ∀ t, t < j + 1 → f t = g t from fun t ht => by
              by_cases e : t = j
              · subst e; exact of_decide_eq_true HPE.out
              · exact hE.out t (by omega))
            have hne2 : ∀ W, (binOp .neq 31 (.agg #[.int .i64 q1, .int .i64 q2]) (.agg #[.int .i64 r1, .int .i64 r2])).run Tryd.prog W = .ok (.bool false) W := hne
            clear hne
            go_wp2
            go_quiet (fail)
            go_wp2
            exact ⟨⟨j + 1, hlt, by go_num, by repeat (first | exact Below.refl _ _ | exact hBr | refine Below.drew ?_ | refine below_drewN ?_ _ | refine bset ?_ (by simp <;> omega) _ | refine bal ?_ _), HE2⟩, measS hlt (by go_num) rfl⟩
          | false =>
            obtain rfl : v = false := by
              cases v with
              | false => rfl
              | true => exact absurd (HVF.out rfl j HLT.out) (of_decide_eq_false HPE.out)
            have hne2 : ∀ W, (binOp .neq 31 (.agg #[.int .i64 q1, .int .i64 q2]) (.agg #[.int .i64 r1, .int .i64 r2])).run Tryd.prog W = .ok (.bool true) W := hne
            clear hne
            go_wp2
            go_quiet (fail)
            go_wp2
            go_ret
            exact ⟨rfl, by repeat (first | exact Below.refl _ _ | exact hBr | refine Below.drew ?_ | refine below_drewN ?_ _ | refine bset ?_ (by simp <;> omega) _ | refine bal ?_ _)⟩
        · obtain rfl : j = n := by omega
          obtain rfl : v = true := HVT.out hE.out
          go_wp2
          go_ret
          exact ⟨rfl, hBr⟩
  · have hnI : ((n : Int) != (m : Int)) = true := by simp; omega
    obtain rfl : v = false := by
      cases v with
      | false => rfl
      | true => exact absurd (HV.out.1 rfl).1 hnm
    go_enter Tryd.func8, Tryd.ntmps8
    go_wp2
    go_ret
    exact ⟨rfl, by repeat (first | exact Below.refl _ _ | exact hB | refine Below.drew ?_ | refine below_drewN ?_ _ | refine bset ?_ (by simp <;> omega) _ | refine bal ?_ _)⟩
end Go.Proofs.YtkejdmdldhlkgaaDoor

/- scheme: New. -/
namespace Go.Proofs.YtkejdmdldhlkgaaDoor
open Pt
open Go.ChangeShapes Go.WideShapes Go.ChangeAt Go.RowKit
set_option linter.unusedVariables false
set_option linter.unusedSimpArgs false
attribute [local go_sem ↓] Go.wp_at_zero Go.wp_at_succ
/-- a scheme in memory -/
structure SchAt (w : World) (b : Nat) (k1 k2 : Int) (n : Nat) (f : Nat → Int × Int) : Prop where
  c0 : w.cell? ⟨b, 0, none⟩ = some (.int .i64 k1)
  c1 : w.cell? ⟨b, 1, none⟩ = some (.int .i64 k2)
  ps : ∃ a c, w.cell? ⟨b, 2, none⟩ = some (.slice a n c) ∧ PtsV w a n c f
theorem SchAt.keep {w w' : World} {b : Nat} {k1 k2 : Int} {n : Nat} {f : Nat → Int × Int} (h : SchAt w b k1 k2 n f) (k : Below w.heap.size w w') : SchAt w' b k1 k2 n f :=
  ⟨bkeep k h.c0, bkeep k h.c1, by obtain ⟨a, c, h1, h2⟩ := h.ps; exact ⟨a, c, bkeep k h1, h2.keep k⟩⟩
/-- what New answers -/
def NewSPost (k1 k2 : Int) (n : Nat) (f : Nat → Int × Int) (w : World) (e : Ending) (w' : World) : Prop :=
  ((∃ no, Wrg k1 k2 n f no ∧ no ≠ 0 ∧ e = .returned (.tuple #[.pointer none, .int .i64 no])) ∨ (Sch k1 k2 n f ∧ ∃ b, e = .returned (.tuple #[.pointer (some ⟨b, 0, none⟩), .int .i64 0]) ∧ SchAt w' b k1 k2 n f)) ∧ Below w.heap.size w w'
theorem count_v (k : Int) (v : Bool) (w : World) (hv : decide (1 ≤ k ∧ k ≤ 8) = v) : Calls Tryd.prog 22 #[.int .i64 k] w fun e w' => e = .returned (.bool v) ∧ Below w.heap.size w w' := by
  subst hv
  have hB := Below.refl w.heap.size w
  by_cases h1 : 1 ≤ k
  · by_cases h2 : k ≤ 8
    · rw [decide_eq_true (show 1 ≤ k ∧ k ≤ 8 from ⟨h1, h2⟩)]
      go_enter Tryd.func22, Tryd.ntmps22
      go_wp2
      go_ret
      exact ⟨rfl, by repeat (first | exact Below.refl _ _ | exact hB | refine Below.drew ?_ | refine below_drewN ?_ _ | refine bset ?_ (by simp <;> omega) _ | refine bal ?_ _)⟩
    · rw [decide_eq_false (show ¬ (1 ≤ k ∧ k ≤ 8) from fun h => h2 h.2)]
      go_enter Tryd.func22, Tryd.ntmps22
      go_wp2
      go_ret
      exact ⟨rfl, by repeat (first | exact Below.refl _ _ | exact hB | refine Below.drew ?_ | refine below_drewN ?_ _ | refine bset ?_ (by simp <;> omega) _ | refine bal ?_ _)⟩
  · rw [decide_eq_false (show ¬ (1 ≤ k ∧ k ≤ 8) from fun h => h1 h.1)]
    go_enter Tryd.func22, Tryd.ntmps22
    go_wp2
    go_ret
    exact ⟨rfl, by repeat (first | exact Below.refl _ _ | exact hB | refine Below.drew ?_ | refine below_drewN ?_ _ | refine bset ?_ (by simp <;> omega) _ | refine bal ?_ _)⟩
theorem cnt_iff (k1 k2 : Int) : Cnt k1 k2 ↔ decide (1 ≤ k1 ∧ k1 ≤ 8) = true ∧ decide (1 ≤ k2 ∧ k2 ≤ 8) = true := by
  unfold Cnt; simp; omega
theorem TwRes.iff {f : Nat → Int × Int} {n : Nat} {x y : Int} {ok : Bool} (h : TwRes f n x y ok) : ok = false ↔ NoTw f n := by
  rcases h with ⟨rfl, i, j, -, -, h1, h2, h3, -⟩ | ⟨rfl, -, -, h⟩
  · exact ⟨fun h => (by cases h), fun h => by have := h j h2 i h1; rw [h3] at this; cases this⟩
  · exact ⟨fun _ => h, fun _ => rfl⟩
theorem PtsV.at {w : World} {a : Option Addr} {n cap j : Nat} {f : Nat → Int × Int} (h : PtsV w a n cap f) (hj : j < n) : ∃ b off, a = some ⟨b, off, none⟩ ∧ n ≤ cap ∧ w.cell? ⟨b, off + j * 2, none⟩ = some (.int .i64 (f j).1) ∧ w.cell? ⟨b, off + j * 2 + 1, none⟩ = some (.int .i64 (f j).2) := by
  rcases h with h | ⟨b, off, h1, h2, h3⟩
  · omega
  · exact ⟨b, off, h1, h2, (h3 j hj).1, (h3 j hj).2⟩
theorem PtsV.nil {w : World} {a : Option Addr} {n cap : Nat} {f : Nat → Int × Int} (h : PtsV w a n cap f) (ha : a = none) : n = 0 := by
  rcases h with h | ⟨b, off, h1, _⟩
  · exact h
  · rw [ha] at h1; cases h1
set_option maxRecDepth 100000 in
set_option maxHeartbeats 8000000 in
theorem newS_c (k1 k2 : Int) (a : Option Addr) (n cap : Nat) (f : Nat → Int × Int) (w : World) (h : PtsV w a n cap f) (hn : n ≤ 4611686018427387904) :
    Calls Tryd.prog 6 #[.int .i64 k1, .int .i64 k2, .slice a n cap] w (NewSPost k1 k2 n f w) := by
  have hB := Below.refl w.heap.size w
  have HP := Lib.hid h
  obtain ⟨v1, hv1⟩ : ∃ v, decide (1 ≤ k1 ∧ k1 ≤ 8) = v := ⟨_, rfl⟩
  obtain ⟨v2, hv2⟩ : ∃ v, decide (1 ≤ k2 ∧ k2 ≤ 8) = v := ⟨_, rfl⟩
  have HC := Lib.hid (show Cnt k1 k2 ↔ v1 = true ∧ v2 = true by rw [← hv1, ← hv2]; exact cnt_iff k1 k2)
  have C1 := Lib.hid (fun W => count_v k1 v1 W hv1)
  have C2 := Lib.hid (fun W => count_v k2 v2 W hv2)
  clear hv1 hv2 h
  go_enter Tryd.func6, Tryd.ntmps6
  go_wp2_with fail
  (with_reducible refine (C1.out _).mono ?_)
  rintro e w1 ⟨rfl, hb1⟩
  have hB1 : Below w.heap.size w w1 := bthen (by repeat (first | exact Below.refl _ _ | exact hB | refine Below.drew ?_ | refine below_drewN ?_ _ | refine bset ?_ (by simp <;> omega) _ | refine bal ?_ _)) hb1
  clear hb1 C1 hB
  cases v1 with
  | false =>
    have HW := Lib.hid (show Wrg k1 k2 n f 70 from .inl ⟨fun h => (by have := (HC.out.1 h.1).1; cases this), rfl⟩)
    clear HC C2
    go_wp2
    go_ret2
    exact ⟨.inl ⟨70, HW.out, by decide, rfl⟩, by repeat (first | exact Below.refl _ _ | exact hB1 | refine Below.drew ?_ | refine below_drewN ?_ _ | refine bset ?_ (by simp <;> omega) _ | refine bal ?_ _)⟩
  | true =>
  go_wp2_with fail
  (with_reducible refine (C2.out _).mono ?_)
  rintro e w2 ⟨rfl, hb2⟩
  have hB : Below w.heap.size w w2 := bthen (by repeat (first | exact Below.refl _ _ | exact hB1 | refine Below.drew ?_ | refine below_drewN ?_ _ | refine bset ?_ (by simp <;> omega) _ | refine bal ?_ _)) hb2
  clear hb2 C2 hB1
  cases v2 with
  | false =>
    have HW := Lib.hid (show Wrg k1 k2 n f 70 from .inl ⟨fun h => (by have := (HC.out.1 h.1).2; cases this), rfl⟩)
    clear HC
    go_wp2
    go_ret2
    exact ⟨.inl ⟨70, HW.out, by decide, rfl⟩, by repeat (first | exact Below.refl _ _ | exact hB | refine Below.drew ?_ | refine below_drewN ?_ _ | refine bset ?_ (by simp <;> omega) _ | refine bal ?_ _)⟩
  | true =>
  have HCT := Lib.hid (HC.out.2 (by simp))
  clear HC
  go_wp2
  go_loopw [23] (fun x wr => ∃ j : Nat, j ≤ n ∧ x = .int .i64 j ∧ Below w.heap.size w wr ∧ Hid (∀ t, t < j → inB (f t).1 (f t).2 = true)) (fun x _ => n - (intOf x).toNat)
  case atStart => exact ⟨0, Nat.zero_le _, rfl, by first | exact hB | exact hB.drew, Lib.hid (fun t ht => by omega)⟩
  case round =>
    obtain ⟨j, hj, rfl, hBr, hE⟩ := hrel
    by_cases hlt : j < n
    · have hltI : (j : Int) < (n : Int) := by omega
      obtain ⟨b, off, rfl, -, c0, c1⟩ := (HP.out.keep hBr).at hlt
      have zb := cell_lt c0
      obtain ⟨q, hq⟩ : ∃ q, f j = q := ⟨_, rfl⟩
      rw [hq] at c0 c1
      obtain ⟨q1, q2⟩ := q
      obtain ⟨v, hv⟩ : ∃ v, inB q1 q2 = v := ⟨_, rfl⟩
      have NC := Lib.hid (fun W => ptIn_v q1 q2 v W hv)
      have HV := Lib.hid (show inB (f j).1 (f j).2 = v by rw [hq]; exact hv)
      have hBw := Below.refl wr.heap.size wr
      have HLT := Lib.hid hlt
      clear hq hv
      go_wp2_with fail
      (with_reducible refine (NC.out _).mono ?_)
      rintro e w5 ⟨rfl, hb5⟩
      have hB5 := bthen hBr (bthen (show Below wr.heap.size wr _ by repeat (first | exact Below.refl _ _ | exact hBw | refine Below.drew ?_ | refine below_drewN ?_ _ | refine bset ?_ (by simp <;> omega) _ | refine bal ?_ _)) hb5)
      cases v with
      | false =>
        have HW := Lib.hid (show Wrg k1 k2 n f 70 from .inl ⟨fun h => (by have := h.2 j HLT.out; rw [HV.out] at this; cases this), rfl⟩)
        go_wp2
        go_ret2
        exact ⟨.inl ⟨70, HW.out, by decide, rfl⟩, hB5⟩
      | true =>
        have HE2 := Lib.hid (show ∀ t, t < j + 1 → inB (f t).1 (f t).2 = true from fun t ht => by
          by_cases e : t = j
          · subst e; exact HV.out
          · exact hE.out t (by omega))
        go_wp2
        exact ⟨⟨j + 1, hlt, by go_num, hB5, HE2⟩, measS hlt (by go_num) rfl⟩
    · obtain rfl : n = j := by omega
      have hltI : ¬ (n : Int) < (n : Int) := by omega
      have HAI := Lib.hid (show AllIn n f from hE.out)
      have hw1 : wrap64 (k1 + k2) = k1 + k2 := wp64 _ (by have := HCT.out; unfold Cnt at this; omega) (by have := HCT.out; unfold Cnt at this; omega)
      have hw2 : wrap64 (k1 + k2 - 1) = k1 + k2 - 1 := wp64 _ (by have := HCT.out; unfold Cnt at this; omega) (by have := HCT.out; unfold Cnt at this; omega)
      have hBw := Below.refl wr.heap.size wr
      clear hE hB
      by_cases hl : (n : Int) = k1 + k2 - 1
      rotate_left
      · have hI : ((n : Int) != k1 + k2 - 1) = true := by simp; omega
        have HW := Lib.hid (show Wrg k1 k2 n f 71 from .inr (.inl ⟨HCT.out, HAI.out, fun h => hl h.len, rfl⟩))
        clear hl
        go_wp2
        go_ret2
        exact ⟨.inl ⟨71, HW.out, by decide, rfl⟩, by repeat (first | exact Below.refl _ _ | exact hBr | refine Below.drew ?_ | refine below_drewN ?_ _ | refine bset ?_ (by simp <;> omega) _ | refine bal ?_ _)⟩
      have hI : ((n : Int) != k1 + k2 - 1) = false := by simp; omega
      have HL := Lib.hid hl
      clear hl
      obtain ⟨v3, hv3⟩ : ∃ v : Bool, v = false ↔ NoNone n f := by
        by_cases h : NoNone n f
        · exact ⟨false, by simp [h]⟩
        · exact ⟨true, by simp [h]⟩
      have HV3 := Lib.hid hv3
      have CN := Lib.hid (fun W (q : Below wr.heap.size wr W) => cntNone_v a n cap f v3 W (HP.out.keep (bthen hBr q)) hn hv3)
      clear hv3
      go_wp2_with fail
      (with_reducible refine (CN.out _ ?_).mono ?_); (repeat (first | exact Below.refl _ _ | exact hBw | refine Below.drew ?_ | refine below_drewN ?_ _ | refine bset ?_ (by simp <;> omega) _ | refine bal ?_ _))
      rintro e w5 ⟨rfl, hb5⟩
      have hB5 := bthen hBr (bthen (show Below wr.heap.size wr _ by repeat (first | exact Below.refl _ _ | exact hBw | refine Below.drew ?_ | refine below_drewN ?_ _ | refine bset ?_ (by simp <;> omega) _ | refine bal ?_ _)) hb5)
      clear CN hb5 hBw
      cases v3 with
      | true =>
        have HW := Lib.hid (show Wrg k1 k2 n f 71 from .inr (.inl ⟨HCT.out, HAI.out, fun h => (by have := HV3.out.2 h.nn; cases this), rfl⟩))
        go_wp2
        go_ret2
        exact ⟨.inl ⟨71, HW.out, by decide, rfl⟩, by repeat (first | exact Below.refl _ _ | exact hB5 | refine Below.drew ?_ | refine below_drewN ?_ _ | refine bset ?_ (by simp <;> omega) _ | refine bal ?_ _)⟩
      | false =>
      have hn15 : n ≤ 300 := by have := HCT.out; have := HL.out; unfold Cnt at *; omega
      have HN := Lib.hid hn15
      have TC := Lib.hid (fun W (q : Below w5.heap.size w5 W) => ptTwins_v a n cap f W hn15 (HP.out.keep (bthen hB5 q)))
      have hBw := Below.refl w5.heap.size w5
      clear hn15 hI hw1 hw2
      go_wp2_with fail
      (with_reducible refine (TC.out _ ?_).mono ?_); (repeat (first | exact Below.refl _ _ | exact hBw | refine Below.drew ?_ | refine below_drewN ?_ _ | refine bset ?_ (by simp <;> omega) _ | refine bal ?_ _))
      rintro e w6 ⟨⟨x, y, ok, rfl, hr⟩, hb6⟩
      have hB6 := bthen hB5 (bthen (show Below w5.heap.size w5 _ by repeat (first | exact Below.refl _ _ | exact hBw | refine Below.drew ?_ | refine below_drewN ?_ _ | refine bset ?_ (by simp <;> omega) _ | refine bal ?_ _)) hb6)
      have HT := Lib.hid hr.iff
      clear TC hb6 hBw hr
      cases ok with
      | true =>
        have HW := Lib.hid (show Wrg k1 k2 n f 71 from .inr (.inl ⟨HCT.out, HAI.out, fun h => (by have := HT.out.2 h.tw; cases this), rfl⟩))
        go_wp2
        go_ret2
        exact ⟨.inl ⟨71, HW.out, by decide, rfl⟩, by repeat (first | exact Below.refl _ _ | exact hB6 | refine Below.drew ?_ | refine below_drewN ?_ _ | refine bset ?_ (by simp <;> omega) _ | refine bal ?_ _)⟩
      | false =>
      have HSC := Lib.hid (show Sch k1 k2 n f from ⟨HCT.out, HAI.out, HL.out, HV3.out.1 (by simp), HT.out.1 (by simp)⟩)
      have KC := Lib.hid (fun W (q : Below w6.heap.size w6 W) => clonePts_c a cap n f W (HP.out.keep (bthen hB6 q)) (fun e => HP.out.nil e) (by have := HN.out; omega))
      have hBw := Below.refl w6.heap.size w6
      go_wp2_with fail
      (with_reducible refine (KC.out _ ?_).mono ?_); (repeat (first | exact Below.refl _ _ | exact hBw | refine Below.drew ?_ | refine below_drewN ?_ _ | refine bset ?_ (by simp <;> omega) _ | refine bal ?_ _))
      rintro e w7 ⟨⟨a', c', rfl, -, hp7, -⟩, hb7⟩
      have hB7 := bthen hB6 (bthen (show Below w6.heap.size w6 _ by repeat (first | exact Below.refl _ _ | exact hBw | refine Below.drew ?_ | refine below_drewN ?_ _ | refine bset ?_ (by simp <;> omega) _ | refine bal ?_ _)) hb7)
      have HP7 := Lib.hid hp7
      clear KC hb7 hBw hp7
      go_wp2
      go_ret2
      exact ⟨.inr ⟨HSC.out, w7.heap.size, rfl, cell_new rfl rfl, cell_new rfl rfl, a', c', cell_new rfl rfl, HP7.out.keep (bal (Below.refl _ _) _)⟩, by repeat (first | exact Below.refl _ _ | exact hB7 | refine Below.drew ?_ | refine below_drewN ?_ _ | refine bset ?_ (by simp <;> omega) _ | refine bal ?_ _)⟩
end Go.Proofs.YtkejdmdldhlkgaaDoor

/- integer: Pow, where the exponent is not below 0 and the power is not too long. -/
namespace Go.Proofs.YtkejdmdldhlkgaaDoor
open Num
open Go.ChangeShapes Go.WideShapes Go.ChangeAt Go.RowKit
set_option linter.unusedVariables false
set_option linter.unusedSimpArgs false
namespace Num
theorem Bd.pow {k : Nat} {x : Int} (h : Bd k x) (n : Nat) : Bd (n * k + 1) (x ^ n) := by
  induction n with
  | zero => simp [Bd]
  | succ n ih =>
    rw [Int.pow_succ, Nat.succ_mul]
    exact (ih.mul h).mono (by omega)
end Num

end Go.Proofs.YtkejdmdldhlkgaaDoor

/- The reference's numbers: Pow. -/
namespace Go.Proofs.YtkejdmdldhlkgaaDoor
open Num
open Go.ChangeShapes Go.WideShapes Go.ChangeAt Go.RowKit
set_option linter.unusedVariables false
set_option linter.unusedSimpArgs false

end Go.Proofs.YtkejdmdldhlkgaaDoor

