/- Texts of this seat, laid together: Lims, Ints, Row, RowH, PrgA, NumS, LimbE, LimbF, LimbG, VmA. Each opens with its own remark, which says what it proves, and under which conditions. -/
import Derived.Test.YtannhpadoooedaaGreatDoorP02
import Derived.OneCell
import Derived.Test.YtannhpadoooedaaGreatDoorP01
import Derived.Laws.BitsAllLaws
import Derived.Laws.AppendOwn
set_option linter.unusedVariables false
set_option linter.unusedSimpArgs false
/- 'Lim w w'': no limb has turned. -/
namespace Go.Proofs.YtannhpadoooedaaGreatDoor
open Num
open Go.ChangeShapes Go.WideShapes Go.ChangeAt Go.RowKit
set_option linter.unusedVariables false
set_option linter.unusedSimpArgs false
/-- every limb of w is there still -/
def Lim (w w' : World) : Prop := ∀ (b : Nat), typOf w b = some 137 → typOf w' b = some 137 ∧ ∀ (o : Nat) (n : Int), w.cell? ⟨b, o, none⟩ = some (.int .u32 n) → w'.cell? ⟨b, o, none⟩ = some (.int .u32 n)
section
variable {a b c w w' : World}
theorem Lim.refl (w : World) : Lim w w := fun _ h => ⟨h, fun _ _ h => h⟩
theorem Lim.trans (h : Lim a b) (k : Lim b c) : Lim a c := fun q ht => ⟨(k q (h q ht).1).1, fun o n hc => (k q (h q ht).1).2 o n ((h q ht).2 o n hc)⟩
theorem Lim.of_below (h : Below a.heap.size a b) : Lim a b := fun _ ht => ⟨typ_keep ht h, fun _ _ hc => bkeep h hc⟩
theorem Lim.below (h : Lim a b) (k : Below b.heap.size b c) : Lim a c := h.trans (.of_below k)
theorem Lim.alloc (h : Lim a b) (o : Obj) : Lim a (b.alloc o) := h.below (bal (Below.refl _ _) o)
theorem Lim.drew (h : Lim a b) : Lim a b.drew := h
theorem Lim.drewN (h : Lim a b) (n : Nat) : Lim a (b.drewN n) := h
/-- what is written is a row of another type -/
theorem Lim.grown {row : Option Nat} (h : Lim a b) (hg : b.grownBy c row) (hr : ∀ g, row = some g → typOf b g ≠ some 137) : Lim a c := h.trans fun q ht => by
  have e : c.heap[q]? = b.heap[q]? := hg.block q (typ_lt ht) fun e => hr q e.symm ht
  exact ⟨by rw [typ_of_block e]; exact ht, fun o n hc => by rw [World.cell?_of_block (w := b) e]; exact hc⟩
/-- a store into a cell that holds no limb -/
theorem Lim.put (h : Lim a b) {p : Addr} {v : Value} (hp : b.cell? p = some v) (hv : ∀ n, v ≠ .int .u32 n) (u : Value) : Lim a (b.setCell p u) := fun q ht => by
  refine ⟨by rw [typ_set]; exact (h q ht).1, fun o n hc => cell_far ((h q ht).2 o n hc) ?_ u⟩
  intro e
  rw [e, (h q ht).2 o n hc] at hp
  exact hv _ (Option.some.inj hp).symm
theorem Lim.bool (h : Lim a b) {p : Addr} {x : Bool} (hp : b.cell? p = some (.bool x)) (u : Value) : Lim a (b.setCell p u) := h.put hp (fun _ e => by cases e) u
theorem Lim.slice (h : Lim a b) {p : Addr} {x : Option Addr} {n m : Nat} (hp : b.cell? p = some (.slice x n m)) (u : Value) : Lim a (b.setCell p u) := h.put hp (fun _ e => by cases e) u
theorem C32.lim {o : Option Addr} {l : List Nat} (h : C32 a o l) (k : Lim a b) : C32 b o l := by
  rcases h with h | ⟨q, off, h1, h2⟩
  · exact .inl h
  · exact .inr ⟨q, off, h1, fun i hi => (k q h2.ty).2 _ _ (h2 i hi), (k q h2.ty).1⟩
theorem U32.lim {o : Option Addr} {cap : Nat} {l : List Nat} (h : U32 a o cap l) (k : Lim a b) : U32 b o cap l := ⟨h.1, h.2.1, h.2.2.1, h.2.2.2.lim k⟩
theorem IsInt.lim {v : Value} {z : Int} (h : IsInt a v z) (k : Lim a b) : IsInt b v z := by
  obtain ⟨neg, o, cap, l, h1, h2, h3⟩ := h
  exact ⟨neg, o, cap, l, h1, h2.lim k, h3⟩
theorem IsRef.lim {v : Value} {z : Int} (h : IsRef a v z) (k : Lim a b) : IsRef b v z := by
  obtain ⟨neg, o, cap, l, h1, h2, h3⟩ := h
  exact ⟨neg, o, cap, l, h1, h2.lim k, h3⟩
end
/-- what stays as long as no limb turns -/
def Lims (R : World → Value → Int → Prop) : Prop := ∀ w w' v z, R w v z → Lim w w' → R w' v z
theorem lims_int : Lims IsInt := fun _ _ _ _ h k => h.lim k
theorem lims_ref : Lims IsRef := fun _ _ _ _ h k => h.lim k
theorem own_typ {E : TypeId} {size n : Nat} {w0 wr : World} {v : Value} {xs : List Value} (h : OwnE E size w0 wr v n xs) {g : Nat} (hg : v.ownBlock = some g) : typOf wr g = some E := by
  rcases h.1.2 with ⟨rfl, _⟩ | ⟨g', c, cur, rfl, _, hh, _⟩
  · simp [Value.ownBlock] at hg
  · simp [Value.ownBlock] at hg
    subst hg
    unfold typOf; rw [hh]
end Go.Proofs.YtannhpadoooedaaGreatDoor

/- Rows of numbers in memory. -/
namespace Go.Proofs.YtannhpadoooedaaGreatDoor
open Num
open Go.ChangeShapes Go.WideShapes Go.ChangeAt Go.RowKit
set_option linter.unusedVariables false
set_option linter.unusedSimpArgs false
/-- n numbers in block b from off on -/
def IntsF (R : World → Value → Int → Prop) (w : World) (b off n : Nat) (f : Nat → Int) : Prop :=
  ∀ k, k < n → ∃ nb a len c, w.cell? ⟨b, off + k * 2, none⟩ = some (.bool nb) ∧ w.cell? ⟨b, off + k * 2 + 1, none⟩ = some (.slice a len c) ∧ R w (.agg #[.bool nb, .slice a len c]) (f k)
section
variable {R : World → Value → Int → Prop} {w w' : World} {b off n : Nat} {f f' : Nat → Int}
theorem IntsF.congr (h : IntsF R w b off n f) (he : ∀ k, k < n → f k = f' k) : IntsF R w b off n f' := fun k hk => by
  rw [← he k hk]; exact h k hk
theorem IntsF.take {m : Nat} (h : IntsF R w b off n f) (hm : m ≤ n) : IntsF R w b off m f := fun k hk => h k (by omega)
/-- the row's own block as it was, no limb turned -/
theorem IntsF.stay (hR : Lims R) (h : IntsF R w b off n f) (hb : w'.heap[b]? = w.heap[b]?) (hl : Lim w w') : IntsF R w' b off n f := fun k hk => by
  obtain ⟨nb, a, len, c, h1, h2, h3⟩ := h k hk
  exact ⟨nb, a, len, c, by rw [World.cell?_of_block (w := w) hb]; exact h1, by rw [World.cell?_of_block (w := w) hb]; exact h2, hR _ _ _ _ h3 hl⟩
theorem IntsF.keep (hR : Lims R) (h : IntsF R w b off n f) (hb : Below w.heap.size w w') : IntsF R w' b off n f := fun k hk => by
  obtain ⟨nb, a, len, c, h1, h2, h3⟩ := h k hk
  exact ⟨nb, a, len, c, bkeep hb h1, bkeep hb h2, hR _ _ _ _ h3 (.of_below hb)⟩
theorem IntsF.out {X : Nat → Prop} (hR : Lims R) (h : IntsF R w b off n f) (ho : Out X w w') (hx : ¬ X b) (hl : Lim w w') : IntsF R w' b off n f := fun k hk => by
  obtain ⟨nb, a, len, c, h1, h2, h3⟩ := h k hk
  exact ⟨nb, a, len, c, okeep ho h1 hx, okeep ho h2 hx, hR _ _ _ _ h3 hl⟩
/-- one of them is set -/
theorem IntsF.store (hR : Lims R) (h : IntsF R w b off n f) {k : Nat} (hk : k < n) {nb : Bool} {a : Option Addr} {len c : Nat} {z : Int} (hv : R w (.agg #[.bool nb, .slice a len c]) z) :
    IntsF R ((w.setCell ⟨b, off + k * 2, none⟩ (.bool nb)).setCell ⟨b, off + k * 2 + 1, none⟩ (.slice a len c)) b off n (fun i => if i = k then z else f i) := by
  obtain ⟨nb0, a0, len0, c0, h1, h2, h3⟩ := h k hk
  have hl : Lim w ((w.setCell ⟨b, off + k * 2, none⟩ (.bool nb)).setCell ⟨b, off + k * 2 + 1, none⟩ (.slice a len c)) :=
    ((Lim.refl w).bool h1 _).slice (cell_far h2 (by simp) _) _
  intro i hi
  by_cases e : i = k
  · subst e
    refine ⟨nb, a, len, c, cell_far (cell_here h1 _) (by simp) _, cell_here (cell_far h2 (by simp) _) _, ?_⟩
    simp only [if_true]
    exact hR _ _ _ _ hv hl
  · obtain ⟨nb1, a1, len1, c1, k1, k2, k3⟩ := h i hi
    refine ⟨nb1, a1, len1, c1, cell_far (cell_far k1 (by simp <;> omega) _) (by simp <;> omega) _, cell_far (cell_far k2 (by simp <;> omega) _) (by simp <;> omega) _, ?_⟩
    show R _ _ (if i = k then z else f i)
    rw [if_neg e]
    exact hR _ _ _ _ k3 hl
/-- two cells elsewhere are set -/
theorem IntsF.far (hR : Lims R) (h : IntsF R w b off n f) {g o : Nat} (hg : g ≠ b) {x : Bool} {y : Option Addr} {p q : Nat} (r0 : w.cell? ⟨g, o, none⟩ = some (.bool x)) (r1 : w.cell? ⟨g, o + 1, none⟩ = some (.slice y p q)) (u v : Value) :
    IntsF R ((w.setCell ⟨g, o, none⟩ u).setCell ⟨g, o + 1, none⟩ v) b off n f := fun i hi => by
  obtain ⟨nb1, a1, len1, c1, k1, k2, k3⟩ := h i hi
  exact ⟨nb1, a1, len1, c1, cell_far (cell_far k1 (addr_ne hg) _) (addr_ne hg) _, cell_far (cell_far k2 (addr_ne hg) _) (addr_ne hg) _, hR _ _ _ _ k3 (((Lim.refl w).bool r0 _).slice (cell_far r1 (by simp) _) _)⟩
end
theorem isInt_zero (w : World) : IsInt w (.agg #[.bool false, .slice none 0 0]) 0 :=
  ⟨false, none, 0, [], rfl, ⟨Nat.le_refl _, by unfold maxLen; omega, (fun _ h => by cases h), .inl rfl⟩, (fun h => absurd rfl h), (fun h => by cases h), rfl⟩
theorem isRef_zero (w : World) : IsRef w (.agg #[.bool false, .slice none 0 0]) 0 :=
  ⟨false, none, 0, [], rfl, ⟨Nat.le_refl _, by unfold maxLen; omega, (fun _ h => by cases h), .inl rfl⟩, (fun _ h => by cases h), (fun h => absurd rfl h), (fun h => by cases h), rfl⟩
/-- the cells of n noughts -/
def zcel (n : Nat) : Array Value := madeCells #[.bool false, .slice none 0 0] (n * 2)
theorem zcel_at {n k : Nat} (h : k < n) : (zcel n)[k * 2]? = some (.bool false) ∧ (zcel n)[k * 2 + 1]? = some (.slice none 0 0) := by
  unfold zcel madeCells
  constructor
  · simp [Array.getElem?_map, Array.getElem?_range, show k * 2 < n * 2 from by omega]
  · have e : (k * 2 + 1) % 2 = 1 := by omega
    simp [Array.getElem?_map, Array.getElem?_range, show k * 2 + 1 < n * 2 from by omega, e]
theorem infoInt : (Tryz.prog.info? 48).map (fun i => (i.zero, i.size, i.bytes)) = some (some (.agg #[.bool false, .slice none 0 0]), 2, 32) := by kernel_rfl
theorem mkInts (n : Nat) (hn : n ≤ 1099511627776) (w : World) : (Instr.makeSlice 29 (.int .i64 (n : Int)) (.int .i64 (n : Int))).run Tryz.prog w = .ok (.slice (some ⟨w.heap.size, 0, none⟩) n n) (w.alloc (.cells (zcel n) 48)) := by
  obtain ⟨i0, hi, hz0, hz1, hz2⟩ := info_parts infoInt
  rw [run_make w _ _ i0 _ Tryz.underlying29 hi hz0 .i64 .i64 n n (by omega) (by omega) (by rw [hz2]; omega) (by omega), hz1]
  rfl
/-- a row of numbers of the call's own, built by append -/
def OwnF (R : World → Value → Int → Prop) (E : TypeId) (w0 wr : World) (v : Value) (n : Nat) (f : Nat → Int) : Prop :=
  ∃ xs, OwnE E 2 w0 wr v n xs ∧ ∀ k, k < n → ∃ nb a len c, xs[k * 2]? = some (.bool nb) ∧ xs[k * 2 + 1]? = some (.slice a len c) ∧ R wr (.agg #[.bool nb, .slice a len c]) (f k)
section
variable {R : World → Value → Int → Prop} {E : TypeId} {w0 wr w' : World} {v : Value} {n : Nat} {f : Nat → Int}
theorem OwnF.nil (R : World → Value → Int → Prop) (E : TypeId) {w0 wr : World} (f : Nat → Int) (hb : Below w0.heap.size w0 wr) : OwnF R E w0 wr (.slice none 0 0) 0 f := ⟨[], OwnE.nil _ _ hb, fun k hk => absurd hk (by omega)⟩
theorem OwnF.below (hR : Lims R) (h : OwnF R E w0 wr v n f) (hb : Below wr.heap.size wr w') : OwnF R E w0 w' v n f := by
  obtain ⟨xs, h1, h2⟩ := h
  refine ⟨xs, h1.below hb, fun k hk => ?_⟩
  obtain ⟨nb, a, len, c, k1, k2, k3⟩ := h2 k hk
  exact ⟨nb, a, len, c, k1, k2, hR _ _ _ _ k3 (.of_below hb)⟩
theorem OwnF.bel (h : OwnF R E w0 wr v n f) : Below w0.heap.size w0 wr := by obtain ⟨xs, h1, _⟩ := h; exact h1.2
theorem OwnF.view (h : OwnF R E w0 wr v n f) : ∃ a c, v = .slice a n c ∧ n ≤ c ∧ c ≤ maxLen ∧ (n = 0 ∨ ∃ g, a = some ⟨g, 0, none⟩ ∧ w0.heap.size ≤ g ∧ IntsF R wr g 0 n f) := by
  obtain ⟨xs, ⟨⟨hl, h1⟩, _⟩, h2⟩ := h
  rcases h1 with ⟨rfl, rfl⟩ | ⟨g, cap, cur, rfl, hg, hh, hc, hm, hs, ht⟩
  · exact ⟨none, 0, rfl, Nat.le_refl _, by unfold maxLen; omega, .inl rfl⟩
  · refine ⟨_, cap, rfl, hc, hm, .inr ⟨g, rfl, hg, fun k hk => ?_⟩⟩
    obtain ⟨nb, a, len, c, k1, k2, k3⟩ := h2 k hk
    have cel : ∀ j u, xs[j]? = some u → wr.cell? ⟨g, j, none⟩ = some u := fun j u hj => by
      have hj2 : j < n * 2 := by have := (List.getElem?_eq_some_iff.1 hj).1; omega
      rw [← ht, List.getElem?_take_of_lt (by omega)] at hj
      simpa [World.cell?, hh] using hj
    exact ⟨nb, a, len, c, by rw [Nat.zero_add]; exact cel _ _ k1, by rw [Nat.zero_add]; exact cel _ _ k2, k3⟩
end
/-- what an append of one number makes of such a row -/
theorem own_snoc {R : World → Value → Int → Prop} (hR : Lims R) {E : TypeId} {w0 wr w' : World} {v' : Value} {n : Nat} {f : Nat → Int} {xs : List Value} {nb : Bool} {a : Option Addr} {len c : Nat} {z : Int}
    (h2 : ∀ k, k < n → ∃ nb a len c, xs[k * 2]? = some (.bool nb) ∧ xs[k * 2 + 1]? = some (.slice a len c) ∧ R wr (.agg #[.bool nb, .slice a len c]) (f k)) (hl : xs.length = n * 2)
    (hv : R wr (.agg #[.bool nb, .slice a len c]) z) (hlim : Lim wr w') (hO : OwnE E 2 w0 w' v' (n + 1) (xs ++ [.bool nb, .slice a len c])) : OwnF R E w0 w' v' (n + 1) (fun i => if i = n then z else f i) := by
  refine ⟨_, hO, fun k hk => ?_⟩
  by_cases e : k = n
  · subst e
    refine ⟨nb, a, len, c, ?_, ?_, ?_⟩
    · rw [List.getElem?_append_right (by omega), hl]; simp
    · rw [List.getElem?_append_right (by omega), hl]; simp
    · simp only [if_true]; exact hR _ _ _ _ hv hlim
  · obtain ⟨nb1, a1, len1, c1, k1, k2, k3⟩ := h2 k (by omega)
    refine ⟨nb1, a1, len1, c1, ?_, ?_, ?_⟩
    · rw [List.getElem?_append_left (by omega)]; exact k1
    · rw [List.getElem?_append_left (by omega)]; exact k2
    · show R _ _ (if k = n then z else f k)
      rw [if_neg e]; exact hR _ _ _ _ k3 hlim
section
variable {P : Program} {T E : TypeId} {bytes : Nat} {R : World → Value → Int → Prop} {ops : Array Oper} {o : Oper} {a : Act} {Q : Exit → Act → World → Prop} {w0 wr : World} {v : Value} {n : Nat} {f : Nat → Int} {t : TypeId} {s x : Operand} {nb : Bool} {ad : Option Addr} {len c m cc : Nat} {z : Int}
/-- append of one number -/
theorem app_num {rest : List Oper} (el : Elt P T E 2 bytes) (hE : E ≠ 137) (hR : Lims R) (hgd : o.guard = none)
    (ho : o.op = .call { callee := .builtin .append, args := #[s, x], argTypes := #[T, T] }) (hO : OwnF R E w0 wr v n f) (hv : R wr (.agg #[.bool nb, .slice ad len c]) z) (hs : a.eval s = v)
    (hx : a.eval x = .slice (some ⟨wr.heap.size, 0, none⟩) 1 cc) (hn : n + 1 ≤ 1099511627776)
    (h : ∀ v' w', OwnF R E w0 w' v' (n + 1) (fun i => if i = n then z else f i) → Lim wr w' → Out (fun k => v.ownBlock = some k) wr w' → wpList P ops Q rest (a.put o.dst v') w') : wpList P ops Q (o :: rest) a (wr.alloc (.cells #[.bool nb, .slice ad len c] t)) := by
  obtain ⟨i, z0, hi, hz, hsize, hby, hzs⟩ := el.info
  obtain ⟨xs, h1, h2⟩ := hO
  have hb : (n + 1) * bytes ≤ 1099511627776 * 128 := Nat.mul_le_mul hn el.small
  refine wpList_append_own _ hgd s x T ho w0.heap.size E i z0 2 bytes el.ht hi hz hsize hby hzs el.pos v n xs hs (h1.1.alloc _) ⟨wr.heap.size, 0, none⟩ 1 cc [.bool nb, .slice ad len c] hx rfl (cells_new wr _ t) (fun u hu => by simp at hu; rcases hu with rfl | rfl <;> rfl) (by unfold maxLen; omega) (by omega) (by have := h1.2.size; simp; omega) ?_
  intro v' w' hown hg _
  have hl : Lim wr w' := ((Lim.refl wr).alloc _).grown hg fun g hg' ht => hE (by
    rw [typ_keep (own_typ h1 hg') (bal (Below.refl _ _) _)] at ht
    exact Option.some.inj ht)
  exact h v' w' (own_snoc hR h2 h1.1.1 hv hl ⟨hown, below_append (wr := wr) (bal h1.2 _) (h1.1.alloc _) hg⟩) hl (((Out.refl _ wr).alloc _).grown hg fun k hk _ => hk)
theorem step_num0 {K : Act → World → Prop} {Z : Prop} (el : Elt P T E 2 bytes) (hE : E ≠ 137) (hR : Lims R) (hgd : o.guard = none)
    (ho : o.op = .call { callee := .builtin .append, args := #[s, x], argTypes := #[T, T] }) (hO : OwnF R E w0 wr v n f) (hv : R wr (.agg #[.bool nb, .slice ad len c]) z) (hs : a.eval s = v)
    (hx : a.eval x = .slice (some ⟨wr.heap.size, 0, none⟩) 1 cc) (hn : n + 1 ≤ 1099511627776)
    (h : ∀ v' w', OwnF R E w0 w' v' (n + 1) (fun i => if i = n then z else f i) → Lim wr w' → Out (fun k => v.ownBlock = some k) wr w' → K (a.put o.dst v') w') : if Region.wanted o (yielded ops a.tmps) = true then Oper.wp P o a (wr.alloc (.cells #[.bool nb, .slice ad len c] t)) K Q else Z := by
  obtain ⟨i, z0, hi, hz, hsize, hby, hzs⟩ := el.info
  obtain ⟨xs, h1, h2⟩ := hO
  have hb : (n + 1) * bytes ≤ 1099511627776 * 128 := Nat.mul_le_mul hn el.small
  have hw : Region.wanted o (yielded ops a.tmps) = true := by simp [Region.wanted, hgd]
  rw [if_pos hw]
  refine wp_append_own _ s x T ho w0.heap.size E i z0 2 bytes el.ht hi hz hsize hby hzs el.pos v n xs hs (h1.1.alloc _) ⟨wr.heap.size, 0, none⟩ 1 cc [.bool nb, .slice ad len c] hx rfl (cells_new wr _ t) (fun u hu => by simp at hu; rcases hu with rfl | rfl <;> rfl) (by unfold maxLen; omega) (by omega) (by have := h1.2.size; simp; omega) ?_
  intro v' w' hown hg _
  have hl : Lim wr w' := ((Lim.refl wr).alloc _).grown hg fun g hg' ht => hE (by
    rw [typ_keep (own_typ h1 hg') (bal (Below.refl _ _) _)] at ht
    exact Option.some.inj ht)
  exact h v' w' (own_snoc hR h2 h1.1.1 hv hl ⟨hown, below_append (wr := wr) (bal h1.2 _) (h1.1.alloc _) hg⟩) hl (((Out.refl _ wr).alloc _).grown hg fun k hk _ => hk)
end
theorem infoRef : (Tryz.prog.info? 44).map (fun i => (i.zero, i.size, i.bytes)) = some (some (.agg #[.bool false, .slice none 0 0]), 2, 32) := by kernel_rfl
theorem elInt : Elt Tryz.prog 29 48 2 32 := Elt.mk' Tryz.underlying29 infoInt rfl (by decide) (by decide)
/-- a block without frozen cells -/
def Free (w : World) (g : Nat) : Prop := g < w.heap.size ∧ ∀ j, w.frozen? ⟨g, j, none⟩ = false
theorem Free.keep {w w' : World} {g : Nat} (h : Free w g) (hb : Below w.heap.size w w') : Free w' g :=
  ⟨Nat.lt_of_lt_of_le h.1 hb.size, fun j => by rw [hb.frozen h.1]; exact h.2 j⟩
theorem Free.new {w : World} {c : Array Value} {t : TypeId} {g : Nat} (hg : g = w.heap.size) : Free (w.alloc (.cells c t)) g :=
  ⟨by simp <;> omega, fun j => by rw [World.frozen?_alloc_at (hn := hg)] <;> rfl⟩
theorem Free.set {w : World} {g : Nat} (h : Free w g) (p : Addr) (v : Value) : Free (w.setCell p v) g := ⟨by simpa using h.1, fun j => by rw [World.frozen?_setCell]; exact h.2 j⟩
theorem Free.out {X : Nat → Prop} {w w' : World} {g : Nat} (h : Free w g) (ho : Out X w w') (hx : ¬ X g) : Free w' g :=
  ⟨Nat.lt_of_lt_of_le h.1 ho.size, fun j => by rw [World.frozen?_of_block (w := w) (ho.block g h.1 hx)]; exact h.2 j⟩
theorem IntsF.at0 {R : World → Value → Int → Prop} {w : World} {b n k : Nat} {f : Nat → Int} (h : IntsF R w b 0 n f) (hk : k < n) : ∃ nb a len c, w.cell? ⟨b, k * 2, none⟩ = some (.bool nb) ∧ w.cell? ⟨b, k * 2 + 1, none⟩ = some (.slice a len c) ∧ R w (.agg #[.bool nb, .slice a len c]) (f k) := by
  simpa using h k hk
theorem IntsF.store0 {R : World → Value → Int → Prop} {w : World} {b n : Nat} {f : Nat → Int} (hR : Lims R) (h : IntsF R w b 0 n f) {k : Nat} (hk : k < n) {nb : Bool} {a : Option Addr} {len c : Nat} {z : Int} (hv : R w (.agg #[.bool nb, .slice a len c]) z) :
    IntsF R ((w.setCell ⟨b, k * 2, none⟩ (.bool nb)).setCell ⟨b, k * 2 + 1, none⟩ (.slice a len c)) b 0 n (fun i => if i = k then z else f i) := by
  have := h.store hR hk hv
  simpa using this
/-- two cells of a struct are set: no limb turns -/
theorem Lim.set2 {w : World} {g o : Nat} {x : Bool} {y : Option Addr} {p q : Nat} (r0 : w.cell? ⟨g, o, none⟩ = some (.bool x)) (r1 : w.cell? ⟨g, o + 1, none⟩ = some (.slice y p q)) (u v : Value) : Lim w ((w.setCell ⟨g, o, none⟩ u).setCell ⟨g, o + 1, none⟩ v) :=
  ((Lim.refl w).bool r0 _).slice (cell_far r1 (by simp) _) _
theorem Out.set2 {X : Nat → Prop} {a b : World} (h : Out X a b) {g o : Nat} (hx : g < a.heap.size → X g) (u v : Value) : Out X a ((b.setCell ⟨g, o, none⟩ u).setCell ⟨g, o + 1, none⟩ v) := (h.set hx u).set hx v
end Go.Proofs.YtannhpadoooedaaGreatDoor

/- Rows of numbers as values; rows of rows. 'Kp S w w'': the blocks of the types S are as they were. -/
namespace Go.Proofs.YtannhpadoooedaaGreatDoor
open Num
open Go.ChangeShapes Go.WideShapes Go.ChangeAt Go.RowKit
set_option linter.unusedVariables false
set_option linter.unusedSimpArgs false
/-- the blocks of the types S are as they were -/
def Kp (S : TypeId → Prop) (w w' : World) : Prop := ∀ b t, typOf w b = some t → S t → w'.heap[b]? = w.heap[b]?
section
variable {S : TypeId → Prop} {a b c w w' : World}
theorem Kp.refl (S : TypeId → Prop) (w : World) : Kp S w w := fun _ _ _ _ => rfl
theorem Kp.trans (h : Kp S a b) (k : Kp S b c) : Kp S a c := fun q t ht hs => (k q t (by rw [typ_of_block (w := a) (h q t ht hs)]; exact ht) hs).trans (h q t ht hs)
theorem Kp.of_below (S : TypeId → Prop) (h : Below a.heap.size a b) : Kp S a b := fun q t ht _ => h.block q (typ_lt ht)
theorem Kp.below (h : Kp S a b) (k : Below b.heap.size b c) : Kp S a c := h.trans (.of_below S k)
theorem Kp.alloc (h : Kp S a b) (o : Obj) : Kp S a (b.alloc o) := h.below (bal (Below.refl _ _) o)
theorem Kp.drew (h : Kp S a b) : Kp S a b.drew := h
theorem Kp.drewN (h : Kp S a b) (n : Nat) : Kp S a (b.drewN n) := h
theorem Kp.grown {row : Option Nat} (h : Kp S a b) (hg : b.grownBy c row) (hr : ∀ g, row = some g → ∀ t, typOf b g = some t → ¬ S t) : Kp S a c :=
  h.trans fun q t ht hs => hg.block q (typ_lt ht) fun e => hr q e.symm t ht hs
theorem Kp.set (h : Kp S a b) {p : Addr} (hp : ∀ t, typOf b p.block = some t → ¬ S t) (u : Value) : Kp S a (b.setCell p u) :=
  h.trans fun q t ht hs => Below.heap_setCell _ _ _ _ fun e => hp t (by rw [← e]; exact ht) hs
theorem Kp.lim (h : Kp S a b) (hs : S 137) : Lim a b := fun q ht => by
  have e := h q _ ht hs
  exact ⟨by rw [typ_of_block (w := a) e]; exact ht, fun o n hc => by rw [World.cell?_of_block (w := a) e]; exact hc⟩
theorem Kp.typ (h : Kp S a b) {q : Nat} {t : TypeId} (ht : typOf a q = some t) (hs : S t) : typOf b q = some t := by rw [typ_of_block (w := a) (h q t ht hs)]; exact ht
theorem Kp.out {X : Nat → Prop} (h : Out X a b) (hx : ∀ q t, X q → typOf a q = some t → ¬ S t) : Kp S a b := fun q t ht hs => h.block q (typ_lt ht) fun hq => hx q t hq ht hs
end
/-- limbs and numbers -/
def NumT (t : TypeId) : Prop := t = 137 ∨ t = 48 ∨ t = 44
/-- a slice value that holds the numbers l, in a block from base on -/
def IsRow (R : World → Value → Int → Prop) (E : TypeId) (base : Nat) (w : World) (v : Value) (l : List Int) : Prop :=
  ∃ a c, v = .slice a l.length c ∧ l.length ≤ c ∧ c ≤ maxLen ∧ (l = [] ∨ ∃ b off, a = some ⟨b, off, none⟩ ∧ base ≤ b ∧ typOf w b = some E ∧ IntsF R w b off l.length (fun k => l.getD k 0))
/-- the program's rows; the reference's -/
def PRow := IsRow IsInt 48
def RRow := IsRow IsRef 44
section
variable {R : World → Value → Int → Prop} {E : TypeId} {base : Nat} {w w' : World} {v : Value} {l : List Int}
theorem IsRow.kp {S : TypeId → Prop} (hR : Lims R) (h : IsRow R E base w v l) (k : Kp S w w') (hs : S 137) (hE : S E) : IsRow R E base w' v l := by
  obtain ⟨a, c, h1, h2, h3, h4⟩ := h
  refine ⟨a, c, h1, h2, h3, h4.imp id ?_⟩
  rintro ⟨b, off, e, hb, ht, hi⟩
  exact ⟨b, off, e, hb, k.typ ht hE, hi.stay hR (k b _ ht hE) (k.lim hs)⟩
theorem IsRow.keep (hR : Lims R) (h : IsRow R E base w v l) (k : Below w.heap.size w w') : IsRow R E base w' v l := by
  obtain ⟨a, c, h1, h2, h3, h4⟩ := h
  refine ⟨a, c, h1, h2, h3, h4.imp id ?_⟩
  rintro ⟨b, off, e, hb, ht, hi⟩
  exact ⟨b, off, e, hb, typ_keep ht k, hi.keep hR k⟩
theorem IsRow.rebase {base' : Nat} (h : IsRow R E base w v l) (hb : base' ≤ base) : IsRow R E base' w v l := by
  obtain ⟨a, c, h1, h2, h3, h4⟩ := h
  refine ⟨a, c, h1, h2, h3, h4.imp id ?_⟩
  rintro ⟨b, off, e, hb', r⟩
  exact ⟨b, off, e, Nat.le_trans hb hb', r⟩
theorem IsRow.nil (R : World → Value → Int → Prop) (E : TypeId) (base : Nat) (w : World) : IsRow R E base w (.slice none 0 0) [] := ⟨none, 0, rfl, Nat.le_refl _, by unfold maxLen; omega, .inl rfl⟩
theorem OwnF.row {w0 wr : World} (h : OwnF R E w0 wr v l.length (fun k => l.getD k 0)) : IsRow R E w0.heap.size wr v l := by
  obtain ⟨xs, ⟨⟨hl, h1⟩, hB⟩, h2⟩ := h
  rcases h1 with ⟨rfl, h0⟩ | ⟨g, cap, cur, rfl, hg, hh, hc, hm, hs, ht⟩
  · have : l = [] := List.length_eq_zero_iff.1 h0
    subst this
    exact IsRow.nil R E _ _
  · refine ⟨_, cap, rfl, hc, hm, .inr ⟨g, 0, rfl, hg, by unfold typOf; rw [hh], fun k hk => ?_⟩⟩
    obtain ⟨nb, a, len, c, k1, k2, k3⟩ := h2 k hk
    have cel : ∀ j u, xs[j]? = some u → wr.cell? ⟨g, j, none⟩ = some u := fun j u hj => by
      have hj2 : j < l.length * 2 := by have := (List.getElem?_eq_some_iff.1 hj).1; omega
      rw [← ht, List.getElem?_take_of_lt (by omega)] at hj
      simpa [World.cell?, hh] using hj
    exact ⟨nb, a, len, c, by rw [Nat.zero_add]; exact cel _ _ k1, by rw [Nat.zero_add]; exact cel _ _ k2, k3⟩
end
/-- a row of slice values, each of which holds a row of numbers -/
def IsGrid (R : World → Value → Int → Prop) (E T : TypeId) (base : Nat) (w : World) (v : Value) (g : List (List Int)) : Prop :=
  ∃ a c, v = .slice a g.length c ∧ g.length ≤ c ∧ c ≤ maxLen ∧ (g = [] ∨ ∃ b off, a = some ⟨b, off, none⟩ ∧ base ≤ b ∧ typOf w b = some T ∧ ∀ k, k < g.length → ∃ u, w.cell? ⟨b, off + k, none⟩ = some u ∧ IsRow R E base w u (g.getD k []))
section
variable {R : World → Value → Int → Prop} {E T : TypeId} {base : Nat} {w w' : World} {v : Value} {g : List (List Int)}
theorem IsGrid.keep (hR : Lims R) (h : IsGrid R E T base w v g) (k : Below w.heap.size w w') : IsGrid R E T base w' v g := by
  obtain ⟨a, c, h1, h2, h3, h4⟩ := h
  refine ⟨a, c, h1, h2, h3, h4.imp id ?_⟩
  rintro ⟨b, off, e, hb, ht, hi⟩
  refine ⟨b, off, e, hb, typ_keep ht k, fun j hj => ?_⟩
  obtain ⟨u, hu, hr⟩ := hi j hj
  exact ⟨u, bkeep k hu, hr.keep hR k⟩
theorem IsGrid.kp {S : TypeId → Prop} (hR : Lims R) (h : IsGrid R E T base w v g) (k : Kp S w w') (hs : S 137) (hE : S E) (hT : S T) : IsGrid R E T base w' v g := by
  obtain ⟨a, c, h1, h2, h3, h4⟩ := h
  refine ⟨a, c, h1, h2, h3, h4.imp id ?_⟩
  rintro ⟨b, off, e, hb, ht, hi⟩
  refine ⟨b, off, e, hb, k.typ ht hT, fun j hj => ?_⟩
  obtain ⟨u, hu, hr⟩ := hi j hj
  exact ⟨u, by rw [World.cell?_of_block (w := w) (k b _ ht hT)]; exact hu, hr.kp hR k hs hE⟩
theorem IsGrid.rebase {base' : Nat} (h : IsGrid R E T base w v g) (hb : base' ≤ base) : IsGrid R E T base' w v g := by
  obtain ⟨a, c, h1, h2, h3, h4⟩ := h
  refine ⟨a, c, h1, h2, h3, h4.imp id ?_⟩
  rintro ⟨b, off, e, hb', ht, hi⟩
  refine ⟨b, off, e, Nat.le_trans hb hb', ht, fun j hj => ?_⟩
  obtain ⟨u, hu, hr⟩ := hi j hj
  exact ⟨u, hu, hr.rebase hb⟩
theorem IsGrid.nil (R : World → Value → Int → Prop) (E T : TypeId) (base : Nat) (w : World) : IsGrid R E T base w (.slice none 0 0) [] := ⟨none, 0, rfl, Nat.le_refl _, by unfold maxLen; omega, .inl rfl⟩
end
/-- such a row of the call's own, built by append -/
def OwnG (R : World → Value → Int → Prop) (E T : TypeId) (base : Nat) (w0 wr : World) (v : Value) (g : List (List Int)) : Prop :=
  ∃ xs, OwnE T 1 w0 wr v g.length xs ∧ ∀ k, k < g.length → ∃ u, xs[k]? = some u ∧ IsRow R E base wr u (g.getD k [])
section
variable {R : World → Value → Int → Prop} {E T : TypeId} {base : Nat} {w0 wr w' : World} {v : Value} {g : List (List Int)}
theorem OwnG.nil (R : World → Value → Int → Prop) (E T : TypeId) (base : Nat) {w0 wr : World} (hb : Below w0.heap.size w0 wr) : OwnG R E T base w0 wr (.slice none 0 0) [] := ⟨[], OwnE.nil _ _ hb, fun k hk => absurd hk (by simp)⟩
theorem OwnG.below (hR : Lims R) (h : OwnG R E T base w0 wr v g) (hb : Below wr.heap.size wr w') : OwnG R E T base w0 w' v g := by
  obtain ⟨xs, h1, h2⟩ := h
  refine ⟨xs, h1.below hb, fun k hk => ?_⟩
  obtain ⟨u, hu, hr⟩ := h2 k hk
  exact ⟨u, hu, hr.keep hR hb⟩
theorem OwnG.bel (h : OwnG R E T base w0 wr v g) : Below w0.heap.size w0 wr := by obtain ⟨xs, h1, _⟩ := h; exact h1.2
theorem OwnG.grid (h : OwnG R E T base w0 wr v g) (hb : base ≤ w0.heap.size) : IsGrid R E T base wr v g := by
  obtain ⟨xs, ⟨⟨hl, h1⟩, _⟩, h2⟩ := h
  rcases h1 with ⟨rfl, h0⟩ | ⟨b, cap, cur, rfl, hg, hh, hc, hm, hs, ht⟩
  · have : g = [] := List.length_eq_zero_iff.1 h0
    subst this
    exact IsGrid.nil R E T _ _
  · refine ⟨_, cap, rfl, hc, hm, .inr ⟨b, 0, rfl, by omega, by unfold typOf; rw [hh], fun k hk => ?_⟩⟩
    obtain ⟨u, hu, hr⟩ := h2 k hk
    refine ⟨u, ?_, hr⟩
    rw [← ht, List.getElem?_take_of_lt (by omega)] at hu
    simpa [World.cell?, hh] using hu
theorem OwnG.ex (h : OwnG R E T base w0 wr v g) : ∃ a c, v = .slice a g.length c := by
  obtain ⟨xs, ⟨⟨_, h1⟩, _⟩, _⟩ := h
  rcases h1 with ⟨rfl, h0⟩ | ⟨b, cap, cur, rfl, _⟩
  · exact ⟨none, 0, by rw [h0]⟩
  · exact ⟨_, _, rfl⟩
end
section
variable {P : Program} {TT T E : TypeId} {base bytes : Nat} {R : World → Value → Int → Prop} {ops : Array Oper} {o : Oper} {a : Act} {Q : Exit → Act → World → Prop} {w0 wr : World} {v u : Value} {g : List (List Int)} {l : List Int} {t : TypeId} {s x : Operand} {cc : Nat}
end
end Go.Proofs.YtannhpadoooedaaGreatDoor

/- Lists of one-cell values in memory, whatever each of them stands for: 'Pr w v x'. Rows of numbers of the call's own. -/
namespace Go.Proofs.YtannhpadoooedaaGreatDoor
open Num
open Go.ChangeShapes Go.WideShapes Go.ChangeAt Go.RowKit
set_option linter.unusedVariables false
set_option linter.unusedSimpArgs false
section
variable {S : TypeId → Prop} {w w' : World}
theorem Kp.cell (k : Kp S w w') {b o : Nat} {s : Option Nat} {t : TypeId} {v : Value} (ht : typOf w b = some t) (hs : S t) (h : w.cell? ⟨b, o, s⟩ = some v) : w'.cell? ⟨b, o, s⟩ = some v := by
  rw [World.cell?_of_block (w := w) (k b t ht hs)]; exact h
theorem Kp.frz (k : Kp S w w') {b o : Nat} {s : Option Nat} {t : TypeId} (ht : typOf w b = some t) (hs : S t) (h : w.frozen? ⟨b, o, s⟩ = false) : w'.frozen? ⟨b, o, s⟩ = false := by
  rw [World.frozen?_of_block (w := w) (k b t ht hs)]; exact h
theorem Kp.weak {T : TypeId → Prop} (k : Kp S w w') (h : ∀ t, T t → S t) : Kp T w w' := fun b t ht hs => k b t ht (h t hs)
end
/-- a row of numbers that lies in a block of the call's own (from base on), that may be written up to its capacity -/
def RowO (R : World → Value → Int → Prop) (E : TypeId) (base : Nat) (w : World) (v : Value) (l : List Int) : Prop :=
  ∃ xs, w.ownsRow base E 2 v l.length xs ∧ ∀ k, k < l.length → ∃ nb a len c, xs[k * 2]? = some (.bool nb) ∧ xs[k * 2 + 1]? = some (.slice a len c) ∧ R w (.agg #[.bool nb, .slice a len c]) (l.getD k 0)
section
variable {R : World → Value → Int → Prop} {E : TypeId} {base : Nat} {w w' w0 : World} {v : Value} {l : List Int}
theorem own_typ' {T : TypeId} {size n : Nat} {xs : List Value} (h : w.ownsRow base T size v n xs) {g : Nat} (hg : v.ownBlock = some g) : typOf w g = some T := by
  rcases h.2 with ⟨rfl, _⟩ | ⟨g', c, cur, rfl, _, hh, _⟩
  · simp [Value.ownBlock] at hg
  · simp [Value.ownBlock] at hg
    subst hg
    unfold typOf; rw [hh]
theorem owns_kp {S : TypeId → Prop} {T : TypeId} {size n : Nat} {xs : List Value} (h : w.ownsRow base T size v n xs) (k : Kp S w w') (hT : S T) : w'.ownsRow base T size v n xs := by
  refine ⟨h.1, ?_⟩
  rcases h.2 with h2 | ⟨g, cap, cur, rfl, hg, hh, r⟩
  · exact .inl h2
  · exact .inr ⟨g, cap, cur, rfl, hg, by rw [k g T (by unfold typOf; rw [hh]) hT]; exact hh, r⟩
theorem RowO.row (h : RowO R E base w v l) : IsRow R E base w v l := by
  obtain ⟨xs, ⟨hl, h1⟩, h2⟩ := h
  rcases h1 with ⟨rfl, h0⟩ | ⟨g, cap, cur, rfl, hg, hh, hc, hm, hs, ht⟩
  · have : l = [] := List.length_eq_zero_iff.1 h0
    subst this
    exact IsRow.nil R E _ _
  · refine ⟨_, cap, rfl, hc, hm, .inr ⟨g, 0, rfl, hg, by unfold typOf; rw [hh], fun k hk => ?_⟩⟩
    obtain ⟨nb, a, len, c, k1, k2, k3⟩ := h2 k hk
    have cel : ∀ j u, xs[j]? = some u → w.cell? ⟨g, j, none⟩ = some u := fun j u hj => by
      have hj2 : j < l.length * 2 := by have := (List.getElem?_eq_some_iff.1 hj).1; omega
      rw [← ht, List.getElem?_take_of_lt (by omega)] at hj
      simpa [World.cell?, hh] using hj
    exact ⟨nb, a, len, c, by rw [Nat.zero_add]; exact cel _ _ k1, by rw [Nat.zero_add]; exact cel _ _ k2, k3⟩
theorem RowO.nil (R : World → Value → Int → Prop) (E : TypeId) (base : Nat) (w : World) : RowO R E base w (.slice none 0 0) [] := ⟨[], World.ownsRow_nil _ _ _ _, fun k hk => absurd hk (by simp)⟩
theorem RowO.kp {S : TypeId → Prop} (hR : Lims R) (h : RowO R E base w v l) (k : Kp S w w') (hs : S 137) (hE : S E) : RowO R E base w' v l := by
  obtain ⟨xs, h1, h2⟩ := h
  refine ⟨xs, owns_kp h1 k hE, fun j hj => ?_⟩
  obtain ⟨nb, a, len, c, k1, k2, k3⟩ := h2 j hj
  exact ⟨nb, a, len, c, k1, k2, hR _ _ _ _ k3 (k.lim hs)⟩
theorem RowO.keep (hR : Lims R) (h : RowO R E base w v l) (k : Below w.heap.size w w') : RowO R E base w' v l := h.kp (S := fun _ => True) hR (Kp.of_below _ k) trivial trivial
theorem RowO.rebase {base' : Nat} (h : RowO R E base w v l) (hb : base' ≤ base) : RowO R E base' w v l := by
  obtain ⟨xs, ⟨hl, h1⟩, h2⟩ := h
  refine ⟨xs, ⟨hl, ?_⟩, h2⟩
  rcases h1 with h1 | ⟨g, cap, cur, hv, hg, r⟩
  · exact .inl h1
  · exact .inr ⟨g, cap, cur, hv, Nat.le_trans hb hg, r⟩
theorem OwnF.rowO (h : OwnF R E w0 w v l.length (fun k => l.getD k 0)) : RowO R E w0.heap.size w v l := by
  obtain ⟨xs, h1, h2⟩ := h
  exact ⟨xs, h1.1, h2⟩
theorem RowO.ex (h : RowO R E base w v l) : ∃ a c, v = .slice a l.length c := by
  obtain ⟨a, c, h1, _⟩ := h.row; exact ⟨a, c, h1⟩
end
theorem IsRow.view {R : World → Value → Int → Prop} {E : TypeId} {base : Nat} {w : World} {v : Value} {l : List Int} (h : IsRow R E base w v l) : ∃ a c, v = .slice a l.length c ∧ l.length ≤ c ∧ ∀ j, j < l.length → ∃ b off nb ad len cp, a = some ⟨b, off, none⟩ ∧ w.cell? ⟨b, off + j * 2, none⟩ = some (.bool nb) ∧ w.cell? ⟨b, off + j * 2 + 1, none⟩ = some (.slice ad len cp) ∧ R w (.agg #[.bool nb, .slice ad len cp]) (l.getD j 0) := by
  obtain ⟨a, c, h1, h2, h3, h4⟩ := h
  refine ⟨a, c, h1, h2, fun j hj => ?_⟩
  rcases h4 with h4 | ⟨b, off, ha, hb, ht, hi⟩
  · rw [h4] at hj; simp at hj
  · obtain ⟨nb, ad, len, cp, k1, k2, k3⟩ := hi j hj
    exact ⟨b, off, nb, ad, len, cp, ha, k1, k2, k3⟩
/-- what may stand in the cells of a list, and what keeps it -/
structure Prs {α : Type} (S : TypeId → Prop) (Pr : World → Value → α → Prop) : Prop where
  one : ∀ {w v x}, Pr w v x → v.oneCell' = true
  kp : ∀ {w w' v x}, Pr w v x → Kp S w w' → Pr w' v x
theorem prs_rowO {R : World → Value → Int → Prop} (hR : Lims R) (E : TypeId) (base : Nat) : Prs (fun t => t = 137 ∨ t = E) (RowO R E base) :=
  ⟨fun h => by obtain ⟨a, c, rfl⟩ := h.ex; rfl, fun h k => h.kp hR k (.inl rfl) (.inr rfl)⟩
theorem prs_row {R : World → Value → Int → Prop} (hR : Lims R) (E : TypeId) (base : Nat) : Prs (fun t => t = 137 ∨ t = E) (IsRow R E base) :=
  ⟨fun h => by obtain ⟨a, c, rfl, _⟩ := h; rfl, fun h k => h.kp hR k (.inl rfl) (.inr rfl)⟩
/-- a list in memory -/
def IsL {α : Type} (T : TypeId) (Pr : World → Value → α → Prop) (base : Nat) (w : World) (v : Value) (g : List α) : Prop :=
  ∃ a c, v = .slice a g.length c ∧ g.length ≤ c ∧ c ≤ maxLen ∧ (g = [] ∨ ∃ b off, a = some ⟨b, off, none⟩ ∧ base ≤ b ∧ typOf w b = some T ∧ ∀ k (hk : k < g.length), ∃ u, w.cell? ⟨b, off + k, none⟩ = some u ∧ Pr w u g[k])
/-- a list of the call's own, built by append -/
def OwnL {α : Type} (T : TypeId) (Pr : World → Value → α → Prop) (w0 wr : World) (v : Value) (g : List α) : Prop :=
  ∃ xs, OwnE T 1 w0 wr v g.length xs ∧ ∀ k (hk : k < g.length), ∃ u, xs[k]? = some u ∧ Pr wr u g[k]
section
variable {α : Type} {S : TypeId → Prop} {T : TypeId} {Pr : World → Value → α → Prop} {base : Nat} {w w' w0 wr : World} {v u : Value} {g : List α} {x : α}
theorem IsL.kp {S' : TypeId → Prop} (hP : Prs S Pr) (h : IsL T Pr base w v g) (k : Kp S' w w') (hs : ∀ t, S t → S' t) (hT : S' T) : IsL T Pr base w' v g := by
  obtain ⟨a, c, h1, h2, h3, h4⟩ := h
  refine ⟨a, c, h1, h2, h3, h4.imp id ?_⟩
  rintro ⟨b, off, e, hb, ht, hi⟩
  refine ⟨b, off, e, hb, k.typ ht hT, fun j hj => ?_⟩
  obtain ⟨u, hu, hr⟩ := hi j hj
  exact ⟨u, k.cell ht hT hu, hP.kp hr (k.weak hs)⟩
theorem IsL.keep (hP : Prs S Pr) (h : IsL T Pr base w v g) (k : Below w.heap.size w w') : IsL T Pr base w' v g := h.kp (S' := fun _ => True) hP (Kp.of_below _ k) (fun _ _ => trivial) trivial
theorem IsL.mono {Q : World → Value → α → Prop} (h : IsL T Pr base w v g) (hq : ∀ u x, Pr w u x → Q w u x) : IsL T Q base w v g := by
  obtain ⟨a, c, h1, h2, h3, h4⟩ := h
  refine ⟨a, c, h1, h2, h3, h4.imp id ?_⟩
  rintro ⟨b, off, e, hb, ht, hi⟩
  exact ⟨b, off, e, hb, ht, fun j hj => by obtain ⟨u, hu, hr⟩ := hi j hj; exact ⟨u, hu, hq _ _ hr⟩⟩
theorem IsL.rebase {base' : Nat} (h : IsL T Pr base w v g) (hb : base' ≤ base) : IsL T Pr base' w v g := by
  obtain ⟨a, c, h1, h2, h3, h4⟩ := h
  refine ⟨a, c, h1, h2, h3, h4.imp id ?_⟩
  rintro ⟨b, off, e, hb', r⟩
  exact ⟨b, off, e, Nat.le_trans hb hb', r⟩
theorem IsL.nil (T : TypeId) (Pr : World → Value → α → Prop) (base : Nat) (w : World) : IsL T Pr base w (.slice none 0 0) [] := ⟨none, 0, rfl, Nat.le_refl _, by unfold maxLen; omega, .inl rfl⟩
/-- a list's value, and what lies at each place -/
theorem IsL.view (h : IsL T Pr base w v g) : ∃ a c, v = .slice a g.length c ∧ g.length ≤ c ∧ ∀ k (hk : k < g.length), ∃ b off u, a = some ⟨b, off, none⟩ ∧ w.cell? ⟨b, off + k, none⟩ = some u ∧ Pr w u g[k] := by
  obtain ⟨a, c, h1, h2, h3, h4⟩ := h
  refine ⟨a, c, h1, h2, fun k hk => ?_⟩
  rcases h4 with h4 | ⟨b, off, e, hb, ht, hi⟩
  · subst h4; simp at hk
  · obtain ⟨u, hu, hr⟩ := hi k hk
    exact ⟨b, off, u, e, hu, hr⟩
theorem OwnL.nil (T : TypeId) (Pr : World → Value → α → Prop) (hb : Below w0.heap.size w0 wr) : OwnL T Pr w0 wr (.slice none 0 0) [] := ⟨[], OwnE.nil _ _ hb, fun k hk => absurd hk (by simp)⟩
theorem OwnL.below (hP : Prs S Pr) (h : OwnL T Pr w0 wr v g) (hb : Below wr.heap.size wr w') : OwnL T Pr w0 w' v g := by
  obtain ⟨xs, h1, h2⟩ := h
  refine ⟨xs, h1.below hb, fun k hk => ?_⟩
  obtain ⟨u, hu, hr⟩ := h2 k hk
  exact ⟨u, hu, hP.kp hr (Kp.of_below _ hb)⟩
theorem OwnL.bel (h : OwnL T Pr w0 wr v g) : Below w0.heap.size w0 wr := by obtain ⟨xs, h1, _⟩ := h; exact h1.2
theorem OwnL.ex (h : OwnL T Pr w0 wr v g) : ∃ a c, v = .slice a g.length c := by
  obtain ⟨xs, ⟨⟨_, h1⟩, _⟩, _⟩ := h
  rcases h1 with ⟨rfl, h0⟩ | ⟨b, cap, cur, rfl, _⟩
  · exact ⟨none, 0, by rw [h0]⟩
  · exact ⟨_, _, rfl⟩
theorem OwnL.isL (h : OwnL T Pr w0 wr v g) : IsL T Pr w0.heap.size wr v g := by
  obtain ⟨xs, ⟨⟨hl, h1⟩, _⟩, h2⟩ := h
  rcases h1 with ⟨rfl, h0⟩ | ⟨b, cap, cur, rfl, hg, hh, hc, hm, hs, ht⟩
  · have : g = [] := List.length_eq_zero_iff.1 h0
    subst this
    exact IsL.nil _ _ _ _
  · refine ⟨_, cap, rfl, hc, hm, .inr ⟨b, 0, rfl, hg, by unfold typOf; rw [hh], fun k hk => ?_⟩⟩
    obtain ⟨u, hu, hr⟩ := h2 k hk
    refine ⟨u, ?_, hr⟩
    rw [← ht, List.getElem?_take_of_lt (by omega)] at hu
    simpa [World.cell?, hh] using hu
theorem OwnL.snoc (hP : Prs S Pr) {xs : List Value} {v' : Value} (h2 : ∀ k (hk : k < g.length), ∃ u, xs[k]? = some u ∧ Pr wr u g[k]) (hl : xs.length = g.length) (hu : Pr wr u x)
    (k : Kp S wr w') (hO : OwnE T 1 w0 w' v' (g.length + 1) (xs ++ [u])) : OwnL T Pr w0 w' v' (g ++ [x]) := by
  refine ⟨_, by simpa using hO, fun j hj => ?_⟩
  simp at hj
  by_cases e : j < g.length
  · obtain ⟨u', hu', hr⟩ := h2 j e
    exact ⟨u', by rw [List.getElem?_append_left (by omega)]; exact hu', by rw [List.getElem_append_left e]; exact hP.kp hr k⟩
  · obtain rfl : j = g.length := by omega
    exact ⟨u, by rw [List.getElem?_append_right (by omega), hl]; simp, by rw [List.getElem_append_right (by omega)]; simpa using hP.kp hu k⟩
theorem OwnL.rebase {w1 : World} (h : OwnL T Pr w1 wr v g) (hb : Below w0.heap.size w0 w1) : OwnL T Pr w0 wr v g := by
  obtain ⟨xs, ⟨⟨hl, h1⟩, hB⟩, h2⟩ := h
  refine ⟨xs, ⟨⟨hl, ?_⟩, bthen hb hB⟩, h2⟩
  rcases h1 with h1 | ⟨b, cap, cur, hv, hg, r⟩
  · exact .inl h1
  · exact .inr ⟨b, cap, cur, hv, Nat.le_trans hb.size hg, r⟩
theorem OwnL.mono {Q : World → Value → α → Prop} (h : OwnL T Pr w0 wr v g) (hq : ∀ u x, Pr wr u x → Q wr u x) : OwnL T Q w0 wr v g := by
  obtain ⟨xs, h1, h2⟩ := h
  exact ⟨xs, h1, fun k hk => by obtain ⟨u, hu, hr⟩ := h2 k hk; exact ⟨u, hu, hq _ _ hr⟩⟩
/-- what is owned stays, where a cell of another type's block is set -/
theorem OwnL.set (hP : Prs S Pr) (h : OwnL T Pr w0 wr v g) {p : Addr} {t : TypeId} (ht : typOf wr p.block = some t) (h1 : t ≠ T) (h2 : ¬ S t) (hp : w0.heap.size ≤ p.block) (y : Value) : OwnL T Pr w0 (wr.setCell p y) v g := by
  obtain ⟨xs, ⟨hO, hB⟩, hx⟩ := h
  have hk : Kp S wr (wr.setCell p y) := (Kp.refl _ _).set (fun t' ht' => by rw [ht] at ht'; cases ht'; exact h2) y
  refine ⟨xs, ⟨ownsRow_setCell_other hO ?_ y, bset hB hp y⟩, fun k hk' => ?_⟩
  · intro hb
    have := own_typ ⟨hO, hB⟩ hb
    rw [ht] at this; cases this; exact h1 rfl
  · obtain ⟨u, hu, hr⟩ := hx k hk'
    exact ⟨u, hu, hP.kp hr hk⟩
end
section
variable {α : Type} {P : Program} {TT T : TypeId} {bytes : Nat} {S : TypeId → Prop} {Pr : World → Value → α → Prop} {ops : Array Oper} {o : Oper} {a : Act} {Q : Exit → Act → World → Prop} {w0 wr : World} {v u : Value} {g : List α} {y : α} {t : TypeId} {s x : Operand} {cc gb : Nat}
/-- append of one value: it lies in a variable of one cell -/
theorem wp_appL {K : Act → World → Prop} (el : Elt P TT T 1 bytes) (hP : Prs S Pr) (hT : ¬ S T)
    (ho : o.op = .call { callee := .builtin .append, args := #[s, x], argTypes := #[TT, TT] }) (hO : OwnL T Pr w0 wr v g) (hv : Pr wr u y) (hs : a.eval s = v)
    (hx : a.eval x = .slice (some ⟨gb, 0, none⟩) 1 cc) (hc : wr.cell? ⟨gb, 0, none⟩ = some u) (hn : (g.length + 1) * bytes ≤ 140737488355328) (hn2 : g.length + 1 ≤ maxLen)
    (h : ∀ v' w', OwnL T Pr w0 w' v' (g ++ [y]) → Kp (· ≠ T) wr w' → K (a.put o.dst v') w') : Oper.wp P o a wr K Q := by
  obtain ⟨i, z0, hi, hz, hsize, hby, hzs⟩ := el.info
  obtain ⟨xs, h1, h2⟩ := hO
  have hone : u.oneCell' = true := hP.one hv
  refine wp_append_own _ s x TT ho w0.heap.size T i z0 1 bytes el.ht hi hz hsize hby hzs el.pos v g.length xs hs h1.1 ⟨gb, 0, none⟩ 1 cc [u] hx rfl (fun j y hj => ?_) (fun y hy => by simp at hy; subst hy; exact hone) hn2 hn h1.2.size ?_
  · have hj1 : j < 1 := (List.getElem?_eq_some_iff.1 hj).1
    obtain rfl : j = 0 := by omega
    simp at hj; subst hj
    simpa [Addr.add] using hc
  intro v' w' hown hg _
  have hk : Kp (· ≠ T) wr w' := (Kp.refl _ wr).grown hg fun q hg' t' ht hne => hne (by
    rw [own_typ h1 hg'] at ht
    exact (Option.some.inj ht).symm)
  exact h v' w' (OwnL.snoc hP h2 (by simpa using h1.1.1) hv (hk.weak fun t hs e => hT (e ▸ hs)) ⟨hown, below_append (wr := wr) h1.2 h1.1 hg⟩) hk
theorem appL {rest : List Oper} (el : Elt P TT T 1 bytes) (hP : Prs S Pr) (hT : ¬ S T) (hgd : o.guard = none)
    (ho : o.op = .call { callee := .builtin .append, args := #[s, x], argTypes := #[TT, TT] }) (hO : OwnL T Pr w0 wr v g) (hv : Pr wr u y) (hs : a.eval s = v)
    (hx : a.eval x = .slice (some ⟨gb, 0, none⟩) 1 cc) (hc : wr.cell? ⟨gb, 0, none⟩ = some u) (hn : (g.length + 1) * bytes ≤ 140737488355328) (hn2 : g.length + 1 ≤ maxLen)
    (h : ∀ v' w', OwnL T Pr w0 w' v' (g ++ [y]) → Kp (· ≠ T) wr w' → wpList P ops Q rest (a.put o.dst v') w') : wpList P ops Q (o :: rest) a wr :=
  wpList_plain hgd fun _ hK => wp_appL el hP hT ho hO hv hs hx hc hn hn2 fun v' w' h1 h2 => hK _ _ (h v' w' h1 h2)
end
/-- a new row of noughts -/
theorem RowO.make (w : World) (n : Nat) (hn : n ≤ maxLen) : RowO IsInt 48 w.heap.size (w.alloc (.cells (zcel n) 48)) (.slice (some ⟨w.heap.size, 0, none⟩) n n) (List.replicate n 0) := by
  have hs : (zcel n).size = n * 2 := by simp [zcel, size_madeCells]
  have hl : (zcel n).toList.length = n * 2 := by rw [Array.length_toList, hs]
  refine ⟨(zcel n).toList, ⟨by rw [List.length_replicate]; exact hl, .inr ⟨w.heap.size, n, zcel n, by rw [List.length_replicate], Nat.le_refl _, (MapKept.heap_alloc w _).1, by rw [List.length_replicate]; exact Nat.le_refl _, hn, hs, ?_⟩⟩, fun k hk => ?_⟩
  · rw [List.length_replicate, ← hl, List.take_length]
  · rw [List.length_replicate] at hk
    obtain ⟨h1, h2⟩ := zcel_at hk
    refine ⟨false, none, 0, 0, by rw [Array.getElem?_toList]; exact h1, by rw [Array.getElem?_toList]; exact h2, ?_⟩
    have : (List.replicate n (0 : Int)).getD k 0 = 0 := by simp [hk]
    rw [this]; exact isInt_zero _
/-- what is owned, and not empty, by its block -/
theorem OwnL.blk {α : Type} {T : TypeId} {Pr : World → Value → α → Prop} {w0 wr : World} {v : Value} {g : List α} (h : OwnL T Pr w0 wr v g) (hg : 0 < g.length) : ∃ rb rc, v = .slice (some ⟨rb, 0, none⟩) g.length rc ∧ w0.heap.size ≤ rb ∧ g.length ≤ rc ∧ rc ≤ maxLen ∧ Free wr rb ∧ typOf wr rb = some T ∧ ∀ k (hk : k < g.length), ∃ u, wr.cell? ⟨rb, k, none⟩ = some u ∧ Pr wr u g[k] := by
  obtain ⟨xs, ⟨⟨hl, h1⟩, hB⟩, h2⟩ := h
  rcases h1 with ⟨rfl, h0⟩ | ⟨b, cap, cur, rfl, hb, hh, hc, hm, hs, ht⟩
  · omega
  · refine ⟨b, cap, rfl, hb, hc, hm, ⟨(Array.getElem?_eq_some_iff.1 hh).1, fun j => ?_⟩, by unfold typOf; rw [hh], fun k hk => ?_⟩
    · unfold World.frozen?
      rw [show wr.heap[(⟨b, j, none⟩ : Addr).block]? = _ from hh]
      simp
    · obtain ⟨u, hu, hr⟩ := h2 k hk
      refine ⟨u, ?_, hr⟩
      rw [← ht, List.getElem?_take_of_lt (by omega)] at hu
      simpa [World.cell?, hh] using hu
end Go.Proofs.YtannhpadoooedaaGreatDoor

/- prog: an instruction: two, constant, Asks. -/
namespace Go.Proofs.YtannhpadoooedaaGreatDoor
open Go.ChangeShapes Go.WideShapes Go.ChangeAt Go.RowKit
set_option linter.unusedVariables false
set_option linter.unusedSimpArgs false
theorem bret {a b : Bool} (h : a = b) : Ending.returned (.bool a) = Ending.returned (.bool b) := by rw [h]
/-- an instruction -/
structure Ins where
  op : Int
  to : Int
  a : Int
  b : Int
  c : Int
deriving Inhabited
def Ins.v (i : Ins) : Value := .agg #[.int .i64 i.op, .int .i64 i.to, .int .i64 i.a, .int .i64 i.b, .int .i64 i.c]
def twoB (op : Int) : Bool := decide (op = 3 ∨ op = 4)
def constB (op c : Int) : Bool := if op = 5 ∨ op = 6 then decide (c ≠ 0 ∧ -512 ≤ c ∧ c ≤ 512) else if op = 7 ∨ op = 8 then decide (1 ≤ c ∧ c ≤ 64) else decide (c = 0)
theorem constB_mul {op c : Int} (h : op = 5 ∨ op = 6) : constB op c = decide (c ≠ 0 ∧ -512 ≤ c ∧ c ≤ 512) := by unfold constB; rw [if_pos h]
theorem constB_shift {op c : Int} (h : op = 7 ∨ op = 8) : constB op c = decide (1 ≤ c ∧ c ≤ 64) := by unfold constB; rw [if_neg (by omega), if_pos h]
theorem constB_else {op c : Int} (h : ¬ (op = 5 ∨ op = 6)) (h2 : ¬ (op = 7 ∨ op = 8)) : constB op c = decide (c = 0) := by unfold constB; rw [if_neg h, if_neg h2]

theorem two_c (op : Int) (w : World) : Calls Tryz.prog 164 #[.int .i64 op] w fun e w' => e = .returned (.bool (twoB op)) ∧ w' = w := by
  go_enter Tryz.func164, Tryz.ntmps164
  go_wp2
  all_goals go_ret
  all_goals exact ⟨bret (by rw [Bool.eq_iff_iff]; simp [twoB] <;> omega), rfl⟩

set_option maxRecDepth 100000 in
theorem constant_c (op t a b c : Int) (w : World) : Calls Tryz.prog 165 #[.agg #[.int .i64 op, .int .i64 t, .int .i64 a, .int .i64 b, .int .i64 c]] w fun e w' => e = .returned (.bool (constB op c)) ∧ Below w.heap.size w w' := by
  by_cases h : op = 5 ∨ op = 6
  · rw [constB_mul h]
    rcases h with rfl | rfl
    all_goals
      go_enter Tryz.func165, Tryz.ntmps165
      go_wp2
      all_goals go_ret
      all_goals exact ⟨bret (by rw [Bool.eq_iff_iff]; simp <;> omega), by repeat (first | exact Below.refl _ _ | assumption | refine bal ?_ _)⟩
  · by_cases h2 : op = 7 ∨ op = 8
    · rw [constB_shift h2]
      rcases h2 with rfl | rfl
      all_goals
        go_enter Tryz.func165, Tryz.ntmps165
        go_wp2
        all_goals go_ret
        all_goals exact ⟨bret (by rw [Bool.eq_iff_iff]; simp <;> omega), by repeat (first | exact Below.refl _ _ | assumption | refine bal ?_ _)⟩
    · rw [constB_else h h2]
      have t5 : (op == 5) = false := by simp; omega
      have t6 : (op == 6) = false := by simp; omega
      have t7 : (op == 7) = false := by simp; omega
      have t8 : (op == 8) = false := by simp; omega
      clear h h2
      go_enter Tryz.func165, Tryz.ntmps165
      go_wp2
      all_goals go_ret
      all_goals exact ⟨bret (by rw [Bool.eq_iff_iff]; simp <;> omega), by repeat (first | exact Below.refl _ _ | assumption | refine bal ?_ _)⟩
theorem asks_two (op t a b c : Int) (w : World) (h : op = 3 ∨ op = 4) : Calls Tryz.prog 166 #[.agg #[.int .i64 op, .int .i64 t, .int .i64 a, .int .i64 b, .int .i64 c]] w fun e w' => e = .returned (.slice (some ⟨w.heap.size + 1, 0, none⟩) 2 2) ∧ w'.cell? ⟨w.heap.size + 1, 0, none⟩ = some (.int .i64 a) ∧ w'.cell? ⟨w.heap.size + 1, 1, none⟩ = some (.int .i64 b) ∧ Below w.heap.size w w' := by
  rcases h with rfl | rfl
  all_goals
    go_enter Tryz.func166, Tryz.ntmps166
    go_wp2
    go_ret
    exact ⟨rfl, cell_new (by simp) rfl, cell_new (by simp) rfl, bal (bal (Below.refl _ _) _) _⟩
theorem asks_one (op t a b c : Int) (w : World) (h1 : 1 ≤ op) (h2 : op ≤ 8) (h : twoB op = false) : Calls Tryz.prog 166 #[.agg #[.int .i64 op, .int .i64 t, .int .i64 a, .int .i64 b, .int .i64 c]] w fun e w' => e = .returned (.slice (some ⟨w.heap.size + 1, 0, none⟩) 1 1) ∧ w'.cell? ⟨w.heap.size + 1, 0, none⟩ = some (.int .i64 a) ∧ Below w.heap.size w w' := by
  have h3 : ¬ (op = 3 ∨ op = 4) := by simpa [twoB] using h
  clear h
  have hc : op = 1 ∨ op = 2 ∨ op = 5 ∨ op = 6 ∨ op = 7 ∨ op = 8 := by omega
  clear h1 h2 h3
  rcases hc with rfl | rfl | rfl | rfl | rfl | rfl
  all_goals
    go_enter Tryz.func166, Tryz.ntmps166
    go_wp2
    go_ret
    exact ⟨rfl, cell_new (by simp) rfl, bal (bal (Below.refl _ _) _) _⟩
end Go.Proofs.YtannhpadoooedaaGreatDoor

/- Plain laws: sums, differences, small quotients, shifts of numbers as lists of limbs. -/
namespace Go.Proofs.YtannhpadoooedaaGreatDoor.Num

theorem val_set0 {l : List Nat} {k : Nat} (x : Nat) (hk : k < l.length) (h0 : l.getD k 0 = 0) : val (l.set k x) = val l + x * BB ^ k := by
  have := val_set x hk
  rw [h0] at this
  omega
theorem take_over {l : List Nat} {k : Nat} (hk : l.length ≤ k) : val (l.take (k + 1)) = val (l.take k) := by
  rw [List.take_of_length_le hk, List.take_of_length_le (by omega)]
theorem getD_set_ne {l : List Nat} {i j x : Nat} (h : i ≠ j) : (l.set i x).getD j 0 = l.getD j 0 := by
  simp [List.getD_eq_getElem?_getD, List.getElem?_set_ne h]
/-- a place of a sum -/
theorem add_step {O A B : List Nat} {i c t : Nat} (hO : i < O.length) (h0 : O.getD i 0 = 0) (hA : i < A.length) (ht : t = c + A.getD i 0 + B.getD i 0)
    (h : val O + c * BB ^ i = val (A.take i) + val (B.take i)) : val (O.set i (t % BB)) + t / BB * BB ^ (i + 1) = val (A.take (i + 1)) + val (B.take (i + 1)) := by
  have hB : val (B.take (i + 1)) = val (B.take i) + B.getD i 0 * BB ^ i := by
    by_cases hb : i < B.length
    · exact val_take_succ hb
    · rw [take_over (by omega)]; simp [hb]
  rw [val_set0 _ hO h0, val_take_succ hA, hB]
  have e : t * BB ^ i = t / BB * BB ^ (i + 1) + t % BB * BB ^ i := by
    conv => lhs; rw [← Nat.div_add_mod t BB, Nat.add_mul]
    rw [Nat.pow_succ]
    congr 1
    ac_rfl
  have e2 : t * BB ^ i = c * BB ^ i + A.getD i 0 * BB ^ i + B.getD i 0 * BB ^ i := by rw [ht]; simp only [Nat.add_mul]
  omega
/-- a place of a difference: what is borrowed is 0 or 1 -/
theorem sub_step {O A B : List Nat} {i br r br' : Nat} (hO : i < O.length) (h0 : O.getD i 0 = 0) (hA : i < A.length) (hr : r + (br + B.getD i 0) = A.getD i 0 + br' * BB)
    (h : val O + val (B.take i) = val (A.take i) - 0 + br * BB ^ i) : val (O.set i r) + val (B.take (i + 1)) = val (A.take (i + 1)) - 0 + br' * BB ^ (i + 1) := by
  have hB : val (B.take (i + 1)) = val (B.take i) + B.getD i 0 * BB ^ i := by
    by_cases hb : i < B.length
    · exact val_take_succ hb
    · rw [take_over (by omega)]; simp [hb]
  rw [val_set0 _ hO h0, val_take_succ hA, hB]
  have e := congrArg (· * BB ^ i) hr
  simp only [Nat.add_mul] at e
  have e2 : br' * BB * BB ^ i = br' * BB ^ (i + 1) := by rw [Nat.pow_succ]; ac_rfl
  omega
theorem sub_end {A B : List Nat} {V br : Nat} (hA : Limbs A) (hle : val B ≤ val A) (h : V + val (B.take A.length) = val (A.take A.length) - 0 + br * BB ^ A.length) (hV : V < BB ^ A.length) : V + val B = val A := by
  rw [List.take_length] at h
  have hlt := val_lt hA
  have hsplit : val B = val (B.take A.length) + BB ^ A.length * val (B.drop A.length) := by
    by_cases hb : A.length ≤ B.length
    · conv => lhs; rw [← List.take_append_drop A.length B, val_append]
      rw [List.length_take, Nat.min_eq_left hb]
    · rw [List.take_of_length_le (by omega), List.drop_eq_nil_of_le (by omega)]; simp [val]
  have hd : val (B.drop A.length) = 0 := by
    apply Nat.eq_zero_of_not_pos
    intro hp
    have : BB ^ A.length * 1 ≤ BB ^ A.length * val (B.drop A.length) := Nat.mul_le_mul_left _ hp
    omega
  rw [hd] at hsplit
  simp at hsplit
  rw [hsplit]
  cases br with
  | zero => omega
  | succ n =>
    exfalso
    have : BB ^ A.length * 1 ≤ BB ^ A.length * (n + 1) := Nat.mul_le_mul_left _ (by omega)
    rw [Nat.mul_comm] at h
    have e : (n + 1) * BB ^ A.length = BB ^ A.length * (n + 1) := Nat.mul_comm _ _
    omega
/-- a place of a quotient by a limb -/
theorem div_step {O A : List Nat} {j c rest : Nat} (hO : j < O.length) (h0 : O.getD j 0 = 0) (hA : j < A.length)
    (h : val O * c + rest * BB ^ (j + 1) + val (A.take (j + 1)) = val A) :
    val (O.set j ((rest * BB + A.getD j 0) / c)) * c + (rest * BB + A.getD j 0) % c * BB ^ j + val (A.take j) = val A := by
  rw [val_set0 _ hO h0, ← h, val_take_succ hA, Nat.add_mul]
  have e : (rest * BB + A.getD j 0) * BB ^ j = (rest * BB + A.getD j 0) / c * BB ^ j * c + (rest * BB + A.getD j 0) % c * BB ^ j := by
    conv => lhs; rw [← Nat.div_add_mod (rest * BB + A.getD j 0) c, Nat.add_mul]
    congr 1
    ac_rfl
  have e2 : (rest * BB + A.getD j 0) * BB ^ j = rest * BB ^ (j + 1) + A.getD j 0 * BB ^ j := by rw [Nat.add_mul, Nat.pow_succ, Nat.mul_assoc, Nat.mul_comm BB (BB ^ j)]
  omega
theorem div_lt {rest x c : Nat} (hr : rest < c) (hx : x < BB) : (rest * BB + x) / c < BB := by
  apply Nat.div_lt_of_lt_mul
  have : (rest + 1) * BB ≤ c * BB := Nat.mul_le_mul_right _ hr
  rw [Nat.add_mul] at this
  omega
/-- shifting up: a place; m limbs and k bits -/
theorem shl_step {O A : List Nat} {i m p x : Nat} (hO : i + m + 1 < O.length) (h0 : O.getD (i + m + 1) 0 = 0) (hA : i < A.length) (hx : x = A.getD i 0)
    (h : val O = val (A.take i) * (p * BB ^ m)) : val ((O.set (i + m) (O.getD (i + m) 0 + x * p % BB)).set (i + m + 1) (x * p / BB)) = val (A.take (i + 1)) * (p * BB ^ m) := by
  have h1 : (O.set (i + m) (O.getD (i + m) 0 + x * p % BB)).getD (i + m + 1) 0 = 0 := by rw [getD_set_ne (by omega), h0]
  rw [val_set0 _ (by simpa using hO) h1]
  have h2 := val_set (l := O) (k := i + m) (O.getD (i + m) 0 + x * p % BB) (by omega)
  rw [Nat.add_mul (O.getD (i + m) 0)] at h2
  rw [val_take_succ hA, ← hx, Nat.add_mul, ← h]
  have e : x * p * BB ^ (i + m) = x * p / BB * BB ^ (i + m + 1) + x * p % BB * BB ^ (i + m) := by
    conv => lhs; rw [← Nat.div_add_mod (x * p) BB, Nat.add_mul]
    rw [Nat.pow_succ]
    congr 1
    ac_rfl
  have e2 : x * BB ^ i * (p * BB ^ m) = x * p * BB ^ (i + m) := by rw [Nat.pow_add]; ac_rfl
  omega
/-- the low part of a place that is shifted up meets no bit -/
theorem or_low {x k o : Nat} (ho : o < 2 ^ k) (hk : k ≤ 32) : (x * 2 ^ k % BB) ||| o = o + x * 2 ^ k % BB := by
  have e : BB = 2 ^ k * 2 ^ (32 - k) := by rw [← Nat.pow_add, Nat.add_sub_cancel' hk]; rfl
  have e2 : x * 2 ^ k % BB = 2 ^ k * (x % 2 ^ (32 - k)) := by rw [e, Nat.mul_comm x, Nat.mul_mod_mul_left]
  rw [e2, ← Nat.two_pow_add_eq_or_of_lt ho]
  omega
theorem shl_hi {x k : Nat} (hx : x < BB) : x * 2 ^ k / BB < 2 ^ k := by
  apply Nat.div_lt_of_lt_mul
  rw [Nat.mul_comm BB, Nat.mul_comm]
  exact Nat.mul_lt_mul_of_pos_left hx (Nat.pow_pos (by omega))
theorem shl_lo {x k o : Nat} (ho : o < 2 ^ k) (hk : k ≤ 32) : o + x * 2 ^ k % BB < BB := by
  have e : BB = 2 ^ k * 2 ^ (32 - k) := by rw [← Nat.pow_add, Nat.add_sub_cancel' hk]; rfl
  have e2 : x * 2 ^ k % BB = 2 ^ k * (x % 2 ^ (32 - k)) := by rw [e, Nat.mul_comm x, Nat.mul_mod_mul_left]
  rw [e2, e]
  have h1 : x % 2 ^ (32 - k) < 2 ^ (32 - k) := Nat.mod_lt _ (Nat.pow_pos (by omega))
  have h2 : 2 ^ k * (x % 2 ^ (32 - k) + 1) ≤ 2 ^ k * 2 ^ (32 - k) := Nat.mul_le_mul_left _ h1
  rw [Nat.mul_add] at h2
  omega
/-- shifting down by less than a limb -/
def shrL (k : Nat) : List Nat → List Nat
  | [] => []
  | x :: l => (x + l.getD 0 0 * BB) / 2 ^ k % BB :: shrL k l
theorem shrL_len (k : Nat) (l : List Nat) : (shrL k l).length = l.length := by
  induction l with
  | nil => rfl
  | cons x l ih => simp [shrL, ih]
theorem shrL_get (k : Nat) (l : List Nat) (i : Nat) (hi : i < l.length) : (shrL k l).getD i 0 = (l.getD i 0 + l.getD (i + 1) 0 * BB) / 2 ^ k % BB := by
  induction l generalizing i with
  | nil => simp at hi
  | cons x l ih =>
    cases i with
    | zero => rw [shrL, List.getD_cons_zero, List.getD_cons_zero, List.getD_cons_succ]
    | succ i => rw [shrL, List.getD_cons_succ, List.getD_cons_succ, List.getD_cons_succ]; exact ih i (by simpa using hi)
theorem shrL_limbs (k : Nat) (l : List Nat) : Limbs (shrL k l) := by
  induction l with
  | nil => intro x hx; cases hx
  | cons x l ih =>
    intro y hy
    rcases List.mem_cons.1 hy with rfl | h
    · exact Nat.mod_lt _ BB_pos
    · exact ih y h
theorem shr_arith {B b K x V y : Nat} (e : B = b * K) (hp : 0 < b) (hx : x < B) (hmod : V % b = y % b) : (x + y * B) / b % B + B * (V / b) = (x + B * V) / b := by
  have h1 : (x + B * V) / b = x / b + K * V := by rw [e, Nat.mul_assoc, Nat.add_mul_div_left _ _ hp]
  have h2 : (x + y * B) / b = x / b + K * y := by rw [e, show y * (b * K) = b * (K * y) from by ac_rfl, Nat.add_mul_div_left _ _ hp]
  rw [h1, h2]
  have hxb : x / b < K := Nat.div_lt_of_lt_mul (by rw [← e]; exact hx)
  have key : ∀ z, (x / b + K * z) % B = x / b + K * (z % b) := fun z => by
    have e3 : K * z = B * (z / b) + K * (z % b) := by
      conv => lhs; rw [← Nat.div_add_mod z b, Nat.mul_add]
      rw [e]
      congr 1
      ac_rfl
    rw [e3, show x / b + (B * (z / b) + K * (z % b)) = x / b + K * (z % b) + B * (z / b) from by omega, Nat.add_mul_mod_self_left]
    apply Nat.mod_eq_of_lt
    have h5 : z % b + 1 ≤ b := Nat.mod_lt _ hp
    have h6 : K * (z % b + 1) ≤ K * b := Nat.mul_le_mul_left _ h5
    rw [Nat.mul_add] at h6
    rw [e, Nat.mul_comm b K]
    omega
  rw [key, ← hmod]
  have e4 : K * V = B * (V / b) + K * (V % b) := by
    conv => lhs; rw [← Nat.div_add_mod V b, Nat.mul_add]
    rw [e]
    congr 1
    ac_rfl
  omega
theorem BB_split {k : Nat} (hk : k ≤ 32) : BB = 2 ^ k * 2 ^ (32 - k) := by rw [← Nat.pow_add, Nat.add_sub_cancel' hk]; rfl
theorem val_mod (k : Nat) (hk : k ≤ 32) (l : List Nat) : val l % 2 ^ k = l.getD 0 0 % 2 ^ k := by
  cases l with
  | nil => rfl
  | cons y l =>
    rw [val, BB_split hk, Nat.mul_assoc, Nat.add_mul_mod_self_left]
    rfl
theorem shrL_val (k : Nat) (hk : k < 32) (l : List Nat) (hl : Limbs l) : val (shrL k l) = val l / 2 ^ k := by
  induction l with
  | nil => simp [shrL, val]
  | cons x l ih =>
    have hx := hl x (by simp)
    have ih := ih (fun y hy => hl y (by simp [hy]))
    rw [shrL, val, val, ih]
    exact shr_arith (BB_split (by omega)) (Nat.pow_pos (by omega)) hx (val_mod k (by omega) l)
theorem val_drop {l : List Nat} {m : Nat} (hl : Limbs l) (hm : m ≤ l.length) : val (l.drop m) = val l / BB ^ m := by
  have h : val l = val (l.take m) + BB ^ m * val (l.drop m) := by
    conv => lhs; rw [← List.take_append_drop m l, val_append]
    rw [List.length_take, Nat.min_eq_left hm]
  have h2 := val_lt (limbs_take hl m)
  rw [List.length_take, Nat.min_eq_left hm] at h2
  rw [h, Nat.add_mul_div_left _ _ (Nat.pow_pos BB_pos), Nat.div_eq_of_lt h2, Nat.zero_add]
end Go.Proofs.YtannhpadoooedaaGreatDoor.Num

/- limb: Add, Sub. -/
namespace Go.Proofs.YtannhpadoooedaaGreatDoor
open Num
open Go.ChangeShapes Go.WideShapes Go.ChangeAt Go.RowKit
set_option linter.unusedVariables false
set_option linter.unusedSimpArgs false
/-- what a function of the layer answers: limbs without high noughts that stand for v -/
def NewL (w' : World) (u : Value) (v : Nat) : Prop := ∃ a n L, u = .slice a n n ∧ n = List.length L ∧ U32 w' a n L ∧ Nrm L ∧ val L = v


set_option maxRecDepth 100000 in
set_option maxHeartbeats 4000000 in
theorem limbAdd_c (a b : Option Addr) (ca cb : Nat) (l m : List Nat) (w : World) (ha : U32 w a ca l) (hb : U32 w b cb m) (h1 : l.length ≤ 1099511627776) (h2 : m.length ≤ 1099511627776) :
    Calls Tryz.prog 156 #[.slice a l.length ca, .slice b m.length cb] w fun e w' => (∃ u, e = .returned u ∧ NewL w' u (val l + val m)) ∧ Below w.heap.size w w' := by
  by_cases hll : l.length < m.length
  ·
    have hmk := mk32 (m.length + 1) (by omega)
    have ec : ((m.length + 1 : Nat) : Int) = (m.length : Int) + 1 := by omega
    rw [ec] at hmk
    clear ec
    go_enter Tryz.func156, Tryz.ntmps156
    go_wp2
    clear hmk
    go_loopw [6, 22] (fun cv x wr => ∃ (i c : Nat) (O : List Nat), i ≤ m.length ∧ x = .int .i64 i ∧ cv = .int .u64 c ∧ c ≤ 1 ∧ Blk wr w.heap.size O ∧ Hid (O.length = m.length + 1) ∧ Limbs O ∧ (∀ j, i ≤ j → O.getD j 0 = 0) ∧ Hid (val O + c * BB ^ i = val (m.take i) + val (l.take i)) ∧ Below w.heap.size w wr) (fun _ x _ => m.length - (intOf x).toNat)
    case atStart => exact ⟨0, 0, List.replicate (m.length + 1) 0, by omega, rfl, rfl, by omega, blk_new w _, Lib.hid (by simp), (fun y hy => by simp at hy; rw [hy]; exact BB_pos), (fun j hj => by simp [List.getElem?_replicate]; split <;> rfl), Lib.hid (by simp [val, val_zeros]), bal (Below.refl _ _) _⟩
    case round =>
      obtain ⟨i, c, O, hi, rfl, rfl, hc1, hO, hOl, hOL, hO0, hV, hB⟩ := hrel
      have hol := hOl.out
      by_cases hlt : i < m.length
      · rcases hb.2.2.2 with hl0 | ⟨ba, oa, rfl, hca⟩
        · subst hl0; simp at hlt
        have c0 := bkeep hB (hca i hlt)
        have hx := limb_get hb.2.2.1 i
        have q0 := hO.cell i (by omega)
        have qf := hO.frozen i
        have HS := Lib.hid (add_step (O := O) (A := m) (B := l) (i := i) (c := c) (t := c + m.getD i 0 + l.getD i 0) (by omega) (hO0 i (Nat.le_refl _)) hlt rfl hV.out)
        by_cases hlm : i < l.length
        · rcases ha.2.2.2 with hm0 | ⟨bb, ob, rfl, hcb⟩
          · subst hm0; simp at hlm
          have d0 := bkeep hB (hcb i hlm)
          have hy := limb_get ha.2.2.1 i
          generalize m.getD i 0 = x at *
          generalize l.getD i 0 = y at *
          generalize O.getD i 0 = o at *
          have e1 := w64 (BB_sq x hx)
          have e2 := w64 (BB_sq y hy)
          have e3 : IntKind.u64.wrap ((c : Int) + (x : Int)) = ((c + x : Nat) : Int) := by rw [← Int.natCast_add]; exact w64 (by unfold BB at *; omega)
          have e4 : IntKind.u64.wrap (((c + x : Nat) : Int) + (y : Int)) = ((c + x + y : Nat) : Int) := by rw [← Int.natCast_add]; exact w64 (by unfold BB at *; omega)
          have ht : c + x + y < 2 * BB := by omega
          generalize c + x = t1 at e3 e4 HS ht
          generalize t1 + y = t at e4 HS ht
          have qb := hO.set i (t % BB)
          have ql := limbs_set hOL (k := i) (Nat.mod_lt t BB_pos)
          have eqb : ((t % BB : Nat) : Int) = (t : Int) % 4294967296 := by unfold BB; omega
          rw [eqb] at qb
          have bs := bset hB (p := ⟨w.heap.size, i, none⟩) (Nat.le_refl _) (.int .u32 ((t : Int) % 4294967296))
          clear hol eqb
          go_wp2
          refine ⟨⟨i + 1, t / BB, O.set i (t % BB), by omega, rfl, by unfold BB; simp, by unfold BB at *; omega, qb, Lib.hid (by simpa using hOl.out), ql, ?_, HS, bs⟩, by simp [intOf] <;> omega⟩
          intro j hj
          rw [Num.getD_set_ne (by omega)]
          exact hO0 j (by omega)
        · have hy0 : l.getD i 0 = 0 := by simp [hlm]
          rw [hy0] at HS
          have hlm' : decide (i < l.length) = false := by simp; omega
          generalize m.getD i 0 = x at *
          generalize O.getD i 0 = o at *
          have e1 := w64 (BB_sq x hx)
          have e3 : IntKind.u64.wrap ((c : Int) + (x : Int)) = ((c + x : Nat) : Int) := by rw [← Int.natCast_add]; exact w64 (by unfold BB at *; omega)
          have ht : c + x + 0 < 2 * BB := by omega
          rw [Nat.add_zero] at HS ht
          clear hy0
          generalize c + x = t at e3 HS ht
          have qb := hO.set i (t % BB)
          have ql := limbs_set hOL (k := i) (Nat.mod_lt t BB_pos)
          have eqb : ((t % BB : Nat) : Int) = (t : Int) % 4294967296 := by unfold BB; omega
          rw [eqb] at qb
          have bs := bset hB (p := ⟨w.heap.size, i, none⟩) (Nat.le_refl _) (.int .u32 ((t : Int) % 4294967296))
          clear hol eqb
          go_wp2
          refine ⟨⟨i + 1, t / BB, O.set i (t % BB), by omega, rfl, by unfold BB; simp, by unfold BB at *; omega, qb, Lib.hid (by simpa using hOl.out), ql, ?_, HS, bs⟩, by simp [intOf] <;> omega⟩
          intro j hj
          rw [Num.getD_set_ne (by omega)]
          exact hO0 j (by omega)
      · obtain rfl : i = m.length := by omega
        have hV2 := val_set0 c (show m.length < O.length by omega) (hO0 _ (Nat.le_refl _))
        have q0 := hO.cell m.length (by omega)
        have qf := hO.frozen m.length
        have qb := hO.set m.length c
        have ql := limbs_set hOL (k := m.length) (x := c) (by unfold BB; omega)
        have ec : (c : Int) % 4294967296 = c := by omega
        have hm2 : val (l.take m.length) = val l := by rw [List.take_of_length_le (by omega)]
        have HV := Lib.hid (show val (O.set m.length c) = val l + val m by have := hV.out; rw [List.take_length, hm2] at this; omega)
        have hu := qb.u32 ql (by simp [hol]; unfold maxLen; omega)
        have tc := trim_c _ _ _ _ hu
        have HT := Lib.hid (val_trim (O.set m.length c))
        have HN := trim_nrm (O.set m.length c)
        have hu2 := hu.trim
        have hl2 : (O.set m.length c).length = m.length + 1 := by simp [hol]
        generalize hOQ : O.set m.length c = Q at *
        generalize trimL Q = T at *
        rw [hl2] at tc
        clear hV2 hm2 hV hOl hOQ hu hl2 hol
        have hB2 := bset hB (p := ⟨w.heap.size, m.length, none⟩) (Nat.le_refl _) (.int .u32 (c : Int))
        go_wp2_with fail
        refine tc.mono ?_
        rintro e w1 ⟨rfl, rfl⟩
        clear tc
        go_wp2
        go_ret
        exact ⟨⟨_, rfl, _, _, T, rfl, rfl, hu2, HN, by rw [HT.out, HV.out]⟩, hB2⟩
  ·
    have hmk := mk32 (l.length + 1) (by omega)
    have ec : ((l.length + 1 : Nat) : Int) = (l.length : Int) + 1 := by omega
    rw [ec] at hmk
    clear ec
    go_enter Tryz.func156, Tryz.ntmps156
    go_wp2
    clear hmk
    go_loopw [6, 22] (fun cv x wr => ∃ (i c : Nat) (O : List Nat), i ≤ l.length ∧ x = .int .i64 i ∧ cv = .int .u64 c ∧ c ≤ 1 ∧ Blk wr w.heap.size O ∧ Hid (O.length = l.length + 1) ∧ Limbs O ∧ (∀ j, i ≤ j → O.getD j 0 = 0) ∧ Hid (val O + c * BB ^ i = val (l.take i) + val (m.take i)) ∧ Below w.heap.size w wr) (fun _ x _ => l.length - (intOf x).toNat)
    case atStart => exact ⟨0, 0, List.replicate (l.length + 1) 0, by omega, rfl, rfl, by omega, blk_new w _, Lib.hid (by simp), (fun y hy => by simp at hy; rw [hy]; exact BB_pos), (fun j hj => by simp [List.getElem?_replicate]; split <;> rfl), Lib.hid (by simp [val, val_zeros]), bal (Below.refl _ _) _⟩
    case round =>
      obtain ⟨i, c, O, hi, rfl, rfl, hc1, hO, hOl, hOL, hO0, hV, hB⟩ := hrel
      have hol := hOl.out
      by_cases hlt : i < l.length
      · rcases ha.2.2.2 with hl0 | ⟨ba, oa, rfl, hca⟩
        · subst hl0; simp at hlt
        have c0 := bkeep hB (hca i hlt)
        have hx := limb_get ha.2.2.1 i
        have q0 := hO.cell i (by omega)
        have qf := hO.frozen i
        have HS := Lib.hid (add_step (O := O) (A := l) (B := m) (i := i) (c := c) (t := c + l.getD i 0 + m.getD i 0) (by omega) (hO0 i (Nat.le_refl _)) hlt rfl hV.out)
        by_cases hlm : i < m.length
        · rcases hb.2.2.2 with hm0 | ⟨bb, ob, rfl, hcb⟩
          · subst hm0; simp at hlm
          have d0 := bkeep hB (hcb i hlm)
          have hy := limb_get hb.2.2.1 i
          generalize l.getD i 0 = x at *
          generalize m.getD i 0 = y at *
          generalize O.getD i 0 = o at *
          have e1 := w64 (BB_sq x hx)
          have e2 := w64 (BB_sq y hy)
          have e3 : IntKind.u64.wrap ((c : Int) + (x : Int)) = ((c + x : Nat) : Int) := by rw [← Int.natCast_add]; exact w64 (by unfold BB at *; omega)
          have e4 : IntKind.u64.wrap (((c + x : Nat) : Int) + (y : Int)) = ((c + x + y : Nat) : Int) := by rw [← Int.natCast_add]; exact w64 (by unfold BB at *; omega)
          have ht : c + x + y < 2 * BB := by omega
          generalize c + x = t1 at e3 e4 HS ht
          generalize t1 + y = t at e4 HS ht
          have qb := hO.set i (t % BB)
          have ql := limbs_set hOL (k := i) (Nat.mod_lt t BB_pos)
          have eqb : ((t % BB : Nat) : Int) = (t : Int) % 4294967296 := by unfold BB; omega
          rw [eqb] at qb
          have bs := bset hB (p := ⟨w.heap.size, i, none⟩) (Nat.le_refl _) (.int .u32 ((t : Int) % 4294967296))
          clear hol eqb
          go_wp2
          refine ⟨⟨i + 1, t / BB, O.set i (t % BB), by omega, rfl, by unfold BB; simp, by unfold BB at *; omega, qb, Lib.hid (by simpa using hOl.out), ql, ?_, HS, bs⟩, by simp [intOf] <;> omega⟩
          intro j hj
          rw [Num.getD_set_ne (by omega)]
          exact hO0 j (by omega)
        · have hy0 : m.getD i 0 = 0 := by simp [hlm]
          rw [hy0] at HS
          have hlm' : decide (i < m.length) = false := by simp; omega
          generalize l.getD i 0 = x at *
          generalize O.getD i 0 = o at *
          have e1 := w64 (BB_sq x hx)
          have e3 : IntKind.u64.wrap ((c : Int) + (x : Int)) = ((c + x : Nat) : Int) := by rw [← Int.natCast_add]; exact w64 (by unfold BB at *; omega)
          have ht : c + x + 0 < 2 * BB := by omega
          rw [Nat.add_zero] at HS ht
          clear hy0
          generalize c + x = t at e3 HS ht
          have qb := hO.set i (t % BB)
          have ql := limbs_set hOL (k := i) (Nat.mod_lt t BB_pos)
          have eqb : ((t % BB : Nat) : Int) = (t : Int) % 4294967296 := by unfold BB; omega
          rw [eqb] at qb
          have bs := bset hB (p := ⟨w.heap.size, i, none⟩) (Nat.le_refl _) (.int .u32 ((t : Int) % 4294967296))
          clear hol eqb
          go_wp2
          refine ⟨⟨i + 1, t / BB, O.set i (t % BB), by omega, rfl, by unfold BB; simp, by unfold BB at *; omega, qb, Lib.hid (by simpa using hOl.out), ql, ?_, HS, bs⟩, by simp [intOf] <;> omega⟩
          intro j hj
          rw [Num.getD_set_ne (by omega)]
          exact hO0 j (by omega)
      · obtain rfl : i = l.length := by omega
        have hV2 := val_set0 c (show l.length < O.length by omega) (hO0 _ (Nat.le_refl _))
        have q0 := hO.cell l.length (by omega)
        have qf := hO.frozen l.length
        have qb := hO.set l.length c
        have ql := limbs_set hOL (k := l.length) (x := c) (by unfold BB; omega)
        have ec : (c : Int) % 4294967296 = c := by omega
        have hm2 : val (m.take l.length) = val m := by rw [List.take_of_length_le (by omega)]
        have HV := Lib.hid (show val (O.set l.length c) = val l + val m by have := hV.out; rw [List.take_length, hm2] at this; omega)
        have hu := qb.u32 ql (by simp [hol]; unfold maxLen; omega)
        have tc := trim_c _ _ _ _ hu
        have HT := Lib.hid (val_trim (O.set l.length c))
        have HN := trim_nrm (O.set l.length c)
        have hu2 := hu.trim
        have hl2 : (O.set l.length c).length = l.length + 1 := by simp [hol]
        generalize hOQ : O.set l.length c = Q at *
        generalize trimL Q = T at *
        rw [hl2] at tc
        clear hV2 hm2 hV hOl hOQ hu hl2 hol
        have hB2 := bset hB (p := ⟨w.heap.size, l.length, none⟩) (Nat.le_refl _) (.int .u32 (c : Int))
        go_wp2_with fail
        refine tc.mono ?_
        rintro e w1 ⟨rfl, rfl⟩
        clear tc
        go_wp2
        go_ret
        exact ⟨⟨_, rfl, _, _, T, rfl, rfl, hu2, HN, by rw [HT.out, HV.out]⟩, hB2⟩
namespace Num
theorem cmpN_ge {x y : Nat} (h : y ≤ x) : ¬ cmpN x y < 0 := by
  unfold cmpN; rw [if_neg (by omega)]; split <;> omega
end Num

set_option maxRecDepth 100000 in
set_option maxHeartbeats 4000000 in
theorem limbSub_c (a b : Option Addr) (ca cb : Nat) (l m : List Nat) (w : World) (ha : U32 w a ca l) (hb : U32 w b cb m) (h1 : l.length ≤ 1099511627776) (hle : val m ≤ val l) :
    Calls Tryz.prog 157 #[.slice a l.length ca, .slice b m.length cb] w fun e w' => (∃ u, e = .returned (.tuple #[u, .int .i64 0]) ∧ NewL w' u (val l - val m)) ∧ Below w.heap.size w w' := by
  have hmk := mk32 l.length (by omega)
  have cc := limbCmp_c a b ca cb l m w ha hb
  have hcz : decide (cmpN (val l) (val m) < 0) = false := by simpa using cmpN_ge hle
  have HLE := Lib.hid hle
  clear hle
  generalize cmpN (val l) (val m) = z at *
  go_enter Tryz.func157, Tryz.ntmps157
  go_wp2_with fail
  refine cc.mono ?_
  rintro e w0 ⟨rfl, hb0⟩
  clear cc
  have ha0 := ha.keep hb0
  have hb1 := hb.keep hb0
  have HB0 := Lib.hid hb0
  clear ha hb hb0
  go_wp2
  clear hmk hcz
  go_loopw [7, 21] (fun cv x wr => ∃ (i c : Nat) (O : List Nat), i ≤ l.length ∧ x = .int .i64 i ∧ cv = .int .u64 c ∧ c ≤ 1 ∧ Blk wr w0.heap.size O ∧ Hid (O.length = l.length) ∧ Limbs O ∧ (∀ j, i ≤ j → O.getD j 0 = 0) ∧ Hid (val O + val (m.take i) = val (l.take i) - 0 + c * BB ^ i) ∧ Below w0.heap.size w0 wr) (fun _ x _ => l.length - (intOf x).toNat)
  case atStart => exact ⟨0, 0, List.replicate l.length 0, by omega, rfl, rfl, by omega, blk_new w0 _, Lib.hid (by simp), (fun y hy => by simp at hy; rw [hy.2]; exact BB_pos), (fun j hj => by simp [List.getElem?_replicate]; split <;> rfl), Lib.hid (by simp [val, val_zeros]), bal (Below.refl _ _) _⟩
  case round =>
    obtain ⟨i, c, O, hi, rfl, rfl, hc1, hO, hOl, hOL, hO0, hV, hB⟩ := hrel
    have hol := hOl.out
    by_cases hlt : i < l.length
    · rcases ha0.2.2.2 with hl0 | ⟨ba, oa, rfl, hca⟩
      · subst hl0; simp at hlt
      have c0 := bkeep hB (hca i hlt)
      have hx := limb_get ha0.2.2.1 i
      have q0 := hO.cell i (by omega)
      have qf := hO.frozen i
      have HS := Lib.hid (fun r br' hr => sub_step (O := O) (A := l) (B := m) (i := i) (br := c) (r := r) (br' := br') (by omega) (hO0 i (Nat.le_refl _)) hlt hr hV.out)
      by_cases hlm : i < m.length
      · rcases hb1.2.2.2 with hm0 | ⟨bb, ob, rfl, hcb⟩
        · subst hm0; simp at hlm
        have d0 := bkeep hB (hcb i hlm)
        have hy := limb_get hb1.2.2.1 i
        generalize l.getD i 0 = x at *
        generalize m.getD i 0 = y at *
        generalize O.getD i 0 = o at *
        have e1 := w64 (BB_sq x hx)
        have e2 := w64 (BB_sq y hy)
        have e3 : IntKind.u64.wrap ((c : Int) + (y : Int)) = ((c + y : Nat) : Int) := by rw [← Int.natCast_add]; exact w64 (by unfold BB at *; omega)
        have ht : c + y ≤ BB := by omega
        generalize c + y = y1 at e3 HS ht
        by_cases hlow : y1 ≤ x
        · have e4 : IntKind.u64.wrap ((x : Int) - (y1 : Int)) = ((x - y1 : Nat) : Int) := by rw [show (x : Int) - (y1 : Int) = ((x - y1 : Nat) : Int) by omega]; exact w64 (by unfold BB at *; omega)
          have hr1 : x - y1 < BB := by omega
          have HR := Lib.hid (HS.out (x - y1) 0 (by omega))
          generalize x - y1 = r at *
          have e5 : (r : Int) / 4294967296 = 0 := by unfold BB at hr1; omega
          have e6 : (r : Int) % 4294967296 = (r : Int) := by unfold BB at hr1; omega
          have b0 : bits .and .u64 0 1 = 0 := by rfl
          have qb := hO.set i r
          have ql := limbs_set hOL (k := i) hr1
          have bs := bset hB (p := ⟨w0.heap.size, i, none⟩) (Nat.le_refl _) (.int .u32 (r : Int))
          clear hol
          go_wp2
          refine ⟨⟨i + 1, 0, O.set i r, by omega, by go_num, rfl, by omega, qb, Lib.hid (by simpa using hOl.out), ql, ?_, HR, bs⟩, by simp [intOf] <;> omega⟩
          intro j hj
          rw [Num.getD_set_ne (by omega)]
          exact hO0 j (by omega)
        · have e4 : IntKind.u64.wrap ((x : Int) - (y1 : Int)) = ((18446744073709551616 - (y1 - x) : Nat) : Int) := by
            simp only [IntKind.wrap, IntKind.bits, IntKind.signed]
            simp
            unfold BB at *
            omega
          have hr1 : BB + x - y1 < BB := by omega
          have HR := Lib.hid (HS.out (BB + x - y1) 1 (by omega))
          have e6 : ((18446744073709551616 - (y1 - x) : Nat) : Int) % 4294967296 = ((BB + x - y1 : Nat) : Int) := by unfold BB at *; omega
          have e5 : ((18446744073709551616 - (y1 - x) : Nat) : Int) / 4294967296 = 4294967295 := by unfold BB at *; omega
          have hDD : 18446744073709551616 - (y1 - x) < 18446744073709551616 := by omega
          generalize 18446744073709551616 - (y1 - x) = D at e4 e5 e6 hDD
          generalize BB + x - y1 = r at *
          have b0 : bits .and .u64 4294967295 1 = 1 := by rfl
          have qb := hO.set i r
          have ql := limbs_set hOL (k := i) hr1
          have bs := bset hB (p := ⟨w0.heap.size, i, none⟩) (Nat.le_refl _) (.int .u32 (r : Int))
          clear hol hDD
          go_wp2
          refine ⟨⟨i + 1, 1, O.set i r, by omega, by go_num, rfl, by omega, qb, Lib.hid (by simpa using hOl.out), ql, ?_, HR, bs⟩, by simp [intOf] <;> omega⟩
          intro j hj
          rw [Num.getD_set_ne (by omega)]
          exact hO0 j (by omega)
      · have hy0 : m.getD i 0 = 0 := by simp [hlm]
        rw [hy0] at HS
        have hlm' : decide (i < m.length) = false := by simp; omega
        generalize l.getD i 0 = x at *
        generalize O.getD i 0 = o at *
        have e1 := w64 (BB_sq x hx)
        have ht : c + 0 ≤ BB := by unfold BB; omega
        rw [Nat.add_zero] at HS ht
        obtain ⟨y1, hy1⟩ : ∃ y1, y1 = c := ⟨_, rfl⟩
        subst hy1
        clear hy0
        by_cases hlow : y1 ≤ x
        · have e4 : IntKind.u64.wrap ((x : Int) - (y1 : Int)) = ((x - y1 : Nat) : Int) := by rw [show (x : Int) - (y1 : Int) = ((x - y1 : Nat) : Int) by omega]; exact w64 (by unfold BB at *; omega)
          have hr1 : x - y1 < BB := by omega
          have HR := Lib.hid (HS.out (x - y1) 0 (by omega))
          generalize x - y1 = r at *
          have e5 : (r : Int) / 4294967296 = 0 := by unfold BB at hr1; omega
          have e6 : (r : Int) % 4294967296 = (r : Int) := by unfold BB at hr1; omega
          have b0 : bits .and .u64 0 1 = 0 := by rfl
          have qb := hO.set i r
          have ql := limbs_set hOL (k := i) hr1
          have bs := bset hB (p := ⟨w0.heap.size, i, none⟩) (Nat.le_refl _) (.int .u32 (r : Int))
          clear hol
          go_wp2
          refine ⟨⟨i + 1, 0, O.set i r, by omega, by go_num, rfl, by omega, qb, Lib.hid (by simpa using hOl.out), ql, ?_, HR, bs⟩, by simp [intOf] <;> omega⟩
          intro j hj
          rw [Num.getD_set_ne (by omega)]
          exact hO0 j (by omega)
        · have e4 : IntKind.u64.wrap ((x : Int) - (y1 : Int)) = ((18446744073709551616 - (y1 - x) : Nat) : Int) := by
            simp only [IntKind.wrap, IntKind.bits, IntKind.signed]
            simp
            unfold BB at *
            omega
          have hr1 : BB + x - y1 < BB := by omega
          have HR := Lib.hid (HS.out (BB + x - y1) 1 (by omega))
          have e6 : ((18446744073709551616 - (y1 - x) : Nat) : Int) % 4294967296 = ((BB + x - y1 : Nat) : Int) := by unfold BB at *; omega
          have e5 : ((18446744073709551616 - (y1 - x) : Nat) : Int) / 4294967296 = 4294967295 := by unfold BB at *; omega
          have hDD : 18446744073709551616 - (y1 - x) < 18446744073709551616 := by omega
          generalize 18446744073709551616 - (y1 - x) = D at e4 e5 e6 hDD
          generalize BB + x - y1 = r at *
          have b0 : bits .and .u64 4294967295 1 = 1 := by rfl
          have qb := hO.set i r
          have ql := limbs_set hOL (k := i) hr1
          have bs := bset hB (p := ⟨w0.heap.size, i, none⟩) (Nat.le_refl _) (.int .u32 (r : Int))
          clear hol hDD
          go_wp2
          refine ⟨⟨i + 1, 1, O.set i r, by omega, by go_num, rfl, by omega, qb, Lib.hid (by simpa using hOl.out), ql, ?_, HR, bs⟩, by simp [intOf] <;> omega⟩
          intro j hj
          rw [Num.getD_set_ne (by omega)]
          exact hO0 j (by omega)
    · obtain rfl : i = l.length := by omega
      have hlt2 := val_lt hOL
      rw [hol] at hlt2
      have HV := Lib.hid (show val O = val l - val m by have := sub_end ha0.2.2.1 HLE.out hV.out hlt2; omega)
      have hu := hO.u32 hOL (by rw [hol]; unfold maxLen; omega)
      have tc := trim_c _ _ _ _ hu
      have HT := Lib.hid (val_trim O)
      have HN := trim_nrm O
      have hu2 := hu.trim
      generalize trimL O = T at *
      rw [hol] at tc
      clear hV hOl hu hol hlt2
      have hB2 := bthen HB0.out hB
      go_wp2_with fail
      refine tc.mono ?_
      rintro e w1 ⟨rfl, rfl⟩
      clear tc
      go_wp2
      go_ret2
      exact ⟨⟨_, rfl, _, _, T, rfl, rfl, hu2, HN, by rw [HT.out, HV.out]⟩, hB2⟩
end Go.Proofs.YtannhpadoooedaaGreatDoor

/- limb: DivSmall. -/
namespace Go.Proofs.YtannhpadoooedaaGreatDoor
open Num
open Go.ChangeShapes Go.WideShapes Go.ChangeAt Go.RowKit
set_option linter.unusedVariables false
set_option linter.unusedSimpArgs false
namespace Num
theorem hi_or {r x : Nat} (hr : r < BB) (hx : x < BB) : bits .or .u64 ((r * BB : Nat) : Int) (x : Int) = ((r * BB + x : Nat) : Int) := by
  have hx' : x < 2 ^ 32 := hx
  have e : r * BB = 2 ^ 32 * r := by rw [Nat.mul_comm]; rfl
  have hb : r * BB < 18446744073709551616 := by
    have : r * BB ≤ (BB - 1) * BB := Nat.mul_le_mul_right _ (by omega)
    have e2 : (BB - 1) * BB = 18446744069414584320 := by unfold BB; rfl
    omega
  rw [u64_or_nat _ _ hb (by unfold BB at hx; omega), e, ← Nat.two_pow_add_eq_or_of_lt hx']
end Num

set_option maxRecDepth 100000 in
set_option maxHeartbeats 4000000 in
theorem divSmallF_c (a : Option Addr) (ca : Nat) (l : List Nat) (c : Nat) (w : World) (ha : U32 w a ca l) (h1 : l.length ≤ 1099511627776) (hc : 0 < c) (hcB : c < BB) :
    Calls Tryz.prog 178 #[.slice a l.length ca, .int .u32 (c : Int)] w fun e w' => (∃ u, e = .returned (.tuple #[u, .int .u32 ((val l % c : Nat) : Int), .int .i64 0]) ∧ NewL w' u (val l / c) ∧ ∀ g f n k, u = .slice (some ⟨g, f, none⟩) n k → w.heap.size ≤ g) ∧ Below w.heap.size w w' := by
  have hmk := mk32 l.length (by omega)
  have hcz : ((c : Int) == 0) = false := by simp; omega
  have ecw := w64 (BB_sq c hcB)
  go_enter Tryz.func178, Tryz.ntmps178
  go_wp2
  clear hmk hcz
  go_loopw [8, 9] (fun rv x wr => ∃ (k r : Nat) (O : List Nat), k ≤ l.length ∧ x = .int .i64 ((k : Int) - 1) ∧ rv = .int .u64 r ∧ r < c ∧ Blk wr w.heap.size O ∧ Hid (O.length = l.length) ∧ Limbs O ∧ (∀ j, j < k → O.getD j 0 = 0) ∧ Hid (val O * c + r * BB ^ k + val (l.take k) = val l) ∧ Below w.heap.size w wr) (fun _ x _ => (intOf x + 1).toNat)
  case atStart => exact ⟨l.length, 0, List.replicate l.length 0, by omega, rfl, rfl, hc, blk_new w _, Lib.hid (by simp), (fun y hy => by simp at hy; rw [hy.2]; exact BB_pos), (fun j hj => by simp [List.getElem?_replicate]; split <;> rfl), Lib.hid (by simp [val_zeros]), bal (Below.refl _ _) _⟩
  case round =>
    obtain ⟨k, r, O, hk, rfl, rfl, hr, hO, hOl, hOL, hO0, hV, hB⟩ := hrel
    have hol := hOl.out
    cases k with
    | zero =>
      have HV := Lib.hid (show val O * c + r = val l by have := hV.out; simpa [val] using this)
      have HD := Lib.hid (show val O = val l / c by rw [← HV.out, Nat.mul_comm, Nat.mul_add_div hc, Nat.div_eq_of_lt hr, Nat.add_zero])
      have HM := Lib.hid (show r = val l % c by rw [← HV.out, Nat.mul_comm, Nat.mul_add_mod, Nat.mod_eq_of_lt hr])
      have hu := hO.u32 hOL (by rw [hol]; unfold maxLen; omega)
      have tc := trim_c _ _ _ _ hu
      have HT := Lib.hid (val_trim O)
      have HN := trim_nrm O
      have hu2 := hu.trim
      generalize trimL O = T at *
      rw [hol] at tc
      have er : (r : Int) % 4294967296 = (r : Int) := by unfold BB at hcB; omega
      clear hV hOl hu hol HV
      go_wp2_with fail
      refine tc.mono ?_
      rintro e w1 ⟨rfl, rfl⟩
      clear tc
      go_wp2
      go_ret3
      exact ⟨⟨_, by rw [← HM.out]; rfl, ⟨_, _, T, rfl, rfl, hu2, HN, by rw [HT.out, HD.out]⟩, fun g f n k h => by cases h; exact Nat.le_refl _⟩, hB⟩
    | succ j =>
      rcases ha.2.2.2 with hl0 | ⟨ba, oa, rfl, hca⟩
      · subst hl0; simp at hk
      have c0 := bkeep hB (hca j (by omega))
      have hx := limb_get ha.2.2.1 j
      have q0 := hO.cell j (by omega)
      have qf := hO.frozen j
      have hrB : r < BB := by omega
      have HS := Lib.hid (div_step (O := O) (A := l) (j := j) (c := c) (rest := r) (by omega) (hO0 j (by omega)) (by omega) hV.out)
      generalize l.getD j 0 = x at *
      generalize O.getD j 0 = o at *
      have e1 := w64 (BB_sq x hx)
      have e2 : bits .or .u64 ((r : Int) * 4294967296) (x : Int) = ((r * BB + x : Nat) : Int) := by rw [← hi_or hrB hx, Int.natCast_mul]; rfl
      have hq := div_lt hr hx
      have hm := Nat.mod_lt (r * BB + x) hc
      have hrl : (r : Int) < 4294967296 := by unfold BB at hrB; omega
      generalize r * BB + x = t at *
      have e3 : (t : Int).tdiv (c : Int) = ((t / c : Nat) : Int) := rfl
      have e4 : (t : Int).tmod (c : Int) = ((t % c : Nat) : Int) := rfl
      have hqr : val (O.set j (t / c)) * c + t % c * BB ^ j + val (l.take j) = val l := HS.out
      have HQR := Lib.hid hqr
      clear hqr HS
      generalize t / c = q at *
      generalize t % c = r2 at *
      have e5 := w64 (BB_sq q hq)
      have e6 : (q : Int) % 4294967296 = (q : Int) := by unfold BB at hq; omega
      have qb := hO.set j q
      have ql := limbs_set hOL (k := j) hq
      have bs := bset hB (p := ⟨w.heap.size, j, none⟩) (Nat.le_refl _) (.int .u32 (q : Int))
      clear hol
      go_wp2
      refine ⟨⟨j, r2, O.set j q, by omega, by go_num, rfl, hm, qb, Lib.hid (by simpa using hOl.out), ql, ?_, HQR, bs⟩, by simp [intOf] <;> omega⟩
      intro i hi
      rw [Num.getD_set_ne (by omega)]
      exact hO0 i (by omega)
theorem divSmall_c (a : Option Addr) (ca : Nat) (l : List Nat) (c : Nat) (w : World) (ha : U32 w a ca l) (h1 : l.length ≤ 1099511627776) (hc : 0 < c) (hcB : c < BB) :
    Calls Tryz.prog 178 #[.slice a l.length ca, .int .u32 (c : Int)] w fun e w' => (∃ u, e = .returned (.tuple #[u, .int .u32 ((val l % c : Nat) : Int), .int .i64 0]) ∧ NewL w' u (val l / c)) ∧ Below w.heap.size w w' :=
  (divSmallF_c a ca l c w ha h1 hc hcB).mono fun e w' ⟨⟨u, he, hn, _⟩, hb⟩ => ⟨⟨u, he, hn⟩, hb⟩
end Go.Proofs.YtannhpadoooedaaGreatDoor

/- limb: Shl, Shr. -/
namespace Go.Proofs.YtannhpadoooedaaGreatDoor
open Num
open Go.ChangeShapes Go.WideShapes Go.ChangeAt Go.RowKit
set_option linter.unusedVariables false
set_option linter.unusedSimpArgs false

namespace Num
theorem repl_getD (n j : Nat) : (List.replicate n 0).getD j 0 = 0 := by
  simp [List.getD_eq_getElem?_getD, List.getElem?_replicate]; split <;> rfl
theorem pow31 {k : Nat} (h : k < 32) : 2 ^ k ≤ 2147483648 := Nat.pow_le_pow_right (n := 2) (by omega) (show k ≤ 31 by omega)
theorem shl_lt {x k : Nat} (hx : x < BB) (h : k < 32) : x * 2 ^ k < BB * BB := by
  have h1 := pow31 h
  have h2 : x * 2 ^ k ≤ x * 2147483648 := Nat.mul_le_mul_left _ h1
  unfold BB at *
  omega
theorem getD_set_eq {l : List Nat} {i x : Nat} (h : i < l.length) : (l.set i x).getD i 0 = x := by
  simp [List.getD_eq_getElem?_getD, h]
end Num

set_option maxRecDepth 100000 in
set_option maxHeartbeats 4000000 in
theorem limbShl_c (a : Option Addr) (ca : Nat) (l : List Nat) (n : Nat) (w : World) (ha : U32 w a ca l) (h1 : l.length ≤ 1099511627776) (hn : n ≤ 65536) :
    Calls Tryz.prog 167 #[.slice a l.length ca, .int .i64 (n : Int)] w fun e w' => (∃ u, e = .returned (.tuple #[u, .int .i64 0]) ∧ NewL w' u (val l * 2 ^ n)) ∧ Below w.heap.size w w' := by
  obtain ⟨m, hm⟩ : ∃ m, m = n / 32 := ⟨_, rfl⟩
  obtain ⟨k, hk⟩ : ∃ k, k = n % 32 := ⟨_, rfl⟩
  have en1 : (n : Int) / 32 = (m : Int) := by omega
  have en2 : (n : Int) % 32 = (k : Int) := by omega
  have en3 : (n : Int).tdiv 32 = (m : Int) := by rw [Int.tdiv_eq_ediv_of_nonneg (by omega)]; exact en1
  have en4 : (n : Int).tmod 32 = (k : Int) := by rw [Int.tmod_eq_emod_of_nonneg (by omega)]; exact en2
  have hk32 : k < 32 := by omega
  have hm2 : m ≤ 2048 := by omega
  have HN := Lib.hid (show 2 ^ n = 2 ^ k * BB ^ m by rw [BB_pow, ← Nat.pow_add]; congr 1; omega)
  have hmk := mk32 (l.length + m + 1) (by omega)
  have ec : ((l.length + m + 1 : Nat) : Int) = (l.length : Int) + (m : Int) + 1 := by omega
  rw [ec] at hmk
  clear ec hm hk
  go_enter Tryz.func167, Tryz.ntmps167
  go_wp2
  clear hmk
  go_loopw [26] (fun x wr => ∃ (i : Nat) (O : List Nat), i ≤ l.length ∧ x = .int .i64 i ∧ Blk wr w.heap.size O ∧ Hid (O.length = l.length + m + 1) ∧ Limbs O ∧ (∀ j, i + m < j → O.getD j 0 = 0) ∧ O.getD (i + m) 0 < 2 ^ k ∧ Hid (val O = val (l.take i) * (2 ^ k * BB ^ m)) ∧ Below w.heap.size w wr) (fun x _ => l.length - (intOf x).toNat)
  case atStart => exact ⟨0, List.replicate (l.length + m + 1) 0, by omega, rfl, blk_new w _, Lib.hid (by simp), (fun y hy => by simp at hy; rw [hy]; exact BB_pos), (fun j hj => by simp [List.getElem?_replicate]; split <;> rfl), by rw [repl_getD]; exact Nat.pow_pos (by omega), Lib.hid (by simp [val, val_zeros]), bal (Below.refl _ _) _⟩
  case round =>
    obtain ⟨i, O, hi, rfl, hO, hOl, hOL, hO0, hOk, hV, hB⟩ := hrel
    have hol := hOl.out
    by_cases hlt : i < l.length
    · rcases ha.2.2.2 with hl0 | ⟨ba, oa, rfl, hca⟩
      · subst hl0; simp at hlt
      have c0 := bkeep hB (hca i hlt)
      have hx := limb_get ha.2.2.1 i
      obtain ⟨x, hxe⟩ : ∃ x, x = l.getD i 0 := ⟨_, rfl⟩
      rw [← hxe] at c0 hx
      have e1 := w64 (BB_sq x hx)
      have e2 : IntKind.u64.wrap ((x : Int) * 2 ^ k) = ((x * 2 ^ k : Nat) : Int) := by rw [show (x : Int) * 2 ^ k = ((x * 2 ^ k : Nat) : Int) by rw [Int.natCast_mul, Int.natCast_pow]; rfl]; exact w64 (shl_lt hx hk32)
      have q0 := hO.cell (i + m) (by omega)
      have qf := hO.frozen (i + m)
      have q1 := hO.cell (i + m + 1) (by omega)
      have qg := hO.frozen (i + m + 1)
      rw [hO0 (i + m + 1) (by omega)] at q1
      have HS := Lib.hid (shl_step (O := O) (A := l) (i := i) (m := m) (p := 2 ^ k) (x := x) (by omega) (hO0 (i + m + 1) (by omega)) hlt hxe hV.out)
      have hlo := or_low (x := x) (k := k) (o := O.getD (i + m) 0) hOk (by omega)
      have hlb := shl_lo (x := x) (k := k) (o := O.getD (i + m) 0) hOk (by omega)
      have hhi := shl_hi (k := k) hx
      have hob := limb_get hOL (i + m)
      have hp := pow31 hk32
      generalize O.getD (i + m) 0 = o at *
      generalize hy : x * 2 ^ k = y at *
      obtain ⟨lo, hlo1⟩ : ∃ lo, lo = y % BB := ⟨_, rfl⟩
      obtain ⟨hi2, hhi1⟩ : ∃ hi2, hi2 = y / BB := ⟨_, rfl⟩
      rw [← hlo1] at HS hlo hlb
      rw [← hhi1] at HS hhi
      have elo : (y : Int) % 4294967296 = (lo : Int) := by unfold BB at hlo1; omega
      have ehi : (y : Int) / 4294967296 = (hi2 : Int) := by unfold BB at hhi1; omega
      have hloB : lo < BB := by rw [hlo1]; exact Nat.mod_lt _ BB_pos
      have eor : bits .or .u32 (o : Int) (lo : Int) = ((o + lo : Nat) : Int) := by rw [u32_or_nat _ _ hob hloB, Nat.or_comm, hlo]
      have hhB : hi2 < BB := by unfold BB; omega
      have ehm : (hi2 : Int) % 4294967296 = (hi2 : Int) := by unfold BB at hhB; omega
      have eor2 : bits .or .u32 0 (hi2 : Int) = (hi2 : Int) := by
        have := u32_or_nat 0 hi2 (by omega) hhB
        simpa using this
      have hHI := hhi
      have HP := Lib.hid hhi
      clear hlo hhi hlo1 hhi1 hy hp hob hHI hOk hxe
      generalize hol2 : o + lo = s1 at *
      clear hol2
      have qb := (hO.set (i + m) s1).set (i + m + 1) hi2
      have ql := limbs_set (limbs_set hOL (k := i + m) hlb) (k := i + m + 1) hhB
      have bs := bset (bset hB (p := ⟨w.heap.size, i + m, none⟩) (Nat.le_refl _) (.int .u32 (s1 : Int))) (p := ⟨w.heap.size, i + m + 1, none⟩) (Nat.le_refl _) (.int .u32 (hi2 : Int))
      have hlt2 : (i : Int) + (m : Int) < (l.length : Int) + (m : Int) + 1 := by omega
      have hlt3 : (i : Int) + (m : Int) + 1 < (l.length : Int) + (m : Int) + 1 := by omega
      have HOL := Lib.hid hol
      clear hol
      go_wp2
      refine ⟨⟨i + 1, _, by omega, by go_num, qb, Lib.hid (by simpa using hOl.out), ql, ?_, ?_, HS, bs⟩, by simp [intOf] <;> omega⟩
      · intro j hj
        rw [Num.getD_set_ne (by omega), Num.getD_set_ne (by omega)]
        exact hO0 j (by omega)
      · rw [show i + 1 + m = i + m + 1 from by omega, Num.getD_set_eq (by have := HOL.out; simp; omega)]
        exact HP.out
    · obtain rfl : i = l.length := by omega
      have HV := Lib.hid (show val O = val l * 2 ^ n by rw [hV.out, List.take_length, HN.out])
      have hu := hO.u32 hOL (by rw [hol]; unfold maxLen; omega)
      have tc := trim_c _ _ _ _ hu
      have HT := Lib.hid (val_trim O)
      have HNr := trim_nrm O
      have hu2 := hu.trim
      generalize trimL O = T at *
      rw [hol] at tc
      clear hV hOl hu hol hOk
      go_wp2_with fail
      refine tc.mono ?_
      rintro e w1 ⟨rfl, rfl⟩
      clear tc
      go_wp2
      go_ret2
      exact ⟨⟨_, rfl, _, _, T, rfl, rfl, hu2, HNr, by rw [HT.out, HV.out]⟩, hB⟩
end Go.Proofs.YtannhpadoooedaaGreatDoor

/- slices.Clone at []integer.Int and at [][]integer.Int. -/
namespace Go.Proofs.YtannhpadoooedaaGreatDoor
open Num
open Go.ChangeShapes Go.WideShapes Go.ChangeAt Go.RowKit
set_option linter.unusedVariables false
set_option linter.unusedSimpArgs false
/-- what lies in a block from off on -/
def cellsAt (w : World) (b off m : Nat) : List Value := (List.range m).map fun j => (w.cell? ⟨b, off + j, none⟩).getD .nilFunc
theorem cellsAt_len (w : World) (b off m : Nat) : (cellsAt w b off m).length = m := by simp [cellsAt]
theorem cellsAt_get {w : World} {b off m j : Nat} {v : Value} (h : j < m) (hv : w.cell? ⟨b, off + j, none⟩ = some v) : (cellsAt w b off m)[j]? = some v := by simp [cellsAt, h, hv]
theorem cellsAt_lt {w : World} {b off m j : Nat} {v : Value} (h : (cellsAt w b off m)[j]? = some v) : j < m := by
  have := (List.getElem?_eq_some_iff.1 h).1
  rwa [cellsAt_len] at this
theorem cellsAt_at {w W : World} (hW : Below w.heap.size w W) {b off m : Nat} (hc : ∀ j, j < m → ∃ v, w.cell? ⟨b, off + j, none⟩ = some v) : ∀ j u, (cellsAt w b off m)[j]? = some u → W.cell? ((⟨b, off, none⟩ : Addr).add j) = some u := by
  intro j u hj
  have hl := cellsAt_lt hj
  obtain ⟨v, hv⟩ := hc j hl
  rw [cellsAt_get hl hv] at hj
  cases hj
  have := bkeep hW hv
  unfold Addr.add
  split
  · subst_vars; simpa using this
  · exact this
theorem cellsAt_all {w : World} {b off m : Nat} {p : Value → Prop} (hc : ∀ j, j < m → ∃ v, w.cell? ⟨b, off + j, none⟩ = some v ∧ p v) : ∀ u ∈ cellsAt w b off m, p u := by
  intro u hu
  obtain ⟨j, hj⟩ := List.mem_iff_getElem?.1 hu
  have hl := cellsAt_lt hj
  obtain ⟨v, hv, hp⟩ := hc j hl
  rw [cellsAt_get hl hv] at hj
  cases hj; exact hp
theorem intsF_cells {R : World → Value → Int → Prop} {w : World} {b off n : Nat} {f : Nat → Int} (h : IntsF R w b off n f) : ∀ j, j < n * 2 → ∃ v, w.cell? ⟨b, off + j, none⟩ = some v ∧ v.oneCell' = true := by
  intro j hj
  obtain ⟨nb, a, len, c, h1, h2, _⟩ := h (j / 2) (by omega)
  by_cases e : j % 2 = 0
  · exact ⟨_, by rw [show off + j = off + j / 2 * 2 by omega]; exact h1, rfl⟩
  · exact ⟨_, by rw [show off + j = off + j / 2 * 2 + 1 by omega]; exact h2, rfl⟩
end Go.Proofs.YtannhpadoooedaaGreatDoor

