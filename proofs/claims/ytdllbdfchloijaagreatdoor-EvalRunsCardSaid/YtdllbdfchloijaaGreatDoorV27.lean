/- Texts of this seat, laid together: MxI, MxJ, MxK, MxL, MxM, MxN, MxO, MwA, MwB, MwC, MwJ, MwK. Each opens with its own remark, which says what it proves, and under which conditions. -/
import Derived.Test.YtdllbdfchloijaaGreatDoorV24
import Derived.Test.YtdllbdfchloijaaGreatDoorV04
import Derived.Deep.DeepFit
import Derived.Deep.DeepCutAuto
import Derived.Lib.AppendZeros
import Derived.Test.YtdllbdfchloijaaGreatDoorV21
import Derived.Test.YtdllbdfchloijaaGreatDoorV05
import Derived.Test.YtdllbdfchloijaaGreatDoorV22
import Derived.Test.YtdllbdfchloijaaGreatDoorV15
set_option linter.unusedVariables false
set_option linter.unusedSimpArgs false
/- matrix: eliminated. -/
namespace Go.Proofs.YtdllbdfchloijaaGreatDoor
open Num
open Go.ChangeShapes Go.WideShapes Go.ChangeAt Go.RowKit
set_option linter.unusedVariables false
set_option linter.unusedSimpArgs false
attribute [local go_sem ↓] Go.wp_at_zero Go.wp_at_succ
theorem VarI.out {X : Nat → Prop} {ub : Nat} {m : Int} {w w' : World} (h : VarI ub m w) (ho : Out X w w') (hx : ¬ X ub) (hl : Lim w w') : VarI ub m w' := by
  obtain ⟨ht, n, a, ln, c, h0, h1, f0, f1, hi⟩ := h
  exact ⟨by rw [typ_of_block (w := w) (ho.block ub (typ_lt ht) hx)]; exact ht, n, a, ln, c, okeep ho h0 hx, okeep ho h1 hx, okeepf ho h0 f0 hx, okeepf ho h1 f1 hx, hi.lim hl⟩
/-- a machine of elimination -/
structure ElS (w : World) (lb base top B n m : Nat) (wr : World) (pv : Value) (s : Det.El) : Prop where
  bel : Below w.heap.size w wr
  r : wr.cell? ⟨w.heap.size, 0, none⟩ = some (.bool false) ∧ wr.cell? ⟨w.heap.size, 1, none⟩ = some (.slice none 0 0) ∧ wr.frozen? ⟨w.heap.size, 0, none⟩ = false ∧ wr.frozen? ⟨w.heap.size, 1, none⟩ = false
  rt : typOf wr w.heap.size = some 50
  rows : 0 < n → ∃ bs, RowsW base top B n m wr bs s.g
  last : VarI lb s.last wr
  piv : OwnL 3 PInt w wr pv s.p
theorem ElS.keep {w : World} {lb base top B n m : Nat} {wr w' : World} {pv : Value} {s : Det.El} (h : ElS w lb base top B n m wr pv s) (k : Below wr.heap.size wr w') : ElS w lb base top B n m w' pv s := by
  exact ⟨bthen h.bel k, ⟨bkeep k h.r.1, bkeep k h.r.2.1, bkeepf k h.r.1 h.r.2.2.1, bkeepf k h.r.2.1 h.r.2.2.2⟩, typ_keep h.rt k, fun h0 => by obtain ⟨bs, hb⟩ := h.rows h0; exact ⟨bs, hb.keep k⟩, h.last.keep k, h.piv.below prs_pint k⟩
section
variable {w : World} {lb base top B n m : Nat} {wr w' w7 : World} {pv : Value} {s : Det.El}
theorem ElS.swap (h : ElS w lb base top B n m wr pv s) {bs : Nat → Nat} (hr : RowsW base top B n m wr bs s.g) (hwb : w.heap.size < base) (htl : top ≤ lb) {i k : Nat} (hi : i < n) (hk : k < n) {ci ck : Nat} (hci : wr.cell? ⟨B, i, none⟩ = some (.slice (some ⟨bs i, 0, none⟩) m ci)) (hck : wr.cell? ⟨B, k, none⟩ = some (.slice (some ⟨bs k, 0, none⟩) m ck)) :
    ElS w lb base top B n m ((wr.setCell ⟨B, i, none⟩ (.slice (some ⟨bs k, 0, none⟩) m ck)).setCell ⟨B, k, none⟩ (.slice (some ⟨bs i, 0, none⟩) m ci)) pv ⟨Det.swp s.g i k, s.p, s.last, s.sign⟩ := by
  have h1 := hr.lo
  have h2 := hr.hi
  have ho : Out (fun q => q = B) wr ((wr.setCell ⟨B, i, none⟩ (.slice (some ⟨bs k, 0, none⟩) m ck)).setCell ⟨B, k, none⟩ (.slice (some ⟨bs i, 0, none⟩) m ci)) := ((Out.refl (fun q => q = B) wr).set (p := ⟨B, i, none⟩) (fun _ => show B = B from rfl) _).set (p := ⟨B, k, none⟩) (fun _ => show B = B from rfl) _
  have hk0 : Kp (fun t => t ≠ 43) wr ((wr.setCell ⟨B, i, none⟩ (.slice (some ⟨bs k, 0, none⟩) m ck)).setCell ⟨B, k, none⟩ (.slice (some ⟨bs i, 0, none⟩) m ci)) := Kp.out ho (fun q t hq ht => by subst hq; rw [hr.tB] at ht; cases ht; exact fun hh => hh rfl)
  have hne : ¬ w.heap.size = B := by omega
  exact ⟨bset (bset h.bel (by show w.heap.size ≤ B; omega) _) (by show w.heap.size ≤ B; omega) _, ⟨okeep ho h.r.1 hne, okeep ho h.r.2.1 hne, okeepf ho h.r.1 h.r.2.2.1 hne, okeepf ho h.r.2.1 h.r.2.2.2 hne⟩, by rw [typ_set, typ_set]; exact h.rt, fun _ => ⟨_, hr.swap hi hk hci hck⟩, h.last.out ho (show ¬ lb = B by omega) (hk0.lim (by decide)), h.piv.kp prs_pint hk0 (fun _ hf => hf.elim) (by decide) (bset (bset h.bel (by show w.heap.size ≤ B; omega) _) (by show w.heap.size ≤ B; omega) _)⟩
theorem RowsW.kp {bs : Nat → Nat} {g : Nat → Nat → Int} {S : TypeId → Prop} (h : RowsW base top B n m wr bs g) (k : Kp S wr w') (h1 : S 50) (h2 : S 43) (h3 : S 106) : RowsW base top B n m w' bs g := by
  have fr : ∀ q t, typOf wr q = some t → S t → Free wr q → Free w' q := fun q t ht hs hf => ⟨typ_lt (k.typ ht hs), fun j => by rw [World.frozen?_of_block (w := wr) (k _ _ ht hs)]; exact hf.2 j⟩
  refine ⟨k.typ h.tB h2, h.lo, h.hi, fr _ _ h.tB h2 h.fB, fun i hi => ?_, fun i hi => k.typ (h.ty i hi) h1, h.lob, h.hib, fun i hi => fr _ _ (h.ty i hi) h1 (h.fr i hi), h.inj, fun i hi => (h.num i hi).stay lims_int (k _ _ (h.ty i hi) h1) (k.lim h3)⟩
  obtain ⟨c, hc⟩ := h.cell i hi
  exact ⟨c, k.cell h.tB h2 hc⟩
theorem VarI.kp {S : TypeId → Prop} {ub : Nat} {z : Int} (h : VarI ub z wr) (k : Kp S wr w') (h1 : S 50) (h3 : S 106) : VarI ub z w' := by
  obtain ⟨ht, n, a, ln, c, h0, h1', f0, f1, hi⟩ := h
  exact ⟨k.typ ht h1, n, a, ln, c, k.cell ht h1 h0, k.cell ht h1 h1', k.frz ht h1 f0, k.frz ht h1 f1, hi.lim (k.lim h3)⟩
theorem ElS.congr (h : ElS w lb base top B n m wr pv s) {s' : Det.El} (hg : ∀ r c, r < n → c < m → s.g r c = s'.g r c) (hp : s.p = s'.p) (hl : s.last = s'.last) : ElS w lb base top B n m wr pv s' :=
  ⟨h.bel, h.r, h.rt, fun h0 => by obtain ⟨bs, hb⟩ := h.rows h0; exact ⟨bs, hb.congr hg⟩, hl ▸ h.last, hp ▸ h.piv⟩
end
theorem PRb.rebase {base base' : Nat} {w : World} {u : Value} {x : Nat × List Int} (h : PRb base w u x) (hb : base' ≤ base) : PRb base' w u x := by
  obtain ⟨c, e, h1, r⟩ := h; exact ⟨c, e, Nat.le_trans hb h1, r⟩
theorem meas {N c : Nat} (h : c < N) {a b : Value} (ha : a = .int .i64 ((c + 1 : Nat) : Int)) (hb : b = .int .i64 (c : Nat)) : N - (intOf a).toNat < N - (intOf b).toNat := by
  subst ha hb
  simp [intOf]
  omega
end Go.Proofs.YtdllbdfchloijaaGreatDoor

/- matrix: det, Det. -/
namespace Go.Proofs.YtdllbdfchloijaaGreatDoor
open Num
open Go.ChangeShapes Go.WideShapes Go.ChangeAt Go.RowKit
set_option linter.unusedVariables false
set_option linter.unusedSimpArgs false
attribute [local go_sem ↓] Go.wp_at_zero Go.wp_at_succ
end Go.Proofs.YtdllbdfchloijaaGreatDoor

/- slices.Grow, slices.Concat at rows of numbers. -/
namespace Go.Proofs.YtdllbdfchloijaaGreatDoor
open Num
open Go.ChangeShapes Go.WideShapes Go.ChangeAt Go.RowKit
set_option linter.unusedVariables false
set_option linter.unusedSimpArgs false
attribute [local go_sem ↓] Go.wp_at_zero Go.wp_at_succ
theorem app_lt2 {L l : List Int} {k : Nat} (h : k < L.length) : (L ++ l).getD k 0 = L.getD k 0 := by simp [List.getD_eq_getElem?_getD, List.getElem?_append, h]
theorem app_ge2 {L l : List Int} {k : Nat} (h : L.length ≤ k) : (L ++ l).getD k 0 = l.getD (k - L.length) 0 := by
  simp [List.getD_eq_getElem?_getD, List.getElem?_append_right h]
/-- a row is appended to a row of the call's own -/
theorem app_cat {ops : Array Oper} {rest : List Oper} {o : Oper} {a : Act} {Q : Exit → Act → World → Prop} {w0 wr : World} {v : Value} {L l : List Int} {b off c : Nat} {s x : Operand} (hgd : o.guard = none)
    (ho : o.op = .call { callee := .builtin .append, args := #[s, x], argTypes := #[43, 43] })
    (hO : OwnF IsInt 50 w0 wr v L.length (fun k => L.getD k 0)) (hl : IntsF IsInt wr b off l.length (fun k => l.getD k 0)) (hs : a.eval s = v) (hx : a.eval x = .slice (some ⟨b, off, none⟩) l.length c) (hn : L.length + l.length ≤ 1099511627776)
    (h : ∀ v' w', Hid (OwnF IsInt 50 w0 w' v' (L ++ l).length (fun k => (L ++ l).getD k 0)) → wpList Tryz.prog ops Q rest (a.put o.dst v') w') : wpList Tryz.prog ops Q (o :: rest) a wr := by
  obtain ⟨i0, z0, hi, hz0, hz1, hz2, hz3⟩ := elInt.info
  obtain ⟨xs, hO1, hO2⟩ := hO
  refine wpList_append_own _ hgd s x 43 ho w0.heap.size 50 i0 z0 2 32 Tryz.underlying43 hi hz0 hz1 hz2 hz3 (by decide) v L.length xs hs hO1.1 ⟨b, off, none⟩ l.length c (cellsAt wr b off (l.length * 2)) hx (cellsAt_len _ _ _ _)
    (cellsAt_at (Below.refl _ _) fun j hj => by obtain ⟨v, hv, _⟩ := intsF_cells hl j hj; exact ⟨v, hv⟩) (cellsAt_all (intsF_cells hl)) (by unfold maxLen; omega) (by omega) hO1.2.size ?_
  intro v' w' hown hg _
  have hbel := below_append (wr := wr) hO1.2 hO1.1 hg
  have hlim : Lim wr w' := (Lim.refl wr).grown hg fun g hg' ht => by
    rw [own_typ hO1 hg'] at ht
    exact absurd (Option.some.inj ht) (by decide)
  refine h v' w' (Lib.hid ⟨_, ⟨by rw [List.length_append]; exact hown, hbel⟩, fun k hk => ?_⟩)
  have hxl : xs.length = L.length * 2 := hO1.1.1
  rw [List.length_append] at hk
  by_cases e : k < L.length
  · obtain ⟨nb, ad, len, cp, k1, k2, k3⟩ := hO2 k e
    exact ⟨nb, ad, len, cp, by rw [List.getElem?_append_left (by omega)]; exact k1, by rw [List.getElem?_append_left (by omega)]; exact k2, by show IsInt _ _ ((L ++ l).getD k 0); rw [app_lt2 e]; exact lims_int _ _ _ _ k3 hlim⟩
  · obtain ⟨nb, ad, len, cp, k1, k2, k3⟩ := hl (k - L.length) (by omega)
    refine ⟨nb, ad, len, cp, ?_, ?_, by show IsInt _ _ ((L ++ l).getD k 0); rw [app_ge2 (by omega)]; exact lims_int _ _ _ _ k3 hlim⟩
    · rw [List.getElem?_append_right (by omega), hxl, show k * 2 - L.length * 2 = (k - L.length) * 2 by omega]; exact cellsAt_get (by omega) k1
    · rw [List.getElem?_append_right (by omega), hxl, show k * 2 + 1 - L.length * 2 = (k - L.length) * 2 + 1 by omega]; exact cellsAt_get (by omega) k2
end Go.Proofs.YtdllbdfchloijaaGreatDoor

/- matrix: Adjugate's function value. -/
namespace Go.Proofs.YtdllbdfchloijaaGreatDoor
open Num
open Go.ChangeShapes Go.WideShapes Go.ChangeAt Go.RowKit
set_option linter.unusedVariables false
set_option linter.unusedSimpArgs false
attribute [local go_sem ↓] Go.wp_at_zero Go.wp_at_succ
theorem IntsF.head {w : World} {b off n m : Nat} {l : List Int} (h : IntsF IsInt w b off n (fun k => l.getD k 0)) (hm : m ≤ n) : IntsF IsInt w b off m (fun k => (l.take m).getD k 0) := fun k hk => by
  obtain ⟨nb, a, len, c, k1, k2, k3⟩ := h k (by omega)
  refine ⟨nb, a, len, c, k1, k2, ?_⟩
  show IsInt _ _ ((l.take m).getD k 0)
  rw [List.getD_eq_getElem?_getD, List.getElem?_take_of_lt hk, ← List.getD_eq_getElem?_getD]; exact k3
end Go.Proofs.YtdllbdfchloijaaGreatDoor

/- matrix: Det, Adjugate; row: Content. -/
namespace Go.Proofs.YtdllbdfchloijaaGreatDoor
open Num
open Go.ChangeShapes Go.WideShapes Go.ChangeAt Go.RowKit
set_option linter.unusedVariables false
set_option linter.unusedSimpArgs false
attribute [local go_sem ↓] Go.wp_at_zero Go.wp_at_succ
end Go.Proofs.YtdllbdfchloijaaGreatDoor

/- matrix: Inverse's function value. -/
namespace Go.Proofs.YtdllbdfchloijaaGreatDoor
open Num
open Go.ChangeShapes Go.WideShapes Go.ChangeAt Go.RowKit
set_option linter.unusedVariables false
set_option linter.unusedSimpArgs false
attribute [local go_sem ↓] Go.wp_at_zero Go.wp_at_succ
theorem IsInt.al {w : World} {v : Value} {z : Int} (h : IsInt w v z) (o : Obj) : IsInt (w.alloc o) v z := h.keep (bal (Below.refl _ _) o)
end Go.Proofs.YtdllbdfchloijaaGreatDoor

/- matrix: Inverse. -/
namespace Go.Proofs.YtdllbdfchloijaaGreatDoor
open Num
open Go.ChangeShapes Go.WideShapes Go.ChangeAt Go.RowKit
set_option linter.unusedVariables false
set_option linter.unusedSimpArgs false
attribute [local go_sem ↓] Go.wp_at_zero Go.wp_at_succ
theorem IsM.rowAt {base : Nat} {w : World} {a : Option Addr} {n c : Nat} {g : Grid} (h : IsM base w (.agg #[.slice a n c]) g) {i : Nat} (hi : i < g.length) :
    ∃ gb go ra rc, a = some ⟨gb, go, none⟩ ∧ w.cell? ⟨gb, go + i, none⟩ = some (.slice ra (g.getD i []).length rc) ∧ PRow base w (.slice ra (g.getD i []).length rc) (g.getD i []) := by
  obtain ⟨a', c', e, hl⟩ := h
  cases e
  obtain ⟨c2, gb, go, ra, rc, e2, hu, hp⟩ := hl.row hi
  exact ⟨gb, go, ra, rc, (Value.slice.inj e2).1, hu, hp⟩
theorem prow_out {base : Nat} {w w' : World} {v : Value} {l : List Int} {X : Nat → Prop} (h : PRow base w v l) (ho : Out X w w') (hx : ∀ k, base ≤ k → ¬ X k) (hl : Lim w w') : PRow base w' v l := by
  obtain ⟨a, c, e, h1, h2, h3⟩ := h
  refine ⟨a, c, e, h1, h2, ?_⟩
  rcases h3 with h3 | ⟨b, off, e2, hb, ht, hi⟩
  · exact .inl h3
  · exact .inr ⟨b, off, e2, hb, by rw [typ_of_block (w := w) (ho.block b (typ_lt ht) (hx b hb))]; exact ht, hi.out lims_int ho (hx b hb) hl⟩
theorem IsM.out {base : Nat} {w w' : World} {v : Value} {g : Grid} {X : Nat → Prop} (h : IsM base w v g) (ho : Out X w w') (hx : ∀ k, base ≤ k → ¬ X k) (hl : Lim w w') : IsM base w' v g := by
  obtain ⟨a, c, e, a', c', e2, h1, h2, h3⟩ := h
  refine ⟨a, c, e, a', c', e2, h1, h2, ?_⟩
  rcases h3 with h3 | ⟨b, off, e2, hb, ht, hi⟩
  · exact .inl h3
  · refine .inr ⟨b, off, e2, hb, by rw [typ_of_block (w := w) (ho.block b (typ_lt ht) (hx b hb))]; exact ht, fun k hk => ?_⟩
    obtain ⟨u, hu, hp⟩ := hi k hk
    exact ⟨u, okeep ho hu (hx b hb), prow_out hp ho hx hl⟩
/-- what Inverse holds -/
structure InvB (w w1 : World) (ag : Option Addr) (N cg : Nat) (bv : Value) (db gb : Nat) (d S : Int) (W : World) : Prop where
  g : VarI gb S W
  dd : VarI db d W
  m0 : W.cell? ⟨w.heap.size, 0, none⟩ = some (.slice ag N cg)
  r0 : W.cell? ⟨w.heap.size + 1, 0, none⟩ = some (.slice none 0 0)
  r0f : W.frozen? ⟨w.heap.size + 1, 0, none⟩ = false
  s0 : W.cell? ⟨w.heap.size + 1 + 1, 0, none⟩ = some (.bool false)
  s1 : W.cell? ⟨w.heap.size + 1 + 1, 1, none⟩ = some (.slice none 0 0)
  s0f : W.frozen? ⟨w.heap.size + 1 + 1, 0, none⟩ = false
  s1f : W.frozen? ⟨w.heap.size + 1 + 1, 1, none⟩ = false
  b5 : W.cell? ⟨w1.heap.size, 0, none⟩ = some bv
  b1 : Below w1.heap.size w1 W
  bel : Below w.heap.size w W
section
variable {w w1 : World} {ag : Option Addr} {N cg : Nat} {bv : Value} {db gb : Nat} {d S : Int} {W W' : World}
theorem InvB.keep (h : InvB w w1 ag N cg bv db gb d S W) (k : Below W.heap.size W W') : InvB w w1 ag N cg bv db gb d S W' :=
  ⟨h.g.keep k, h.dd.keep k, bkeep k h.m0, bkeep k h.r0, bkeepf k h.r0 h.r0f, bkeep k h.s0, bkeep k h.s1, bkeepf k h.s0 h.s0f, bkeepf k h.s1 h.s1f, bkeep k h.b5, bthen h.b1 k, bthen h.bel k⟩
end
end Go.Proofs.YtdllbdfchloijaaGreatDoor

/- matrix's laws: list; Pivots as a value; works answers true. -/
namespace Go.Proofs.YtdllbdfchloijaaGreatDoor
open Num
open Go.ChangeShapes Go.WideShapes Go.ChangeAt Go.RowKit
set_option linter.unusedVariables false
set_option linter.unusedSimpArgs false
attribute [local go_sem ↓] Go.wp_at_zero Go.wp_at_succ
end Go.Proofs.YtdllbdfchloijaaGreatDoor

/- matrix's laws: works answers true. -/
namespace Go.Proofs.YtdllbdfchloijaaGreatDoor
open Num
open Go.ChangeShapes Go.WideShapes Go.ChangeAt Go.RowKit
set_option linter.unusedVariables false
set_option linter.unusedSimpArgs false
attribute [local go_sem ↓] Go.wp_at_zero Go.wp_at_succ
end Go.Proofs.YtdllbdfchloijaaGreatDoor

/- matrix's laws: same, line, is, comes; the matrix's Row; the reference's Cols. -/
namespace Go.Proofs.YtdllbdfchloijaaGreatDoor
open Num
open Go.ChangeShapes Go.WideShapes Go.ChangeAt Go.RowKit
set_option linter.unusedVariables false
set_option linter.unusedSimpArgs false
attribute [local go_sem ↓] Go.wp_at_zero Go.wp_at_succ
end Go.Proofs.YtdllbdfchloijaaGreatDoor

/- matrix: Apply. -/
namespace Go.Proofs.YtdllbdfchloijaaGreatDoor
open Num
open Go.ChangeShapes Go.WideShapes Go.ChangeAt Go.RowKit
set_option linter.unusedVariables false
set_option linter.unusedSimpArgs false
attribute [local go_sem ↓] Go.wp_at_zero Go.wp_at_succ
/-- what a matrix turns numbers into -/
def applyG (g : Grid) (l : List Int) : List Int := g.map fun r => dotL r l
/-- what Apply answers -/
def AppPost (g : Grid) (l : List Int) (w : World) (e : Ending) (w' : World) : Prop :=
  ((cols g ≠ 0 ∧ l.length = cols g ∧ ∃ v, e = .returned (.tuple #[v, .int .i64 0]) ∧ RowO IsInt 50 w.heap.size w' v (applyG g l)) ∨ (¬ (cols g ≠ 0 ∧ l.length = cols g) ∧ e = .returned (.tuple #[.slice none 0 0, .int .i64 5]))) ∧ Below w.heap.size w w'
theorem app_get {g : Grid} {l : List Int} {i : Nat} (h : i < g.length) : (applyG g l).getD i 0 = dotL (g.getD i []) l := by simp [applyG, h]
set_option maxRecDepth 100000 in
set_option maxHeartbeats 8000000 in
theorem applyM_c (vm vl : Value) (g : Grid) (l : List Int) (k m : Nat) (w : World) (hm : IsM 0 w vm g) (hv : PRow 0 w vl l) (rg : Rct g (cols g)) (hn : g.length ≤ 65536) (hc : cols g ≤ 65536) (hl : l.length ≤ 1099511627775) (bg : BdM k g) (bl : ∀ j, Bd m (l.getD j 0)) (hk : k + m + cols g ≤ 17179869184) :
    Calls Tryz.prog 32 #[vm, vl] w (AppPost g l w) := by
  have HM := Lib.hid hm
  have HV := Lib.hid hv
  have HRG := Lib.hid rg
  have HBD := Lib.hid (And.intro bg bl)
  obtain ⟨a, c, rfl, -⟩ := hm
  obtain ⟨la, lc, rfl, -⟩ := hv
  have COC := Lib.hid (fun V (q : Below w.heap.size w V) => (show Calls Tryz.prog 70 #[.agg #[.slice a g.length c]] V fun e w' => e = .returned (.int .i64 (cols g : Nat)) ∧ Below V.heap.size V w' from by
    obtain ⟨a', c', e, hl⟩ := HM.out.keep q
    cases e
    exact colsM_c _ _ g V hl))
  have hzg : g.length = 0 → cols g = 0 := fun h => by rw [List.length_eq_zero_iff.1 h]; rfl
  have HZG := Lib.hid hzg
  have HAP := Lib.hid (fun i (h : i < g.length) => app_get (l := l) h)
  have HAL := Lib.hid (show (applyG g l).length = g.length by simp [applyG])
  unfold AppPost
  obtain ⟨n, hnE⟩ : ∃ n, g.length = n := ⟨_, rfl⟩
  have HN := Lib.hid hnE
  obtain ⟨cc, hcE⟩ : ∃ n, cols g = n := ⟨_, rfl⟩
  rw [hnE] at COC hn HZG
  rw [hcE] at COC hc hk HRG HZG
  have HCC := Lib.hid hcE
  rw [hnE]
  clear rg bg bl hnE hcE hzg
  have hB := Below.refl w.heap.size w
  by_cases h0 : cc = 0
  · have hI : ((cc : Int) == 0) = true := by simp [h0]
    have HNO := Lib.hid (show ¬ (cols g ≠ 0 ∧ l.length = cols g) from fun h => h.1 (by rw [HCC.out]; exact h0))
    clear h0
    go_enter Tryz.func32, Tryz.ntmps32
    go_wp2_with fail
    (with_reducible refine (COC.out _ ?_).mono ?_); (repeat (first | exact Below.refl _ _ | exact hB | refine Below.drew ?_ | refine below_drewN ?_ _ | refine bset ?_ (by simp <;> omega) _ | refine bal ?_ _))
    rintro e w1 ⟨rfl, hb1⟩
    have hB1 : Below w.heap.size w w1 := bthen (by repeat (first | exact Below.refl _ _ | exact hB | refine Below.drew ?_ | refine below_drewN ?_ _ | refine bset ?_ (by simp <;> omega) _ | refine bal ?_ _)) hb1
    clear COC
    go_wp2
    refine bodyPost_ret (v := .tuple #[.slice none 0 0, .int .i64 5]) (by simp [results, Tryz.results32, go_sem, *]) rfl ⟨.inr ⟨HNO.out, rfl⟩, hB1⟩
  · have hI : ((cc : Int) == 0) = false := by simp; omega
    by_cases hlc : l.length = cc
    · have HYES := Lib.hid (show cols g ≠ 0 ∧ l.length = cols g from by rw [HCC.out]; exact ⟨h0, hlc⟩)
      have hI2 : ((l.length : Int) != (cc : Int)) = false := by simp [hlc]
      have HLC := Lib.hid hlc
      obtain ⟨ll, hll⟩ : ∃ x, l.length = x := ⟨_, rfl⟩
      rw [hll] at hI2 hl HLC
      have HLL := Lib.hid hll
      have hnp : 0 < n := Nat.pos_of_ne_zero fun e => h0 (HZG.out e)
      rw [hll] at hlc
      rw [hll]
      clear h0 hlc hll
      go_enter Tryz.func32, Tryz.ntmps32
      go_wp2_with fail
      (with_reducible refine (COC.out _ ?_).mono ?_); (repeat (first | exact Below.refl _ _ | exact hB | refine Below.drew ?_ | refine below_drewN ?_ _ | refine bset ?_ (by simp <;> omega) _ | refine bal ?_ _))
      rintro e w1 ⟨rfl, hb1⟩
      have m0 : w1.cell? ⟨w.heap.size, 0, none⟩ = some (.slice a n c) := bkc hb1
      have zm0 := cell_lt m0
      have hB : Below w.heap.size w w1 := bthen (by repeat (first | exact Below.refl _ _ | exact hB | refine Below.drew ?_ | refine below_drewN ?_ _ | refine bset ?_ (by simp <;> omega) _ | refine bal ?_ _)) hb1
      have hz : w.heap.size ≤ w1.heap.size := hB.size
      go_wp2_with fail
      (with_reducible refine (COC.out _ ?_).mono ?_); (repeat (first | exact Below.refl _ _ | exact hB | refine Below.drew ?_ | refine below_drewN ?_ _ | refine bset ?_ (by simp <;> omega) _ | refine bal ?_ _))
      rintro e w2 ⟨rfl, hb2⟩
      have m0 : w2.cell? ⟨w.heap.size, 0, none⟩ = some (.slice a n c) := bkc hb2
      have zm0 := cell_lt m0
      have hB : Below w.heap.size w w2 := bthen (by repeat (first | exact Below.refl _ _ | exact hB | refine Below.drew ?_ | refine below_drewN ?_ _ | refine bset ?_ (by simp <;> omega) _ | refine bal ?_ _)) hb2
      have hz : w.heap.size ≤ w2.heap.size := hB.size
      have HM2 := Lib.hid (HM.out.keep hB)
      have HV2 := Lib.hid (HV.out.keep lims_int hB)
      obtain ⟨gb, go, rfl⟩ : ∃ gb go, a = some ⟨gb, go, none⟩ := by
        obtain ⟨gb, go, ra, rc, e, -⟩ := HM.out.rowAt (i := 0) (by rw [HN.out]; exact hnp)
        exact ⟨gb, go, e⟩
      have hB22 := Below.refl w2.heap.size w2
      clear COC hb1 hb2
      go_wp2
      go_loopw [6, 24] (fun v x wr => ∃ i : Nat, i ≤ n ∧ x = .int .i64 i ∧ Hid (OwnF IsInt 50 w2 wr v ((applyG g l).take i).length (fun t => ((applyG g l).take i).getD t 0))) (fun _ x _ => n - (intOf x).toNat)
      case atStart => exact ⟨0, Nat.zero_le _, rfl, Lib.hid (OwnF.nil _ _ _ hB22)⟩
      case round =>
        obtain ⟨i, hi, rfl, hF⟩ := hrel
        have hBr := hF.out.bel
        have hlt' : ((applyG g l).take i).length = i := by rw [List.length_take, HAL.out, HN.out]; omega
        have HLT := Lib.hid hlt'
        obtain ⟨fa, fc, hfv⟩ : ∃ a c, _ = Value.slice a i c := by obtain ⟨a, c, h, _⟩ := hF.out.view; rw [hlt'] at h; exact ⟨a, c, h⟩
        subst hfv
        clear hlt'
        by_cases hlt : i < n
        · have hltI : (i : Int) < (n : Int) := by omega
          have hig : i < g.length := by rw [HN.out]; exact hlt
          obtain ⟨gb2, go2, ra, rc, e2, hu, hp⟩ := (HM2.out.keep hBr).rowAt hig
          obtain ⟨rfl, rfl⟩ : gb = gb2 ∧ go = go2 := by simp at e2; exact e2
          have hrl := HRG.out i hig
          have hbj : ∀ t, Bd k ((g.getD i []).getD t 0) := fun t => HBD.out.1 i t
          have HAI := Lib.hid (HAP.out i hig)
          obtain ⟨row, hrow⟩ : ∃ r, g.getD i [] = r := ⟨_, rfl⟩
          rw [hrow] at hu hp hrl hbj HAI
          have DC := Lib.hid (fun W (q : Below wr.heap.size wr W) => dot_c (.slice ra row.length rc) (.slice la ll lc) row l k m W (hp.keep lims_int q) (by rw [← HLL.out]; exact (HV2.out.keep lims_int (bthen hBr q))) (by rw [hrl]; omega) (by rw [hrl, HLL.out, HLC.out]) hbj HBD.out.2 (by rw [hrl]; exact hk))
          have HTK := Lib.hid (take_getD (l := applyG g l) (k := i) 0 (by rw [HAL.out]; exact hig))
          rw [HAI.out] at HTK
          obtain ⟨z, hz⟩ : ∃ z, dotL row l = z := ⟨_, rfl⟩
          rw [hz] at DC HTK
          rw [hrl] at hu DC
          have zu := cell_lt hu
          have hBw := Below.refl wr.heap.size wr
          clear e2 hp hrow hbj hz hrl
          go_wp2_with fail
          (with_reducible refine (DC.out _ ?_).mono ?_); (repeat (first | exact Below.refl _ _ | exact hBw | refine Below.drew ?_ | refine below_drewN ?_ _ | refine bset ?_ (by simp <;> omega) _ | refine bal ?_ _))
          rintro e w5 ⟨⟨v5, rfl, hi5⟩, hb5⟩
          have hb5' : Below wr.heap.size wr w5 := bthen (by repeat (first | exact Below.refl _ _ | exact hBw | refine Below.drew ?_ | refine below_drewN ?_ _ | refine bset ?_ (by simp <;> omega) _ | refine bal ?_ _)) hb5
          have HF5 := Lib.hid (hF.out.below lims_int hb5')
          have HI5 := Lib.hid hi5
          obtain ⟨n5, a5, c5, l5, rfl, -⟩ := hi5
          unfold iv at *
          clear DC hu hF
          obtain ⟨L, hL⟩ : ∃ L, (applyG g l).take i = L := ⟨_, rfl⟩
          rw [hL] at HF5 HTK HLT
          have hLn : L.length + [z].length ≤ 1099511627776 := by rw [HLT.out]; simp; omega
          clear hL
          go_wp2_with (at_builtin; refine app_cat (l := [z]) (b := w5.heap.size + 1) (off := 0) (by rfl) (by rfl) (HF5.out.below lims_int (bal (bal (Below.refl _ _) _) _)) (fun k hk => by
            have hk0 : k = 0 := by simpa using hk
            subst hk0
            exact ⟨n5, a5, l5.length, c5, cell_new (by simp) rfl, cell_new (by simp) rfl, HI5.out.keep (bal (bal (Below.refl _ _) _) _)⟩) (by rfl) (by rfl) hLn ?_)
          intro v' w8 HO7
          have HF8 := Lib.hid (show OwnF IsInt 50 w2 w8 v' (L ++ [z]).length (fun t => (L ++ [z]).getD t 0) from by rw [List.length_append]; exact HO7.out)
          rw [← HTK.out] at HF8
          clear HO7
          go_wp2
          exact ⟨⟨i + 1, hlt, by go_num, HF8⟩, meas hlt (by go_num) rfl⟩
        · obtain rfl : i = n := by omega
          have HRO := Lib.hid (show RowO IsInt 50 w.heap.size wr _ (applyG g l) from (OwnF.rowO (w0 := w2) (by have h := hF.out; rw [List.take_of_length_le (by rw [HAL.out, HN.out]; exact Nat.le_refl _)] at h; exact h)).rebase hB.size)
          have hB5 := bthen hB hBr
          clear hF
          go_wp2
          refine bodyPost_ret (v := .tuple #[.slice fa i fc, .int .i64 0]) (by simp [results, Tryz.results32, go_sem, *]) rfl ⟨.inl ⟨HYES.out.1, by rw [← HYES.out.2, HLL.out], _, rfl, HRO.out⟩, hB5⟩
    · have hI2 : ((l.length : Int) != (cc : Int)) = true := by simp; omega
      have HNO := Lib.hid (show ¬ (cols g ≠ 0 ∧ l.length = cols g) from fun h => hlc (by rw [← HCC.out]; exact h.2))
      clear h0 hlc
      go_enter Tryz.func32, Tryz.ntmps32
      go_wp2_with fail
      (with_reducible refine (COC.out _ ?_).mono ?_); (repeat (first | exact Below.refl _ _ | exact hB | refine Below.drew ?_ | refine below_drewN ?_ _ | refine bset ?_ (by simp <;> omega) _ | refine bal ?_ _))
      rintro e w1 ⟨rfl, hb1⟩
      have m0 : w1.cell? ⟨w.heap.size, 0, none⟩ = some (.slice a n c) := bkc hb1
      have zm0 := cell_lt m0
      have hB : Below w.heap.size w w1 := bthen (by repeat (first | exact Below.refl _ _ | exact hB | refine Below.drew ?_ | refine below_drewN ?_ _ | refine bset ?_ (by simp <;> omega) _ | refine bal ?_ _)) hb1
      have hz : w.heap.size ≤ w1.heap.size := hB.size
      go_wp2_with fail
      (with_reducible refine (COC.out _ ?_).mono ?_); (repeat (first | exact Below.refl _ _ | exact hB | refine Below.drew ?_ | refine below_drewN ?_ _ | refine bset ?_ (by simp <;> omega) _ | refine bal ?_ _))
      rintro e w2 ⟨rfl, hb2⟩
      have m0 : w2.cell? ⟨w.heap.size, 0, none⟩ = some (.slice a n c) := bkc hb2
      have zm0 := cell_lt m0
      have hB : Below w.heap.size w w2 := bthen (by repeat (first | exact Below.refl _ _ | exact hB | refine Below.drew ?_ | refine below_drewN ?_ _ | refine bset ?_ (by simp <;> omega) _ | refine bal ?_ _)) hb2
      have hz : w.heap.size ≤ w2.heap.size := hB.size
      clear COC
      go_wp2
      refine bodyPost_ret (v := .tuple #[.slice none 0 0, .int .i64 5]) (by simp [results, Tryz.results32, go_sem, *]) rfl ⟨.inr ⟨HNO.out, rfl⟩, hB⟩
end Go.Proofs.YtdllbdfchloijaaGreatDoor

/- matrices, plain: the laws of sums and products. -/
namespace Go.Proofs.YtdllbdfchloijaaGreatDoor
open Num
set_option linter.unusedVariables false
set_option linter.unusedSimpArgs false
/-- the sum of products, by places -/
theorem dotL_isum : ∀ (a b : List Int), a.length = b.length → dotL a b = Det.isum a.length fun t => a.getD t 0 * b.getD t 0 := by
  intro a b h
  have key : ∀ n, n ≤ a.length → dotL (a.take n) (b.take n) = Det.isum n fun t => a.getD t 0 * b.getD t 0 := by
    intro n
    induction n with
    | zero => intro _; rfl
    | succ n ih =>
      intro hn
      have e1 : a.take (n + 1) = a.take n ++ [a.getD n 0] := take_getD 0 (by omega)
      have e2 : b.take (n + 1) = b.take n ++ [b.getD n 0] := take_getD 0 (by omega)
      show dotL (a.take (n + 1)) (b.take (n + 1)) = Det.isum n _ + a.getD n 0 * b.getD n 0
      rw [e1, e2, ← ih (by omega)]
      unfold dotL
      rw [List.zipWith_append (by rw [List.length_take, List.length_take, h])]
      show sumL (_ ++ [a.getD n 0 * b.getD n 0]) = _
      rw [sumL_snoc]
  have := key a.length (Nat.le_refl _)
  rw [List.take_length, h, List.take_length] at this
  rw [h]; exact this
theorem app_len (g : Grid) (l : List Int) : (applyG g l).length = g.length := by simp [applyG]
theorem app_at {g : Grid} {l : List Int} {m i : Nat} (hr : Rct g m) (hl : l.length = m) (hi : i < g.length) : (applyG g l).getD i 0 = Det.isum m fun t => gat g i t * l.getD t 0 := by
  rw [app_get hi, dotL_isum _ _ (by rw [hr i hi, hl]), hr i hi]; rfl
end Go.Proofs.YtdllbdfchloijaaGreatDoor

