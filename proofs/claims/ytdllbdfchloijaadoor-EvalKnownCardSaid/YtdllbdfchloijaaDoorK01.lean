/- Texts of this seat, laid together: Lib, PtLaw, PtA, PtB, PtC, PtD, PtE, PtV, PtTwins, Det, Bar, Bel. Each opens with its own remark, which says what it proves, and under which conditions. -/
import Derived.Test.YtdllbdfchloijaaDoorRows
import Derived.WalkKit
import Derived.ProofKit
import Derived.OpenShut
import Derived.Deep.QuietTactic
import Derived.BigQuiet
import Derived.Outline
import Derived.Lib.Hide
import Derived.WalkSmall
import Derived.WalkSpells
import Derived.WalkLawsBesides
import Derived.Deep.RegionWith
import Derived.Deep.RegionHeld3
set_option linter.unusedVariables false
set_option linter.unusedSimpArgs false
/- Small lemmas that every walk of this seat uses: worlds that only grow, cells that are kept, endings. -/
namespace Go.Proofs.YtdllbdfchloijaaDoor
open Go.ChangeShapes Go.WideShapes Go.ChangeAt Go.RowKit

theorem ret_bool {a b : Bool} (h : a = b) : Ending.returned (.bool a) = Ending.returned (.bool b) := by rw [h]
theorem bthen {a W w1 : World} (h : Below a.heap.size a W) (k : Below W.heap.size W w1) : Below a.heap.size a w1 := h.trans (k.mono h.size)
theorem bal {a W : World} (h : Below a.heap.size a W) (o : Obj) : Below a.heap.size a (W.alloc o) := h.alloc h.size o
theorem bset {a W : World} (h : Below a.heap.size a W) {p : Addr} (hp : a.heap.size ≤ p.block) (u : Value) : Below a.heap.size a (W.setCell p u) := h.setCell hp u
theorem bcell {W w1 : World} (hb : Below W.heap.size W w1) : (∀ b o, b < W.heap.size → w1.cell? ⟨b, o, none⟩ = W.cell? ⟨b, o, none⟩) ∧ (∀ b o, b < W.heap.size → w1.frozen? ⟨b, o, none⟩ = W.frozen? ⟨b, o, none⟩) :=
  ⟨fun b o h => hb.cell (p := ⟨b, o, none⟩) h, fun b o h => hb.frozen (p := ⟨b, o, none⟩) h⟩
theorem cell_lt {W : World} {b o : Nat} {s : Option Nat} {v : Value} (h : W.cell? ⟨b, o, s⟩ = some v) : b < W.heap.size := by
  apply Nat.lt_of_not_le; intro hl
  have : W.heap[b]? = none := by simp [hl]
  simp [World.cell?, this] at h
theorem bkeep {W w1 : World} (hb : Below W.heap.size W w1) {p : Addr} {v : Value} (h : W.cell? p = some v) : w1.cell? p = some v := by
  have hp : p.block < W.heap.size := by
    apply Nat.lt_of_not_le; intro hl
    have : W.heap[p.block]? = none := by simp [hl]
    simp [World.cell?, this] at h
  rw [hb.cell hp]; exact h
theorem bkeepf {W w1 : World} (hb : Below W.heap.size W w1) {p : Addr} {v : Value} (h : W.cell? p = some v) (hf : W.frozen? p = false) : w1.frozen? p = false := by
  have hp : p.block < W.heap.size := by
    apply Nat.lt_of_not_le; intro hl
    have : W.heap[p.block]? = none := by simp [hl]
    simp [World.cell?, this] at h
  rw [hb.frozen hp]; exact hf
/-! a cell, behind a step of the world -/
theorem cell_alloc {w : World} {a : Addr} {v : Value} (h : w.cell? a = some v) (o : Obj) : (w.alloc o).cell? a = some v := by
  obtain ⟨b, o', s⟩ := a
  rw [World.cell?_alloc_lt (h := cell_lt h)]; exact h
theorem cell_drew {w : World} {a : Addr} {v : Value} (h : w.cell? a = some v) : w.drew.cell? a = some v := h
theorem cell_drewN {w : World} {a : Addr} {v : Value} (h : w.cell? a = some v) (n : Nat) : (w.drewN n).cell? a = some v := h
theorem cell_new {w : World} {c : Array Value} {t : TypeId} {b i : Nat} {v : Value} (hb : b = w.heap.size) (h : c[i]? = some v) : (w.alloc (.cells c t)).cell? ⟨b, i, none⟩ = some v := by
  rw [World.cell?_alloc_at (hn := hb)]; exact h
theorem cell_far {w : World} {a p : Addr} {v : Value} (h : w.cell? a = some v) (hne : p ≠ a) (u : Value) : (w.setCell p u).cell? a = some v := by
  rw [World.cell?_setCell_other (h := hne)]; exact h
theorem cell_here {w : World} {a : Addr} {v : Value} (h : w.cell? a = some v) (u : Value) : (w.setCell a u).cell? a = some u := by rw [World.cell?_setCell_same (h := h)]
/-- a block that has just been made, cell by cell -/
theorem cells_new (w : World) (C : List Value) (t : TypeId) : ∀ j u, C[j]? = some u → (w.alloc (.cells C.toArray t)).cell? ((⟨w.heap.size, 0, none⟩ : Addr).add j) = some u := by
  intro j u h
  have e : (⟨w.heap.size, 0, none⟩ : Addr).add j = ⟨w.heap.size, j, none⟩ := by
    unfold Addr.add; split
    · subst_vars; rfl
    · simp
  rw [e]
  exact cell_new rfl (by simpa using h)
/-- a row of the call's own, behind an append -/
theorem own_below {B : Nat} {e : TypeId} {size : Nat} {w0 wr w' : World} {v : Value} {n : Nat} {xs : List Value} (h : wr.ownsRow B e size v n xs) (hb : Below wr.heap.size wr w') : w'.ownsRow B e size v n xs := by
  obtain ⟨h1, h2⟩ := h
  refine ⟨h1, ?_⟩
  rcases h2 with h2 | ⟨g, cap, cur, hv, hg, hh, r⟩
  · exact .inl h2
  · exact .inr ⟨g, cap, cur, hv, hg, by rw [hb.block g (Array.getElem?_eq_some_iff.1 hh).1]; exact hh, r⟩
theorem below_append {w0 wr W w1 : World} {e : TypeId} {size : Nat} {v : Value} {n : Nat} {xs : List Value} (hB : Below w0.heap.size w0 W) (hown : W.ownsRow w0.heap.size e size v n xs) (hg : W.grownBy w1 v.ownBlock) : Below w0.heap.size w0 w1 :=
  hB.grown hg hB.size (fun k hk => (hown.lt k hk).1)

/-! ### A region that draws its order, whose calls only make memory and answer what their arguments say: one walk in the text's order -/
/-- a world that has grown out of w -/
structure Grows (w : World) where
  world : World
  below : Below w.heap.size w world
instance (w : World) : Nonempty (Grows w) := ⟨⟨w, Below.refl _ _⟩⟩
def grow (w : World) (s : Grows w) : World := s.world
theorem wp_name {P : Program} {c : Code} {Q : Exit → Act → World → Prop} {a : Act} {w : World} (h : ∀ W, W = w → c.wp P Q a W) : c.wp P Q a w := h w rfl
theorem bkc {W w1 : World} {p : Addr} {v : Value} (hb : Below W.heap.size W w1) (h : W.cell? p = some v := by first | assumption | exact cell_new (by with_reducible first | rfl | (simp; done) | (simp; omega)) rfl | (repeat (first | assumption | exact cell_new (by with_reducible first | rfl | (simp; done) | (simp; omega)) rfl | refine cell_alloc ?_ _ | refine cell_drew ?_ | refine cell_drewN ?_ _ | refine cell_far ?_ (by simp) _ | (refine cell_far ?_ (by simp <;> omega) _))) | simp [go_sem, *]) : w1.cell? p = some v := bkeep hb h
theorem bkcf {W w1 : World} {p : Addr} {v : Value} (hb : Below W.heap.size W w1) (h : W.cell? p = some v := by first | assumption | exact cell_new (by with_reducible first | rfl | (simp; done) | (simp; omega)) rfl | (repeat (first | assumption | exact cell_new (by with_reducible first | rfl | (simp; done) | (simp; omega)) rfl | refine cell_alloc ?_ _ | refine cell_drew ?_ | refine cell_drewN ?_ _ | refine cell_far ?_ (by simp) _ | (refine cell_far ?_ (by simp <;> omega) _))) | simp [go_sem, *]) (hf : W.frozen? p = false := by first | assumption | (simp <;> assumption) | simp [go_sem, *]) : w1.frozen? p = false := bkeepf hb h hf
end Go.Proofs.YtdllbdfchloijaaDoor

/- Plain laws on points, no program in sight: what divides both coordinates, norms, points that are one. -/
namespace Go.Proofs.YtdllbdfchloijaaDoor.Pt

/-- the coordinates are small enough -/
def PIn (a b : Int) : Prop := -16 ≤ a ∧ a ≤ 16 ∧ -16 ≤ b ∧ b ≤ 16
instance (a b : Int) : Decidable (PIn a b) := by unfold PIn; infer_instance
def inB (a b : Int) : Bool := decide (PIn a b)
def wi (x : Int) : Bool := decide (-16 ≤ x ∧ x ≤ 16)
theorem inB_wi (a b : Int) : inB a b = (wi a && wi b) := by
  rw [Bool.eq_iff_iff]; simp only [inB, wi, Bool.and_eq_true, decide_eq_true_eq]; unfold PIn; omega
theorem inB_iff (a b : Int) : inB a b = true ↔ (-16 ≤ a ∧ a ≤ 16 ∧ -16 ≤ b ∧ b ≤ 16) := by simp only [inB, decide_eq_true_eq]; exact Iff.rfl
/-- both are noughts -/
def nn (a b : Int) : Bool := decide (a = 0 ∧ b = 0)
theorem inB_yes {a b : Int} (h : PIn a b) : inB a b = true := by simp [inB, h]
theorem inB_no {a b : Int} (h : ¬ PIn a b) : inB a b = false := by simp [inB, h]

/-- a norm -/
def nrm (a b : Int) : Int × Int :=
  if (Int.gcd a b : Int) = 0 then (a, b)
  else if b < 0 ∨ (b = 0 ∧ a < 0) then (a.tdiv (-(Int.gcd a b : Int)), b.tdiv (-(Int.gcd a b : Int)))
  else (a.tdiv (Int.gcd a b : Int), b.tdiv (Int.gcd a b : Int))

/-- are they one, as the document says -/
def one (a b c d : Int) : Bool := if (a = 0 ∧ b = 0) ∨ (c = 0 ∧ d = 0) then (decide (a = 0 ∧ b = 0) && decide (c = 0 ∧ d = 0)) else a * d - c * b == 0

end Go.Proofs.YtdllbdfchloijaaDoor.Pt

/- The small functions of point and of its reference: what each answers. -/
namespace Go.Proofs.YtdllbdfchloijaaDoor
open Pt
open Go.ChangeShapes Go.WideShapes Go.ChangeAt Go.RowKit
set_option linter.unusedVariables false
set_option linter.unusedSimpArgs false

theorem within_c (x : Int) (w : World) :
    Calls Tryd.prog 23 #[.int .i64 x] w fun e w' => e = .returned (.bool (wi x)) ∧ w = w' := by
  go_enter Tryd.func23, Tryd.ntmps23
  go_wp2
  all_goals go_ret
  all_goals exact ⟨ret_bool (by rw [Bool.eq_iff_iff]; simp [wi] <;> omega), rfl⟩

end Go.Proofs.YtdllbdfchloijaaDoor

/- The small functions of point and of its reference, next: In, None, norm, Norm, One, Det on both sides. -/
namespace Go.Proofs.YtdllbdfchloijaaDoor
open Pt
open Go.ChangeShapes Go.WideShapes Go.ChangeAt Go.RowKit
set_option linter.unusedVariables false
set_option linter.unusedSimpArgs false

/-- a point as a value -/
abbrev pv (a b : Int) : Value := .agg #[.int .i64 a, .int .i64 b]

theorem ptIn_c (a b : Int) (w : World) :
    Calls Tryd.prog 7 #[pv a b] w fun e w' => e = .returned (.bool (inB a b)) ∧ Below w.heap.size w w' := by
  rw [inB_wi]
  by_cases h1 : wi a = true
  · rw [h1, Bool.true_and]
    have wc : ∀ w, Calls Tryd.prog 23 #[.int .i64 a] w fun e w' => e = .returned (.bool true) ∧ w = w' := fun w => by rw [← h1]; exact within_c a w
    clear h1
    go_enter Tryd.func7, Tryd.ntmps7
    go_wp2_with (go_at_call 23; refine (wc _).mono ?_; clear wc; rintro e w' ⟨rfl, rfl⟩)
    go_wp2_with (go_at_call 23; refine (within_c b _).mono ?_; rintro e w' ⟨rfl, rfl⟩)
    go_ret
    exact ⟨rfl, by repeat (first | exact Below.refl _ _ | assumption | refine bal ?_ _)⟩
  · replace h1 : wi a = false := by simpa using h1
    rw [h1, Bool.false_and]
    have wc : ∀ w, Calls Tryd.prog 23 #[.int .i64 a] w fun e w' => e = .returned (.bool false) ∧ w = w' := fun w => by rw [← h1]; exact within_c a w
    clear h1
    go_enter Tryd.func7, Tryd.ntmps7
    go_wp2_with (go_at_call 23; refine (wc _).mono ?_; clear wc; rintro e w' ⟨rfl, rfl⟩)
    go_ret
    exact ⟨rfl, by repeat (first | exact Below.refl _ _ | assumption | refine bal ?_ _)⟩

/-- a point's norm as a value -/
def nv (a b : Int) : Value := pv (nrm a b).1 (nrm a b).2
end Go.Proofs.YtdllbdfchloijaaDoor

/- Norm, One, Det and what the reference says of them. -/
namespace Go.Proofs.YtdllbdfchloijaaDoor
open Pt
open Go.ChangeShapes Go.WideShapes Go.ChangeAt Go.RowKit
set_option linter.unusedVariables false
set_option linter.unusedSimpArgs false

end Go.Proofs.YtdllbdfchloijaaDoor

/- One; the reference's Common, Norm, One, Det. -/
namespace Go.Proofs.YtdllbdfchloijaaDoor
open Pt
open Go.ChangeShapes Go.WideShapes Go.ChangeAt Go.RowKit
set_option linter.unusedVariables false
set_option linter.unusedSimpArgs false

end Go.Proofs.YtdllbdfchloijaaDoor

/- The reference's Norm, One, Det; live. -/
namespace Go.Proofs.YtdllbdfchloijaaDoor
open Pt
open Go.ChangeShapes Go.WideShapes Go.ChangeAt Go.RowKit
set_option linter.unusedVariables false
set_option linter.unusedSimpArgs false

end Go.Proofs.YtdllbdfchloijaaDoor

/- A list of points that came in. -/
namespace Go.Proofs.YtdllbdfchloijaaDoor
open Go.ChangeShapes Go.WideShapes Go.ChangeAt Go.RowKit
/-- a row of points in memory -/
def PtsIn (w : World) (b off n : Nat) (f : Nat → Int × Int) : Prop := ∀ k, k < n → w.cell? ⟨b, off + k * 2, none⟩ = some (.int .i64 (f k).1) ∧ w.cell? ⟨b, off + k * 2 + 1, none⟩ = some (.int .i64 (f k).2)
/-- a list of points that came in -/
def PtsV (w : World) (a : Option Addr) (n cap : Nat) (f : Nat → Int × Int) : Prop := n = 0 ∨ ∃ b off, a = some ⟨b, off, none⟩ ∧ n ≤ cap ∧ PtsIn w b off n f
theorem PtsV.keep {w w' : World} {a : Option Addr} {n cap : Nat} {f : Nat → Int × Int} (h : PtsV w a n cap f) (hb : Below w.heap.size w w') : PtsV w' a n cap f := by
  rcases h with h | ⟨b, off, h1, h2, h3⟩
  · exact .inl h
  · exact .inr ⟨b, off, h1, h2, fun k hk => ⟨bkeep hb (h3 k hk).1, bkeep hb (h3 k hk).2⟩⟩
end Go.Proofs.YtdllbdfchloijaaDoor

/- The first two points that are one: both searches. -/
namespace Go.Proofs.YtdllbdfchloijaaDoor
open Pt
open Go.ChangeShapes Go.WideShapes Go.ChangeAt Go.RowKit
set_option linter.unusedVariables false
set_option linter.unusedSimpArgs false

/-- both are in, and they are one -/
def twin (p q : Int × Int) : Bool := inB p.1 p.2 && (inB q.1 q.2 && one p.1 p.2 q.1 q.2)
/-- no two are one, the second before place j -/
def NoTw (f : Nat → Int × Int) (j : Nat) : Prop := ∀ j', j' < j → ∀ i, i < j' → twin (f i) (f j') = false
/-- none before place i is one with place j -/
def NoTwAt (f : Nat → Int × Int) (j i : Nat) : Prop := ∀ i', i' < i → twin (f i') (f j) = false
theorem NoTw.next {f : Nat → Int × Int} {j : Nat} (h : NoTw f j) (k : NoTwAt f j j) : NoTw f (j + 1) := by
  intro j' hj i hi
  by_cases e : j' = j
  · subst e; exact k i hi
  · exact h j' (by omega) i hi
theorem NoTwAt.next {f : Nat → Int × Int} {j i : Nat} (h : NoTwAt f j i) (k : twin (f i) (f j) = false) : NoTwAt f j (i + 1) := by
  intro i' hi
  by_cases e : i' = i
  · subst e; exact k
  · exact h i' (by omega)
end Go.Proofs.YtdllbdfchloijaaDoor

/- Determinants, in plain Lean (over Rat): what is linear in each row and nought where two are alike is the determinant times a number; products, what is turned; by any column; the adjugate. -/
set_option linter.unusedVariables false
set_option linter.unusedSimpArgs false
namespace Det
abbrev M := Nat → Nat → Rat
/-- the sum of the first n -/
def sum (n : Nat) (f : Nat → Rat) : Rat := match n with
  | 0 => 0
  | n + 1 => sum n f + f n
/-- the sign of a place -/
def sg (i : Nat) : Rat := if i % 2 = 0 then 1 else -1
/-- without a row, and without the first column -/
def skip (i k : Nat) : Nat := if k < i then k else k + 1
def minor (m : M) (i : Nat) : M := fun r c => m (skip i r) (c + 1)
/-- the determinant of the first n rows and columns -/
def det : Nat → M → Rat
  | 0, _ => 1
  | n + 1, m => sum (n + 1) fun i => sg i * m i 0 * det n (minor m i)
theorem sum_congr {n : Nat} {f g : Nat → Rat} (h : ∀ i, i < n → f i = g i) : sum n f = sum n g := by
  induction n with
  | zero => rfl
  | succ n ih => simp only [sum]; rw [ih fun i hi => h i (by omega), h n (by omega)]
theorem sum_zero {n : Nat} {f : Nat → Rat} (h : ∀ i, i < n → f i = 0) : sum n f = 0 := by
  induction n with
  | zero => rfl
  | succ n ih => simp only [sum]; rw [ih fun i hi => h i (by omega), h n (by omega)]; grind
theorem sum_add (n : Nat) (f g : Nat → Rat) : sum n (fun i => f i + g i) = sum n f + sum n g := by
  induction n with
  | zero => simp only [sum]; grind
  | succ n ih => simp only [sum]; rw [ih]; grind
theorem sum_mul (n : Nat) (f : Nat → Rat) (c : Rat) : sum n (fun i => c * f i) = c * sum n f := by
  induction n with
  | zero => simp [sum]
  | succ n ih => simp only [sum]; rw [ih]; grind
/-- two terms alone -/
theorem sum_two {n i j : Nat} {f : Nat → Rat} (hi : i < n) (hj : j < n) (hij : i ≠ j) (h : ∀ k, k < n → k ≠ i → k ≠ j → f k = 0) : sum n f = f i + f j := by
  induction n with
  | zero => omega
  | succ n ih =>
    simp only [sum]
    by_cases e1 : i = n
    · subst e1
      have : sum i f = f j := by
        clear ih
        have key : ∀ m, j < m → m ≤ i → sum m f = f j := by
          intro m
          induction m with
          | zero => intro h1; omega
          | succ m ih2 =>
            intro h1 h2
            simp only [sum]
            by_cases e : j = m
            · subst e
              rw [sum_zero fun k hk => h k (by omega) (by omega) (by omega)]; grind
            · rw [ih2 (by omega) (by omega), h m (by omega) (by omega) (by omega)]; grind
        exact key i (by omega) (Nat.le_refl _)
      rw [this]; grind
    · by_cases e2 : j = n
      · subst e2
        have key : ∀ m, i < m → m ≤ j → sum m f = f i := by
          intro m
          induction m with
          | zero => intro h1; omega
          | succ m ih2 =>
            intro h1 h2
            simp only [sum]
            by_cases e : i = m
            · subst e
              rw [sum_zero fun k hk => h k (by omega) (by omega) (by omega)]; grind
            · rw [ih2 (by omega) (by omega), h m (by omega) (by omega) (by omega)]; grind
        rw [key j (by omega) (Nat.le_refl _)]
      · rw [ih (by omega) (by omega) fun k hk => h k (by omega), h n (by omega) (by omega) (by omega)]; grind
theorem det_congr {n : Nat} : ∀ {a b : M}, (∀ i j, i < n → j < n → a i j = b i j) → det n a = det n b := by
  induction n with
  | zero => intro a b _; rfl
  | succ n ih =>
    intro a b h
    refine sum_congr fun i hi => ?_
    rw [h i 0 hi (by omega), ih (a := minor a i) (b := minor b i) fun r c hr hc => ?_]
    unfold minor
    refine h _ _ ?_ (by omega)
    unfold skip; split <;> omega
/-- row r is replaced -/
def upd (m : M) (r : Nat) (f : Nat → Rat) : M := fun i j => if i = r then f j else m i j
/-- the row of a minor that was row r -/
def down (i r : Nat) : Nat := if r < i then r else r - 1
theorem minor_upd {m : M} {r i : Nat} {f : Nat → Rat} (h : i ≠ r) : minor (upd m r f) i = upd (minor m i) (down i r) (fun j => f (j + 1)) := by
  funext x y
  simp only [minor, upd, skip, down]
  grind
theorem minor_upd_same {m : M} {r : Nat} {f : Nat → Rat} : minor (upd m r f) r = minor m r := by
  funext x y
  unfold minor upd skip
  split <;> rw [if_neg (by omega)]
/-- linear in each row -/
theorem det_lin {n : Nat} : ∀ {m : M} {r : Nat} {f g : Nat → Rat} {a b : Rat}, r < n → det n (upd m r fun j => a * f j + b * g j) = a * det n (upd m r f) + b * det n (upd m r g) := by
  induction n with
  | zero => intro m r f g a b h; omega
  | succ n ih =>
    intro m r f g a b h
    simp only [det]
    rw [← sum_mul, ← sum_mul, ← sum_add]
    refine sum_congr fun i hi => ?_
    by_cases e : i = r
    · subst e
      rw [minor_upd_same, minor_upd_same, minor_upd_same]
      simp only [upd, if_true]; grind
    · rw [minor_upd e, minor_upd e, minor_upd e, ih (by unfold down; split <;> omega)]
      simp only [upd, if_neg e]; grind
/-- nought, where two rows, one behind the other, are alike -/
theorem det_adj {n : Nat} : ∀ {m : M} {r : Nat}, r + 1 < n → (∀ j, m r j = m (r + 1) j) → det n m = 0 := by
  induction n with
  | zero => intro m r h; omega
  | succ n ih =>
    intro m r h he
    simp only [det]
    rw [sum_two (i := r) (j := r + 1) (by omega) h (by omega) fun k hk h1 h2 => ?_]
    · have : minor m r = minor m (r + 1) := by
        funext x y
        unfold minor skip
        by_cases e1 : x < r
        · rw [if_pos e1, if_pos (by omega)]
        · rw [if_neg e1]
          by_cases e2 : x < r + 1
          · rw [if_pos e2]
            obtain rfl : x = r := by omega
            exact (he (y + 1)).symm
          · rw [if_neg e2]
      rw [this, he 0]
      have : sg (r + 1) = - sg r := by unfold sg; split <;> split <;> first | omega | grind
      rw [this]; grind
    · have : det n (minor m k) = 0 := by
        refine ih (r := down k r) (by unfold down; split <;> omega) fun j => ?_
        unfold minor skip down
        by_cases e : r < k
        · rw [if_pos e, if_pos e, if_pos (by omega)]; exact he (j + 1)
        · rw [if_neg e, if_neg (by omega), if_neg (by omega), show r - 1 + 1 = r by omega]; exact he (j + 1)
      rw [this]; grind
/-- what is linear in each of n rows, and nought where two of them are alike -/
structure Alt (n : Nat) (f : M → Rat) : Prop where
  congr : ∀ a b : M, (∀ i j, i < n → j < n → a i j = b i j) → f a = f b
  lin : ∀ (m : M) (r : Nat) (g h : Nat → Rat) (a b : Rat), r < n → f (upd m r fun j => a * g j + b * h j) = a * f (upd m r g) + b * f (upd m r h)
  adj : ∀ (m : M) (r : Nat), r + 1 < n → (∀ j, m r j = m (r + 1) j) → f m = 0
theorem det_alt (n : Nat) : Alt n (det n) := ⟨fun _ _ h => det_congr h, fun _ _ _ _ _ _ h => det_lin h, fun _ _ h he => det_adj h he⟩
theorem upd_self (m : M) (r : Nat) : upd m r (m r) = m := by funext i j; unfold upd; split <;> simp_all
theorem upd_comm (m : M) (r s : Nat) (f g : Nat → Rat) (h : r ≠ s) : upd (upd m r f) s g = upd (upd m s g) r f := by funext i j; unfold upd; grind
/-- two rows change places -/
def swap (m : M) (r s : Nat) : M := upd (upd m r (m s)) s (m r)
section
variable {n : Nat} {f : M → Rat}
theorem Alt.add (h : Alt n f) (m : M) (r : Nat) (u v : Nat → Rat) (hr : r < n) : f (upd m r fun j => u j + v j) = f (upd m r u) + f (upd m r v) := by
  have := h.lin m r u v 1 1 hr
  simp only [Rat.one_mul] at this
  exact this
theorem Alt.mul (h : Alt n f) (m : M) (r : Nat) (u : Nat → Rat) (c : Rat) (hr : r < n) : f (upd m r fun j => c * u j) = c * f (upd m r u) := by
  have := h.lin m r u u c 0 hr
  have e : (fun j => c * u j + 0 * u j) = fun j => c * u j := by funext j; grind
  rw [e] at this
  grind
theorem Alt.zero (h : Alt n f) (m : M) (r : Nat) (hr : r < n) (hz : ∀ j, j < n → m r j = 0) : f m = 0 := by
  have h1 : f m = f (upd m r fun j => 0 * m r j) := h.congr _ _ fun i j hi hj => by
    unfold upd
    split
    · rename_i e; subst e; rw [hz j hj]; grind
    · rfl
  rw [h1, h.mul m r (m r) 0 hr]; grind
theorem Alt.pair (h : Alt n f) (m : M) (r : Nat) (u v : Nat → Rat) (hr : r + 1 < n) : f (upd (upd m r v) (r + 1) u) = - f (upd (upd m r u) (r + 1) v) := by
  have X : ∀ a b c : Nat → Rat, f (upd (upd m r fun j => a j + b j) (r + 1) c) = f (upd (upd m r a) (r + 1) c) + f (upd (upd m r b) (r + 1) c) := fun a b c => by
    rw [upd_comm _ _ _ _ _ (by omega), upd_comm _ _ _ a _ (by omega), upd_comm _ _ _ b _ (by omega)]
    exact h.add _ _ _ _ (by omega)
  have Z : ∀ a : Nat → Rat, f (upd (upd m r a) (r + 1) a) = 0 := fun a => h.adj _ r hr fun j => by unfold upd; grind
  have h1 := Z fun j => u j + v j
  rw [X, h.add _ _ _ _ hr, h.add _ _ _ _ hr, Z, Z] at h1
  grind
theorem Alt.swap_adj (h : Alt n f) (m : M) (r : Nat) (hr : r + 1 < n) : f (swap m r (r + 1)) = - f m := by
  have := h.pair m r (m r) (m (r + 1)) hr
  unfold swap
  rw [this, upd_self]
  congr 2
  funext i j
  unfold upd
  grind
/-- nought, where any two rows are alike -/
theorem Alt.eq (h : Alt n f) : ∀ (d : Nat) (m : M) (r : Nat), r + d + 1 < n → (∀ j, m r j = m (r + d + 1) j) → f m = 0 := by
  intro d
  induction d with
  | zero => intro m r hr he; exact h.adj m r hr he
  | succ d ih =>
    intro m r hr he
    have h1 := h.swap_adj m (r + d + 1) (by omega)
    have h2 : f (swap m (r + d + 1) (r + d + 1 + 1)) = 0 := ih _ r (by omega) fun j => by
      unfold swap upd
      have := he j
      grind
    grind
theorem Alt.same (h : Alt n f) (m : M) (r s : Nat) (hr : r < n) (hs : s < n) (hne : r ≠ s) (he : ∀ j, m r j = m s j) : f m = 0 := by
  rcases Nat.lt_or_gt_of_ne hne with h1 | h1
  · obtain ⟨d, rfl⟩ : ∃ d, s = r + d + 1 := ⟨s - r - 1, by omega⟩
    exact h.eq d m r hs he
  · obtain ⟨d, rfl⟩ : ∃ d, r = s + d + 1 := ⟨r - s - 1, by omega⟩
    exact h.eq d m s hr fun j => (he j).symm
/-- a multiple of one row, added to another -/
theorem Alt.addmul (h : Alt n f) (m : M) (r s : Nat) (c : Rat) (hr : r < n) (hs : s < n) (hne : r ≠ s) : f (upd m r fun j => m r j + c * m s j) = f m := by
  rw [h.add m r (m r) (fun j => c * m s j) hr, h.mul m r (m s) c hr, upd_self, h.same (upd m r (m s)) r s hr hs hne (fun j => by unfold upd; grind)]
  grind
/-- two rows change places -/
theorem Alt.swapped (h : Alt n f) (m : M) (r s : Nat) (hr : r < n) (hs : s < n) (hne : r ≠ s) : f (swap m r s) = - f m := by
  have X : ∀ a b c : Nat → Rat, f (upd (upd m r fun j => a j + b j) s c) = f (upd (upd m r a) s c) + f (upd (upd m r b) s c) := fun a b c => by
    rw [upd_comm _ _ _ _ _ hne, upd_comm _ _ _ a _ hne, upd_comm _ _ _ b _ hne]
    exact h.add _ _ _ _ hr
  have Z : ∀ a : Nat → Rat, f (upd (upd m r a) s a) = 0 := fun a => h.same _ r s hr hs hne fun j => by unfold upd; grind
  have h1 := Z fun j => m r j + m s j
  rw [X, h.add _ _ _ _ hs, h.add _ _ _ _ hs, Z, Z] at h1
  have h2 : upd (upd m r (m r)) s (m s) = m := by rw [upd_self, upd_self]
  unfold swap
  rw [h2] at h1
  grind
/-- multiples of row k, added to the other rows (below t) -/
def cl (m : M) (k : Nat) (g : Nat → Rat) (t : Nat) : M := fun i j => if i < t ∧ i ≠ k then m i j + g i * m k j else m i j
theorem Alt.clear (h : Alt n f) (m : M) (k : Nat) (g : Nat → Rat) (hk : k < n) : ∀ t, t ≤ n → f (cl m k g t) = f m := by
  intro t
  induction t with
  | zero =>
    intro _
    have : cl m k g 0 = m := by funext i j; unfold cl; rw [if_neg (by omega)]
    rw [this]
  | succ t ih =>
    intro ht
    by_cases e : t = k
    · rw [← ih (by omega)]
      congr 1
      funext i j
      unfold cl
      grind
    · rw [← ih (by omega), ← h.addmul (cl m k g t) t k (g t) (by omega) hk e]
      congr 1
      funext i j
      unfold upd cl
      grind
/-- nought, where the rows from k on have noughts alone in more than k columns -/
theorem Alt.flat (h : Alt n f) : ∀ (d : Nat) (m : M) (k c : Nat), c + d = n → k + 1 ≤ c → k < n → (∀ i j, k ≤ i → i < n → j < c → m i j = 0) → f m = 0 := by
  intro d
  induction d with
  | zero =>
    intro m k c hc hk hkn hz
    exact h.zero m k hkn fun j hj => hz k j (Nat.le_refl _) hkn (by omega)
  | succ d ih =>
    intro m k c hc hk hkn hz
    by_cases hex : ∃ i, k ≤ i ∧ i < n ∧ m i c ≠ 0
    · obtain ⟨i, h1, h2, h3⟩ := hex
      have key : ∀ m1 : M, m1 k c ≠ 0 → (∀ i j, k ≤ i → i < n → j < c → m1 i j = 0) → f m1 = 0 := fun m1 hp hz1 => by
        rw [← h.clear m1 k (fun r => if k < r then - (m1 r c / m1 k c) else 0) hkn n (Nat.le_refl _)]
        refine ih _ (k + 1) (c + 1) (by omega) (by omega) (by omega) fun i j hi hin hj => ?_
        unfold cl
        rw [if_pos ⟨hin, by omega⟩]
        dsimp only
        rw [if_pos (by omega)]
        by_cases e : j = c
        · subst e; grind
        · rw [hz1 i j (by omega) hin (by omega), hz1 k j (Nat.le_refl _) hkn (by omega)]; grind
      by_cases e : i = k
      · subst e; exact key m h3 hz
      · have := h.swapped m k i hkn h2 (fun h => e h.symm)
        have h0 := key (swap m k i) (by unfold swap upd; grind) fun a b ha han hb => by
          have q1 := hz k b (Nat.le_refl _) hkn hb
          have q2 := hz i b h1 h2 hb
          have q3 := hz a b ha han hb
          unfold swap upd; grind
        grind
    · refine ih m k (c + 1) (by omega) (by omega) hkn fun i j hi hin hj => ?_
      by_cases e : j = c
      · subst e
        exact Classical.byContradiction fun hne => hex ⟨i, hi, hin, hne⟩
      · exact hz i j hi hin (by omega)
end
/-- ones where row and column are the same -/
def I : M := fun i j => if i = j then 1 else 0
theorem det_I (n : Nat) : det n I = 1 := by
  induction n with
  | zero => rfl
  | succ n ih =>
    have h1 : ∀ i, i < n + 1 → sg i * I i 0 * det n (minor I i) = if i = 0 then 1 else 0 := fun i hi => by
      by_cases e : i = 0
      · subst e
        have : minor I 0 = I := by funext a b; simp only [minor, skip, I]; grind
        rw [this, ih]
        simp [sg, I]
      · rw [if_neg e]
        have : I i 0 = 0 := by unfold I; rw [if_neg e]
        rw [this]; grind
    have h2 : ∀ m, sum (m + 1) (fun i => if i = 0 then (1 : Rat) else 0) = 1 := by
      intro m
      induction m with
      | zero => simp [sum]; grind
      | succ m ih2 => rw [sum, ih2]; simp; grind
    rw [det, sum_congr h1, h2]
/-- what is linear in each row, and nought where two are alike, is the determinant times a number -/
theorem Alt.uniq {n : Nat} {f : M → Rat} (h : Alt n f) : ∀ (d : Nat) (m : M) (k : Nat), k + d = n → (∀ i j, i < n → j < k → m i j = I i j) → f m = f I * det n m := by
  intro d
  induction d with
  | zero =>
    intro m k hk he
    obtain rfl : k = n := by omega
    rw [h.congr m I he, det_congr he, det_I]; grind
  | succ d ih =>
    intro m k hk he
    have hkn : k < n := by omega
    by_cases hex : ∃ i, k ≤ i ∧ i < n ∧ m i k ≠ 0
    · obtain ⟨i, h1, h2, h3⟩ := hex
      have key : ∀ m1 : M, m1 k k ≠ 0 → (∀ i j, i < n → j < k → m1 i j = I i j) → f m1 = f I * det n m1 := fun m1 hp he1 => by
        have sc : ∀ F : M → Rat, Alt n F → F m1 = m1 k k * F (cl (upd m1 k fun j => (m1 k k)⁻¹ * m1 k j) k (fun r => - m1 r k) n) := fun F hF => by
          rw [hF.clear _ k _ hkn n (Nat.le_refl _), hF.mul m1 k (m1 k) _ hkn, upd_self]
          grind
        rw [sc f h, sc (det n) (det_alt n), ih _ (k + 1) (by omega) fun i j hi hj => ?_]
        · grind
        · have q1 := he1 i j hi
          have q2 := he1 k j hkn
          unfold cl upd I at *
          by_cases e : j = k
          · subst e; grind
          · have q1 := q1 (by omega)
            have q2 := q2 (by omega)
            grind
      by_cases e : i = k
      · subst e; exact key m h3 he
      · have s1 := h.swapped m k i hkn h2 (fun h => e h.symm)
        have s2 := (det_alt n).swapped m k i hkn h2 (fun h => e h.symm)
        have h0 := key (swap m k i) (by unfold swap upd; grind) fun a b ha hb => by
          have q1 := he k b hkn hb
          have q2 := he i b h2 hb
          have q3 := he a b ha hb
          unfold swap upd I at *; grind
        grind
    · have hz : ∀ i j, k ≤ i → i < n → j < k + 1 → m i j = 0 := fun i j hi hin hj => by
        by_cases e : j = k
        · subst e; exact Classical.byContradiction fun hne => hex ⟨i, hi, hin, hne⟩
        · rw [he i j hin (by omega)]; unfold I; rw [if_neg (by omega)]
      rw [h.flat d m k (k + 1) (by omega) (Nat.le_refl _) hkn hz, (det_alt n).flat d m k (k + 1) (by omega) (Nat.le_refl _) hkn hz]; grind
theorem Alt.det {n : Nat} {f : M → Rat} (h : Alt n f) (m : M) : f m = f I * Det.det n m := h.uniq n m 0 (by omega) fun i j _ hj => by omega
/-- the product -/
def mul (n : Nat) (a b : M) : M := fun i j => sum n fun k => a i k * b k j
/-- without row a, and without column b -/
def min2 (m : M) (a b : Nat) : M := fun r c => m (skip a r) (skip b c)
/-- the adjugate of n + 1 rows and columns -/
def adj (n : Nat) (m : M) : M := fun i j => sg (i + j) * det n (min2 m j i)
end Det

/- Elimination without fractions, in plain Lean: minors, what is left behind k rows (Sylvester's identity). -/
set_option linter.unusedVariables false
set_option linter.unusedSimpArgs false
namespace Det
def nc (k : Nat) (t : M) : M := fun i j => t i (if j = k then k + 1 else j)
end Det

/- Elimination without fractions, in plain Lean: the mirror of the program's, and what its numbers are: minors. -/
set_option linter.unusedVariables false
set_option linter.unusedSimpArgs false
namespace Det
/-- the first of d rows from i on that has something in the column j -/
def fr (g : Nat → Nat → Int) (j : Nat) : Nat → Nat → Nat
  | 0, i => i
  | d + 1, i => if g i j = 0 then fr g j d (i + 1) else i
def q2 (q : Nat → Nat) (i k : Nat) : Nat → Nat := fun r => if r = i then q k else if r = k then q i else q r
end Det

