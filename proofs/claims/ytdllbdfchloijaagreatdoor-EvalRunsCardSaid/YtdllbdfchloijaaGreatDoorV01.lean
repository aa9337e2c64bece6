/- Texts of this seat, laid together: Lib, PtLaw, PtA, PtB, PtC, PtD, PtE, PtV, PtTwins, Num, GrT, PtTwinsLaw. Each opens with its own remark, which says what it proves, and under which conditions. -/
import Derived.Test.YtdllbdfchloijaaGreatDoorRows
import Derived.WalkKit
import Derived.ProofKit
import Derived.OpenShut
import Derived.Deep.QuietTactic
import Derived.BigQuiet
import Derived.Outline
import Derived.Lib.Hide
import Derived.WalkSmall
import Derived.WalkSpells
import Derived.WalkLawsBesides
import Derived.Deep.RegionWith
import Derived.Deep.RegionHeld3
import Derived.StillTail
import Derived.Deep.Quiet
set_option linter.unusedVariables false
set_option linter.unusedSimpArgs false
/- Small lemmas that every walk of this seat uses: worlds that only grow, cells that are kept, endings. -/
namespace Go.Proofs.YtdllbdfchloijaaGreatDoor
open Go.ChangeShapes Go.WideShapes Go.ChangeAt Go.RowKit

theorem ret_bool {a b : Bool} (h : a = b) : Ending.returned (.bool a) = Ending.returned (.bool b) := by rw [h]
theorem size_drewN (w : World) (n : Nat) : (w.drewN n).heap.size = w.heap.size := rfl
theorem bthen {a W w1 : World} (h : Below a.heap.size a W) (k : Below W.heap.size W w1) : Below a.heap.size a w1 := h.trans (k.mono h.size)
theorem bal {a W : World} (h : Below a.heap.size a W) (o : Obj) : Below a.heap.size a (W.alloc o) := h.alloc h.size o
theorem bset {a W : World} (h : Below a.heap.size a W) {p : Addr} (hp : a.heap.size ≤ p.block) (u : Value) : Below a.heap.size a (W.setCell p u) := h.setCell hp u
theorem bcell {W w1 : World} (hb : Below W.heap.size W w1) : (∀ b o, b < W.heap.size → w1.cell? ⟨b, o, none⟩ = W.cell? ⟨b, o, none⟩) ∧ (∀ b o, b < W.heap.size → w1.frozen? ⟨b, o, none⟩ = W.frozen? ⟨b, o, none⟩) :=
  ⟨fun b o h => hb.cell (p := ⟨b, o, none⟩) h, fun b o h => hb.frozen (p := ⟨b, o, none⟩) h⟩
theorem cell_lt {W : World} {b o : Nat} {s : Option Nat} {v : Value} (h : W.cell? ⟨b, o, s⟩ = some v) : b < W.heap.size := by
  apply Nat.lt_of_not_le; intro hl
  have : W.heap[b]? = none := by simp [hl]
  simp [World.cell?, this] at h
theorem bkeep {W w1 : World} (hb : Below W.heap.size W w1) {p : Addr} {v : Value} (h : W.cell? p = some v) : w1.cell? p = some v := by
  have hp : p.block < W.heap.size := by
    apply Nat.lt_of_not_le; intro hl
    have : W.heap[p.block]? = none := by simp [hl]
    simp [World.cell?, this] at h
  rw [hb.cell hp]; exact h
theorem bkeepf {W w1 : World} (hb : Below W.heap.size W w1) {p : Addr} {v : Value} (h : W.cell? p = some v) (hf : W.frozen? p = false) : w1.frozen? p = false := by
  have hp : p.block < W.heap.size := by
    apply Nat.lt_of_not_le; intro hl
    have : W.heap[p.block]? = none := by simp [hl]
    simp [World.cell?, this] at h
  rw [hb.frozen hp]; exact hf
/-! a cell, behind a step of the world -/
theorem cell_alloc {w : World} {a : Addr} {v : Value} (h : w.cell? a = some v) (o : Obj) : (w.alloc o).cell? a = some v := by
  obtain ⟨b, o', s⟩ := a
  rw [World.cell?_alloc_lt (h := cell_lt h)]; exact h
theorem cell_drew {w : World} {a : Addr} {v : Value} (h : w.cell? a = some v) : w.drew.cell? a = some v := h
theorem cell_drewN {w : World} {a : Addr} {v : Value} (h : w.cell? a = some v) (n : Nat) : (w.drewN n).cell? a = some v := h
theorem cell_new {w : World} {c : Array Value} {t : TypeId} {b i : Nat} {v : Value} (hb : b = w.heap.size) (h : c[i]? = some v) : (w.alloc (.cells c t)).cell? ⟨b, i, none⟩ = some v := by
  rw [World.cell?_alloc_at (hn := hb)]; exact h
theorem cell_far {w : World} {a p : Addr} {v : Value} (h : w.cell? a = some v) (hne : p ≠ a) (u : Value) : (w.setCell p u).cell? a = some v := by
  rw [World.cell?_setCell_other (h := hne)]; exact h
theorem cell_here {w : World} {a : Addr} {v : Value} (h : w.cell? a = some v) (u : Value) : (w.setCell a u).cell? a = some u := by rw [World.cell?_setCell_same (h := h)]
/-- a block that has just been made, cell by cell -/
theorem cells_new (w : World) (C : List Value) (t : TypeId) : ∀ j u, C[j]? = some u → (w.alloc (.cells C.toArray t)).cell? ((⟨w.heap.size, 0, none⟩ : Addr).add j) = some u := by
  intro j u h
  have e : (⟨w.heap.size, 0, none⟩ : Addr).add j = ⟨w.heap.size, j, none⟩ := by
    unfold Addr.add; split
    · subst_vars; rfl
    · simp
  rw [e]
  exact cell_new rfl (by simpa using h)
/-- a row of the call's own, behind an append -/
theorem own_below {B : Nat} {e : TypeId} {size : Nat} {w0 wr w' : World} {v : Value} {n : Nat} {xs : List Value} (h : wr.ownsRow B e size v n xs) (hb : Below wr.heap.size wr w') : w'.ownsRow B e size v n xs := by
  obtain ⟨h1, h2⟩ := h
  refine ⟨h1, ?_⟩
  rcases h2 with h2 | ⟨g, cap, cur, hv, hg, hh, r⟩
  · exact .inl h2
  · exact .inr ⟨g, cap, cur, hv, hg, by rw [hb.block g (Array.getElem?_eq_some_iff.1 hh).1]; exact hh, r⟩
theorem below_append {w0 wr W w1 : World} {e : TypeId} {size : Nat} {v : Value} {n : Nat} {xs : List Value} (hB : Below w0.heap.size w0 W) (hown : W.ownsRow w0.heap.size e size v n xs) (hg : W.grownBy w1 v.ownBlock) : Below w0.heap.size w0 w1 :=
  hB.grown hg hB.size (fun k hk => (hown.lt k hk).1)

/-! ### A region that draws its order, whose calls only make memory and answer what their arguments say: one walk in the text's order -/
/-- a world that has grown out of w -/
structure Grows (w : World) where
  world : World
  below : Below w.heap.size w world
instance (w : World) : Nonempty (Grows w) := ⟨⟨w, Below.refl _ _⟩⟩
def grow (w : World) (s : Grows w) : World := s.world
theorem wp_name {P : Program} {c : Code} {Q : Exit → Act → World → Prop} {a : Act} {w : World} (h : ∀ W, W = w → c.wp P Q a W) : c.wp P Q a w := h w rfl
theorem bkc {W w1 : World} {p : Addr} {v : Value} (hb : Below W.heap.size W w1) (h : W.cell? p = some v := by first | assumption | exact cell_new (by with_reducible first | rfl | (simp; done) | (simp; omega)) rfl | (repeat (first | assumption | exact cell_new (by with_reducible first | rfl | (simp; done) | (simp; omega)) rfl | refine cell_alloc ?_ _ | refine cell_drew ?_ | refine cell_drewN ?_ _ | refine cell_far ?_ (by simp) _ | (refine cell_far ?_ (by simp <;> omega) _))) | simp [go_sem, *]) : w1.cell? p = some v := bkeep hb h
theorem bkcf {W w1 : World} {p : Addr} {v : Value} (hb : Below W.heap.size W w1) (h : W.cell? p = some v := by first | assumption | exact cell_new (by with_reducible first | rfl | (simp; done) | (simp; omega)) rfl | (repeat (first | assumption | exact cell_new (by with_reducible first | rfl | (simp; done) | (simp; omega)) rfl | refine cell_alloc ?_ _ | refine cell_drew ?_ | refine cell_drewN ?_ _ | refine cell_far ?_ (by simp) _ | (refine cell_far ?_ (by simp <;> omega) _))) | simp [go_sem, *]) (hf : W.frozen? p = false := by first | assumption | (simp <;> assumption) | simp [go_sem, *]) : w1.frozen? p = false := bkeepf hb h hf
end Go.Proofs.YtdllbdfchloijaaGreatDoor

/- Plain laws on points, no program in sight: what divides both coordinates, norms, points that are one. -/
namespace Go.Proofs.YtdllbdfchloijaaGreatDoor.Pt

/-- the coordinates are small enough -/
def PIn (a b : Int) : Prop := -16 ≤ a ∧ a ≤ 16 ∧ -16 ≤ b ∧ b ≤ 16
instance (a b : Int) : Decidable (PIn a b) := by unfold PIn; infer_instance
def inB (a b : Int) : Bool := decide (PIn a b)
def wi (x : Int) : Bool := decide (-16 ≤ x ∧ x ≤ 16)
theorem inB_wi (a b : Int) : inB a b = (wi a && wi b) := by
  rw [Bool.eq_iff_iff]; simp only [inB, wi, Bool.and_eq_true, decide_eq_true_eq]; unfold PIn; omega
theorem inB_iff (a b : Int) : inB a b = true ↔ (-16 ≤ a ∧ a ≤ 16 ∧ -16 ≤ b ∧ b ≤ 16) := by simp only [inB, decide_eq_true_eq]; exact Iff.rfl
/-- both are noughts -/
def nn (a b : Int) : Bool := decide (a = 0 ∧ b = 0)
theorem inB_yes {a b : Int} (h : PIn a b) : inB a b = true := by simp [inB, h]
theorem inB_no {a b : Int} (h : ¬ PIn a b) : inB a b = false := by simp [inB, h]

theorem fin_all {p : Int → Int → Bool} (h : ((List.range 33).all fun i => (List.range 33).all fun j => p ((i : Int) - 16) ((j : Int) - 16)) = true) (a b : Int) (hp : PIn a b) : p a b = true := by
  obtain ⟨h1, h2, h3, h4⟩ := hp
  rw [List.all_eq_true] at h
  have := h (a + 16).toNat (by simp; omega)
  rw [List.all_eq_true] at this
  have := this (b + 16).toNat (by simp; omega)
  have e1 : (((a + 16).toNat : Nat) : Int) - 16 = a := by omega
  have e2 : (((b + 16).toNat : Nat) : Int) - 16 = b := by omega
  rwa [e1, e2] at this

/-- a norm -/
def nrm (a b : Int) : Int × Int :=
  if (Int.gcd a b : Int) = 0 then (a, b)
  else if b < 0 ∨ (b = 0 ∧ a < 0) then (a.tdiv (-(Int.gcd a b : Int)), b.tdiv (-(Int.gcd a b : Int)))
  else (a.tdiv (Int.gcd a b : Int), b.tdiv (Int.gcd a b : Int))

theorem gcd_bd (a b : Int) (h : PIn a b) : (Int.gcd a b : Int) ≤ 16 := by
  have := fin_all (p := fun a b => decide ((Int.gcd a b : Int) ≤ 16)) (by decide +kernel) a b h
  simpa using this
/-- are they one, as the document says -/
def one (a b c d : Int) : Bool := if (a = 0 ∧ b = 0) ∨ (c = 0 ∧ d = 0) then (decide (a = 0 ∧ b = 0) && decide (c = 0 ∧ d = 0)) else a * d - c * b == 0

theorem nrm_spec (a b : Int) (h : PIn a b) : (a = 0 ∧ b = 0 ∧ nrm a b = (0, 0)) ∨ (¬ (a = 0 ∧ b = 0) ∧ ∃ g : Int, g ≠ 0 ∧ a = g * (nrm a b).1 ∧ b = g * (nrm a b).2 ∧ Int.gcd (nrm a b).1 (nrm a b).2 = 1 ∧ (0 < (nrm a b).2 ∨ ((nrm a b).2 = 0 ∧ (nrm a b).1 = 1))) := by
  have := fin_all (p := fun a b => decide ((a = 0 ∧ b = 0 ∧ nrm a b = (0, 0)) ∨ (¬ (a = 0 ∧ b = 0) ∧ (let g := (if b < 0 ∨ (b = 0 ∧ a < 0) then -(Int.gcd a b : Int) else (Int.gcd a b : Int)); g ≠ 0 ∧ a = g * (nrm a b).1 ∧ b = g * (nrm a b).2 ∧ Int.gcd (nrm a b).1 (nrm a b).2 = 1 ∧ (0 < (nrm a b).2 ∨ ((nrm a b).2 = 0 ∧ (nrm a b).1 = 1)))))) (by decide +kernel) a b h
  rw [decide_eq_true_eq] at this
  rcases this with h | ⟨h1, h2⟩
  · exact .inl h
  · exact .inr ⟨h1, _, h2⟩

theorem dvd_cop {y x v : Int} (h : y ∣ x * v) (hc : Int.gcd x y = 1) : y ∣ v := by
  have h1 : y.natAbs ∣ x.natAbs * v.natAbs := by rw [← Int.natAbs_mul]; exact Int.natAbs_dvd_natAbs.2 h
  have h2 : Nat.Coprime y.natAbs x.natAbs := by
    have : Nat.gcd x.natAbs y.natAbs = 1 := hc
    rw [Nat.Coprime, Nat.gcd_comm]; exact this
  exact Int.natAbs_dvd_natAbs.1 (h2.dvd_of_dvd_mul_left h1)
theorem cop_eq {x y u v : Int} (h1 : Int.gcd x y = 1) (h2 : Int.gcd u v = 1) (hy : 0 < y) (hv : 0 < v) (h : x * v = u * y) : x = u ∧ y = v := by
  have d1 : y ∣ v := dvd_cop (x := x) ⟨u, by rw [h]; exact Int.mul_comm _ _⟩ h1
  have d2 : v ∣ y := dvd_cop (x := u) ⟨x, by rw [← h]; exact Int.mul_comm _ _⟩ h2
  have e : y = v := Int.le_antisymm (Int.le_of_dvd hv d1) (Int.le_of_dvd hy d2)
  subst e
  exact ⟨Int.eq_of_mul_eq_mul_right (by omega) h, rfl⟩

theorem one_nrm (a b c d : Int) (h : PIn a b) (k : PIn c d) : one a b c d = decide (nrm a b = nrm c d) := by
  unfold one
  rcases nrm_spec a b h with ⟨rfl, rfl, e⟩ | ⟨n1, g, hg, ha, hb, hc, hs⟩
  · rcases nrm_spec c d k with ⟨rfl, rfl, e'⟩ | ⟨n2, g', hg', ha', hb', hc', hs'⟩
    · simp
    · have : ¬ (nrm 0 0 = nrm c d) := by
        rw [e]; intro he; rw [← he] at hc'; simp at hc'
      simp [n2, this]
  · rcases nrm_spec c d k with ⟨rfl, rfl, e'⟩ | ⟨n2, g', hg', ha', hb', hc', hs'⟩
    · have : ¬ (nrm a b = nrm 0 0) := by
        rw [e']; intro he; rw [he] at hc; simp at hc
      simp [n1, this]
    · simp only [n1, n2, or_self, if_false]
      generalize nrm a b = m at *
      generalize nrm c d = n at *
      obtain ⟨x, y⟩ := m
      obtain ⟨u, v⟩ := n
      simp only at ha hb hc hs ha' hb' hc' hs'
      have key : a * d - c * b = g * g' * (x * v - u * y) := by
        rw [ha, hb, ha', hb']
        simp only [Int.mul_sub]
        congr 1 <;> (simp only [Int.mul_assoc, Int.mul_left_comm])
      rw [key, Bool.eq_iff_iff]
      simp only [beq_iff_eq, decide_eq_true_eq, Prod.mk.injEq]
      constructor
      · intro hz
        have h0 : x * v - u * y = 0 := by
          rcases Int.mul_eq_zero.1 hz with h0 | h0
          · rcases Int.mul_eq_zero.1 h0 with h0 | h0 <;> contradiction
          · exact h0
        have h1 : x * v = u * y := by omega
        rcases hs with hs | ⟨hs, hx⟩
        · rcases hs' with hs' | ⟨hs', hx'⟩
          · exact cop_eq hc hc' hs hs' h1
          · subst hs' hx'; simp at h1; omega
        · subst hs hx
          rcases hs' with hs' | ⟨hs', hx'⟩
          · simp at h1; omega
          · exact ⟨hx'.symm, hs'.symm⟩
      · rintro ⟨rfl, rfl⟩
        simp [Int.sub_self]
end Go.Proofs.YtdllbdfchloijaaGreatDoor.Pt

/- The small functions of point and of its reference: what each answers. -/
namespace Go.Proofs.YtdllbdfchloijaaGreatDoor
open Pt
open Go.ChangeShapes Go.WideShapes Go.ChangeAt Go.RowKit
set_option linter.unusedVariables false
set_option linter.unusedSimpArgs false

theorem within_c (x : Int) (w : World) :
    Calls Tryz.prog 95 #[.int .i64 x] w fun e w' => e = .returned (.bool (wi x)) ∧ w = w' := by
  go_enter Tryz.func95, Tryz.ntmps95
  go_wp2
  all_goals go_ret
  all_goals exact ⟨ret_bool (by rw [Bool.eq_iff_iff]; simp [wi] <;> omega), rfl⟩

theorem amount_c (x : Int) (w : World) (h1 : -1000000 ≤ x) (h2 : x ≤ 1000000) :
    Calls Tryz.prog 165 #[.int .i64 x] w fun e w' => e = .returned (.int .i64 (x.natAbs : Int)) ∧ w = w' := by
  by_cases h : x < 0
  · have e : (x.natAbs : Int) = -x := by omega
    rw [e]; clear e
    go_enter Tryz.func165, Tryz.ntmps165
    go_wp2
    go_ret
    exact ⟨rfl, rfl⟩
  · have e : (x.natAbs : Int) = x := by omega
    rw [e]; clear e
    go_enter Tryz.func165, Tryz.ntmps165
    go_wp2
    go_ret
    exact ⟨rfl, rfl⟩
theorem tmod_lt (a b : Int) (h : b ≠ 0) : (a.tmod b).natAbs < b.natAbs := by rw [Int.natAbs_tmod]; exact Nat.mod_lt _ (by omega)
theorem tmod_bd (a b : Int) : (a.tmod b).natAbs ≤ a.natAbs := by rw [Int.natAbs_tmod]; exact Nat.mod_le _ _
theorem gcd_tmod (a b : Int) : Int.gcd b (a.tmod b) = Int.gcd a b := by
  show Nat.gcd b.natAbs (a.tmod b).natAbs = Nat.gcd a.natAbs b.natAbs
  rw [Int.natAbs_tmod, Nat.gcd_comm, ← Nat.gcd_rec, Nat.gcd_comm]

theorem common_c (x y : Int) (w : World) (h1 : -1000 ≤ x) (h2 : x ≤ 1000) (h3 : -1000 ≤ y) (h4 : y ≤ 1000) :
    Calls Tryz.prog 157 #[.int .i64 x, .int .i64 y] w fun e w' => e = .returned (.int .i64 (Int.gcd x y)) ∧ Below w.heap.size w w' := by
  go_enter Tryz.func157, Tryz.ntmps157
  go_wp2
  go_loopw [0, 1] (fun a b wr => ∃ p q : Int, a = .int .i64 p ∧ b = .int .i64 q ∧ -1000 ≤ p ∧ p ≤ 1000 ∧ -1000 ≤ q ∧ q ≤ 1000 ∧ Int.gcd p q = Int.gcd x y ∧ Below w.heap.size w wr) (fun _ b _ => (intOf b).natAbs)
  case atStart => exact ⟨x, y, rfl, rfl, h1, h2, h3, h4, rfl, Below.refl _ _⟩
  case round =>
    obtain ⟨p, q, rfl, rfl, p1, p2, q1, q2, hg, hb⟩ := hrel
    have HG := Lib.hid hg; clear hg
    by_cases hq : q = 0
    · subst hq
      go_wp2_with (go_at_call 165; refine (amount_c _ _ (by omega) (by omega)).mono ?_; rintro e w' ⟨rfl, rfl⟩)
      go_ret
      have := HG.out
      simp at this
      exact ⟨by simp [← this], hb⟩
    · have T1 := Lib.hid (tmod_lt p q hq)
      have T2 := Lib.hid (tmod_bd p q)
      go_wp2
      go_quiet (fail)
      go_wp2
      have := T1.out
      have := T2.out
      exact ⟨⟨q, _, rfl, rfl, q1, q2, by omega, by omega, (gcd_tmod p q).trans HG.out, below_drewN hb _⟩, by simpa [intOf] using T1.out⟩

end Go.Proofs.YtdllbdfchloijaaGreatDoor

/- The small functions of point and of its reference, next: In, None, norm, Norm, One, Det on both sides. -/
namespace Go.Proofs.YtdllbdfchloijaaGreatDoor
open Pt
open Go.ChangeShapes Go.WideShapes Go.ChangeAt Go.RowKit
set_option linter.unusedVariables false
set_option linter.unusedSimpArgs false

/-- a point as a value -/
abbrev pv (a b : Int) : Value := .agg #[.int .i64 a, .int .i64 b]

theorem ptIn_c (a b : Int) (w : World) :
    Calls Tryz.prog 55 #[pv a b] w fun e w' => e = .returned (.bool (inB a b)) ∧ Below w.heap.size w w' := by
  rw [inB_wi]
  by_cases h1 : wi a = true
  · rw [h1, Bool.true_and]
    have wc : ∀ w, Calls Tryz.prog 95 #[.int .i64 a] w fun e w' => e = .returned (.bool true) ∧ w = w' := fun w => by rw [← h1]; exact within_c a w
    clear h1
    go_enter Tryz.func55, Tryz.ntmps55
    go_wp2_with (go_at_call 95; refine (wc _).mono ?_; clear wc; rintro e w' ⟨rfl, rfl⟩)
    go_wp2_with (go_at_call 95; refine (within_c b _).mono ?_; rintro e w' ⟨rfl, rfl⟩)
    go_ret
    exact ⟨rfl, by repeat (first | exact Below.refl _ _ | assumption | refine bal ?_ _)⟩
  · replace h1 : wi a = false := by simpa using h1
    rw [h1, Bool.false_and]
    have wc : ∀ w, Calls Tryz.prog 95 #[.int .i64 a] w fun e w' => e = .returned (.bool false) ∧ w = w' := fun w => by rw [← h1]; exact within_c a w
    clear h1
    go_enter Tryz.func55, Tryz.ntmps55
    go_wp2_with (go_at_call 95; refine (wc _).mono ?_; clear wc; rintro e w' ⟨rfl, rfl⟩)
    go_ret
    exact ⟨rfl, by repeat (first | exact Below.refl _ _ | assumption | refine bal ?_ _)⟩

theorem ptNone_c (a b : Int) (w : World) :
    Calls Tryz.prog 67 #[pv a b] w fun e w' => e = .returned (.bool (nn a b)) ∧ Below w.heap.size w w' := by
  go_enter Tryz.func67, Tryz.ntmps67
  go_wp2
  all_goals go_ret
  all_goals exact ⟨ret_bool (by rw [Bool.eq_iff_iff]; simp [nn] <;> omega), by repeat (first | exact Below.refl _ _ | assumption | refine bal ?_ _)⟩

/-- a point's norm as a value -/
def nv (a b : Int) : Value := pv (nrm a b).1 (nrm a b).2
theorem nv0 {a b : Int} (h : (Int.gcd a b : Int) = 0) : nv a b = pv a b := by simp [nv, nrm, h]
theorem nv1 {a b : Int} (h : (Int.gcd a b : Int) ≠ 0) (h1 : b < 0 ∨ (b = 0 ∧ a < 0)) : nv a b = pv (a.tdiv (-(Int.gcd a b : Int))) (b.tdiv (-(Int.gcd a b : Int))) := by
  unfold nv nrm; rw [if_neg h, if_pos h1]
theorem nv2 {a b : Int} (h : (Int.gcd a b : Int) ≠ 0) (h1 : ¬ (b < 0 ∨ (b = 0 ∧ a < 0))) : nv a b = pv (a.tdiv (Int.gcd a b : Int)) (b.tdiv (Int.gcd a b : Int)) := by
  unfold nv nrm; rw [if_neg h, if_neg h1]

theorem tdiv_bd (a g : Int) : (a.tdiv g).natAbs ≤ a.natAbs := by
  rw [Int.natAbs_tdiv]; exact Nat.div_le_self _ _
theorem wp64 (x : Int) (h1 : -1000000 ≤ x) (h2 : x ≤ 1000000) : wrap64 x = x := by unfold wrap64; omega
theorem tdq2 (a g : Int) (h : 0 ≤ a) (h2 : a ≤ 16) : wrap64 (a / g) = a.tdiv g := by
  have := tdiv_bd a g
  rw [← Int.tdiv_eq_ediv_of_nonneg h]
  exact wp64 _ (by omega) (by omega)
theorem tdq3 (a g : Int) (h : 0 ≤ a) (h2 : a ≤ 16) : wrap64 (a / g) = a / g := by
  have := tdq2 a g h h2
  rw [Int.tdiv_eq_ediv_of_nonneg h] at this; exact this
theorem tdq4 (a g : Int) (h : 0 ≤ a) (h2 : a ≤ 16) : wrap64 (a.tdiv g) = a / g := by
  rw [Int.tdiv_eq_ediv_of_nonneg h]; exact tdq3 a g h h2
theorem tdq (a g : Int) (h1 : -16 ≤ a) (h2 : a ≤ 16) : wrap64 (-a.tdiv g) = -a.tdiv g ∧ wrap64 (a.tdiv g) = a.tdiv g ∧ (0 ≤ a → wrap64 (a / g) = a / g) := by
  have := tdiv_bd a g
  refine ⟨wp64 _ (by omega) (by omega), wp64 _ (by omega) (by omega), fun h => ?_⟩
  rw [← Int.tdiv_eq_ediv_of_nonneg h]
  exact wp64 _ (by omega) (by omega)

set_option linter.unusedSimpArgs false in
set_option maxRecDepth 100000 in
set_option maxHeartbeats 400000 in
theorem norm_c (a b : Int) (w : World) (h : PIn a b) :
    Calls Tryz.prog 141 #[pv a b] w fun e w' => e = .returned (nv a b) ∧ Below w.heap.size w w' := by
  have hg := gcd_bd a b h
  obtain ⟨h1, h2, h3, h4⟩ := h
  have cc : ∀ w, Calls Tryz.prog 157 #[.int .i64 a, .int .i64 b] w fun e w' => e = .returned (.int .i64 (Int.gcd a b)) ∧ Below w.heap.size w w' := fun w => common_c a b w (by omega) (by omega) (by omega) (by omega)
  have e0 := @nv0 a b
  have e1 := @nv1 a b
  have e2 := @nv2 a b
  have hg0 : (0 : Int) ≤ (Int.gcd a b : Int) := by omega
  generalize (Int.gcd a b : Int) = g at *
  generalize nv a b = nvv at *
  by_cases hz : g = 0
  · have E0 := Lib.hid (e0 hz)
    subst hz
    clear e0 e1 e2
    go_enter Tryz.func141, Tryz.ntmps141
    go_wp2_with fail
    refine (cc _).mono ?_
    rintro e w1 ⟨rfl, hb⟩
    obtain ⟨hc, hf⟩ := bcell hb
    have hs := hb.size
    simp at hs
    clear cc
    go_wp2
    refine bodyPost_ret (v := pv a b) (by simp [results, Tryz.results141, go_sem, hc]) rfl ⟨by rw [E0.out], ?_⟩
    repeat (first | exact Below.refl _ _ | exact bthen (bal (bal (Below.refl _ _) _) _) hb | refine bset ?_ (by simp) _ | refine bal ?_ _)
  · clear e0
    by_cases hn : b < 0 ∨ (b = 0 ∧ a < 0)
    · have E1 := Lib.hid (e1 hz hn)
      clear e1 e2
      go_enter Tryz.func141, Tryz.ntmps141
      go_wp2_with fail
      refine (cc _).mono ?_
      rintro e w1 ⟨rfl, hb⟩
      obtain ⟨hc, hf⟩ := bcell hb
      have hs := hb.size
      simp at hs
      clear cc
      go_wp2
      all_goals go_region
      all_goals go_wp2
      all_goals refine bodyPost_ret (v := pv (a.tdiv (-g)) (b.tdiv (-g))) (by simp [results, Tryz.results141, go_sem, hc] <;> (try constructor) <;> first | exact (tdq _ _ h1 h2).1 | exact (tdq _ _ h1 h2).2.1 | exact (tdq _ _ h3 h4).1 | exact (tdq _ _ h3 h4).2.1 | exact tdq2 _ _ (by omega) (by omega) | exact tdq3 _ _ (by omega) (by omega) | exact tdq4 _ _ (by omega) (by omega) | (simp_all; done) | exact (Int.tdiv_eq_ediv_of_nonneg (by omega)).symm | (exfalso; omega)) rfl ⟨by rw [E1.out], ?_⟩
      all_goals repeat (first | exact Below.refl _ _ | exact bthen (bal (bal (Below.refl _ _) _) _) hb | refine Below.drew ?_ | refine bset ?_ (by simp) _ | refine bal ?_ _)
    · have E1 := Lib.hid (e2 hz hn)
      clear e1 e2
      go_enter Tryz.func141, Tryz.ntmps141
      go_wp2_with fail
      refine (cc _).mono ?_
      rintro e w1 ⟨rfl, hb⟩
      obtain ⟨hc, hf⟩ := bcell hb
      have hs := hb.size
      simp at hs
      clear cc
      go_wp2
      all_goals go_region
      all_goals go_wp2
      all_goals refine bodyPost_ret (v := pv (a.tdiv (g)) (b.tdiv (g))) (by simp [results, Tryz.results141, go_sem, hc] <;> (try constructor) <;> first | exact (tdq _ _ h1 h2).1 | exact (tdq _ _ h1 h2).2.1 | exact (tdq _ _ h3 h4).1 | exact (tdq _ _ h3 h4).2.1 | exact tdq2 _ _ (by omega) (by omega) | exact tdq3 _ _ (by omega) (by omega) | exact tdq4 _ _ (by omega) (by omega) | (simp_all; done) | exact (Int.tdiv_eq_ediv_of_nonneg (by omega)).symm | (exfalso; omega)) rfl ⟨by rw [E1.out], ?_⟩
      all_goals repeat (first | exact Below.refl _ _ | exact bthen (bal (bal (Below.refl _ _) _) _) hb | refine Below.drew ?_ | refine bset ?_ (by simp) _ | refine bal ?_ _)
end Go.Proofs.YtdllbdfchloijaaGreatDoor

/- Norm, One, Det and what the reference says of them. -/
namespace Go.Proofs.YtdllbdfchloijaaGreatDoor
open Pt
open Go.ChangeShapes Go.WideShapes Go.ChangeAt Go.RowKit
set_option linter.unusedVariables false
set_option linter.unusedSimpArgs false

end Go.Proofs.YtdllbdfchloijaaGreatDoor

/- One; the reference's Common, Norm, One, Det. -/
namespace Go.Proofs.YtdllbdfchloijaaGreatDoor
open Pt
open Go.ChangeShapes Go.WideShapes Go.ChangeAt Go.RowKit
set_option linter.unusedVariables false
set_option linter.unusedSimpArgs false

theorem ptOne_no (a b c d : Int) (w : World) (h : ¬ (PIn a b ∧ PIn c d)) :
    Calls Tryz.prog 108 #[pv a b, pv c d] w fun e w' => e = .returned (.tuple #[.bool false, .int .i64 2]) ∧ Below w.heap.size w w' := by
  by_cases h1 : PIn a b
  · have hi := inB_yes h1
    have cc : ∀ w, Calls Tryz.prog 55 #[pv a b] w fun e w' => e = .returned (.bool true) ∧ Below w.heap.size w w' := fun w => by rw [← hi]; exact ptIn_c a b w
    have hj := inB_no (fun k => h ⟨h1, k⟩)
    have cd : ∀ w, Calls Tryz.prog 55 #[pv c d] w fun e w' => e = .returned (.bool false) ∧ Below w.heap.size w w' := fun w => by rw [← hj]; exact ptIn_c c d w
    clear hi hj h h1
    go_enter Tryz.func108, Tryz.ntmps108
    go_wp2_with fail
    refine (cc _).mono ?_
    rintro e w1 ⟨rfl, hb1⟩
    obtain ⟨hc1, hf1⟩ := bcell hb1
    have hs1 := hb1.size
    try simp only [World.size_alloc, World.size_drew, size_drewN, World.size_setCell] at hs1
    have z1_0 : w.heap.size < w1.heap.size := by omega
    have z1_1 : w.heap.size + 1 < w1.heap.size := by omega
    clear cc
    go_wp2_with fail
    refine (cd _).mono ?_
    rintro e w2 ⟨rfl, hb2⟩
    obtain ⟨hc2, hf2⟩ := bcell hb2
    have hs2 := hb2.size
    try simp only [World.size_alloc, World.size_drew, size_drewN, World.size_setCell] at hs2
    have z2_0 : w.heap.size < w2.heap.size := by omega
    have z2_1 : w.heap.size + 1 < w2.heap.size := by omega
    clear cd
    go_wp2
    go_ret2
    exact ⟨rfl, bthen (bthen (bal (bal (Below.refl _ _) _) _) hb1) hb2⟩
  · have hi := inB_no h1
    have cc : ∀ w, Calls Tryz.prog 55 #[pv a b] w fun e w' => e = .returned (.bool false) ∧ Below w.heap.size w w' := fun w => by rw [← hi]; exact ptIn_c a b w
    clear hi h h1
    go_enter Tryz.func108, Tryz.ntmps108
    go_wp2_with fail
    refine (cc _).mono ?_
    rintro e w1 ⟨rfl, hb1⟩
    obtain ⟨hc1, hf1⟩ := bcell hb1
    have hs1 := hb1.size
    try simp only [World.size_alloc, World.size_drew, size_drewN, World.size_setCell] at hs1
    have z1_0 : w.heap.size < w1.heap.size := by omega
    have z1_1 : w.heap.size + 1 < w1.heap.size := by omega
    clear cc
    go_wp2
    go_ret2
    exact ⟨rfl, bthen (bal (bal (Below.refl _ _) _) _) hb1⟩

theorem norm_pv (a b : Int) (w : World) (h : PIn a b) :
    Calls Tryz.prog 141 #[pv a b] w fun e w' => e = .returned (pv (nrm a b).1 (nrm a b).2) ∧ Below w.heap.size w w' := norm_c a b w h


theorem eq_pv (x y u v : Int) (w : World) : (binOp .eql 33 (.agg #[.int .i64 x, .int .i64 y]) (.agg #[.int .i64 u, .int .i64 v])).run Tryz.prog w = .ok (.bool (x == u && y == v)) w := by
  by_cases h : x = u
  · subst h
    simp [go_sem]
    by_cases h : y = v
    · subst h; simp
    · simp [h]
  · simp [go_sem, h]
theorem ptOne_yes (a b c d : Int) (w : World) (h1 : PIn a b) (h2 : PIn c d) :
    Calls Tryz.prog 108 #[pv a b, pv c d] w fun e w' => e = .returned (.tuple #[.bool (one a b c d), .int .i64 0]) ∧ Below w.heap.size w w' := by
  have hi := inB_yes h1
  have cc : ∀ w, Calls Tryz.prog 55 #[pv a b] w fun e w' => e = .returned (.bool true) ∧ Below w.heap.size w w' := fun w => by rw [← hi]; exact ptIn_c a b w
  have hj := inB_yes h2
  have cd : ∀ w, Calls Tryz.prog 55 #[pv c d] w fun e w' => e = .returned (.bool true) ∧ Below w.heap.size w w' := fun w => by rw [← hj]; exact ptIn_c c d w
  have HO := Lib.hid (one_nrm a b c d h1 h2)
  clear hi hj
  go_enter Tryz.func108, Tryz.ntmps108
  go_wp2_with fail
  refine (cc _).mono ?_
  rintro e w1 ⟨rfl, hb1⟩
  have g0 : w1.cell? ⟨w.heap.size, 0, none⟩ = some (.int .i64 a) := bkc hb1
  have zg0 := cell_lt g0
  have g1 : w1.cell? ⟨w.heap.size, 1, none⟩ = some (.int .i64 b) := bkc hb1
  have g2 : w1.cell? ⟨w.heap.size + 1, 0, none⟩ = some (.int .i64 c) := bkc hb1
  have zg2 := cell_lt g2
  have g3 : w1.cell? ⟨w.heap.size + 1, 1, none⟩ = some (.int .i64 d) := bkc hb1
  have hB : Below w.heap.size w w1 := bthen (by repeat (first | exact Below.refl _ _ | exact hB | refine Below.drew ?_ | refine below_drewN ?_ _ | refine bset ?_ (by simp <;> omega) _ | refine bal ?_ _)) hb1
  have hz : w.heap.size ≤ w1.heap.size := hB.size
  clear cc
  go_wp2_with fail
  refine (cd _).mono ?_
  rintro e w2 ⟨rfl, hb2⟩
  have g0 : w2.cell? ⟨w.heap.size, 0, none⟩ = some (.int .i64 a) := bkc hb2
  have zg0 := cell_lt g0
  have g1 : w2.cell? ⟨w.heap.size, 1, none⟩ = some (.int .i64 b) := bkc hb2
  have g2 : w2.cell? ⟨w.heap.size + 1, 0, none⟩ = some (.int .i64 c) := bkc hb2
  have zg2 := cell_lt g2
  have g3 : w2.cell? ⟨w.heap.size + 1, 1, none⟩ = some (.int .i64 d) := bkc hb2
  have hB : Below w.heap.size w w2 := bthen (by repeat (first | exact Below.refl _ _ | exact hB | refine Below.drew ?_ | refine below_drewN ?_ _ | refine bset ?_ (by simp <;> omega) _ | refine bal ?_ _)) hb2
  have hz : w.heap.size ≤ w2.heap.size := hB.size
  clear cd
  go_wp2_with fail
  have he := fun w => eq_pv (nrm a b).1 (nrm a b).2 (nrm c d).1 (nrm c d).2 w
  have heq : ((nrm a b).1 == (nrm c d).1 && (nrm a b).2 == (nrm c d).2) = one a b c d := by
    rw [HO.out]; rw [Bool.eq_iff_iff]; simp [Prod.ext_iff]
  rw [heq] at he
  clear heq
  go_region_held3 (fun w' => w'.cell? ⟨w.heap.size, 0, none⟩ = some (.int .i64 a) ∧ w'.cell? ⟨w.heap.size, 1, none⟩ = some (.int .i64 b) ∧ w'.cell? ⟨w.heap.size + 1, 0, none⟩ = some (.int .i64 c) ∧ w'.cell? ⟨w.heap.size + 1, 1, none⟩ = some (.int .i64 d)) (go_keep)
    (first | (go_at_call 141; refine (norm_pv _ _ _ (by assumption)).mono ?_; rintro e w3 ⟨rfl, hb3⟩; have g0 : w3.cell? ⟨w.heap.size, 0, none⟩ = some (.int .i64 a) := bkc hb3; have zg0 := cell_lt g0; have g1 : w3.cell? ⟨w.heap.size, 1, none⟩ = some (.int .i64 b) := bkc hb3; have g2 : w3.cell? ⟨w.heap.size + 1, 0, none⟩ = some (.int .i64 c) := bkc hb3; have zg2 := cell_lt g2; have g3 : w3.cell? ⟨w.heap.size + 1, 1, none⟩ = some (.int .i64 d) := bkc hb3; have hB : Below w.heap.size w w3 := bthen (by repeat (first | exact Below.refl _ _ | exact hB | refine Below.drew ?_ | refine below_drewN ?_ _ | refine bset ?_ (by simp <;> omega) _ | refine bal ?_ _)) hb3; have hz : w.heap.size ≤ w3.heap.size := hB.size))

  all_goals go_wp2
  all_goals go_ret2
  all_goals exact ⟨rfl, by assumption⟩

end Go.Proofs.YtdllbdfchloijaaGreatDoor

/- The reference's Norm, One, Det; live. -/
namespace Go.Proofs.YtdllbdfchloijaaGreatDoor
open Pt
open Go.ChangeShapes Go.WideShapes Go.ChangeAt Go.RowKit
set_option linter.unusedVariables false
set_option linter.unusedSimpArgs false

end Go.Proofs.YtdllbdfchloijaaGreatDoor

/- A list of points that came in. -/
namespace Go.Proofs.YtdllbdfchloijaaGreatDoor
open Go.ChangeShapes Go.WideShapes Go.ChangeAt Go.RowKit
/-- a row of points in memory -/
def PtsIn (w : World) (b off n : Nat) (f : Nat → Int × Int) : Prop := ∀ k, k < n → w.cell? ⟨b, off + k * 2, none⟩ = some (.int .i64 (f k).1) ∧ w.cell? ⟨b, off + k * 2 + 1, none⟩ = some (.int .i64 (f k).2)
/-- a list of points that came in -/
def PtsV (w : World) (a : Option Addr) (n cap : Nat) (f : Nat → Int × Int) : Prop := n = 0 ∨ ∃ b off, a = some ⟨b, off, none⟩ ∧ n ≤ cap ∧ PtsIn w b off n f
theorem PtsV.keep {w w' : World} {a : Option Addr} {n cap : Nat} {f : Nat → Int × Int} (h : PtsV w a n cap f) (hb : Below w.heap.size w w') : PtsV w' a n cap f := by
  rcases h with h | ⟨b, off, h1, h2, h3⟩
  · exact .inl h
  · exact .inr ⟨b, off, h1, h2, fun k hk => ⟨bkeep hb (h3 k hk).1, bkeep hb (h3 k hk).2⟩⟩
end Go.Proofs.YtdllbdfchloijaaGreatDoor

/- The first two points that are one: both searches. -/
namespace Go.Proofs.YtdllbdfchloijaaGreatDoor
open Pt
open Go.ChangeShapes Go.WideShapes Go.ChangeAt Go.RowKit
set_option linter.unusedVariables false
set_option linter.unusedSimpArgs false

/-- both are in, and they are one -/
def twin (p q : Int × Int) : Bool := inB p.1 p.2 && (inB q.1 q.2 && one p.1 p.2 q.1 q.2)
/-- no two are one, the second before place j -/
def NoTw (f : Nat → Int × Int) (j : Nat) : Prop := ∀ j', j' < j → ∀ i, i < j' → twin (f i) (f j') = false
/-- none before place i is one with place j -/
def NoTwAt (f : Nat → Int × Int) (j i : Nat) : Prop := ∀ i', i' < i → twin (f i') (f j) = false
theorem NoTw.next {f : Nat → Int × Int} {j : Nat} (h : NoTw f j) (k : NoTwAt f j j) : NoTw f (j + 1) := by
  intro j' hj i hi
  by_cases e : j' = j
  · subst e; exact k i hi
  · exact h j' (by omega) i hi
theorem NoTwAt.next {f : Nat → Int × Int} {j i : Nat} (h : NoTwAt f j i) (k : twin (f i) (f j) = false) : NoTwAt f j (i + 1) := by
  intro i' hi
  by_cases e : i' = i
  · subst e; exact k
  · exact h i' (by omega)
/-- what both searches answer -/
def TwRes (f : Nat → Int × Int) (n : Nat) (x y : Int) (ok : Bool) : Prop :=
  (ok = true ∧ ∃ i j : Nat, x = i ∧ y = j ∧ i < j ∧ j < n ∧ twin (f i) (f j) = true ∧ NoTw f j ∧ NoTwAt f j i) ∨ (ok = false ∧ x = 0 ∧ y = 0 ∧ NoTw f n)
theorem ptOne_v (a b c d : Int) (v : Bool) (w : World) (hv : twin (a, b) (c, d) = v) :
    Calls Tryz.prog 108 #[pv a b, pv c d] w fun e w' => (∃ n, e = .returned (.tuple #[.bool v, .int .i64 n])) ∧ Below w.heap.size w w' := by
  by_cases h : PIn a b ∧ PIn c d
  · have : twin (a, b) (c, d) = one a b c d := by simp [twin, inB_yes h.1, inB_yes h.2]
    rw [← hv, this]
    exact (ptOne_yes a b c d w h.1 h.2).mono fun e w' k => ⟨⟨_, k.1⟩, k.2⟩
  · have : twin (a, b) (c, d) = false := by
      unfold twin
      by_cases h1 : PIn a b
      · simp [inB_no (fun k => h ⟨h1, k⟩)]
      · simp [inB_no h1]
    rw [← hv, this]
    exact (ptOne_no a b c d w h).mono fun e w' k => ⟨⟨_, k.1⟩, k.2⟩

/-- an ending of three results -/
def Ret3 (R : Int → Int → Bool → Prop) (e : Ending) : Prop := ∃ x y ok, e = .returned (.tuple #[.int .i64 x, .int .i64 y, .bool ok]) ∧ R x y ok

set_option maxRecDepth 100000 in
set_option maxHeartbeats 1000000 in
theorem ptTwins_c (b off n cap : Nat) (f : Nat → Int × Int) (w : World) (hn : n ≤ 300) (hcap : n ≤ cap) (hc : PtsIn w b off n f) :
    Calls Tryz.prog 68 #[.slice (some ⟨b, off, none⟩) n cap] w fun e w' => Ret3 (TwRes f n) e ∧ Below w.heap.size w w' := by
  go_enter Tryz.func68, Tryz.ntmps68
  go_wp2
  go_loopw [13] (fun i wr => ∃ j : Nat, j ≤ n ∧ i = .int .i64 j ∧ NoTw f j ∧ Below w.heap.size w wr) (fun i _ => n - (intOf i).toNat)
  case atStart => exact ⟨0, by omega, rfl, (fun j' hj => by omega), Below.refl _ _⟩
  case round =>
    obtain ⟨j, hj, rfl, hN, hB⟩ := hrel
    by_cases hlt : j < n
    · obtain ⟨c0, c1⟩ := hc j hlt
      replace c0 := bkeep hB c0
      replace c1 := bkeep hB c1
      have zb := cell_lt c0
      generalize hq : f j = q at *
      obtain ⟨q1, q2⟩ := q
      have HQ := Lib.hid hq; clear hq
      go_wp2
      have hBW := bal hB (.cells #[.int .i64 q1, .int .i64 q2] 33)
      go_loopw [22] (fun i wi => ∃ k : Nat, k ≤ j ∧ i = .int .i64 k ∧ NoTwAt f j k ∧ wi.cell? ⟨wr.heap.size, 0, none⟩ = some (.int .i64 q1) ∧ wi.cell? ⟨wr.heap.size, 1, none⟩ = some (.int .i64 q2) ∧ Below w.heap.size w wi) (fun i _ => j - (intOf i).toNat)
      case atStart => exact ⟨0, by omega, rfl, (fun j' hj => by omega), cell_new rfl rfl, cell_new rfl rfl, hBW⟩
      case round =>
        rename World => wi
        obtain ⟨k, hk, rfl, hA, d0, d1, hB⟩ := hrel
        by_cases hkj : k < j
        · obtain ⟨c0, c1⟩ := hc k (by omega)
          replace c0 := bkeep hB c0
          replace c1 := bkeep hB c1
          have zc := cell_lt c0
          have zd := cell_lt d0
          generalize hp : f k = p at *
          obtain ⟨p1, p2⟩ := p
          have HP := Lib.hid hp; clear hp
          dsimp only at c0 c1
          clear hBW
          obtain ⟨v, hv⟩ : ∃ v, twin (p1, p2) (q1, q2) = v := ⟨_, rfl⟩
          have oc := fun w => ptOne_v p1 p2 q1 q2 v w hv
          have HV := Lib.hid hv; clear hv
          cases v
          ·
            go_wp2_with fail
            refine (oc _).mono ?_
            rintro e w1 ⟨⟨n1, rfl⟩, hb1⟩
            have d0 : w1.cell? ⟨wr.heap.size, 0, none⟩ = some (.int .i64 q1) := bkc hb1
            have zd0 := cell_lt d0
            have d1 : w1.cell? ⟨wr.heap.size, 1, none⟩ = some (.int .i64 q2) := bkc hb1
            have hB : Below w.heap.size w w1 := bthen (by repeat (first | exact Below.refl _ _ | exact hB | refine Below.drew ?_ | refine below_drewN ?_ _ | refine bset ?_ (by simp <;> omega) _ | refine bal ?_ _)) hb1
            have hz : w.heap.size ≤ w1.heap.size := hB.size
            go_wp2
            go_roundw
            case rel => exact ⟨k + 1, by omega, by go_num, hA.next (by rw [HP.out, HQ.out]; exact HV.out), d0, d1, hB⟩
            case measure => simp [intOf]; omega
          ·
            go_wp2_with fail
            refine (oc _).mono ?_
            rintro e w1 ⟨⟨n1, rfl⟩, hb1⟩
            have d0 : w1.cell? ⟨wr.heap.size, 0, none⟩ = some (.int .i64 q1) := bkc hb1
            have zd0 := cell_lt d0
            have d1 : w1.cell? ⟨wr.heap.size, 1, none⟩ = some (.int .i64 q2) := bkc hb1
            have hB : Below w.heap.size w w1 := bthen (by repeat (first | exact Below.refl _ _ | exact hB | refine Below.drew ?_ | refine below_drewN ?_ _ | refine bset ?_ (by simp <;> omega) _ | refine bal ?_ _)) hb1
            have hz : w.heap.size ≤ w1.heap.size := hB.size
            go_wp2
            go_ret3
            exact ⟨⟨_, _, _, rfl, .inl ⟨rfl, k, j, rfl, rfl, hkj, hlt, by rw [HP.out, HQ.out]; exact HV.out, hN, hA⟩⟩, hB⟩
        · obtain rfl : k = j := by omega
          go_wp2
          go_roundw
          case rel => exact ⟨k + 1, by omega, by go_num, hN.next hA, hB⟩
          case measure => simp [intOf]; omega
    · obtain rfl : j = n := by omega
      go_wp2
      go_ret3
      exact ⟨⟨_, _, _, rfl, .inr ⟨rfl, rfl, rfl, hN⟩⟩, hB⟩

end Go.Proofs.YtdllbdfchloijaaGreatDoor

/- Plain laws: numbers as lists of digits to the base 2^32, low one first. -/
namespace Go.Proofs.YtdllbdfchloijaaGreatDoor.Num

/-- the base -/
def BB : Nat := 4294967296
theorem BB_pos : 0 < BB := by unfold BB; omega
/-- what a list of limbs stands for -/
def val : List Nat → Nat
  | [] => 0
  | x :: l => x + BB * val l
/-- every limb is one -/
def Limbs (l : List Nat) : Prop := ∀ x ∈ l, x < BB
/-- without high noughts -/
def Nrm (l : List Nat) : Prop := ∀ h : l ≠ [], l.getLast h ≠ 0
/-- high noughts struck -/
def trimL (l : List Nat) : List Nat := (l.reverse.dropWhile (· == 0)).reverse

theorem val_append (l m : List Nat) : val (l ++ m) = val l + BB ^ l.length * val m := by
  induction l with
  | nil => simp [val]
  | cons x l ih =>
    simp only [val, List.cons_append, ih, List.length_cons, Nat.pow_succ, Nat.mul_add, Nat.add_assoc]
    congr 2
    rw [← Nat.mul_assoc, Nat.mul_comm BB]
theorem val_lt {l : List Nat} (h : Limbs l) : val l < BB ^ l.length := by
  induction l with
  | nil => simp [val]
  | cons x l ih =>
    have h1 := ih (fun y hy => h y (by simp [hy]))
    have h2 := h x (by simp)
    simp only [val, List.length_cons, Nat.pow_succ]
    have h3 : val l + 1 ≤ BB ^ l.length := h1
    have h4 := Nat.mul_le_mul_left BB h3
    rw [Nat.mul_add] at h4
    rw [Nat.mul_comm (BB ^ l.length) BB]
    omega
theorem val_zeros (n : Nat) : val (List.replicate n 0) = 0 := by
  induction n with
  | zero => rfl
  | succ n ih => simp [List.replicate_succ, val, ih]
theorem trimL_append_zero (l : List Nat) : trimL (l ++ [0]) = trimL l := by simp [trimL]
theorem trimL_append_pos (l : List Nat) (x : Nat) (h : x ≠ 0) : trimL (l ++ [x]) = l ++ [x] := by simp [trimL, h]
theorem trimL_nil : trimL [] = [] := rfl
theorem list_snoc_ind {P : List Nat → Prop} (h0 : P []) (h1 : ∀ l x, P l → P (l ++ [x])) (l : List Nat) : P l := by
  rw [← List.reverse_reverse l]
  generalize l.reverse = m
  induction m with
  | nil => exact h0
  | cons x m ih => rw [List.reverse_cons]; exact h1 _ _ ih
theorem val_trim (l : List Nat) : val (trimL l) = val l := by
  induction l using list_snoc_ind with
  | h0 => rfl
  | h1 l x ih =>
    by_cases hx : x = 0
    · subst hx; rw [trimL_append_zero, ih, val_append]; simp [val]
    · rw [trimL_append_pos l x hx]
theorem trim_prefix (l : List Nat) : trimL l <+: l := by
  induction l using list_snoc_ind with
  | h0 => exact List.prefix_rfl
  | h1 l x ih =>
    by_cases hx : x = 0
    · subst hx; rw [trimL_append_zero]; exact ih.trans (List.prefix_append _ _)
    · rw [trimL_append_pos l x hx]; exact List.prefix_rfl
theorem trim_len (l : List Nat) : (trimL l).length ≤ l.length := (trim_prefix l).length_le
theorem trim_limbs {l : List Nat} (h : Limbs l) : Limbs (trimL l) := fun x hx => h x ((trim_prefix l).subset hx)
theorem trim_nrm (l : List Nat) : Nrm (trimL l) := by
  induction l using list_snoc_ind with
  | h0 => intro h; exact absurd rfl h
  | h1 l x ih =>
    by_cases hx : x = 0
    · subst hx; rw [trimL_append_zero]; exact ih
    · rw [trimL_append_pos l x hx]; intro h; simpa using hx
theorem trim_of_nrm {l : List Nat} (h : Nrm l) : trimL l = l := by
  induction l using list_snoc_ind with
  | h0 => rfl
  | h1 l x ih =>
    have := h (by simp)
    simp at this
    exact trimL_append_pos l x this
/-- the trimmed list as a cut -/
theorem trim_take (l : List Nat) : trimL l = l.take (trimL l).length := by
  have := List.prefix_iff_eq_take.1 (trim_prefix l)
  exact this
theorem nrm_val_pos {l : List Nat} (h : Nrm l) (hn : l ≠ []) : BB ^ (l.length - 1) ≤ val l := by
  obtain ⟨m, x, rfl⟩ : ∃ m x, l = m ++ [x] := ⟨l.dropLast, l.getLast hn, (List.dropLast_concat_getLast hn).symm⟩
  have hx := h hn
  simp at hx
  rw [val_append]
  simp [val]
  have : BB ^ m.length * 1 ≤ BB ^ m.length * x := Nat.mul_le_mul_left _ (by omega)
  omega
end Go.Proofs.YtdllbdfchloijaaGreatDoor.Num

/- A region that draws its order: a head whose calls answer what their arguments say and only make memory, and a tail whose order is forced: one walk. -/
namespace Go.Proofs.YtdllbdfchloijaaGreatDoor
open Go.ChangeShapes Go.WideShapes Go.ChangeAt Go.RowKit
set_option linter.unusedVariables false
set_option linter.unusedSimpArgs false
section
variable {P : Program} {ops : Array Oper} {md : Region.Mode} {C : World → Prop}
end
end Go.Proofs.YtdllbdfchloijaaGreatDoor

/- The law PointTwins, for every list of points. -/
namespace Go.Proofs.YtdllbdfchloijaaGreatDoor
open Pt
open Go.ChangeShapes Go.WideShapes Go.ChangeAt Go.RowKit
set_option linter.unusedVariables false
set_option linter.unusedSimpArgs false

theorem ptTwins_0 (a : Option Addr) (cap : Nat) (f : Nat → Int × Int) (w : World) :
    Calls Tryz.prog 68 #[.slice a 0 cap] w fun e w' => Ret3 (TwRes f 0) e ∧ Below w.heap.size w w' := by
  go_enter Tryz.func68, Tryz.ntmps68
  go_wp2
  refine wp_loop_rounds 1 ?_
  rw [rounds_succ]
  go_wp2
  go_ret3
  exact ⟨⟨_, _, _, rfl, .inr ⟨rfl, rfl, rfl, fun j' hj => by omega⟩⟩, Below.refl _ _⟩
theorem ptTwins_v (a : Option Addr) (n cap : Nat) (f : Nat → Int × Int) (w : World) (hn : n ≤ 300) (h : PtsV w a n cap f) :
    Calls Tryz.prog 68 #[.slice a n cap] w fun e w' => Ret3 (TwRes f n) e ∧ Below w.heap.size w w' := by
  rcases h with rfl | ⟨b, off, rfl, h2, h3⟩
  · exact ptTwins_0 a cap f w
  · exact ptTwins_c b off n cap f w hn h2 h3
end Go.Proofs.YtdllbdfchloijaaGreatDoor

