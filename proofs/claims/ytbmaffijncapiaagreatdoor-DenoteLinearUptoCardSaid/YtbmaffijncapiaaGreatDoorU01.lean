/- Texts of this seat, laid together (what the earlier ones leave out): Ints, Row, VmP, VwA, VmE, MxA, QRow, DnT, DnU, DwE. Each opens with its own remark, which says what it proves, and under which conditions. -/
import Derived.Test.YtbmaffijncapiaaGreatDoorL01
import Derived.Test.YtbmaffijncapiaaGreatDoorL02
import Derived.Test.YtbmaffijncapiaaGreatDoorL03
import Derived.Test.YtbmaffijncapiaaGreatDoorL04
import Derived.Test.YtbmaffijncapiaaGreatDoorL05
import Derived.Test.YtbmaffijncapiaaGreatDoorL06
import Derived.Test.YtbmaffijncapiaaGreatDoorL07
import Derived.Test.YtbmaffijncapiaaGreatDoorL08
import Derived.Test.YtbmaffijncapiaaGreatDoorL09
import Derived.Test.YtbmaffijncapiaaGreatDoorL10
import Derived.Test.YtbmaffijncapiaaGreatDoorL11
import Derived.Test.YtbmaffijncapiaaGreatDoorL12
import Derived.Test.YtbmaffijncapiaaGreatDoorL13
import Derived.Test.YtbmaffijncapiaaGreatDoorL14
import Derived.Test.YtbmaffijncapiaaGreatDoorL15
import Derived.Test.YtbmaffijncapiaaGreatDoorL16
import Derived.Test.YtbmaffijncapiaaGreatDoorL17
import Derived.Test.YtbmaffijncapiaaGreatDoorL18
import Derived.Test.YtbmaffijncapiaaGreatDoorL19
import Derived.Test.YtbmaffijncapiaaGreatDoorL20
import Derived.Test.YtbmaffijncapiaaGreatDoorL21
import Derived.Test.YtbmaffijncapiaaGreatDoorL22
import Derived.Test.YtbmaffijncapiaaGreatDoorL23
import Derived.Test.YtbmaffijncapiaaGreatDoorL24
import Derived.Test.YtbmaffijncapiaaGreatDoorL25
import Derived.Test.YtbmaffijncapiaaGreatDoorL26
import Derived.Test.YtbmaffijncapiaaGreatDoorL27
import Derived.Test.YtbmaffijncapiaaGreatDoorL28
import Derived.Test.YtbmaffijncapiaaGreatDoorL29
import Derived.Test.YtbmaffijncapiaaGreatDoorL30
import Derived.Test.YtbmaffijncapiaaGreatDoorL31
import Derived.Test.YtbmaffijncapiaaGreatDoorL32
import Derived.Test.YtbmaffijncapiaaGreatDoorL33
import Derived.WalkKit
import Derived.ProofKit
import Derived.OpenShut
import Derived.Deep.QuietTactic
import Derived.BigQuiet
import Derived.Outline
import Derived.Lib.Hide
import Derived.WalkSmall
import Derived.WalkSpells
import Derived.WalkLawsBesides
import Derived.Deep.RegionWith
import Derived.Deep.RegionHeld3
import Derived.Laws.CopyOwn
import Derived.Shelf.Small.Bits
import Derived.Laws.AppendOwn
import Derived.Deep.AppendLies
import Derived.OneCell
import Derived.Laws.BitsAllLaws
import Derived.Shelf.Spec.TrailingZeros
import Derived.Shelf.Strings.Builder1
import Derived.Shelf.Strings.Trim
import Derived.Deep.Cut
import Derived.Deep.DeepCutAuto
import Derived.ArgAppend
import Derived.Deep.DeepFit
import Derived.RegionTactic
import Derived.ChangeAlike
import Derived.Laws.OwnMore
import Derived.Deep.Onto
import Derived.Shelf.Abstract
import Derived.Laws.EntriesVeiled
import Derived.Deep.DrawnRows
import Derived.Deep.RegionLaw
import Derived.Deep.LoopGhost
import Derived.RangeFuncNested
import Derived.RangeFuncBound
import Derived.RangeFuncCalls
import Derived.RangeFuncLeaves
import Derived.Shelf.RegionOpen
import Derived.OwnWalkIn
import Derived.TacticsInMore
import Derived.LoopNIn
import Derived.LoopIn
import Derived.Laws.CopyRow
import Derived.Laws.Rows
import Derived.Laws.Tables
import Derived.StillTail
import Derived.Deep.Quiet
import Derived.StillTailTactics
import Derived.Lib.AppendZeros
import Derived.Laws.IdiomStrings
import Derived.Laws.BytesArg
import Derived.Laws.RangeString
import Derived.Lib.OthersKept
import Derived.Maps.AppendAt
import Derived.Shelf.Strings.OnBuilder
import Derived.Lib.SmallJoins
import Derived.Deep.Slices
import Derived.Deep.Matrix
import Derived.Deep.Fields
import Derived.ChangeSame
import Derived.DataShut
import Derived.SizedLaws
set_option linter.unusedVariables false
set_option linter.unusedSimpArgs false
namespace Go.Proofs.YtbmaffijncapiaaGreatDoor
open Go.ChangeShapes Go.WideShapes Go.ChangeAt Go.RowKit
theorem belA {B : Nat} {a b : World} (h : Below B a b := by repeat (first | exact Below.refl _ _ | assumption | refine Below.drew ?_ | refine below_drewN ?_ _ | refine bset ?_ (by simp <;> omega) _ | refine bal ?_ _)) : Below B a b := h
end Go.Proofs.YtbmaffijncapiaaGreatDoor
/- Rows of numbers in memory. -/
namespace Go.Proofs.YtbmaffijncapiaaGreatDoor
open Num
open Go.ChangeShapes Go.WideShapes Go.ChangeAt Go.RowKit
section
variable {R : World → Value → Int → Prop} {w w' : World} {b off n : Nat} {f f' : Nat → Int}
end
section
variable {R : World → Value → Int → Prop} {E : TypeId} {w0 wr w' : World} {v : Value} {n : Nat} {f : Nat → Int}
end
section
variable {P : Program} {T E : TypeId} {bytes : Nat} {R : World → Value → Int → Prop} {ops : Array Oper} {o : Oper} {a : Act} {Q : Exit → Act → World → Prop} {w0 wr : World} {v : Value} {n : Nat} {f : Nat → Int} {t : TypeId} {s x : Operand} {nb : Bool} {ad : Option Addr} {len c m cc : Nat} {z : Int}
theorem step_num0 {K : Act → World → Prop} {Z : Prop} (el : Elt P T E 2 bytes) (hE : E ≠ 177) (hR : Lims R) (hgd : o.guard = none)
    (ho : o.op = .call { callee := .builtin .append, args := #[s, x], argTypes := #[T, T] }) (hO : OwnF R E w0 wr v n f) (hv : R wr (.agg #[.bool nb, .slice ad len c]) z) (hs : a.eval s = v)
    (hx : a.eval x = .slice (some ⟨wr.heap.size, 0, none⟩) 1 cc) (hn : n + 1 ≤ 1099511627776)
    (h : ∀ v' w', OwnF R E w0 w' v' (n + 1) (fun i => if i = n then z else f i) → Lim wr w' → Out (fun k => v.ownBlock = some k) wr w' → K (a.put o.dst v') w') : if Region.wanted o (yielded ops a.tmps) = true then Oper.wp P o a (wr.alloc (.cells #[.bool nb, .slice ad len c] t)) K Q else Z := by
  obtain ⟨i, z0, hi, hz, hsize, hby, hzs⟩ := el.info
  obtain ⟨xs, h1, h2⟩ := hO
  have hb : (n + 1) * bytes ≤ 1099511627776 * 128 := Nat.mul_le_mul hn el.small
  have hw : Region.wanted o (yielded ops a.tmps) = true := by simp [Region.wanted, hgd]
  rw [if_pos hw]
  refine wp_append_own _ s x T ho w0.heap.size E i z0 2 bytes el.ht hi hz hsize hby hzs el.pos v n xs hs (h1.1.alloc _) ⟨wr.heap.size, 0, none⟩ 1 cc [.bool nb, .slice ad len c] hx rfl (cells_new wr _ t) (fun u hu => by simp at hu; rcases hu with rfl | rfl <;> rfl) (by unfold maxLen; omega) (by omega) (by have := h1.2.size; simp; omega) ?_
  intro v' w' hown hg _
  have hl : Lim wr w' := ((Lim.refl wr).alloc _).grown hg fun g hg' ht => hE (by
    rw [typ_keep (own_typ h1 hg') (bal (Below.refl _ _) _)] at ht
    exact Option.some.inj ht)
  exact h v' w' (own_snoc hR h2 h1.1.1 hv hl ⟨hown, below_append (wr := wr) (bal h1.2 _) (h1.1.alloc _) hg⟩) hl (((Out.refl _ wr).alloc _).grown hg fun k hk _ => hk)
end
end Go.Proofs.YtbmaffijncapiaaGreatDoor

/- Rows of numbers as values; rows of rows. 'Kp S w w'': the blocks of the types S are as they were. -/
namespace Go.Proofs.YtbmaffijncapiaaGreatDoor
open Num
open Go.ChangeShapes Go.WideShapes Go.ChangeAt Go.RowKit
section
variable {S : TypeId → Prop} {a b c w w' : World}
end
section
variable {R : World → Value → Int → Prop} {E : TypeId} {base : Nat} {w w' : World} {v : Value} {l : List Int}
theorem OwnF.row {w0 wr : World} (h : OwnF R E w0 wr v l.length (fun k => l.getD k 0)) : IsRow R E w0.heap.size wr v l := by
  obtain ⟨xs, ⟨⟨hl, h1⟩, hB⟩, h2⟩ := h
  rcases h1 with ⟨rfl, h0⟩ | ⟨g, cap, cur, rfl, hg, hh, hc, hm, hs, ht⟩
  · have : l = [] := List.length_eq_zero_iff.1 h0
    subst this
    exact IsRow.nil R E _ _
  · refine ⟨_, cap, rfl, hc, hm, .inr ⟨g, 0, rfl, hg, by unfold typOf; rw [hh], fun k hk => ?_⟩⟩
    obtain ⟨nb, a, len, c, k1, k2, k3⟩ := h2 k hk
    have cel : ∀ j u, xs[j]? = some u → wr.cell? ⟨g, j, none⟩ = some u := fun j u hj => by
      have hj2 : j < l.length * 2 := by have := (List.getElem?_eq_some_iff.1 hj).1; omega
      rw [← ht, List.getElem?_take_of_lt (by omega)] at hj
      simpa [World.cell?, hh] using hj
    exact ⟨nb, a, len, c, by rw [Nat.zero_add]; exact cel _ _ k1, by rw [Nat.zero_add]; exact cel _ _ k2, k3⟩
end
section
variable {R : World → Value → Int → Prop} {E T : TypeId} {base : Nat} {w w' : World} {v : Value} {g : List (List Int)}
end
section
variable {R : World → Value → Int → Prop} {E T : TypeId} {base : Nat} {w0 wr w' : World} {v : Value} {g : List (List Int)}
end
section
variable {P : Program} {TT T E : TypeId} {base bytes : Nat} {R : World → Value → Int → Prop} {ops : Array Oper} {o : Oper} {a : Act} {Q : Exit → Act → World → Prop} {w0 wr : World} {v u : Value} {g : List (List Int)} {l : List Int} {t : TypeId} {s x : Operand} {cc : Nat}
end
end Go.Proofs.YtbmaffijncapiaaGreatDoor

/- vm, in plain Lean: what an instruction does to the registers, what a program comes to. -/
namespace Go.Proofs.YtbmaffijncapiaaGreatDoor
open Num
theorem bd_zero {k : Nat} : Bd k 0 := by unfold Bd; exact Nat.pow_pos (by omega)
end Go.Proofs.YtbmaffijncapiaaGreatDoor

/- vm's laws: the numbers that come in, as the program's blocks and as the reference's. -/
namespace Go.Proofs.YtbmaffijncapiaaGreatDoor
open Num
open Go.ChangeShapes Go.WideShapes Go.ChangeAt Go.RowKit
theorem snoc_fun (l : List Int) (j : Nat) (hj : j < l.length) : ∀ k, k < j + 1 → (fun i => if i = j then l.getD j 0 else l.getD i 0) k = l.getD k 0 := by
  intro k hk; dsimp only; split
  · subst_vars; rfl
  · rfl
end Go.Proofs.YtbmaffijncapiaaGreatDoor

/- vm: Step. -/
namespace Go.Proofs.YtbmaffijncapiaaGreatDoor
open Num
open Go.ChangeShapes Go.WideShapes Go.ChangeAt Go.RowKit
attribute [local go_sem ↓] Go.wp_at_zero Go.wp_at_succ
section
variable {base : Nat} {w w' : World} {b rb rc : Nat} {ins regs : Int} {code : List Ins} {outs : List Int} {g : Grid} {n : Nat}
end
def upto (f : Nat → Int) (k : Nat) : Nat → Int := fun j => if j < k then f j else 0
end Go.Proofs.YtbmaffijncapiaaGreatDoor

/- matrix: matrices as values; filled. -/
namespace Go.Proofs.YtbmaffijncapiaaGreatDoor
open Num
open Go.ChangeShapes Go.WideShapes Go.ChangeAt Go.RowKit
attribute [local go_sem ↓] Go.wp_at_zero Go.wp_at_succ
theorem range_getD (f : Nat → Int) {n k : Nat} (h : k < n) : ((List.range n).map f).getD k 0 = f k := by simp [h]
theorem snoc_fn (f : Nat → Int) (j : Nat) : ∀ k, k < j + 1 → (fun i => if i = j then f j else f i) k = f k := by
  intro k hk; dsimp only; split
  · subst_vars; rfl
  · rfl
end Go.Proofs.YtbmaffijncapiaaGreatDoor

/- Rows of fractions in memory, of any kind of fractions: four cells each; rows built by append; rows that are written. -/
namespace Go.Proofs.YtbmaffijncapiaaGreatDoor
open Num
open Go.ChangeShapes Go.WideShapes Go.ChangeAt Go.RowKit
section
variable {Q : World → Value → Rat → Prop} {w w' : World} {b o : Nat} {q : Rat}
end
section
variable {Q : World → Value → Rat → Prop} {E : TypeId} {base base' : Nat} {w w' w0 wr : World} {v : Value} {L : List Rat}
theorem FrRow.nil (Q : World → Value → Rat → Prop) (E : TypeId) (base : Nat) (w : World) : FrRow Q E base w (.slice none 0 0) [] := ⟨none, 0, rfl, Nat.le_refl _, .inl rfl⟩
end
section
variable {Q : World → Value → Rat → Prop} {E : TypeId} {w0 wr w' : World} {v : Value} {L : List Rat}
theorem frOwn_snoc (hQ : FrK Q) {xs : List Value} {v' : Value} {n1 n2 : Bool} {a1 a2 : Option Addr} {l1 c1 l2 c2 : Nat} {q : Rat}
    (h2 : ∀ k, k < L.length → ∃ n1 a1 l1 c1 n2 a2 l2 c2, xs[k * 4]? = some (.bool n1) ∧ xs[k * 4 + 1]? = some (.slice a1 l1 c1) ∧ xs[k * 4 + 2]? = some (.bool n2) ∧ xs[k * 4 + 3]? = some (.slice a2 l2 c2) ∧ Q wr (.agg #[.bool n1, .slice a1 l1 c1, .bool n2, .slice a2 l2 c2]) (L.getD k 0)) (hl : xs.length = L.length * 4)
    (hv : Q wr (.agg #[.bool n1, .slice a1 l1 c1, .bool n2, .slice a2 l2 c2]) q) (hlim : Lim wr w') (hO : OwnE E 4 w0 w' v' (L.length + 1) (xs ++ [.bool n1, .slice a1 l1 c1, .bool n2, .slice a2 l2 c2])) : FrOwn Q E w0 w' v' (L ++ [q]) := by
  refine ⟨_, by rw [List.length_append]; exact hO, fun k hk => ?_⟩
  by_cases e : k < L.length
  · obtain ⟨m1, b1, x1, d1, m2, b2, x2, d2, e0, e1, e2, e3, e4⟩ := h2 k e
    refine ⟨m1, b1, x1, d1, m2, b2, x2, d2, ?_, ?_, ?_, ?_, ?_⟩
    · rw [List.getElem?_append_left (by omega)]; exact e0
    · rw [List.getElem?_append_left (by omega)]; exact e1
    · rw [List.getElem?_append_left (by omega)]; exact e2
    · rw [List.getElem?_append_left (by omega)]; exact e3
    · rw [List.getD_eq_getElem?_getD, List.getElem?_append_left e, ← List.getD_eq_getElem?_getD]; exact hQ.lim hlim e4
  · obtain rfl : k = L.length := by simp at hk; omega
    refine ⟨n1, a1, l1, c1, n2, a2, l2, c2, ?_, ?_, ?_, ?_, ?_⟩
    · rw [List.getElem?_append_right (by omega), hl]; simp
    · rw [List.getElem?_append_right (by omega), hl]; simp
    · rw [List.getElem?_append_right (by omega), hl]; simp
    · rw [List.getElem?_append_right (by omega), hl]; simp
    · rw [List.getD_eq_getElem?_getD, List.getElem?_append_right (Nat.le_refl _)]; simpa using hQ.lim hlim hv
end
section
variable {P : Program} {T E : TypeId} {bytes : Nat} {Q : World → Value → Rat → Prop} {ops : Array Oper} {o : Oper} {a : Act} {Z : Exit → Act → World → Prop} {w0 wr : World} {v : Value} {L : List Rat} {t : TypeId} {s x : Operand} {n1 n2 : Bool} {a1 a2 : Option Addr} {l1 c1 l2 c2 cc : Nat} {q : Rat}
theorem step_q0 {K : Act → World → Prop} {G : Prop} (el : Elt P T E 4 bytes) (hE : E ≠ 177) (hQ : FrK Q) (hgd : o.guard = none)
    (ho : o.op = .call { callee := .builtin .append, args := #[s, x], argTypes := #[T, T] }) (hO : FrOwn Q E w0 wr v L) (hv : Q wr (.agg #[.bool n1, .slice a1 l1 c1, .bool n2, .slice a2 l2 c2]) q) (hs : a.eval s = v)
    (hx : a.eval x = .slice (some ⟨wr.heap.size, 0, none⟩) 1 cc) (hn : L.length + 1 ≤ 1099511627776)
    (h : ∀ v' w', FrOwn Q E w0 w' v' (L ++ [q]) → Lim wr w' → Out (fun k => v.ownBlock = some k) wr w' → K (a.put o.dst v') w') : if Region.wanted o (yielded ops a.tmps) = true then Oper.wp P o a (wr.alloc (.cells #[.bool n1, .slice a1 l1 c1, .bool n2, .slice a2 l2 c2] t)) K Z else G := by
  obtain ⟨i, z0, hi, hz, hsize, hby, hzs⟩ := el.info
  obtain ⟨xs, h1, h2⟩ := hO
  have hb : (L.length + 1) * bytes ≤ 1099511627776 * 128 := Nat.mul_le_mul hn el.small
  have hw : Region.wanted o (yielded ops a.tmps) = true := by simp [Region.wanted, hgd]
  rw [if_pos hw]
  refine wp_append_own _ s x T ho w0.heap.size E i z0 4 bytes el.ht hi hz hsize hby hzs el.pos v L.length xs hs (h1.1.alloc _) ⟨wr.heap.size, 0, none⟩ 1 cc [.bool n1, .slice a1 l1 c1, .bool n2, .slice a2 l2 c2] hx rfl (fun j u hj => cells_new wr _ t j u hj) (fun u hu => by simp at hu; rcases hu with rfl | rfl | rfl | rfl <;> rfl) (by unfold maxLen; omega) (by omega) (by have := h1.2.size; simp; omega) ?_
  intro v' w' hown hg _
  have hl : Lim wr w' := ((Lim.refl wr).alloc _).grown hg fun g hg' ht => hE (by
    rw [typ_keep (own_typ h1 hg') (bal (Below.refl _ _) _)] at ht
    exact Option.some.inj ht)
  exact h v' w' (frOwn_snoc hQ h2 h1.1.1 hv hl ⟨hown, below_append (wr := wr) (bal h1.2 _) (h1.1.alloc _) hg⟩) hl (((Out.refl _ wr).alloc _).grown hg fun k hk _ => hk)
end
section
variable {Q : World → Value → Rat → Prop} {E : TypeId} {w w' : World} {b n : Nat} {F G : Nat → Rat}
theorem FrBlk.far (hQ : FrK Q) (h : FrBlk Q E w b n F) {g o : Nat} {q : Rat} (hg : g ≠ b) (hc : FrC Q w g o q) (u0 u1 u2 u3 : Value) :
    FrBlk Q E ((((w.setCell ⟨g, o, none⟩ u0).setCell ⟨g, o + 1, none⟩ u1).setCell ⟨g, o + 2, none⟩ u2).setCell ⟨g, o + 3, none⟩ u3) b n F := by
  have hl := hc.limS u0 u1 u2 u3
  refine ⟨by rw [typ_set, typ_set, typ_set, typ_set]; exact h.ty, (((h.fr.set _ _).set _ _).set _ _).set _ _, fun i hi => ?_⟩
  obtain ⟨m1, b1, x1, d1, m2, b2, x2, d2, e0, e1, e2, e3, e4⟩ := h.at_ i hi
  have fa : ∀ {o' : Nat} {u : Value}, w.cell? ⟨b, o', none⟩ = some u → ((((w.setCell ⟨g, o, none⟩ u0).setCell ⟨g, o + 1, none⟩ u1).setCell ⟨g, o + 2, none⟩ u2).setCell ⟨g, o + 3, none⟩ u3).cell? ⟨b, o', none⟩ = some u := fun h => cell_far (cell_far (cell_far (cell_far h (addr_ne hg) _) (addr_ne hg) _) (addr_ne hg) _) (addr_ne hg) _
  exact ⟨m1, b1, x1, d1, m2, b2, x2, d2, fa e0, fa e1, fa e2, fa e3, hQ.lim hl e4⟩
end
end Go.Proofs.YtbmaffijncapiaaGreatDoor

/- ratio.Sum; a variable in memory that holds a fraction. -/
namespace Go.Proofs.YtbmaffijncapiaaGreatDoor
open Num
open Go.ChangeShapes Go.WideShapes Go.ChangeAt Go.RowKit
attribute [local go_sem ↓] Go.wp_at_zero Go.wp_at_succ
theorem VarF.far {b g : Nat} {q z : Rat} {w : World} (h : VarF b q w) (hg : VarF g z w) (hne : g ≠ b) (u0 u1 u2 u3 : Value) :
    VarF b q ((((w.setCell ⟨g, 0, none⟩ u0).setCell ⟨g, 1, none⟩ u1).setCell ⟨g, 2, none⟩ u2).setCell ⟨g, 3, none⟩ u3) := by
  have := FrBlk.far frk_prog h hne (hg.at_ 0 (by omega)) u0 u1 u2 u3
  simp only [Nat.zero_mul, Nat.zero_add] at this
  exact this
def sumQ (L : List Rat) : Rat := L.foldl (· + ·) 0
theorem sumQ_snoc {L : List Rat} {k : Nat} (h : k < L.length) : sumQ (L.take (k + 1)) = sumQ (L.take k) + L.getD k 0 := by
  have e : L.take (k + 1) = L.take k ++ [L.getD k 0] := by rw [List.take_succ_eq_append_getElem h]; simp [h]
  rw [e, sumQ, List.foldl_append]; rfl
theorem sumQ_bd {L : List Rat} {k : Nat} (hb : ∀ j, j < L.length → BdQ k (L.getD j 0)) : ∀ n, n ≤ L.length → BdQ ((k + 1) * n + 1) (sumQ (L.take n)) := by
  intro n
  induction n with
  | zero => intro _; exact ⟨by unfold Bd sumQ; simp, by unfold Bd sumQ; simp⟩
  | succ n ih =>
    intro h
    rw [sumQ_snoc (by omega)]
    exact ((ih (by omega)).add (hb n (by omega))).mono (by rw [Nat.mul_succ]; omega)
set_option maxRecDepth 100000 in
set_option maxHeartbeats 8000000 in
theorem ratSum_c (v : Value) (L : List Rat) (k : Nat) (w : World) (hv : FRow 0 w v L) (bL : ∀ j, j < L.length → BdQ k (L.getD j 0)) (hl : L.length ≤ 1000000) (hk : (k + 1) * (L.length + 1) ≤ 1000000000) :
    Calls Tryz.prog 41 #[v] w (AnsF (sumQ L) w) := by
  have HV := Lib.hid hv
  have HBL := Lib.hid bL
  have HSB := Lib.hid (sumQ_bd bL)
  have HSS := Lib.hid (fun k (hk : k < L.length) => sumQ_snoc hk)
  obtain ⟨a, c, rfl⟩ := FrRow.ex hv
  have HLT := Lib.hid (show L.take L.length = L from List.take_length)
  obtain ⟨n, hn⟩ : ∃ n, L.length = n := ⟨_, rfl⟩
  have HN := Lib.hid hn
  rw [hn] at hl hk HSB HSS HLT ⊢
  clear hv bL hn
  have hB := Below.refl w.heap.size w
  go_enter Tryz.func41, Tryz.ntmps41
  go_wp2
  refine wp_name fun w1 hW1 => ?_
  have hB1 : Below w.heap.size w w1 := by rw [hW1]; repeat (first|exact bzR _ _|exact hB|refine bzD ?_|refine bzN ?_|refine bzS ?_|refine bzA ?_)
  have HR1 := Lib.hid (show VarF w.heap.size 0 w1 from by rw [hW1]; exact (VarF.new rfl).keep (bal (Below.refl _ _) _))
  have HO1 := Lib.hid (show VarF (w.heap.size + 1) 0 w1 from by rw [hW1]; exact VarF.new (by simp))
  clear hW1 hB
  go_loopw [8] (fun x wr => ∃ j : Nat, j ≤ n ∧ x = .int .i64 j ∧ Below w.heap.size w wr ∧ Hid (VarF (w.heap.size + 1) (sumQ (L.take j)) wr ∧ VarF w.heap.size 0 wr)) (fun x _ => n - (intOf x).toNat)
  case atStart => exact ⟨0, Nat.zero_le _, rfl, hB1, Lib.hid ⟨HO1.out, HR1.out⟩⟩
  case round =>
    obtain ⟨j, hj, rfl, hBr, hE⟩ := hrel
    have zr := hE.out.2.fr.1
    have zo := hE.out.1.fr.1
    by_cases hlt : j < n
    · have hltI : (j : Int) < (n : Int) := by omega
      have hvr := HV.out.keep hBr
      rw [HN.out] at hvr
      obtain ⟨b, off, rfl, -, g1, y1, s1, t1, g2, y2, s2, t2, q0, q1, q2, q3, qI⟩ := FrRow.at hvr hlt
      have zb := cell_lt q0
      have HQ := Lib.hid qI
      obtain ⟨n1, a1, l1, c1, n2, a2, l2, c2, o0, o1, o2, o3, oI, f0, f1, f2, f3⟩ := hE.out.1.view
      have HOI := Lib.hid oI
      have hbx := HBL.out j (by rw [HN.out]; exact hlt)
      have hbs := (HSB.out j hj).mono (show (k + 1) * j + 1 ≤ (k + 1) * n + 1 by have := Nat.mul_le_mul_left (k + 1) hj; omega)
      have hk1 : (k + 1) * n + 1 + k + 1 ≤ 1000000002 := by rw [Nat.mul_succ] at hk; omega
      have AC := Lib.hid (fun V (q : Below wr.heap.size wr V) => pqAdd_c _ _ _ _ ((k + 1) * n + 1) k V (HOI.out.keep q) (HQ.out.keep q) hbs hbx (by omega))
      have HST := Lib.hid (HSS.out j hlt)
      have hBw := Below.refl wr.heap.size wr
      clear qI oI hbx hbs hvr
      go_wp2_with fail
      (with_reducible refine (AC.out _ ?_).mono ?_); (repeat (first|exact bzR _ _|exact hBw|refine bzD ?_|refine bzN ?_|refine bzS ?_|refine bzA ?_))
      rintro e w5 ⟨⟨u5, rfl, hu5⟩, hb5⟩
      have hk5 : Below wr.heap.size wr w5 := bthen (by repeat (first|exact bzR _ _|exact hBw|refine bzD ?_|refine bzN ?_|refine bzS ?_|refine bzA ?_)) hb5
      have HE5 := Lib.hid (And.intro (hE.out.1.keep hk5) (hE.out.2.keep hk5))
      have HU5 := Lib.hid hu5
      rw [← HST.out] at HU5
      obtain ⟨m1, b1, x1, d1, m2, b2, x2, d2, rfl, -, -⟩ := hu5
      obtain ⟨_, _, _, _, _, _, _, _, o0, o1, o2, o3, -, f0, f1, f2, f3⟩ := HE5.out.1.view
      have zo5 := cell_lt o0
      have hB5 := bthen hBr hk5
      clear AC hb5 q0 q1 q2 q3
      go_wp2
      exact ⟨⟨j + 1, hlt, by go_num, bset (bset (bset (bset hB5 (p := ⟨w.heap.size + 1, 0, none⟩) (by simp) _) (p := ⟨w.heap.size + 1, 1, none⟩) (by simp) _) (p := ⟨w.heap.size + 1, 2, none⟩) (by simp) _) (p := ⟨w.heap.size + 1, 3, none⟩) (by simp) _, Lib.hid ⟨HE5.out.1.put HU5.out, HE5.out.2.far HE5.out.1 (by omega) _ _ _ _⟩⟩, meas hlt (by go_num) rfl⟩
    · obtain rfl : j = n := by omega
      have hltI : ¬ (j : Int) < (j : Int) := by omega
      obtain ⟨n1, a1, l1, c1, n2, a2, l2, c2, o0, o1, o2, o3, oI, -⟩ := hE.out.1.view
      obtain ⟨_, _, _, _, _, _, _, _, r0, r1, r2, r3, -, f0, f1, f2, f3⟩ := hE.out.2.view
      rw [HLT.out] at oI
      have HOI := Lib.hid (hE.out.2.put oI)
      obtain ⟨_, _, _, _, _, _, _, _, -⟩ := HOI.out.view
      have HS := Lib.hid (IsQP.put4 oI r0 r1 r2 r3 (.bool n1) (.slice a1 l1 c1) (.bool n2) (.slice a2 l2 c2))
      clear oI
      go_wp2
      refine bodyPost_ret (v := .agg #[.bool n1, .slice a1 l1 c1, .bool n2, .slice a2 l2 c2]) (by simp [results, Tryz.results41, go_sem, *]) rfl ⟨⟨_, rfl, HS.out⟩, ?_⟩
      repeat (first|exact bzR _ _|exact hBr|refine bzD ?_|refine bzN ?_|refine bzS ?_|refine bzA ?_)
end Go.Proofs.YtbmaffijncapiaaGreatDoor

/- denote: Apply: what a program makes of numbers. -/
namespace Go.Proofs.YtbmaffijncapiaaGreatDoor
open Num
open Go.ChangeShapes Go.WideShapes Go.ChangeAt Go.RowKit
attribute [local go_sem ↓] Go.wp_at_zero Go.wp_at_succ
def inF (l : List Int) (R : Nat) : GridF := (List.range R).map fun k => [if k < l.length then ((l.getD k 0 : Int) : Rat) else 0]
theorem inF_len (l : List Int) (R : Nat) : (inF l R).length = R := by simp [inF]
theorem inF_get {l : List Int} {R k : Nat} (h : k < R) : (inF l R).getD k [] = [if k < l.length then ((l.getD k 0 : Int) : Rat) else 0] := by simp [inF, h]
theorem inF_rect (l : List Int) (R : Nat) : RectF 1 (inF l R) := fun i hi => by rw [inF_len] at hi; rw [inF_get hi]; rfl
theorem inF_slim {l : List Int} (R : Nat) (hb : ∀ j, Bd 65000 (l.getD j 0)) : SlimG (inF l R) := fun i hi j hj => by
  rw [inF_len] at hi
  rw [inF_get hi] at hj ⊢
  obtain rfl : j = 0 := by simpa using hj
  show Slim (if i < l.length then ((l.getD i 0 : Int) : Rat) else 0)
  split
  · exact (BdQ.whole (hb i) (by omega)).mono (by omega)
  · have h := slim_01 False
    rwa [if_neg (fun h => h)] at h
def upF (S : GridF) (k : Nat) : GridF := S.take k ++ List.replicate (S.length - k) []
theorem upF_len {S : GridF} {k : Nat} (h : k ≤ S.length) : (upF S k).length = S.length := by simp [upF]; omega
theorem upF_set {S : GridF} {k : Nat} (h : k < S.length) : (upF S k).set k (S.getD k []) = upF S (k + 1) := by
  unfold upF
  have e : S.length - k = (S.length - (k + 1)) + 1 := by omega
  rw [e, List.replicate_succ, List.set_append_right _ _ (by simp; omega), List.length_take, Nat.min_eq_left (by omega), Nat.sub_self, List.set_cons_zero, take_getDF h, List.append_assoc]; rfl
theorem upF_all (S : GridF) : upF S S.length = S := by simp [upF]
theorem regsF_new (w : World) (S : GridF) {n : Nat} (hn : n = S.length) : RegsF (fun _ => False) (w.alloc (.cells (Array.replicate n (.slice none 0 0)) 38)) w.heap.size (upF S 0) :=
  ⟨Free.new rfl, typ_fresh rfl, fun k hk => ⟨.slice none 0 0, cell_new rfl (by rw [upF_len (Nat.zero_le _)] at hk; simp [hn, hk]), by
    rw [upF_len (Nat.zero_le _)] at hk
    rw [show (upF S 0).getD k [] = [] by simp [upF, hk]]
    exact ⟨FrRow.nil _ _ _ _, .inl rfl⟩⟩⟩
def endA (l : List Int) (regs : Int) (code : List Ins) : Option GridF := afterF code (inF l regs.toNat) code.length
def AppNo (ins regs : Int) (code : List Ins) (outs : List Int) (l : List Int) (q : Int) : Prop := (¬ ProgOk ins regs code outs ∧ q = 80) ∨ (ProgOk ins regs code outs ∧ (l.length : Int) ≠ ins ∧ q = 5) ∨ (ProgOk ins regs code outs ∧ (l.length : Int) = ins ∧ endA l regs code = none ∧ q = 3)
def AppRes (ins regs : Int) (code : List Ins) (outs : List Int) (l : List Int) (w' : World) (v : Value) (q : Int) : Prop :=
  (AppNo ins regs code outs l q ∧ v = .slice none 0 0) ∨
  (ProgOk ins regs code outs ∧ (l.length : Int) = ins ∧ q = 0 ∧ ∃ h, endA l regs code = some h ∧ FRow 0 w' v (outsF outs h).flatten)
def AppQPost (ins regs : Int) (code : List Ins) (outs : List Int) (l : List Int) (w : World) (e : Ending) (w' : World) : Prop := (∃ v q, e = .returned (.tuple #[v, .int .i64 q]) ∧ AppRes ins regs code outs l w' v q) ∧ Below w.heap.size w w'
theorem AppQPost.no {ins regs : Int} {code : List Ins} {outs l : List Int} {w w' : World} {q : Int} (h : AppNo ins regs code outs l q) (hb : Below w.heap.size w w') : AppQPost ins regs code outs l w (.returned (.tuple #[.slice none 0 0, .int .i64 q])) w' := ⟨⟨_, _, rfl, .inl ⟨h, rfl⟩⟩, hb⟩
theorem AppQPost.yes {ins regs : Int} {code : List Ins} {outs l : List Int} {w w' : World} {h : GridF} {v : Value} (h1 : ProgOk ins regs code outs) (h2 : (l.length : Int) = ins) (h3 : endA l regs code = some h) (h4 : FRow 0 w' v (outsF outs h).flatten) (hb : Below w.heap.size w w') : AppQPost ins regs code outs l w (.returned (.tuple #[v, .int .i64 0])) w' := ⟨⟨_, _, rfl, .inr ⟨h1, h2, rfl, h, h3, h4⟩⟩, hb⟩
theorem RegsF.made {wr W : World} {rb k R : Nat} {G : GridF} {v : Value} (h : RegsF (fun _ => False) wr rb (upF G k)) (hG : G.length = R) (hk : k < R) (hO : Out (fun q => q = rb) wr W) (hl : Lim wr W) (hf : Free W rb) (ht : typOf W rb = some 38)
    (hc : ∀ j, j ≠ k → W.cell? ⟨rb, j, none⟩ = wr.cell? ⟨rb, j, none⟩) (hv : W.cell? ⟨rb, k, none⟩ = some v) (hr : FRow 0 W v (G.getD k [])) : RegsF (fun _ => False) W rb (upF G (k + 1)) := by
  have hul : (upF G k).length = R := by rw [upF_len (by omega), hG]
  have hkp : Kp (fun t => t = 177 ∨ t = 79) wr W := fun q t hq hs => hO.block q (typ_lt hq) (fun e => by
    rw [e, h.ty] at hq
    rcases hs with hs | hs <;> (rw [hs] at hq; exact absurd hq (by decide)))
  refine ⟨hf, ht, fun j hj => ?_⟩
  rw [upF_len (by omega), hG] at hj
  have hset := upF_set (S := G) (k := k) (by omega)
  by_cases e : j = k
  · subst e
    refine ⟨v, hv, ?_⟩
    rw [← hset, gsetF _ _ _ (by omega), if_pos rfl]
    exact ⟨hr, .inr fun _ _ h => h⟩
  · obtain ⟨u, hu, hx⟩ := h.cell j (by omega)
    refine ⟨u, by rw [hc j e]; exact hu, ?_⟩
    rw [← hset, gsetF _ _ _ (by omega), if_neg e]
    exact ⟨(prs_frow 0).kp hx.1 hkp, .inr fun _ _ h => h⟩
end Go.Proofs.YtbmaffijncapiaaGreatDoor

/- denote's laws: list. -/
namespace Go.Proofs.YtbmaffijncapiaaGreatDoor
open Num
open Go.ChangeShapes Go.WideShapes Go.ChangeAt Go.RowKit
attribute [local go_sem ↓] Go.wp_at_zero Go.wp_at_succ
set_option maxRecDepth 100000 in
set_option maxHeartbeats 8000000 in
theorem list9_c (v : Value) (l : List Int) (w : World) (hr : RowI w v l) (hl : l.length ≤ 1099511627774) :
    Calls Tryz.prog 33 #[v] w fun e w' => (∃ va, e = .returned va ∧ RowO IsInt 50 w.heap.size w' va l) ∧ Below w.heap.size w w' := by
  obtain ⟨ra, rc, rfl, hr⟩ := hr
  have HR := Lib.hid hr
  clear hr
  have hB := Below.refl w.heap.size w
  go_enter Tryz.func33, Tryz.ntmps33
  go_wp2
  go_loopw [3, 8] (fun va x wr => ∃ j : Nat, j ≤ l.length ∧ x = .int .i64 j ∧ Hid (OwnF IsInt 50 w wr va j (fun i => l.getD i 0))) (fun _ x _ => l.length - (intOf x).toNat)
  case atStart => exact ⟨0, Nat.zero_le _, rfl, Lib.hid (OwnF.nil _ _ _ hB)⟩
  case round =>
    obtain ⟨j, hj, rfl, hF⟩ := hrel
    have hBr := hF.out.bel
    obtain ⟨fa, fc, hfv⟩ : ∃ a c, _ = Value.slice a j c := by obtain ⟨a, c, h, _⟩ := hF.out.view; exact ⟨a, c, h⟩
    subst hfv
    by_cases hlt : j < l.length
    · have hltI : (j : Int) < (l.length : Int) := by omega
      obtain ⟨rb, ro, rfl, hc, hI⟩ := HR.out j hlt
      have hc2 := bkeep hBr hc
      have zrb := cell_lt hc2
      have oc := fun W => of_c (l.getD j 0) W hI.1 hI.2
      have HSN := Lib.hid (snoc_fun l j hlt)
      obtain ⟨z, hz⟩ : ∃ z, l.getD j 0 = z := ⟨_, rfl⟩
      rw [hz] at hc2 oc HSN
      clear hc hI hz
      go_wp2_with fail
      refine (oc _).mono ?_
      rintro e w5 ⟨⟨v5, rfl, hi5⟩, hb5⟩
      have HF5 := Lib.hid (hF.out.below lims_int hb5)
      have HI5 := Lib.hid hi5
      obtain ⟨n5, a5, c5, l5, rfl, -⟩ := hi5
      unfold iv at *
      clear oc hc2
      go_wp2_with (at_builtin; refine app_num elInt (by decide) lims_int (by rfl) (by rfl) HF5.out HI5.out (by rfl) (by rfl) (by omega) ?_)
      intro v8 w8 hF8 _ _
      have HF8 := Lib.hid (hF8.congr' HSN.out)
      clear hF8
      go_wp2
      exact ⟨⟨j + 1, by omega, by go_num, HF8⟩, by simp [intOf]; omega⟩
    · obtain rfl : j = l.length := by omega
      go_wp2
      go_ret
      exact ⟨⟨_, rfl, hF.out.rowO⟩, hBr⟩
end Go.Proofs.YtbmaffijncapiaaGreatDoor

