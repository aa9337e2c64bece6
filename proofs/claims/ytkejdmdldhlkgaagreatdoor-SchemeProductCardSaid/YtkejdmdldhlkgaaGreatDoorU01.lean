/- Texts of this seat, laid together (what the earlier ones leave out): Bed, Poly, Ints, MwK, MwS, MiB, ScE, ScK. Each opens with its own remark, which says what it proves, and under which conditions. -/
import Derived.Test.YtkejdmdldhlkgaaGreatDoorP01
import Derived.Test.YtkejdmdldhlkgaaGreatDoorP02
import Derived.Test.YtkejdmdldhlkgaaGreatDoorP03
import Derived.Test.YtkejdmdldhlkgaaGreatDoorP04
import Derived.Test.YtkejdmdldhlkgaaGreatDoorP05
import Derived.Test.YtkejdmdldhlkgaaGreatDoorP06
import Derived.Test.YtkejdmdldhlkgaaGreatDoorP07
import Derived.Test.YtkejdmdldhlkgaaGreatDoorP08
import Derived.Test.YtkejdmdldhlkgaaGreatDoorP09
import Derived.Test.YtkejdmdldhlkgaaGreatDoorP10
import Derived.Test.YtkejdmdldhlkgaaGreatDoorP11
import Derived.Test.YtkejdmdldhlkgaaGreatDoorP12
import Derived.Test.YtkejdmdldhlkgaaGreatDoorP13
import Derived.Test.YtkejdmdldhlkgaaGreatDoorP14
import Derived.Test.YtkejdmdldhlkgaaGreatDoorP15
import Derived.Test.YtkejdmdldhlkgaaGreatDoorP16
import Derived.Test.YtkejdmdldhlkgaaGreatDoorP17
import Derived.Test.YtkejdmdldhlkgaaGreatDoorP18
import Derived.Test.YtkejdmdldhlkgaaGreatDoorP19
import Derived.Test.YtkejdmdldhlkgaaGreatDoorP20
import Derived.Test.YtkejdmdldhlkgaaGreatDoorP21
import Derived.Test.YtkejdmdldhlkgaaGreatDoorP22
import Derived.Test.YtkejdmdldhlkgaaGreatDoorP23
import Derived.Test.YtkejdmdldhlkgaaGreatDoorP24
import Derived.Test.YtkejdmdldhlkgaaGreatDoorP25
import Derived.Test.YtkejdmdldhlkgaaGreatDoorP26
import Derived.Test.YtkejdmdldhlkgaaGreatDoorP27
import Derived.Test.YtkejdmdldhlkgaaGreatDoorP28
import Derived.Test.YtkejdmdldhlkgaaGreatDoorP29
import Derived.Test.YtkejdmdldhlkgaaGreatDoorP30
import Derived.WalkKit
import Derived.ProofKit
import Derived.OpenShut
import Derived.Deep.QuietTactic
import Derived.BigQuiet
import Derived.Outline
import Derived.Lib.Hide
import Derived.WalkSmall
import Derived.WalkSpells
import Derived.WalkLawsBesides
import Derived.Deep.RegionWith
import Derived.Deep.RegionHeld3
import Derived.Laws.CopyOwn
import Derived.Shelf.Small.Bits
import Derived.Laws.AppendOwn
import Derived.Deep.AppendLies
import Derived.Deep.DrawnRows
import Derived.StillTail
import Derived.Deep.Quiet
import Derived.OneCell
import Derived.Laws.BitsAllLaws
import Derived.Shelf.Spec.TrailingZeros
import Derived.Shelf.Strings.Builder1
import Derived.Shelf.Strings.Trim
import Derived.Deep.Cut
import Derived.Deep.DeepCutAuto
import Derived.ArgAppend
import Derived.Deep.DeepFit
import Derived.Shelf.Abstract
import Derived.Laws.EntriesVeiled
import Derived.RegionTactic
import Derived.ChangeAlike
import Derived.Laws.OwnMore
import Derived.Deep.Onto
import Derived.Deep.RegionLaw
import Derived.Deep.LoopGhost
import Derived.RangeFuncNested
import Derived.RangeFuncBound
import Derived.RangeFuncCalls
import Derived.RangeFuncLeaves
import Derived.Shelf.RegionOpen
import Derived.OwnWalkIn
import Derived.TacticsInMore
import Derived.LoopNIn
import Derived.LoopIn
import Derived.Laws.CopyRow
import Derived.Laws.Rows
import Derived.Laws.Tables
import Derived.StillTailTactics
import Derived.Lib.AppendZeros
import Derived.Laws.IdiomStrings
import Derived.Laws.BytesArg
import Derived.Laws.RangeString
import Derived.Lib.OthersKept
import Derived.Maps.AppendAt
import Derived.Shelf.Strings.OnBuilder
import Derived.Lib.SmallJoins
import Derived.Deep.Slices
import Derived.Deep.Matrix
import Derived.Deep.Fields
import Derived.ChangeSame
import Derived.DataShut
import Derived.SizedLaws
set_option linter.unusedVariables false
set_option linter.unusedSimpArgs false
namespace Go.Proofs.YtkejdmdldhlkgaaGreatDoor
open Go.ChangeShapes Go.WideShapes Go.ChangeAt Go.RowKit
theorem belA {B : Nat} {a b : World} (h : Below B a b := by repeat (first | exact Below.refl _ _ | assumption | refine Below.drew ?_ | refine below_drewN ?_ _ | refine bset ?_ (by simp <;> omega) _ | refine bal ?_ _)) : Below B a b := h
end Go.Proofs.YtkejdmdldhlkgaaGreatDoor
/- Elimination without fractions, in plain Lean: the determinant, the rank, of what is turned too. -/
namespace Det
theorem iadj_mul {n : Nat} {a : Nat → Nat → Int} {i j : Nat} (hi : i < n) (hj : j < n) : imul n (iadj n a) a i j = if i = j then detE n a else 0 := by
  obtain ⟨m, rfl⟩ : ∃ m, n = m + 1 := ⟨n - 1, by omega⟩
  apply Rat.intCast_inj.1
  have h := adj_mul (m := cst a) hi hj
  unfold mul at h
  unfold imul
  rw [isum_cast]
  have e : (sum (m + 1) fun k => ((iadj (m + 1) a i k * a k j : Int) : Rat)) = sum (m + 1) fun k => adj m (cst a) i k * cst a k j := sum_congr fun k _ => by
    rw [Rat.intCast_mul, iadj_eq]; rfl
  rw [e, h]
  split
  · rw [detE_eq]
  · rfl
end Det

/- Values of coefficients at points, in plain Lean: of a product, of what is turned, of a point times a number. -/
namespace Det
theorem is_zero {n : Nat} {f : Nat → Int} (h : ∀ i, i < n → f i = 0) : isum n f = 0 := by
  induction n with
  | zero => rfl
  | succ n ih => rw [isum, ih fun i hi => h i (by omega), h n (by omega)]; rfl
theorem is_add (n : Nat) (f g : Nat → Int) : isum n (fun i => f i + g i) = isum n f + isum n g := by
  induction n with
  | zero => rfl
  | succ n ih => rw [isum, isum, isum, ih]; omega
theorem is_mulL (n : Nat) (c : Int) (f : Nat → Int) : isum n (fun i => c * f i) = c * isum n f := by
  induction n with
  | zero => rw [isum, isum, Int.mul_zero]
  | succ n ih => rw [isum, isum, ih, Int.mul_add]
theorem is_mulR (n : Nat) (c : Int) (f : Nat → Int) : isum n (fun i => f i * c) = isum n f * c := by
  rw [Int.mul_comm, ← is_mulL]; exact isum_congr fun i _ => Int.mul_comm _ _
theorem is_comm (n m : Nat) (f : Nat → Nat → Int) : isum n (fun i => isum m fun j => f i j) = isum m fun j => isum n fun i => f i j := by
  induction n with
  | zero => rw [isum]; exact (is_zero fun _ _ => rfl).symm
  | succ n ih => rw [isum, ih, ← is_add]; rfl
theorem is_one {n j : Nat} {f : Nat → Int} (hj : j < n) (h : ∀ k, k < n → k ≠ j → f k = 0) : isum n f = f j := by
  induction n with
  | zero => omega
  | succ n ih =>
    rw [isum]
    by_cases e : j = n
    · subst e
      rw [is_zero fun k hk => h k (by omega) (by omega)]; omega
    · rw [ih (by omega) fun k hk => h k (by omega), h n (by omega) (by omega)]; omega
def pcS (x y : Nat → Int) (k i j m : Nat) : Int := isum i (fun s => isum k fun t => if s + t = m then x s * y t else 0) + isum j fun t => if i + t = m then x i * y t else 0
theorem pcS_step (x y : Nat → Int) (k i j m : Nat) : pcS x y k i (j + 1) m = pcS x y k i j m + if i + j = m then x i * y j else 0 := by
  unfold pcS; rw [isum]; omega
theorem pcS_row (x y : Nat → Int) (k i m : Nat) : pcS x y k i k m = pcS x y k (i + 1) 0 m := by
  unfold pcS; rw [isum, isum]; omega
theorem hv_mul (x y : Nat → Int) (a b : Int) {k l : Nat} (hk : 0 < k) (hl : 0 < l) : hv (k + l - 1) (fun m => pcS x y l k 0 m) a b = hv k x a b * hv l y a b := by
  have e : ∀ m, pcS x y l k 0 m = isum k fun s => isum l fun t => if s + t = m then x s * y t else 0 := fun m => by
    unfold pcS; rw [isum]; omega
  unfold hv
  rw [← is_mulR]
  have e2 : ∀ s, s < k → (x s * pf a b k s) * isum l (fun t => y t * pf a b l t) = isum (k + l - 1) fun m => isum l fun t => (if s + t = m then x s * y t else 0) * pf a b (k + l - 1) m := fun s hs => by
    rw [is_comm, ← is_mulL]
    refine isum_congr fun t ht => ?_
    rw [is_one (j := s + t) (by omega) fun m _ hm => by rw [if_neg (by omega), Int.zero_mul], if_pos rfl]
    unfold pf
    rw [show k + l - 1 - 1 - (s + t) = (k - 1 - s) + (l - 1 - t) by omega, Int.pow_add, Int.pow_add]
    grind
  rw [isum_congr e2, is_comm]
  refine isum_congr fun m _ => ?_
  show pcS x y l k 0 m * _ = _
  rw [e, ← is_mulR]
  exact isum_congr fun s _ => by rw [← is_mulR]
theorem hv_congr {n : Nat} {c d : Nat → Int} (a b : Int) (h : ∀ i, i < n → c i = d i) : hv n c a b = hv n d a b := isum_congr fun i hi => by rw [h i hi]
end Det

/- Rows of numbers in memory. -/
namespace Go.Proofs.YtkejdmdldhlkgaaGreatDoor
open Num
open Go.ChangeShapes Go.WideShapes Go.ChangeAt Go.RowKit
section
variable {R : World → Value → Int → Prop} {w w' : World} {b off n : Nat} {f f' : Nat → Int}
end
section
variable {R : World → Value → Int → Prop} {E : TypeId} {w0 wr w' : World} {v : Value} {n : Nat} {f : Nat → Int}
end
section
variable {P : Program} {T E : TypeId} {bytes : Nat} {R : World → Value → Int → Prop} {ops : Array Oper} {o : Oper} {a : Act} {Q : Exit → Act → World → Prop} {w0 wr : World} {v : Value} {n : Nat} {f : Nat → Int} {t : TypeId} {s x : Operand} {nb : Bool} {ad : Option Addr} {len c m cc : Nat} {z : Int}
theorem step_num {K : Act → World → Prop} {Z : Prop} (el : Elt P T E 2 bytes) (hE : E ≠ 104) (hR : Lims R) (hgd : o.guard = none)
    (ho : o.op = .call { callee := .builtin .append, args := #[s, x], argTypes := #[T, T] }) (hO : OwnF R E w0 wr v n f) (hv : R wr (.agg #[.bool nb, .slice ad len c]) z) (hs : a.eval s = v)
    (hx : a.eval x = .slice (some ⟨wr.heap.size, 0, none⟩) 1 cc) (hn : n + 1 ≤ 1099511627776)
    (h : ∀ v' w', OwnF R E w0 w' v' (n + 1) (fun i => if i = n then z else f i) → Lim wr w' → Out (fun k => v.ownBlock = some k) wr w' → K (a.put o.dst v') w') : if Region.wanted o (yielded ops a.tmps) = true then Oper.wp P o a (wr.alloc (.cells #[.bool nb, .slice ad len c] t)).drew K Q else Z := by
  obtain ⟨i, z0, hi, hz, hsize, hby, hzs⟩ := el.info
  obtain ⟨xs, h1, h2⟩ := hO
  have hb : (n + 1) * bytes ≤ 1099511627776 * 128 := Nat.mul_le_mul hn el.small
  have hw : Region.wanted o (yielded ops a.tmps) = true := by simp [Region.wanted, hgd]
  rw [if_pos hw]
  refine wp_append_own _ s x T ho w0.heap.size E i z0 2 bytes el.ht hi hz hsize hby hzs el.pos v n xs hs ((h1.1.alloc _).drew) ⟨wr.heap.size, 0, none⟩ 1 cc [.bool nb, .slice ad len c] hx rfl (fun j u hj => cell_drew (cells_new wr _ t j u hj)) (fun u hu => by simp at hu; rcases hu with rfl | rfl <;> rfl) (by unfold maxLen; omega) (by omega) (by have := h1.2.size; simp; omega) ?_
  intro v' w' hown hg _
  have hl : Lim wr w' := (((Lim.refl wr).alloc _).drew).grown hg fun g hg' ht => hE (by
    rw [show typOf (wr.alloc (.cells #[.bool nb, .slice ad len c] t)).drew g = typOf (wr.alloc (.cells #[.bool nb, .slice ad len c] t)) g from rfl, typ_keep (own_typ h1 hg') (bal (Below.refl _ _) _)] at ht
    exact Option.some.inj ht)
  exact h v' w' (own_snoc hR h2 h1.1.1 hv hl ⟨hown, below_append (wr := wr) (bal h1.2 _).drew ((h1.1.alloc _).drew) hg⟩) hl ((((Out.refl _ wr).alloc _).drew).grown hg fun k hk _ => hk)
theorem step_num0 {K : Act → World → Prop} {Z : Prop} (el : Elt P T E 2 bytes) (hE : E ≠ 104) (hR : Lims R) (hgd : o.guard = none)
    (ho : o.op = .call { callee := .builtin .append, args := #[s, x], argTypes := #[T, T] }) (hO : OwnF R E w0 wr v n f) (hv : R wr (.agg #[.bool nb, .slice ad len c]) z) (hs : a.eval s = v)
    (hx : a.eval x = .slice (some ⟨wr.heap.size, 0, none⟩) 1 cc) (hn : n + 1 ≤ 1099511627776)
    (h : ∀ v' w', OwnF R E w0 w' v' (n + 1) (fun i => if i = n then z else f i) → Lim wr w' → Out (fun k => v.ownBlock = some k) wr w' → K (a.put o.dst v') w') : if Region.wanted o (yielded ops a.tmps) = true then Oper.wp P o a (wr.alloc (.cells #[.bool nb, .slice ad len c] t)) K Q else Z := by
  obtain ⟨i, z0, hi, hz, hsize, hby, hzs⟩ := el.info
  obtain ⟨xs, h1, h2⟩ := hO
  have hb : (n + 1) * bytes ≤ 1099511627776 * 128 := Nat.mul_le_mul hn el.small
  have hw : Region.wanted o (yielded ops a.tmps) = true := by simp [Region.wanted, hgd]
  rw [if_pos hw]
  refine wp_append_own _ s x T ho w0.heap.size E i z0 2 bytes el.ht hi hz hsize hby hzs el.pos v n xs hs (h1.1.alloc _) ⟨wr.heap.size, 0, none⟩ 1 cc [.bool nb, .slice ad len c] hx rfl (cells_new wr _ t) (fun u hu => by simp at hu; rcases hu with rfl | rfl <;> rfl) (by unfold maxLen; omega) (by omega) (by have := h1.2.size; simp; omega) ?_
  intro v' w' hown hg _
  have hl : Lim wr w' := ((Lim.refl wr).alloc _).grown hg fun g hg' ht => hE (by
    rw [typ_keep (own_typ h1 hg') (bal (Below.refl _ _) _)] at ht
    exact Option.some.inj ht)
  exact h v' w' (own_snoc hR h2 h1.1.1 hv hl ⟨hown, below_append (wr := wr) (bal h1.2 _) (h1.1.alloc _) hg⟩) hl (((Out.refl _ wr).alloc _).grown hg fun k hk _ => hk)
end
end Go.Proofs.YtkejdmdldhlkgaaGreatDoor

/- matrices, plain: the laws of sums and products. -/
namespace Go.Proofs.YtkejdmdldhlkgaaGreatDoor
open Num
theorem isum_zero (n : Nat) : Det.isum n (fun _ => 0) = 0 := by
  induction n with
  | zero => rfl
  | succ n ih => show Det.isum n _ + 0 = 0; rw [ih]; rfl
theorem isum_add (n : Nat) (f g : Nat → Int) : Det.isum n (fun i => f i + g i) = Det.isum n f + Det.isum n g := by
  induction n with
  | zero => rfl
  | succ n ih => show Det.isum n _ + (f n + g n) = (Det.isum n f + f n) + (Det.isum n g + g n); rw [ih]; omega
theorem isum_mulR (n : Nat) (f : Nat → Int) (c : Int) : Det.isum n (fun i => f i * c) = Det.isum n f * c := by
  rw [Int.mul_comm, ← isum_mulL]; exact Det.isum_congr fun i _ => Int.mul_comm _ _
theorem isum_comm (n m : Nat) (f : Nat → Nat → Int) : Det.isum n (fun i => Det.isum m fun j => f i j) = Det.isum m fun j => Det.isum n fun i => f i j := by
  induction n with
  | zero => show (0 : Int) = _; exact (isum_zero m).symm
  | succ n ih => show Det.isum n _ + Det.isum m _ = _; rw [ih, ← isum_add]; rfl
theorem times_gat {g h : Grid} {i j : Nat} (hi : i < g.length) (hj : j < cols h) : gat (timesG g h) i j = Det.isum (cols g) fun t => gat g i t * gat h t j := tab_gat hi hj
theorem app_times {x y : Grid} {l : List Int} (hx : 0 < x.length) (hy : 0 < y.length) (rx : Rct x (cols x)) (ry : Rct y (cols y)) (h1 : cols x = y.length) (hl : l.length = cols y) : applyG x (applyG y l) = applyG (timesG x y) l := by
  refine List.ext_getElem (by rw [app_len, app_len, times_len]) fun i h2 h3 => ?_
  rw [app_len] at h2
  have e1 : (applyG x (applyG y l))[i] = (applyG x (applyG y l)).getD i 0 := by simp [applyG, h2]
  have e2 : (applyG (timesG x y) l)[i] = (applyG (timesG x y) l).getD i 0 := by simp [applyG, times_len, h2]
  rw [e1, e2, app_at rx (by rw [app_len, h1]) h2, app_at (times_rct x y) hl (by rw [times_len]; exact h2)]
  have a1 : Det.isum (cols x) (fun s => gat x i s * (applyG y l).getD s 0) = Det.isum (cols x) fun s => Det.isum (cols y) fun t => gat x i s * gat y s t * l.getD t 0 :=
    Det.isum_congr fun s hs => by
      rw [app_at ry hl (by omega), ← isum_mulL]
      exact Det.isum_congr fun t _ => (Int.mul_assoc _ _ _).symm
  have a2 : Det.isum (cols y) (fun t => gat (timesG x y) i t * l.getD t 0) = Det.isum (cols y) fun t => Det.isum (cols x) fun s => gat x i s * gat y s t * l.getD t 0 :=
    Det.isum_congr fun t ht => by rw [times_gat h2 ht, isum_mulR]
  rw [a1, a2, isum_comm]
end Go.Proofs.YtkejdmdldhlkgaaGreatDoor

/- matrices that New makes: what is done to them, in one form. -/
namespace Go.Proofs.YtkejdmdldhlkgaaGreatDoor
open Num
open Go.ChangeShapes Go.WideShapes Go.ChangeAt Go.RowKit
theorem i64_bd2 {w : World} {v : Value} {l : List Int} (h : RowI w v l) : ∀ j, Bd 64 (l.getD j 0) := fun j => by
  obtain ⟨a, c, -, h⟩ := h
  by_cases hj : j < l.length
  · obtain ⟨b, off, -, -, h5⟩ := h j hj
    unfold I64 at h5; unfold Bd; omega
  · rw [List.getD_eq_getElem?_getD, List.getElem?_eq_none (by omega)]; exact bd_zero
end Go.Proofs.YtkejdmdldhlkgaaGreatDoor

/- matrices, plain: the adjugate, the inverse, what divides all its numbers. -/
namespace Go.Proofs.YtkejdmdldhlkgaaGreatDoor
open Num
section
variable {g : Grid} {n : Nat}
theorem inv_mulG (hs : g.length = cols g) (hp : 0 < g.length) (hd : Det.detE g.length (gat g) ≠ 0) : timesG (invG g) g = scaleG (idG g.length) (invD g) := by
  rw [scale_id]
  unfold timesG
  rw [inv_cols hp, inv_len, ← hs]
  refine tab_congr fun i j hi hj => ?_
  refine Int.eq_of_mul_eq_mul_left (invS_nz hd) ?_
  rw [← isum_mulL]
  have e1 : Det.isum g.length (fun t => invS g * (gat (invG g) i t * gat g t j)) = Det.isum g.length fun t => gat (adjG g) i t * gat g t j :=
    Det.isum_congr fun t ht => by rw [← inv_gat hi ht, Int.mul_assoc]
  have e2 : Det.isum g.length (fun t => gat (adjG g) i t * gat g t j) = Det.imul g.length (Det.iadj g.length (gat g)) (gat g) i j :=
    Det.isum_congr fun t ht => by rw [adj_gat hi ht]
  rw [e1, e2, Det.iadj_mul hi hj]
  split
  · exact invD_mul.symm
  · rw [Int.mul_zero]
end
end Go.Proofs.YtkejdmdldhlkgaaGreatDoor

/- scheme: the matrix of powers; Left, Right, Full, Inverse. -/
namespace Go.Proofs.YtkejdmdldhlkgaaGreatDoor
open Pt
open Num
open Go.ChangeShapes Go.WideShapes Go.ChangeAt Go.RowKit
attribute [local go_sem ↓] Go.wp_at_zero Go.wp_at_succ
set_option maxRecDepth 100000 in
set_option maxHeartbeats 2000000 in
theorem leftS_c (b : Nat) (k1 k2 : Int) (n k : Nat) (f : Nat → Int × Int) (w : World) (h : SchAt w b k1 k2 n f) (hin : AllIn n f) (hk : k1 = (k : Int)) (h1 : 1 ≤ k) (h2 : k ≤ 16) (h3 : 1 ≤ n) (h4 : n ≤ 16) :
    Calls Tryz.prog 11 #[.pointer (some ⟨b, 0, none⟩)] w fun e w' => (∃ a c, e = .returned (.agg #[.slice a n c]) ∧ Mt 200 (pwG n k f) (.agg #[.slice a n c]) w') ∧ Below w.heap.size w w' := by
  have PC := Lib.hid (fun W (q : Below w.heap.size w W) => powers_c b k1 k2 n k f W (h.keep q) hin h1 h2 h3 h4)
  have c2 := h.c0
  have zc := cell_lt c2
  rw [hk] at c2
  have hB := Below.refl w.heap.size w
  clear h hk
  go_enter Tryz.func11, Tryz.ntmps11
  go_wp2_with fail
  (with_reducible refine (PC.out _ ?_).mono ?_); (repeat (first | exact Below.refl _ _ | exact hB | refine Below.drew ?_ | refine below_drewN ?_ _ | refine bset ?_ (by simp <;> omega) _ | refine bal ?_ _))
  rintro e w1 ⟨⟨ma, mc, rfl, hm⟩, hb1⟩
  have hB1 : Below w.heap.size w w1 := bthen belA hb1
  have HT := Lib.hid (show typOf w1 w.heap.size = some 34 from typ_keep (typ_fresh rfl) hb1)
  have r0 : w1.cell? ⟨w.heap.size, 0, none⟩ = some (.slice none 0 0) := bkeep hb1 (cell_new rfl rfl)
  have r0f : w1.frozen? ⟨w.heap.size, 0, none⟩ = false := bkeepf hb1 (cell_new rfl rfl) (by simp [go_sem])
  have HM := Lib.hid hm
  have zr := cell_lt r0
  clear PC hb1 hm hB
  go_wp2
  refine bodyPost_ret (v := .agg #[.slice ma n mc]) (by simp [results, Tryz.results11, go_sem, *]) rfl ⟨⟨ma, mc, rfl, HM.out.setM (p := ⟨w.heap.size, 0, none⟩) HT.out _⟩, bset hB1 (Nat.le_refl _) _⟩
set_option maxRecDepth 100000 in
set_option maxHeartbeats 2000000 in
theorem rightS_c (b : Nat) (k1 k2 : Int) (n k : Nat) (f : Nat → Int × Int) (w : World) (h : SchAt w b k1 k2 n f) (hin : AllIn n f) (hk : k2 = (k : Int)) (h1 : 1 ≤ k) (h2 : k ≤ 16) (h3 : 1 ≤ n) (h4 : n ≤ 16) :
    Calls Tryz.prog 13 #[.pointer (some ⟨b, 0, none⟩)] w fun e w' => (∃ a c, e = .returned (.agg #[.slice a n c]) ∧ Mt 200 (pwG n k f) (.agg #[.slice a n c]) w') ∧ Below w.heap.size w w' := by
  have PC := Lib.hid (fun W (q : Below w.heap.size w W) => powers_c b k1 k2 n k f W (h.keep q) hin h1 h2 h3 h4)
  have c2 := h.c1
  have zc := cell_lt c2
  rw [hk] at c2
  have hB := Below.refl w.heap.size w
  clear h hk
  go_enter Tryz.func13, Tryz.ntmps13
  go_wp2_with fail
  (with_reducible refine (PC.out _ ?_).mono ?_); (repeat (first | exact Below.refl _ _ | exact hB | refine Below.drew ?_ | refine below_drewN ?_ _ | refine bset ?_ (by simp <;> omega) _ | refine bal ?_ _))
  rintro e w1 ⟨⟨ma, mc, rfl, hm⟩, hb1⟩
  have hB1 : Below w.heap.size w w1 := bthen belA hb1
  have HT := Lib.hid (show typOf w1 w.heap.size = some 34 from typ_keep (typ_fresh rfl) hb1)
  have r0 : w1.cell? ⟨w.heap.size, 0, none⟩ = some (.slice none 0 0) := bkeep hb1 (cell_new rfl rfl)
  have r0f : w1.frozen? ⟨w.heap.size, 0, none⟩ = false := bkeepf hb1 (cell_new rfl rfl) (by simp [go_sem])
  have HM := Lib.hid hm
  have zr := cell_lt r0
  clear PC hb1 hm hB
  go_wp2
  refine bodyPost_ret (v := .agg #[.slice ma n mc]) (by simp [results, Tryz.results13, go_sem, *]) rfl ⟨⟨ma, mc, rfl, HM.out.setM (p := ⟨w.heap.size, 0, none⟩) HT.out _⟩, bset hB1 (Nat.le_refl _) _⟩
end Go.Proofs.YtkejdmdldhlkgaaGreatDoor

/- scheme's laws: list, product. -/
namespace Go.Proofs.YtkejdmdldhlkgaaGreatDoor
open Pt
open Num
open Go.ChangeShapes Go.WideShapes Go.ChangeAt Go.RowKit
attribute [local go_sem ↓] Go.wp_at_zero Go.wp_at_succ
set_option maxRecDepth 100000 in
set_option maxHeartbeats 4000000 in
theorem list7_c (ra : Option Addr) (rc : Nat) (l : List Int) (m : Nat) (w : World) (hv : RowI w (.slice ra l.length rc) l) (hc : l.length ≤ rc) (hm : m ≤ l.length) (hl : m ≤ 1000) :
    Calls Tryz.prog 21 #[.slice ra l.length rc, .int .i64 m] w fun e w' => (∃ v', e = .returned v' ∧ RowO IsInt 41 w.heap.size w' v' (l.take m)) ∧ Below w.heap.size w w' := by
  have HR := Lib.hid (show ∀ k, k < l.length → ∃ b off, ra = some ⟨b, off, none⟩ ∧ w.cell? ⟨b, off + k, none⟩ = some (.int .i64 (l.getD k 0)) ∧ I64 (l.getD k 0) from by
    obtain ⟨a, c, e, h⟩ := hv
    cases e
    exact h)
  clear hv
  obtain ⟨N, hN⟩ : ∃ N, l.length = N := ⟨_, rfl⟩
  have HTL := Lib.hid (show (l.take m).length = m by rw [List.length_take]; omega)
  have HTG := Lib.hid (show ∀ i, i < m → (l.take m).getD i 0 = l.getD i 0 from fun i hi => by
    rw [List.getD_eq_getElem?_getD, List.getD_eq_getElem?_getD, List.getElem?_take_of_lt hi])
  rw [hN] at HR hc hm ⊢
  obtain ⟨f, hf⟩ : ∃ f : Nat → Int, (fun i => l.getD i 0) = f := ⟨_, rfl⟩
  have HFE := Lib.hid (show ∀ i, l.getD i 0 = f i from fun i => by rw [← hf])
  have h0 : ¬ (rc : Int) < (m : Int) := by omega
  have h1 : (m : Int) ≤ (rc : Int) := by omega
  have hB := Below.refl w.heap.size w
  clear hN hf
  go_enter Tryz.func21, Tryz.ntmps21
  go_wp2
  go_loopw [5, 12] (fun v x wr => ∃ j : Nat, j ≤ m ∧ x = .int .i64 j ∧ Hid (OwnF IsInt 41 w wr v j f)) (fun _ x _ => m - (intOf x).toNat)
  case atStart => exact ⟨0, Nat.zero_le _, rfl, Lib.hid (OwnF.nil _ _ _ belA)⟩
  case round =>
    obtain ⟨j, hj, rfl, hF⟩ := hrel
    obtain ⟨fa, fc, hfv⟩ : ∃ a c, _ = Value.slice a j c := by obtain ⟨a, c, h, _⟩ := hF.out.view; exact ⟨a, c, h⟩
    subst hfv
    by_cases hlt2 : j < m
    · have hltJ : (j : Int) < (m : Int) := by omega
      obtain ⟨rb, ro, rfl, hc, hI⟩ := HR.out j (by omega)
      have hc2 := bkeep hF.out.bel hc
      have zc := cell_lt hc2
      rw [HFE.out j] at hc2 hI
      have oc := fun W => of_c (f j) W hI.1 hI.2
      have HSN := Lib.hid (show ∀ k, k < j + 1 → (fun i => if i = j then f j else f i) k = f k from fun k _ => by
        dsimp only; split
        · subst_vars; rfl
        · rfl)
      obtain ⟨z, hz⟩ : ∃ z, f j = z := ⟨_, rfl⟩
      rw [hz] at hc2 oc HSN
      clear hc hI hz
      go_wp2_with fail
      (with_reducible refine (oc _).mono ?_)
      rintro e w5 ⟨⟨v5, rfl, hi5⟩, hb5⟩
      have HF5 := Lib.hid (hF.out.below lims_int hb5)
      have HI5 := Lib.hid hi5
      obtain ⟨n5, a5, c5, l5, rfl⟩ := hi5.lit
      clear oc hi5
      go_wp2_with (at_builtin; refine app_num elInt (by decide) lims_int (by rfl) (by rfl) HF5.out HI5.out (by rfl) (by rfl) (by omega) ?_)
      intro v' w8 hF8 _ _
      have HF8 := Lib.hid (hF8.congr' HSN.out)
      clear hF8
      go_wp2
      exact ⟨⟨j + 1, by omega, by go_num, HF8⟩, meas hlt2 (by go_num) rfl⟩
    · obtain rfl : j = m := by omega
      have hBr := hF.out.bel
      have HFF := Lib.hid (hF.out.congr' (f' := fun i => (l.take j).getD i 0) (fun i hi => by rw [← HFE.out i]; exact (HTG.out i hi).symm))
      have HRO := Lib.hid (show RowO IsInt 41 w.heap.size wr (.slice fa j fc) (l.take j) from OwnF.rowO (by rw [HTL.out]; exact HFF.out))
      go_wp2
      go_ret
      exact ⟨⟨_, rfl, HRO.out⟩, hBr⟩
def pcL (x y : List Int) : List Int := (List.range (x.length + y.length - 1)).map fun m => Det.pcS (fun i => x.getD i 0) (fun i => y.getD i 0) y.length x.length 0 m
theorem pcL_len (x y : List Int) : (pcL x y).length = x.length + y.length - 1 := by simp [pcL]
theorem pcL_at {x y : List Int} {m : Nat} (h : m < x.length + y.length - 1) : (pcL x y).getD m 0 = Det.pcS (fun i => x.getD i 0) (fun i => y.getD i 0) y.length x.length 0 m := by
  simp [pcL, h]
theorem pcS_bd {x y : Nat → Int} {K k i j m : Nat} (hx : ∀ t, Bd K (x t)) (hy : ∀ t, Bd K (y t)) (hk : k ≤ 8) (hi : i ≤ 8) (hj : j ≤ 8) : Bd (K + K + 40) (Det.pcS x y k i j m) := by
  have h1 : ∀ s t, Bd (K + K) (if s + t = m then x s * y t else 0) := fun s t => by
    split
    · exact (hx s).mul (hy t)
    · exact bd_zero
  have h2 : Bd (K + K + k + i) (Det.isum i fun s => Det.isum k fun t => if s + t = m then x s * y t else 0) := isum_bd (fun s => isum_bd (fun t => h1 s t) k) i
  have h3 : Bd (K + K + j) (Det.isum j fun t => if i + t = m then x i * y t else 0) := isum_bd (fun t => h1 i t) j
  have h4 := (h2.mono (show _ ≤ K + K + 39 by omega)).add (h3.mono (show _ ≤ K + K + 39 by omega))
  exact h4
end Go.Proofs.YtkejdmdldhlkgaaGreatDoor

