/- Texts of this seat, laid together: Bed, Van, Poly, ScP, Num, LimbA, App, PrgA, NumR, Out, GrT, Tz. Each opens with its own remark, which says what it proves, and under which conditions. -/
import Derived.Test.YtdllbdfchloijaaDoorK01
import Derived.Test.YtdllbdfchloijaaDoorRows
import Derived.Laws.CopyOwn
import Derived.StillTail
import Derived.Deep.Quiet
import Derived.LaidLaws
import Derived.Lib.LaidTab
set_option linter.unusedVariables false
set_option linter.unusedSimpArgs false
/- Elimination without fractions, in plain Lean: the determinant, the rank, of what is turned too. -/
set_option linter.unusedVariables false
set_option linter.unusedSimpArgs false
namespace Det
/-- sums of whole numbers -/
def isum (n : Nat) (f : Nat → Int) : Int := match n with
  | 0 => 0
  | n + 1 => isum n f + f n
theorem isum_congr {n : Nat} {f g : Nat → Int} (h : ∀ i, i < n → f i = g i) : isum n f = isum n g := by
  induction n with
  | zero => rfl
  | succ n ih => simp only [isum]; rw [ih fun i hi => h i (by omega), h n (by omega)]
end Det

/- The determinant of powers of points (two coordinates each), in plain Lean. -/
set_option linter.unusedVariables false
set_option linter.unusedSimpArgs false
namespace Det
theorem pow_succ' (x : Rat) (k : Nat) : x ^ (k + 1) = x * x ^ k := by rw [Rat.pow_succ]; grind
/-- the product of the first n whole numbers -/
def iprod (n : Nat) (f : Nat → Int) : Int := match n with
  | 0 => 1
  | n + 1 => iprod n f * f n
/-- how far each of the points is from those ahead of it, multiplied -/
def far (a b : Nat → Int) : Nat → Int
  | 0 => 1
  | n + 1 => far a b n * iprod n fun j => a n * b j - a j * b n
theorem iprod_ne {n : Nat} {f : Nat → Int} (h : ∀ i, i < n → f i ≠ 0) : iprod n f ≠ 0 := by
  induction n with
  | zero => rw [iprod]; omega
  | succ n ih => rw [iprod]; exact Int.mul_ne_zero (ih fun i hi => h i (by omega)) (h n (by omega))
/-- points that are not one make a matrix that is not flat -/
theorem far_ne {a b : Nat → Int} : ∀ {n : Nat}, (∀ j i, j < n → i < j → a j * b i - a i * b j ≠ 0) → far a b n ≠ 0
  | 0, _ => by rw [far]; omega
  | n + 1, h => by rw [far]; exact Int.mul_ne_zero (far_ne fun j i hj hi => h j i (by omega) hi) (iprod_ne fun i hi => h n i (by omega) hi)
end Det

/- Values of coefficients at points, in plain Lean: of a product, of what is turned, of a point times a number. -/
set_option linter.unusedVariables false
set_option linter.unusedSimpArgs false
namespace Det
theorem is_zero {n : Nat} {f : Nat → Int} (h : ∀ i, i < n → f i = 0) : isum n f = 0 := by
  induction n with
  | zero => rfl
  | succ n ih => rw [isum, ih fun i hi => h i (by omega), h n (by omega)]; rfl
theorem is_mulL (n : Nat) (c : Int) (f : Nat → Int) : isum n (fun i => c * f i) = c * isum n f := by
  induction n with
  | zero => rw [isum, isum, Int.mul_zero]
  | succ n ih => rw [isum, isum, ih, Int.mul_add]
theorem is_mulR (n : Nat) (c : Int) (f : Nat → Int) : isum n (fun i => f i * c) = isum n f * c := by
  rw [Int.mul_comm, ← is_mulL]; exact isum_congr fun i _ => Int.mul_comm _ _
theorem is_one {n j : Nat} {f : Nat → Int} (hj : j < n) (h : ∀ k, k < n → k ≠ j → f k = 0) : isum n f = f j := by
  induction n with
  | zero => omega
  | succ n ih =>
    rw [isum]
    by_cases e : j = n
    · subst e
      rw [is_zero fun k hk => h k (by omega) (by omega)]; omega
    · rw [ih (by omega) fun k hk => h k (by omega), h n (by omega) (by omega)]; omega
theorem is_head (n : Nat) (f : Nat → Int) : isum (n + 1) f = f 0 + isum n fun i => f (i + 1) := by
  induction n with
  | zero => simp [isum]
  | succ n ih => rw [isum, ih, isum]; omega
theorem is_rev : ∀ (n : Nat) (f : Nat → Int), isum n f = isum n fun i => f (n - 1 - i)
  | 0, _ => rfl
  | n + 1, f => by
    rw [is_head n fun i => f (n + 1 - 1 - i)]
    show isum n f + f n = f n + _
    rw [is_rev n f, Int.add_comm]
    congr 1
    exact isum_congr fun i hi => by rw [show n + 1 - 1 - (i + 1) = n - 1 - i by omega]
/-- the powers of a point -/
def pf (a b : Int) (n i : Nat) : Int := a ^ i * b ^ (n - 1 - i)
/-- the value of n coefficients -/
def hv (n : Nat) (c : Nat → Int) (a b : Int) : Int := isum n fun m => c m * pf a b n m
end Det

/- Schemes, plain: which counts and points make one; points times a number. -/
namespace Go.Proofs.YtdllbdfchloijaaDoor
open Pt
set_option linter.unusedVariables false
set_option linter.unusedSimpArgs false
def Cnt (k1 k2 : Int) : Prop := 1 ≤ k1 ∧ k1 ≤ 8 ∧ 1 ≤ k2 ∧ k2 ≤ 8
def AllIn (n : Nat) (f : Nat → Int × Int) : Prop := ∀ i, i < n → inB (f i).1 (f i).2 = true
def NoNone (n : Nat) (f : Nat → Int × Int) : Prop := ∀ i, i < n → nn (f i).1 (f i).2 = false
/-- counts and points that make a scheme -/
structure Sch (k1 k2 : Int) (n : Nat) (f : Nat → Int × Int) : Prop where
  cnt : Cnt k1 k2
  all : AllIn n f
  len : (n : Int) = k1 + k2 - 1
  nn : NoNone n f
  tw : NoTw f n
/-- the error's number -/
def Wrg (k1 k2 : Int) (n : Nat) (f : Nat → Int × Int) (e : Int) : Prop :=
  (¬ (Cnt k1 k2 ∧ AllIn n f) ∧ e = 70) ∨ (Cnt k1 k2 ∧ AllIn n f ∧ ¬ Sch k1 k2 n f ∧ e = 71) ∨ (Sch k1 k2 n f ∧ e = 0)
theorem Wrg.congr {k1 k2 : Int} {n : Nat} {f g : Nat → Int × Int} {e : Int} (h : Wrg k1 k2 n f e) (h1 : AllIn n f ↔ AllIn n g) (h2 : Sch k1 k2 n f ↔ Sch k1 k2 n g) : Wrg k1 k2 n g e := by
  unfold Wrg at *
  rw [← h1, ← h2]; exact h
/-- how far two points are apart -/
def dist (p q : Int × Int) : Int := p.1 * q.2 - q.1 * p.2
theorem twin_iff {p q : Int × Int} (h1 : inB p.1 p.2 = true) (h2 : inB q.1 q.2 = true) (h3 : nn p.1 p.2 = false) (h4 : nn q.1 q.2 = false) : twin p q = false ↔ dist q p ≠ 0 := by
  have e3 : ¬ (p.1 = 0 ∧ p.2 = 0) := of_decide_eq_false h3
  have e4 : ¬ (q.1 = 0 ∧ q.2 = 0) := of_decide_eq_false h4
  unfold twin one dist
  rw [h1, h2, if_neg (fun h => h.elim e3 e4), Bool.true_and, Bool.true_and, beq_eq_false_iff_ne]
  constructor <;> (intro h k; apply h; omega)
theorem Sch.dist {k1 k2 : Int} {n : Nat} {f : Nat → Int × Int} (h : Sch k1 k2 n f) {j i : Nat} (hj : j < n) (hi : i < j) : dist (f j) (f i) ≠ 0 :=
  (twin_iff (h.all i (by omega)) (h.all j hj) (h.nn i (by omega)) (h.nn j hj)).1 (h.tw j hj i hi)
/-- a scheme's matrix is not flat -/
theorem Sch.far {k1 k2 : Int} {n : Nat} {f : Nat → Int × Int} (h : Sch k1 k2 n f) : Det.far (fun i => (f i).1) (fun i => (f i).2) n ≠ 0 := Det.far_ne fun j i hj hi => h.dist hj hi
end Go.Proofs.YtdllbdfchloijaaDoor

/- Plain laws: numbers as lists of digits to the base 2^32, low one first. -/
namespace Go.Proofs.YtdllbdfchloijaaDoor.Num

/-- the base -/
def BB : Nat := 4294967296
theorem BB_pos : 0 < BB := by unfold BB; omega
/-- what a list of limbs stands for -/
def val : List Nat → Nat
  | [] => 0
  | x :: l => x + BB * val l
/-- every limb is one -/
def Limbs (l : List Nat) : Prop := ∀ x ∈ l, x < BB
/-- without high noughts -/
def Nrm (l : List Nat) : Prop := ∀ h : l ≠ [], l.getLast h ≠ 0
/-- high noughts struck -/
def trimL (l : List Nat) : List Nat := (l.reverse.dropWhile (· == 0)).reverse

theorem val_append (l m : List Nat) : val (l ++ m) = val l + BB ^ l.length * val m := by
  induction l with
  | nil => simp [val]
  | cons x l ih =>
    simp only [val, List.cons_append, ih, List.length_cons, Nat.pow_succ, Nat.mul_add, Nat.add_assoc]
    congr 2
    rw [← Nat.mul_assoc, Nat.mul_comm BB]
theorem val_lt {l : List Nat} (h : Limbs l) : val l < BB ^ l.length := by
  induction l with
  | nil => simp [val]
  | cons x l ih =>
    have h1 := ih (fun y hy => h y (by simp [hy]))
    have h2 := h x (by simp)
    simp only [val, List.length_cons, Nat.pow_succ]
    have h3 : val l + 1 ≤ BB ^ l.length := h1
    have h4 := Nat.mul_le_mul_left BB h3
    rw [Nat.mul_add] at h4
    rw [Nat.mul_comm (BB ^ l.length) BB]
    omega
theorem val_zeros (n : Nat) : val (List.replicate n 0) = 0 := by
  induction n with
  | zero => rfl
  | succ n ih => simp [List.replicate_succ, val, ih]
theorem trimL_append_zero (l : List Nat) : trimL (l ++ [0]) = trimL l := by simp [trimL]
theorem trimL_append_pos (l : List Nat) (x : Nat) (h : x ≠ 0) : trimL (l ++ [x]) = l ++ [x] := by simp [trimL, h]
theorem trimL_nil : trimL [] = [] := rfl
theorem list_snoc_ind {P : List Nat → Prop} (h0 : P []) (h1 : ∀ l x, P l → P (l ++ [x])) (l : List Nat) : P l := by
  rw [← List.reverse_reverse l]
  generalize l.reverse = m
  induction m with
  | nil => exact h0
  | cons x m ih => rw [List.reverse_cons]; exact h1 _ _ ih
theorem val_trim (l : List Nat) : val (trimL l) = val l := by
  induction l using list_snoc_ind with
  | h0 => rfl
  | h1 l x ih =>
    by_cases hx : x = 0
    · subst hx; rw [trimL_append_zero, ih, val_append]; simp [val]
    · rw [trimL_append_pos l x hx]
theorem trim_prefix (l : List Nat) : trimL l <+: l := by
  induction l using list_snoc_ind with
  | h0 => exact List.prefix_rfl
  | h1 l x ih =>
    by_cases hx : x = 0
    · subst hx; rw [trimL_append_zero]; exact ih.trans (List.prefix_append _ _)
    · rw [trimL_append_pos l x hx]; exact List.prefix_rfl
theorem trim_len (l : List Nat) : (trimL l).length ≤ l.length := (trim_prefix l).length_le
theorem trim_limbs {l : List Nat} (h : Limbs l) : Limbs (trimL l) := fun x hx => h x ((trim_prefix l).subset hx)
theorem trim_nrm (l : List Nat) : Nrm (trimL l) := by
  induction l using list_snoc_ind with
  | h0 => intro h; exact absurd rfl h
  | h1 l x ih =>
    by_cases hx : x = 0
    · subst hx; rw [trimL_append_zero]; exact ih
    · rw [trimL_append_pos l x hx]; intro h; simpa using hx
theorem trim_of_nrm {l : List Nat} (h : Nrm l) : trimL l = l := by
  induction l using list_snoc_ind with
  | h0 => rfl
  | h1 l x ih =>
    have := h (by simp)
    simp at this
    exact trimL_append_pos l x this
/-- the trimmed list as a cut -/
theorem trim_take (l : List Nat) : trimL l = l.take (trimL l).length := by
  have := List.prefix_iff_eq_take.1 (trim_prefix l)
  exact this
theorem nrm_val_pos {l : List Nat} (h : Nrm l) (hn : l ≠ []) : BB ^ (l.length - 1) ≤ val l := by
  obtain ⟨m, x, rfl⟩ : ∃ m x, l = m ++ [x] := ⟨l.dropLast, l.getLast hn, (List.dropLast_concat_getLast hn).symm⟩
  have hx := h hn
  simp at hx
  rw [val_append]
  simp [val]
  have : BB ^ m.length * 1 ≤ BB ^ m.length * x := Nat.mul_le_mul_left _ (by omega)
  omega
end Go.Proofs.YtdllbdfchloijaaDoor.Num

/- limb: trim, Norm. -/
namespace Go.Proofs.YtdllbdfchloijaaDoor
open Num
open Go.ChangeShapes Go.WideShapes Go.ChangeAt Go.RowKit
set_option linter.unusedVariables false
set_option linter.unusedSimpArgs false

/-- the element type of a block -/
def typOf (w : World) (b : Nat) : Option TypeId := match w.heap[b]? with
  | some (.cells _ t _) => some t
  | _ => none
theorem typ_of_block {w w' : World} {b : Nat} (h : w'.heap[b]? = w.heap[b]?) : typOf w' b = typOf w b := by unfold typOf; rw [h]
theorem typ_lt {w : World} {b : Nat} {t : TypeId} (h : typOf w b = some t) : b < w.heap.size := by
  apply Nat.lt_of_not_le; intro hl
  have : w.heap[b]? = none := by simp [hl]
  simp [typOf, this] at h
theorem typ_keep {w w' : World} {b : Nat} {t : TypeId} (h : typOf w b = some t) (hb : Below w.heap.size w w') : typOf w' b = some t := by
  rw [typ_of_block (w := w) (hb.block b (typ_lt h))]; exact h
theorem typ_set (w : World) (p : Addr) (v : Value) (b : Nat) : typOf (w.setCell p v) b = typOf w b := by
  by_cases e : b = p.block
  · subst e
    unfold typOf World.setCell
    simp only [Array.getElem?_modify, if_true]
    cases w.heap[p.block]? with
    | none => rfl
    | some o => cases o <;> rfl
  · exact typ_of_block (Below.heap_setCell w p v b e)
/-- the cells of a list of limbs, in a block of limbs -/
structure At32 (w : World) (b off : Nat) (l : List Nat) : Prop where
  cell : ∀ k, k < l.length → w.cell? ⟨b, off + k, none⟩ = some (.int .u32 (l.getD k 0 : Nat))
  ty : typOf w b = some 83
instance {w : World} {b off : Nat} {l : List Nat} : CoeFun (At32 w b off l) (fun _ => ∀ k, k < l.length → w.cell? ⟨b, off + k, none⟩ = some (.int .u32 (l.getD k 0 : Nat))) := ⟨At32.cell⟩
/-- the cells of a list of limbs -/
def C32 (w : World) (a : Option Addr) (l : List Nat) : Prop := l = [] ∨ ∃ b off, a = some ⟨b, off, none⟩ ∧ At32 w b off l
/-- a slice holds a list of limbs -/
def U32 (w : World) (a : Option Addr) (cap : Nat) (l : List Nat) : Prop := l.length ≤ cap ∧ cap ≤ maxLen ∧ Limbs l ∧ C32 w a l
theorem C32.keep {w w' : World} {a : Option Addr} {l : List Nat} (h : C32 w a l) (hb : Below w.heap.size w w') : C32 w' a l := by
  rcases h with h | ⟨b, off, h1, h2⟩
  · exact .inl h
  · exact .inr ⟨b, off, h1, fun k hk => bkeep hb (h2 k hk), typ_keep h2.ty hb⟩
theorem U32.keep {w w' : World} {a : Option Addr} {cap : Nat} {l : List Nat} (h : U32 w a cap l) (hb : Below w.heap.size w w') : U32 w' a cap l := ⟨h.1, h.2.1, h.2.2.1, h.2.2.2.keep hb⟩
theorem C32.take {w : World} {a : Option Addr} {l m : List Nat} (h : C32 w a l) (hp : m <+: l) : C32 w a m := by
  rcases h with rfl | ⟨b, off, h1, h2⟩
  · exact .inl (List.prefix_nil.1 hp)
  · refine .inr ⟨b, off, h1, fun k hk => ?_, h2.ty⟩
    obtain ⟨t, rfl⟩ := hp
    rw [h2 k (by simp; omega)]
    simp [hk, List.getElem?_append]
namespace Num
theorem trim_take_zero {l : List Nat} {k : Nat} (hk : k < l.length) (h0 : l.getD k 0 = 0) : trimL (l.take (k + 1)) = trimL (l.take k) := by
  rw [List.take_succ_eq_append_getElem hk]
  have : l[k] = 0 := by simpa [hk] using h0
  rw [this, trimL_append_zero]
theorem trim_take_pos {l : List Nat} {k : Nat} (hk : k < l.length) (h0 : l.getD k 0 ≠ 0) : trimL (l.take (k + 1)) = l.take (k + 1) := by
  rw [List.take_succ_eq_append_getElem hk]
  have : l[k] ≠ 0 := by simpa [hk] using h0
  rw [trimL_append_pos _ _ this]
end Num

set_option maxRecDepth 100000 in
set_option maxHeartbeats 1000000 in
theorem trim_c (a : Option Addr) (cap : Nat) (l : List Nat) (w : World) (h : U32 w a cap l) :
    Calls Tryd.prog 41 #[.slice a l.length cap] w fun e w' => e = .returned (.slice a (trimL l).length (trimL l).length) ∧ w = w' := by
  obtain ⟨hc, hm, hl, hcs⟩ := h
  unfold maxLen at hm
  go_enter Tryd.func41, Tryd.ntmps41
  go_wp2
  go_loop [3] (fun x => ∃ k : Nat, k ≤ l.length ∧ x = .int .i64 k ∧ trimL (l.take k) = trimL l) (fun x => (intOf x).toNat)
  case atStart => exact ⟨l.length, Nat.le_refl _, rfl, by rw [List.take_length]⟩
  case round =>
    obtain ⟨k, hk, rfl, ht⟩ := hrel
    have HT := Lib.hid ht
    clear ht
    cases k with
    | zero =>
      have hz : (trimL l).length = 0 := by have := HT.out; rw [List.take_zero] at this; rw [← this]; rfl
      have HZ := Lib.hid hz
      clear hz
      go_wp2
      go_ret
      exact ⟨by rw [HZ.out]; rfl, rfl⟩
    | succ j =>
      rcases hcs with rfl | ⟨b, off, rfl, hcell⟩
      · simp at hk
      have hj := hcell j (by omega)
      by_cases h0 : l.getD j 0 = 0
      · have HN := Lib.hid (trim_take_zero (by omega : j < l.length) h0)
        rw [h0] at hj
        go_wp2
        exact ⟨⟨j, by omega, rfl, HN.out.symm.trans HT.out⟩, by simp [intOf] <;> omega⟩
      · have HN := Lib.hid (trim_take_pos (by omega : j < l.length) h0)
        generalize hx : l.getD j 0 = x at *
        have hx0 : ((x : Int) == 0) = false := by simp; omega
        have HL := Lib.hid (show (trimL l).length = j + 1 by rw [← HT.out, HN.out]; simp; omega)
        go_wp2
        go_ret
        exact ⟨by rw [HL.out]; rfl, rfl⟩

theorem U32.trim {w : World} {a : Option Addr} {cap : Nat} {l : List Nat} (h : U32 w a cap l) : U32 w a (trimL l).length (trimL l) :=
  ⟨Nat.le_refl _, Nat.le_trans (trim_len l) (Nat.le_trans h.1 h.2.1), trim_limbs h.2.2.1, h.2.2.2.take (trim_prefix l)⟩
theorem info32 : (Tryd.prog.info? 83).map (fun i => (i.zero, i.size, i.bytes)) = some (some (.int .u32 0), 1, 4) := by kernel_rfl
/-- limbs as cells -/
def cel (l : List Nat) : List Value := l.map fun x : Nat => .int .u32 (x : Int)
theorem cel_len (l : List Nat) : (cel l).length = l.length := by simp [cel]
theorem cel_get (l : List Nat) (k : Nat) (h : k < l.length) : (cel l)[k]? = some (.int .u32 (l.getD k 0 : Nat)) := by simp [cel, h]
theorem cel_one (l : List Nat) : ∀ v ∈ cel l, v.oneCell' = true := by
  intro v hv; simp only [cel, List.mem_map] at hv; obtain ⟨x, _, rfl⟩ := hv; rfl
/-- a block of the call's own that holds limbs -/
def Blk (w : World) (g : Nat) (l : List Nat) : Prop := w.heap[g]? = some (.cells (cel l).toArray 83 (0, 0))
theorem Blk.cell {w : World} {g : Nat} {l : List Nat} (h : Blk w g l) (k : Nat) (hk : k < l.length) : w.cell? ⟨g, k, none⟩ = some (.int .u32 (l.getD k 0 : Nat)) := by
  have := cel_get l k hk
  unfold World.cell?
  rw [show w.heap[(⟨g, k, none⟩ : Addr).block]? = _ from h]
  simpa using this
theorem Blk.frozen {w : World} {g : Nat} {l : List Nat} (h : Blk w g l) (k : Nat) : w.frozen? ⟨g, k, none⟩ = false := by
  unfold World.frozen?
  rw [show w.heap[(⟨g, k, none⟩ : Addr).block]? = _ from h]
  simp
theorem Blk.lt {w : World} {g : Nat} {l : List Nat} (h : Blk w g l) : g < w.heap.size := (Array.getElem?_eq_some_iff.1 h).1
theorem Blk.keep {w w' : World} {g : Nat} {l : List Nat} (h : Blk w g l) (hb : Below w.heap.size w w') : Blk w' g l := (hb.block g h.lt).trans h
theorem Blk.alloc {w : World} {g : Nat} {l : List Nat} (h : Blk w g l) (o : Obj) : Blk (w.alloc o) g l := (Below.heap_alloc w o g h.lt).trans h
theorem Blk.set {w : World} {g : Nat} {l : List Nat} (h : Blk w g l) (k x : Nat) : Blk (w.setCell ⟨g, k, none⟩ (.int .u32 (x : Int))) g (l.set k x) := by
  unfold Blk World.setCell
  simp only [Array.getElem?_modify, if_true]
  rw [show w.heap[g]? = _ from h]
  simp [cel, List.map_set]
theorem Blk.far {w : World} {g : Nat} {l : List Nat} (h : Blk w g l) (p : Addr) (v : Value) (hp : g ≠ p.block) : Blk (w.setCell p v) g l := (Below.heap_setCell w p v g hp).trans h
theorem Blk.u32 {w : World} {g : Nat} {l : List Nat} (h : Blk w g l) (hl : Limbs l) (hm : l.length ≤ maxLen) : U32 w (some ⟨g, 0, none⟩) l.length l :=
  ⟨Nat.le_refl _, hm, hl, .inr ⟨g, 0, rfl, fun k hk => by simpa using h.cell k hk, by unfold typOf; rw [show w.heap[g]? = _ from h]⟩⟩
/-- a new slice of limbs, all 0 -/
theorem mk32 (n : Nat) (hn : n ≤ 35184372088832) (w : World) : (Instr.makeSlice 29 (.int .i64 (n : Int)) (.int .i64 (n : Int))).run Tryd.prog w = .ok (.slice (some ⟨w.heap.size, 0, none⟩) n n) (w.alloc (.cells (cel (List.replicate n 0)).toArray 83)) := by
  obtain ⟨i0, hi, hz0, hz1, hz2⟩ := info_parts info32
  have e : madeCells (Value.int .u32 0).cells ((n : Int).toNat * 1) = (cel (List.replicate n 0)).toArray := by
    apply Array.ext
    · simp [size_madeCells, cel]
    · intro i h1 h2
      simp [madeCells, cel, Value.cells, Nat.mod_one]
  rw [run_make w _ _ i0 _ Tryd.underlying29 hi hz0 .i64 .i64 n n (by omega) (by omega) (by rw [hz2]; omega) (by omega), hz1, e]
  rfl
theorem blk_new (w : World) (l : List Nat) : Blk (w.alloc (.cells (cel l).toArray 83)) w.heap.size l := by
  unfold Blk; exact (MapKept.heap_alloc w _).1
theorem blk_at {w : World} {g : Nat} {l : List Nat} (hg : g = w.heap.size) : Blk (w.alloc (.cells (cel l).toArray 83)) g l := by subst hg; exact blk_new w l

set_option maxRecDepth 100000 in
set_option maxHeartbeats 1000000 in
theorem limbNorm_c (a : Option Addr) (cap : Nat) (l : List Nat) (w : World) (h : U32 w a cap l) (hlen : l.length ≤ 1099511627776) :
    Calls Tryd.prog 51 #[.slice a l.length cap] w fun e w' => (∃ a', e = .returned (.slice a' (trimL l).length (trimL l).length) ∧ U32 w' a' (trimL l).length (trimL l)) ∧ Below w.heap.size w w' := by
  have tc := fun w h => trim_c a cap l w h
  have h1 := h.trim
  have hlm := Nat.le_trans (trim_len l) hlen
  generalize trimL l = m at *
  go_enter Tryd.func51, Tryd.ntmps51
  go_wp2_with fail
  refine (tc _ h).mono ?_
  rintro e w1 ⟨rfl, rfl⟩
  clear tc
  have hmk := mk32 m.length (by omega)
  go_wp2_with (refine wpList_copy_splice (o := ⟨some 11, _, _, _, _, _⟩) rfl _ _ 29 29 rfl 83 Tryd.underlying29 (by kernel_rfl) (some ⟨w.heap.size, 0, none⟩) a m.length m.length m.length m.length rfl rfl w.heap.size 0 (cel (List.replicate m.length 0)) 83 (blk_new w _) (cel m) ?_ ?_ ?_ (cel_one m) w.heap.size w (bal (Below.refl _ _) _) (Nat.le_refl _) ?_)
  · rw [cel_len]; exact (Nat.min_self _).symm
  · intro h0
    rw [cel_len] at h0
    rcases h1.2.2.2 with hm0 | ⟨b, off, ha, hcell⟩
    · subst hm0; simp at h0
    · refine ⟨_, ha, fun j v hj => cell_alloc ?_ _⟩
      have hjl : j < m.length := by have := (List.getElem?_eq_some_iff.1 hj).1; rwa [cel_len] at this
      rw [cel_get m j hjl] at hj
      cases hj
      have := hcell j hjl
      unfold Addr.add
      split
      · subst_vars; simpa using this
      · exact this
  · simp [cel_len]
  · intro w' hw' hb'
    have hsp : splice (cel (List.replicate m.length 0)) 0 (cel m) = cel m := by simp [splice, cel]
    rw [hsp] at hw'
    have HW : Hid (Blk w' w.heap.size m) := hw'
    go_wp2
    go_ret
    exact ⟨⟨_, rfl, (HW.out : Blk w' w.heap.size m).u32 h1.2.2.1 h1.2.1⟩, hb'⟩
end Go.Proofs.YtdllbdfchloijaaDoor

/- append of new cells to a row of the call's own, one law for all element types. -/
namespace Go.Proofs.YtdllbdfchloijaaDoor
open Num
open Go.ChangeShapes Go.WideShapes Go.ChangeAt Go.RowKit
/-- a row of a slice type: its element type, its size in cells and in bytes -/
structure Elt (P : Program) (T E : TypeId) (size bytes : Nat) : Prop where
  ht : P.underlying T = some (.slice E)
  info : ∃ i z, P.info? E = some i ∧ i.zero = some z ∧ i.size = size ∧ i.bytes = bytes ∧ z.cells.size = size
  pos : 0 < size
  small : bytes ≤ 128
theorem Elt.mk' {P : Program} {T E : TypeId} {size bytes : Nat} {z : Value} (ht : P.underlying T = some (.slice E)) (hi : (P.info? E).map (fun i => (i.zero, i.size, i.bytes)) = some (some z, size, bytes)) (hz : z.cells.size = size) (h1 : 0 < size) (h2 : bytes ≤ 128) : Elt P T E size bytes := by
  obtain ⟨i, h3, h4, h5, h6⟩ := info_parts hi
  exact ⟨ht, ⟨i, z, h3, h4, h5, h6, hz⟩, h1, h2⟩
/-- what the call owns since the world w0 -/
def OwnE (E : TypeId) (size : Nat) (w0 wr : World) (v : Value) (n : Nat) (xs : List Value) : Prop := wr.ownsRow w0.heap.size E size v n xs ∧ Below w0.heap.size w0 wr
theorem OwnE.below {E : TypeId} {size n : Nat} {w0 wr w' : World} {v : Value} {xs : List Value} (h : OwnE E size w0 wr v n xs) (hb : Below wr.heap.size wr w') : OwnE E size w0 w' v n xs :=
  ⟨own_below (w0 := w0) h.1 hb, bthen h.2 hb⟩
theorem OwnE.nil (E : TypeId) (size : Nat) {w0 wr : World} (hb : Below w0.heap.size w0 wr) : OwnE E size w0 wr (.slice none 0 0) 0 [] := ⟨World.ownsRow_nil _ _ _ _, hb⟩
theorem OwnE.ex {E : TypeId} {size n : Nat} {w0 wr : World} {v : Value} {xs : List Value} (h : OwnE E size w0 wr v n xs) : ∃ a c, v = .slice a n c := by
  rcases h.1.2 with ⟨rfl, rfl⟩ | ⟨g, c, _, rfl, _⟩
  · exact ⟨_, _, rfl⟩
  · exact ⟨_, _, rfl⟩
/-- the same, at a step of a region that draws its order -/
theorem step_lit {P : Program} {T E : TypeId} {size bytes : Nat} {ops : Array Oper} {o : Oper} {a : Act} {K : Act → World → Prop} {Q : Exit → Act → World → Prop} {R : Prop} {w0 wr : World} {v : Value} {n : Nat} {xs C : List Value} {t : TypeId} (el : Elt P T E size bytes) (hgd : o.guard = none) {s x : Operand}
    (ho : o.op = .call { callee := .builtin .append, args := #[s, x], argTypes := #[T, T] }) (hO : OwnE E size w0 wr v n xs) (hs : a.eval s = v)
    {m c : Nat} (hx : a.eval x = .slice (some ⟨wr.heap.size, 0, none⟩) m c) (hl : C.length = m * size) (h1 : ∀ u ∈ C, u.oneCell' = true) (hn : n + m ≤ 1099511627776)
    (h : ∀ v' w', OwnE E size w0 w' v' (n + m) (xs ++ C) → K (a.put o.dst v') w') : if Region.wanted o (yielded ops a.tmps) = true then Oper.wp P o a (wr.alloc (.cells C.toArray t)).drew K Q else R := by
  obtain ⟨i, z, hi, hz, hsize, hby, hzs⟩ := el.info
  have hb : (n + m) * bytes ≤ 1099511627776 * 128 := Nat.mul_le_mul hn el.small
  have hw : Region.wanted o (yielded ops a.tmps) = true := by simp [Region.wanted, hgd]
  rw [if_pos hw]
  refine wp_append_own _ s x T ho w0.heap.size E i z size bytes el.ht hi hz hsize hby hzs el.pos v n xs hs ((hO.1.alloc _).drew) ⟨wr.heap.size, 0, none⟩ m c C hx hl (fun j u hj => cell_drew (cells_new wr C t j u hj)) h1 (by unfold maxLen; omega) (by omega) (by have := hO.2.size; simp; omega) ?_
  intro v' w' hown hg _
  exact h v' w' ⟨hown, below_append (wr := wr) (bal hO.2 _).drew ((hO.1.alloc _).drew) hg⟩
theorem el32 : Elt Tryd.prog 29 83 1 4 := Elt.mk' Tryd.underlying29 info32 rfl (by decide) (by decide)
/-- limbs of the call's own -/
def Own32 (w0 wr : World) (v : Value) (L : List Nat) : Prop := OwnE 83 1 w0 wr v L.length (cel L)
theorem Own32.below {w0 wr w' : World} {v : Value} {L : List Nat} (h : Own32 w0 wr v L) (hb : Below wr.heap.size wr w') : Own32 w0 w' v L := OwnE.below h hb
theorem Own32.nil {w0 wr : World} (hb : Below w0.heap.size w0 wr) : Own32 w0 wr (.slice none 0 0) [] := OwnE.nil _ _ hb
theorem own_u32 {w : World} {base : Nat} {v : Value} {n : Nat} {L : List Nat} (h : w.ownsRow base 83 1 v n (cel L)) (hL : Limbs L) : ∃ a c, v = .slice a L.length c ∧ U32 w a c L := by
  obtain ⟨hl, h⟩ := h
  rw [cel_len, Nat.mul_one] at hl
  subst hl
  rcases h with ⟨rfl, h0⟩ | ⟨g, cap, cur, rfl, hg, hh, hn, hc, hs, ht⟩
  · have : L = [] := List.length_eq_zero_iff.1 h0
    subst this
    exact ⟨none, 0, rfl, Nat.le_refl _, by unfold maxLen; omega, hL, .inl rfl⟩
  · refine ⟨_, cap, rfl, hn, hc, hL, .inr ⟨g, 0, rfl, fun k hk => ?_, by unfold typOf; rw [hh]⟩⟩
    rw [Nat.mul_one] at ht
    have e : cur[k]? = some (.int .u32 (L.getD k 0 : Nat)) := by
      have := cel_get L k hk
      rw [← ht, List.getElem?_take, if_pos hk] at this
      simpa using this
    unfold World.cell?
    rw [Nat.zero_add, show w.heap[(⟨g, k, none⟩ : Addr).block]? = _ from hh]
    simpa using e
theorem Own32.u32 {w0 wr : World} {v : Value} {L : List Nat} (h : Own32 w0 wr v L) (hL : Limbs L) : ∃ a c, v = .slice a L.length c ∧ U32 wr a c L := own_u32 h.1 hL
theorem cel_app (l m : List Nat) : cel (l ++ m) = cel l ++ cel m := by simp [cel]
end Go.Proofs.YtdllbdfchloijaaDoor

/- prog: an instruction: two, constant, Asks. -/
namespace Go.Proofs.YtdllbdfchloijaaDoor
open Go.ChangeShapes Go.WideShapes Go.ChangeAt Go.RowKit
set_option linter.unusedVariables false
set_option linter.unusedSimpArgs false
theorem bret {a b : Bool} (h : a = b) : Ending.returned (.bool a) = Ending.returned (.bool b) := by rw [h]
/-- an instruction -/
structure Ins where
  op : Int
  to : Int
  a : Int
  b : Int
  c : Int
deriving Inhabited
def Ins.v (i : Ins) : Value := .agg #[.int .i64 i.op, .int .i64 i.to, .int .i64 i.a, .int .i64 i.b, .int .i64 i.c]
def twoB (op : Int) : Bool := decide (op = 3 ∨ op = 4)
def constB (op c : Int) : Bool := if op = 5 ∨ op = 6 then decide (c ≠ 0 ∧ -512 ≤ c ∧ c ≤ 512) else if op = 7 ∨ op = 8 then decide (1 ≤ c ∧ c ≤ 64) else decide (c = 0)
theorem constB_mul {op c : Int} (h : op = 5 ∨ op = 6) : constB op c = decide (c ≠ 0 ∧ -512 ≤ c ∧ c ≤ 512) := by unfold constB; rw [if_pos h]
theorem constB_shift {op c : Int} (h : op = 7 ∨ op = 8) : constB op c = decide (1 ≤ c ∧ c ≤ 64) := by unfold constB; rw [if_neg (by omega), if_pos h]
theorem constB_else {op c : Int} (h : ¬ (op = 5 ∨ op = 6)) (h2 : ¬ (op = 7 ∨ op = 8)) : constB op c = decide (c = 0) := by unfold constB; rw [if_neg h, if_neg h2]

theorem two_c (op : Int) (w : World) : Calls Tryd.prog 57 #[.int .i64 op] w fun e w' => e = .returned (.bool (twoB op)) ∧ w' = w := by
  go_enter Tryd.func57, Tryd.ntmps57
  go_wp2
  all_goals go_ret
  all_goals exact ⟨bret (by rw [Bool.eq_iff_iff]; simp [twoB] <;> omega), rfl⟩

set_option maxRecDepth 100000 in
theorem constant_c (op t a b c : Int) (w : World) : Calls Tryd.prog 58 #[.agg #[.int .i64 op, .int .i64 t, .int .i64 a, .int .i64 b, .int .i64 c]] w fun e w' => e = .returned (.bool (constB op c)) ∧ Below w.heap.size w w' := by
  by_cases h : op = 5 ∨ op = 6
  · rw [constB_mul h]
    rcases h with rfl | rfl
    all_goals
      go_enter Tryd.func58, Tryd.ntmps58
      go_wp2
      all_goals go_ret
      all_goals exact ⟨bret (by rw [Bool.eq_iff_iff]; simp <;> omega), by repeat (first | exact Below.refl _ _ | assumption | refine bal ?_ _)⟩
  · by_cases h2 : op = 7 ∨ op = 8
    · rw [constB_shift h2]
      rcases h2 with rfl | rfl
      all_goals
        go_enter Tryd.func58, Tryd.ntmps58
        go_wp2
        all_goals go_ret
        all_goals exact ⟨bret (by rw [Bool.eq_iff_iff]; simp <;> omega), by repeat (first | exact Below.refl _ _ | assumption | refine bal ?_ _)⟩
    · rw [constB_else h h2]
      have t5 : (op == 5) = false := by simp; omega
      have t6 : (op == 6) = false := by simp; omega
      have t7 : (op == 7) = false := by simp; omega
      have t8 : (op == 8) = false := by simp; omega
      clear h h2
      go_enter Tryd.func58, Tryd.ntmps58
      go_wp2
      all_goals go_ret
      all_goals exact ⟨bret (by rw [Bool.eq_iff_iff]; simp <;> omega), by repeat (first | exact Below.refl _ _ | assumption | refine bal ?_ _)⟩
theorem asks_two (op t a b c : Int) (w : World) (h : op = 3 ∨ op = 4) : Calls Tryd.prog 59 #[.agg #[.int .i64 op, .int .i64 t, .int .i64 a, .int .i64 b, .int .i64 c]] w fun e w' => e = .returned (.slice (some ⟨w.heap.size + 1, 0, none⟩) 2 2) ∧ w'.cell? ⟨w.heap.size + 1, 0, none⟩ = some (.int .i64 a) ∧ w'.cell? ⟨w.heap.size + 1, 1, none⟩ = some (.int .i64 b) ∧ Below w.heap.size w w' := by
  rcases h with rfl | rfl
  all_goals
    go_enter Tryd.func59, Tryd.ntmps59
    go_wp2
    go_ret
    exact ⟨rfl, cell_new (by simp) rfl, cell_new (by simp) rfl, bal (bal (Below.refl _ _) _) _⟩
theorem asks_one (op t a b c : Int) (w : World) (h1 : 1 ≤ op) (h2 : op ≤ 8) (h : twoB op = false) : Calls Tryd.prog 59 #[.agg #[.int .i64 op, .int .i64 t, .int .i64 a, .int .i64 b, .int .i64 c]] w fun e w' => e = .returned (.slice (some ⟨w.heap.size + 1, 0, none⟩) 1 1) ∧ w'.cell? ⟨w.heap.size + 1, 0, none⟩ = some (.int .i64 a) ∧ Below w.heap.size w w' := by
  have h3 : ¬ (op = 3 ∨ op = 4) := by simpa [twoB] using h
  clear h
  have hc : op = 1 ∨ op = 2 ∨ op = 5 ∨ op = 6 ∨ op = 7 ∨ op = 8 := by omega
  clear h1 h2 h3
  rcases hc with rfl | rfl | rfl | rfl | rfl | rfl
  all_goals
    go_enter Tryd.func59, Tryd.ntmps59
    go_wp2
    go_ret
    exact ⟨rfl, cell_new (by simp) rfl, bal (bal (Below.refl _ _) _) _⟩
end Go.Proofs.YtdllbdfchloijaaDoor

/- Plain laws: numbers as lists of digits to the base 65536, low one first. (Printed by wip/bin/mk_numr.py.) -/
namespace Go.Proofs.YtdllbdfchloijaaDoor.NumR
open Num (Nrm trimL trimL_append_zero trimL_append_pos trimL_nil list_snoc_ind trim_prefix trim_len trim_nrm trim_of_nrm trim_take)

/-- the base -/
def BB : Nat := 65536
theorem BB_pos : 0 < BB := by unfold BB; omega
/-- what a list of limbs stands for -/
def val : List Nat → Nat
  | [] => 0
  | x :: l => x + BB * val l
/-- every limb is one -/
def Limbs (l : List Nat) : Prop := ∀ x ∈ l, x < BB
theorem val_append (l m : List Nat) : val (l ++ m) = val l + BB ^ l.length * val m := by
  induction l with
  | nil => simp [val]
  | cons x l ih =>
    simp only [val, List.cons_append, ih, List.length_cons, Nat.pow_succ, Nat.mul_add, Nat.add_assoc]
    congr 2
    rw [← Nat.mul_assoc, Nat.mul_comm BB]
theorem val_lt {l : List Nat} (h : Limbs l) : val l < BB ^ l.length := by
  induction l with
  | nil => simp [val]
  | cons x l ih =>
    have h1 := ih (fun y hy => h y (by simp [hy]))
    have h2 := h x (by simp)
    simp only [val, List.length_cons, Nat.pow_succ]
    have h3 : val l + 1 ≤ BB ^ l.length := h1
    have h4 := Nat.mul_le_mul_left BB h3
    rw [Nat.mul_add] at h4
    rw [Nat.mul_comm (BB ^ l.length) BB]
    omega
theorem val_zeros (n : Nat) : val (List.replicate n 0) = 0 := by
  induction n with
  | zero => rfl
  | succ n ih => simp [List.replicate_succ, val, ih]
theorem val_trim (l : List Nat) : val (trimL l) = val l := by
  induction l using list_snoc_ind with
  | h0 => rfl
  | h1 l x ih =>
    by_cases hx : x = 0
    · subst hx; rw [trimL_append_zero, ih, val_append]; simp [val]
    · rw [trimL_append_pos l x hx]
theorem trim_limbs {l : List Nat} (h : Limbs l) : Limbs (trimL l) := fun x hx => h x ((trim_prefix l).subset hx)
theorem nrm_val_pos {l : List Nat} (h : Nrm l) (hn : l ≠ []) : BB ^ (l.length - 1) ≤ val l := by
  obtain ⟨m, x, rfl⟩ : ∃ m x, l = m ++ [x] := ⟨l.dropLast, l.getLast hn, (List.dropLast_concat_getLast hn).symm⟩
  have hx := h hn
  simp at hx
  rw [val_append]
  simp [val]
  have : BB ^ m.length * 1 ≤ BB ^ m.length * x := Nat.mul_le_mul_left _ (by omega)
  omega
theorem val_set {l : List Nat} {k : Nat} (x : Nat) (hk : k < l.length) : val (l.set k x) + l.getD k 0 * BB ^ k = val l + x * BB ^ k := by
  induction l generalizing k with
  | nil => simp at hk
  | cons y l ih =>
    cases k with
    | zero => simp [val]; omega
    | succ k =>
      have := ih (k := k) (by simpa using hk)
      simp only [List.set_cons_succ, val, List.getD_cons_succ, Nat.pow_succ]
      have e := congrArg (BB * ·) this
      simp only [Nat.mul_add] at e
      have c1 : ∀ z : Nat, z * (BB ^ k * BB) = BB * (z * BB ^ k) := fun z => by rw [← Nat.mul_assoc, Nat.mul_comm]
      rw [c1, c1]
      omega
theorem limbs_set {l : List Nat} {k x : Nat} (h : Limbs l) (hx : x < BB) : Limbs (l.set k x) := by
  intro y hy
  rcases List.mem_or_eq_of_mem_set hy with h1 | rfl
  · exact h y h1
  · exact hx
theorem limb_get {l : List Nat} (h : Limbs l) (k : Nat) : l.getD k 0 < BB := by
  by_cases hk : k < l.length
  · simp only [List.getD_eq_getElem?_getD, List.getElem?_eq_getElem hk, Option.getD_some]; exact h _ (List.getElem_mem hk)
  · simp [hk, BB_pos, Nat.le_of_not_lt hk]
theorem val_take_succ {l : List Nat} {k : Nat} (hk : k < l.length) : val (l.take (k + 1)) = val (l.take k) + l.getD k 0 * BB ^ k := by
  rw [List.take_succ_eq_append_getElem hk, val_append]
  simp [val, hk, Nat.min_eq_left (Nat.le_of_lt hk), Nat.mul_comm]
theorem val_split {l : List Nat} {k : Nat} (hk : k < l.length) : val l = val (l.take k) + BB ^ k * (l.getD k 0 + BB * val (l.drop (k + 1))) := by
  have e : l = l.take k ++ (l.getD k 0 :: l.drop (k + 1)) := by
    conv => lhs; rw [← List.take_append_drop k l, List.drop_eq_getElem_cons hk]
    simp [hk]
  conv => lhs; rw [e, val_append]
  simp only [val, List.length_take, Nat.min_eq_left (Nat.le_of_lt hk)]
theorem limbs_take {l : List Nat} (h : Limbs l) (k : Nat) : Limbs (l.take k) := fun x hx => h x (List.mem_of_mem_take hx)
theorem val_lt_of_top {l m : List Nat} {k : Nat} (hk : k < l.length) (hm : k < m.length) (hl : Limbs l) (hd : l.drop (k + 1) = m.drop (k + 1)) (h : l.getD k 0 < m.getD k 0) : val l < val m := by
  rw [val_split hk, val_split hm, hd]
  have h1 := val_lt (limbs_take hl k)
  rw [List.length_take, Nat.min_eq_left (Nat.le_of_lt hk)] at h1
  have h2 : BB ^ k * (l.getD k 0 + BB * val (m.drop (k + 1)) + 1) ≤ BB ^ k * (m.getD k 0 + BB * val (m.drop (k + 1))) := Nat.mul_le_mul_left _ (by omega)
  rw [Nat.mul_add _ _ 1] at h2
  omega
theorem val_lt_of_len {l m : List Nat} (hl : Limbs l) (nm : Nrm m) (h : l.length < m.length) : val l < val m := by
  have h1 := val_lt hl
  have h2 := nrm_val_pos nm (by intro e; subst e; simp at h)
  have h3 : BB ^ l.length ≤ BB ^ (m.length - 1) := Nat.pow_le_pow_right BB_pos (by omega)
  omega
theorem drop_step {l m : List Nat} {k : Nat} (hk : k < l.length) (hm : k < m.length) (hd : l.drop (k + 1) = m.drop (k + 1)) (h : l.getD k 0 = m.getD k 0) : l.drop k = m.drop k := by
  rw [List.drop_eq_getElem_cons hk, List.drop_eq_getElem_cons hm, hd]
  simp [hk, hm] at h
  rw [h]
theorem val_nil_iff {l : List Nat} (hn : Nrm l) : val l = 0 ↔ l = [] := by
  constructor
  · intro h
    by_cases h0 : l = []
    · exact h0
    · have := nrm_val_pos hn h0
      have : 0 < BB ^ (l.length - 1) := Nat.pow_pos BB_pos
      omega
  · rintro rfl; rfl
end Go.Proofs.YtdllbdfchloijaaDoor.NumR

/- What a piece of code may have written: 'Out X w w'': of w's blocks those outside X are as they were. -/
namespace Go.Proofs.YtdllbdfchloijaaDoor
open Num
open Go.ChangeShapes Go.WideShapes Go.ChangeAt Go.RowKit
structure Out (X : Nat → Prop) (w w' : World) : Prop where
  os : w'.os = w.os
  tape : w'.tape = w.tape
  output : w'.output = w.output
  size : w.heap.size ≤ w'.heap.size
  block : ∀ k, k < w.heap.size → ¬ X k → w'.heap[k]? = w.heap[k]?
section
variable {X Y : Nat → Prop} {a b c w w' : World}
theorem Out.refl (X : Nat → Prop) (w : World) : Out X w w := ⟨rfl, rfl, rfl, Nat.le_refl _, fun _ _ _ => rfl⟩
theorem Out.trans (h : Out X a b) (k : Out X b c) : Out X a c :=
  ⟨k.os.trans h.os, k.tape.trans h.tape, k.output.trans h.output, Nat.le_trans h.size k.size, fun i hi hx => (k.block i (Nat.lt_of_lt_of_le hi h.size) hx).trans (h.block i hi hx)⟩
theorem Out.mono (h : Out X a b) (k : ∀ i, i < a.heap.size → X i → Y i) : Out Y a b := ⟨h.os, h.tape, h.output, h.size, fun i hi hx => h.block i hi fun hi' => hx (k i hi hi')⟩
/-- what comes behind may write, besides, what is new -/
theorem Out.then (h : Out X a b) (k : Out Y b c) (hy : ∀ i, i < a.heap.size → Y i → X i) : Out X a c :=
  ⟨k.os.trans h.os, k.tape.trans h.tape, k.output.trans h.output, Nat.le_trans h.size k.size, fun i hi hx => (k.block i (Nat.lt_of_lt_of_le hi h.size) fun h' => hx (hy i hi h')).trans (h.block i hi hx)⟩
theorem Out.of_below (X : Nat → Prop) (h : Below a.heap.size a b) : Out X a b := ⟨h.os, h.tape, h.output, h.size, fun i hi _ => h.block i hi⟩
theorem Out.below (h : Out X a b) (k : Below b.heap.size b c) : Out X a c := h.trans (.of_below X k)
theorem Out.alloc (h : Out X a b) (o : Obj) : Out X a (b.alloc o) := h.below (bal (Below.refl _ _) o)
theorem Out.drew (h : Out X a b) : Out X a b.drew := ⟨h.os, h.tape, h.output, h.size, h.block⟩
theorem Out.drewN (h : Out X a b) (n : Nat) : Out X a (b.drewN n) := h.below (below_drewN (Below.refl _ _) n)
theorem Out.set (h : Out X a b) {p : Addr} (hp : p.block < a.heap.size → X p.block) (u : Value) : Out X a (b.setCell p u) :=
  ⟨h.os, h.tape, h.output, Nat.le_trans h.size (by simp [World.setCell]), fun k hk hx => (Below.heap_setCell _ _ _ _ fun e => hx (by subst e; exact hp hk)).trans (h.block k hk hx)⟩
theorem Out.grown (h : Out X a b) {row : Option Nat} (hg : b.grownBy c row) (hr : ∀ k, row = some k → k < a.heap.size → X k) : Out X a c :=
  ⟨hg.os.trans h.os, hg.tape.trans h.tape, hg.output.trans h.output, Nat.le_trans h.size hg.size, fun k hk hx => (hg.block k (Nat.lt_of_lt_of_le hk h.size) fun e => hx (hr k e.symm hk)).trans (h.block k hk hx)⟩
/-- nothing that was there when a call began -/
theorem Out.to_below {B : Nat} (h : Out X a b) (hx : ∀ k, k < B → k < a.heap.size → ¬ X k) (hB : B ≤ a.heap.size) : Below B a b :=
  ⟨h.os, h.tape, h.output, h.size, fun k hk => h.block k (by omega) (hx k hk (by omega))⟩
theorem okeep (h : Out X a b) {q o : Nat} {s : Option Nat} {v : Value} (hc : a.cell? ⟨q, o, s⟩ = some v) (hx : ¬ X q) : b.cell? ⟨q, o, s⟩ = some v := by
  rw [World.cell?_of_block (w := a) (h.block q (cell_lt hc) hx)]; exact hc
theorem okeepf (h : Out X a b) {q o : Nat} {s : Option Nat} {v : Value} (hc : a.cell? ⟨q, o, s⟩ = some v) (hf : a.frozen? ⟨q, o, s⟩ = false) (hx : ¬ X q) : b.frozen? ⟨q, o, s⟩ = false := by
  rw [World.frozen?_of_block (w := a) (h.block q (cell_lt hc) hx)]; exact hf
theorem Out.blk (h : Out X a b) {g : Nat} {l : List Nat} (hb : Blk a g l) (hx : ¬ X g) : Blk b g l := (h.block g hb.lt hx).trans hb
/-- limbs stay where their block is not written -/
theorem C32.okeep {o : Option Addr} {l : List Nat} (h : C32 a o l) (k : Out X a b) (hx : ∀ q f, o = some ⟨q, f, none⟩ → ¬ X q) : C32 b o l := by
  rcases h with h | ⟨q, off, h1, h2⟩
  · exact .inl h
  · exact .inr ⟨q, off, h1, fun i hi => _root_.Go.Proofs.YtdllbdfchloijaaDoor.okeep k (h2 i hi) (hx q off h1), by rw [typ_of_block (w := a) (k.block q (typ_lt h2.ty) (hx q off h1))]; exact h2.ty⟩
theorem U32.okeep {o : Option Addr} {cap : Nat} {l : List Nat} (h : U32 a o cap l) (k : Out X a b) (hx : ∀ q f, o = some ⟨q, f, none⟩ → ¬ X q) : U32 b o cap l := ⟨h.1, h.2.1, h.2.2.1, h.2.2.2.okeep k hx⟩
end
end Go.Proofs.YtdllbdfchloijaaDoor

/- A region that draws its order: a head whose calls answer what their arguments say and only make memory, and a tail whose order is forced: one walk. -/
namespace Go.Proofs.YtdllbdfchloijaaDoor
open Go.ChangeShapes Go.WideShapes Go.ChangeAt Go.RowKit
set_option linter.unusedVariables false
set_option linter.unusedSimpArgs false
section
variable {P : Program} {ops : Array Oper} {md : Region.Mode} {C : World → Prop}
end
end Go.Proofs.YtdllbdfchloijaaDoor

/- The tail of a list of laid variables is laid. -/
namespace Go.Proofs.YtdllbdfchloijaaDoor
theorem laid_tail {P : Program} {x : String × DataW Unit} {rest : List (String × DataW Unit)} {W : World} (h : laidMet P (x :: rest) W) : laidMet P rest W := by
  obtain ⟨ps, ⟨g, t, cs, fuel, p, q, _, _, _, _, hr, rfl⟩, hn, hi⟩ := h
  exact ⟨q, hr, (List.nodup_append.1 hn).2.1, fun b off hm => hi b off (List.mem_append_right _ hm)⟩
end Go.Proofs.YtdllbdfchloijaaDoor

