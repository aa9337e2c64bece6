/- Texts of this seat, laid together: LimbA, App, PrgA, PrgB, PrgC, LimbB, LimbC, NumB, IntA, LimbD. Each opens with its own remark, which says what it proves, and under which conditions. -/
import Derived.Test.YtkejdmdldhlkgaaDoorP01
import Derived.Laws.CopyOwn
import Derived.Shelf.Small.Bits
set_option linter.unusedVariables false
set_option linter.unusedSimpArgs false
/- limb: trim, Norm. -/
namespace Go.Proofs.YtkejdmdldhlkgaaDoor
open Num
open Go.ChangeShapes Go.WideShapes Go.ChangeAt Go.RowKit
set_option linter.unusedVariables false
set_option linter.unusedSimpArgs false

/-- the element type of a block -/
def typOf (w : World) (b : Nat) : Option TypeId := match w.heap[b]? with
  | some (.cells _ t _) => some t
  | _ => none
theorem typ_of_block {w w' : World} {b : Nat} (h : w'.heap[b]? = w.heap[b]?) : typOf w' b = typOf w b := by unfold typOf; rw [h]
theorem typ_lt {w : World} {b : Nat} {t : TypeId} (h : typOf w b = some t) : b < w.heap.size := by
  apply Nat.lt_of_not_le; intro hl
  have : w.heap[b]? = none := by simp [hl]
  simp [typOf, this] at h
theorem typ_keep {w w' : World} {b : Nat} {t : TypeId} (h : typOf w b = some t) (hb : Below w.heap.size w w') : typOf w' b = some t := by
  rw [typ_of_block (w := w) (hb.block b (typ_lt h))]; exact h
theorem typ_set (w : World) (p : Addr) (v : Value) (b : Nat) : typOf (w.setCell p v) b = typOf w b := by
  by_cases e : b = p.block
  · subst e
    unfold typOf World.setCell
    simp only [Array.getElem?_modify, if_true]
    cases w.heap[p.block]? with
    | none => rfl
    | some o => cases o <;> rfl
  · exact typ_of_block (Below.heap_setCell w p v b e)
/-- the cells of a list of limbs, in a block of limbs -/
structure At32 (w : World) (b off : Nat) (l : List Nat) : Prop where
  cell : ∀ k, k < l.length → w.cell? ⟨b, off + k, none⟩ = some (.int .u32 (l.getD k 0 : Nat))
  ty : typOf w b = some 64
instance {w : World} {b off : Nat} {l : List Nat} : CoeFun (At32 w b off l) (fun _ => ∀ k, k < l.length → w.cell? ⟨b, off + k, none⟩ = some (.int .u32 (l.getD k 0 : Nat))) := ⟨At32.cell⟩
/-- the cells of a list of limbs -/
def C32 (w : World) (a : Option Addr) (l : List Nat) : Prop := l = [] ∨ ∃ b off, a = some ⟨b, off, none⟩ ∧ At32 w b off l
/-- a slice holds a list of limbs -/
def U32 (w : World) (a : Option Addr) (cap : Nat) (l : List Nat) : Prop := l.length ≤ cap ∧ cap ≤ maxLen ∧ Limbs l ∧ C32 w a l
theorem C32.keep {w w' : World} {a : Option Addr} {l : List Nat} (h : C32 w a l) (hb : Below w.heap.size w w') : C32 w' a l := by
  rcases h with h | ⟨b, off, h1, h2⟩
  · exact .inl h
  · exact .inr ⟨b, off, h1, fun k hk => bkeep hb (h2 k hk), typ_keep h2.ty hb⟩
theorem U32.keep {w w' : World} {a : Option Addr} {cap : Nat} {l : List Nat} (h : U32 w a cap l) (hb : Below w.heap.size w w') : U32 w' a cap l := ⟨h.1, h.2.1, h.2.2.1, h.2.2.2.keep hb⟩
theorem C32.take {w : World} {a : Option Addr} {l m : List Nat} (h : C32 w a l) (hp : m <+: l) : C32 w a m := by
  rcases h with rfl | ⟨b, off, h1, h2⟩
  · exact .inl (List.prefix_nil.1 hp)
  · refine .inr ⟨b, off, h1, fun k hk => ?_, h2.ty⟩
    obtain ⟨t, rfl⟩ := hp
    rw [h2 k (by simp; omega)]
    simp [hk, List.getElem?_append]
namespace Num
theorem trim_take_zero {l : List Nat} {k : Nat} (hk : k < l.length) (h0 : l.getD k 0 = 0) : trimL (l.take (k + 1)) = trimL (l.take k) := by
  rw [List.take_succ_eq_append_getElem hk]
  have : l[k] = 0 := by simpa [hk] using h0
  rw [this, trimL_append_zero]
theorem trim_take_pos {l : List Nat} {k : Nat} (hk : k < l.length) (h0 : l.getD k 0 ≠ 0) : trimL (l.take (k + 1)) = l.take (k + 1) := by
  rw [List.take_succ_eq_append_getElem hk]
  have : l[k] ≠ 0 := by simpa [hk] using h0
  rw [trimL_append_pos _ _ this]
end Num

set_option maxRecDepth 100000 in
set_option maxHeartbeats 1000000 in
theorem trim_c (a : Option Addr) (cap : Nat) (l : List Nat) (w : World) (h : U32 w a cap l) :
    Calls Tryd.prog 46 #[.slice a l.length cap] w fun e w' => e = .returned (.slice a (trimL l).length (trimL l).length) ∧ w = w' := by
  obtain ⟨hc, hm, hl, hcs⟩ := h
  unfold maxLen at hm
  go_enter Tryd.func46, Tryd.ntmps46
  go_wp2
  go_loop [3] (fun x => ∃ k : Nat, k ≤ l.length ∧ x = .int .i64 k ∧ trimL (l.take k) = trimL l) (fun x => (intOf x).toNat)
  case atStart => exact ⟨l.length, Nat.le_refl _, rfl, by rw [List.take_length]⟩
  case round =>
    obtain ⟨k, hk, rfl, ht⟩ := hrel
    have HT := Lib.hid ht
    clear ht
    cases k with
    | zero =>
      have hz : (trimL l).length = 0 := by have := HT.out; rw [List.take_zero] at this; rw [← this]; rfl
      have HZ := Lib.hid hz
      clear hz
      go_wp2
      go_ret
      exact ⟨by rw [HZ.out]; rfl, rfl⟩
    | succ j =>
      rcases hcs with rfl | ⟨b, off, rfl, hcell⟩
      · simp at hk
      have hj := hcell j (by omega)
      by_cases h0 : l.getD j 0 = 0
      · have HN := Lib.hid (trim_take_zero (by omega : j < l.length) h0)
        rw [h0] at hj
        go_wp2
        exact ⟨⟨j, by omega, rfl, HN.out.symm.trans HT.out⟩, by simp [intOf] <;> omega⟩
      · have HN := Lib.hid (trim_take_pos (by omega : j < l.length) h0)
        generalize hx : l.getD j 0 = x at *
        have hx0 : ((x : Int) == 0) = false := by simp; omega
        have HL := Lib.hid (show (trimL l).length = j + 1 by rw [← HT.out, HN.out]; simp; omega)
        go_wp2
        go_ret
        exact ⟨by rw [HL.out]; rfl, rfl⟩

theorem U32.trim {w : World} {a : Option Addr} {cap : Nat} {l : List Nat} (h : U32 w a cap l) : U32 w a (trimL l).length (trimL l) :=
  ⟨Nat.le_refl _, Nat.le_trans (trim_len l) (Nat.le_trans h.1 h.2.1), trim_limbs h.2.2.1, h.2.2.2.take (trim_prefix l)⟩
theorem info32 : (Tryd.prog.info? 64).map (fun i => (i.zero, i.size, i.bytes)) = some (some (.int .u32 0), 1, 4) := by kernel_rfl
/-- limbs as cells -/
def cel (l : List Nat) : List Value := l.map fun x : Nat => .int .u32 (x : Int)
theorem cel_len (l : List Nat) : (cel l).length = l.length := by simp [cel]
theorem cel_get (l : List Nat) (k : Nat) (h : k < l.length) : (cel l)[k]? = some (.int .u32 (l.getD k 0 : Nat)) := by simp [cel, h]
theorem cel_one (l : List Nat) : ∀ v ∈ cel l, v.oneCell' = true := by
  intro v hv; simp only [cel, List.mem_map] at hv; obtain ⟨x, _, rfl⟩ := hv; rfl
/-- a block of the call's own that holds limbs -/
def Blk (w : World) (g : Nat) (l : List Nat) : Prop := w.heap[g]? = some (.cells (cel l).toArray 64 (0, 0))
theorem Blk.cell {w : World} {g : Nat} {l : List Nat} (h : Blk w g l) (k : Nat) (hk : k < l.length) : w.cell? ⟨g, k, none⟩ = some (.int .u32 (l.getD k 0 : Nat)) := by
  have := cel_get l k hk
  unfold World.cell?
  rw [show w.heap[(⟨g, k, none⟩ : Addr).block]? = _ from h]
  simpa using this
theorem Blk.frozen {w : World} {g : Nat} {l : List Nat} (h : Blk w g l) (k : Nat) : w.frozen? ⟨g, k, none⟩ = false := by
  unfold World.frozen?
  rw [show w.heap[(⟨g, k, none⟩ : Addr).block]? = _ from h]
  simp
theorem Blk.lt {w : World} {g : Nat} {l : List Nat} (h : Blk w g l) : g < w.heap.size := (Array.getElem?_eq_some_iff.1 h).1
theorem Blk.keep {w w' : World} {g : Nat} {l : List Nat} (h : Blk w g l) (hb : Below w.heap.size w w') : Blk w' g l := (hb.block g h.lt).trans h
theorem Blk.alloc {w : World} {g : Nat} {l : List Nat} (h : Blk w g l) (o : Obj) : Blk (w.alloc o) g l := (Below.heap_alloc w o g h.lt).trans h
theorem Blk.set {w : World} {g : Nat} {l : List Nat} (h : Blk w g l) (k x : Nat) : Blk (w.setCell ⟨g, k, none⟩ (.int .u32 (x : Int))) g (l.set k x) := by
  unfold Blk World.setCell
  simp only [Array.getElem?_modify, if_true]
  rw [show w.heap[g]? = _ from h]
  simp [cel, List.map_set]
theorem Blk.far {w : World} {g : Nat} {l : List Nat} (h : Blk w g l) (p : Addr) (v : Value) (hp : g ≠ p.block) : Blk (w.setCell p v) g l := (Below.heap_setCell w p v g hp).trans h
theorem Blk.u32 {w : World} {g : Nat} {l : List Nat} (h : Blk w g l) (hl : Limbs l) (hm : l.length ≤ maxLen) : U32 w (some ⟨g, 0, none⟩) l.length l :=
  ⟨Nat.le_refl _, hm, hl, .inr ⟨g, 0, rfl, fun k hk => by simpa using h.cell k hk, by unfold typOf; rw [show w.heap[g]? = _ from h]⟩⟩
/-- a new slice of limbs, all 0 -/
theorem mk32 (n : Nat) (hn : n ≤ 35184372088832) (w : World) : (Instr.makeSlice 35 (.int .i64 (n : Int)) (.int .i64 (n : Int))).run Tryd.prog w = .ok (.slice (some ⟨w.heap.size, 0, none⟩) n n) (w.alloc (.cells (cel (List.replicate n 0)).toArray 64)) := by
  obtain ⟨i0, hi, hz0, hz1, hz2⟩ := info_parts info32
  have e : madeCells (Value.int .u32 0).cells ((n : Int).toNat * 1) = (cel (List.replicate n 0)).toArray := by
    apply Array.ext
    · simp [size_madeCells, cel]
    · intro i h1 h2
      simp [madeCells, cel, Value.cells, Nat.mod_one]
  rw [run_make w _ _ i0 _ Tryd.underlying35 hi hz0 .i64 .i64 n n (by omega) (by omega) (by rw [hz2]; omega) (by omega), hz1, e]
  rfl
theorem blk_new (w : World) (l : List Nat) : Blk (w.alloc (.cells (cel l).toArray 64)) w.heap.size l := by
  unfold Blk; exact (MapKept.heap_alloc w _).1
theorem blk_at {w : World} {g : Nat} {l : List Nat} (hg : g = w.heap.size) : Blk (w.alloc (.cells (cel l).toArray 64)) g l := by subst hg; exact blk_new w l

set_option maxRecDepth 100000 in
set_option maxHeartbeats 1000000 in
theorem limbNorm_c (a : Option Addr) (cap : Nat) (l : List Nat) (w : World) (h : U32 w a cap l) (hlen : l.length ≤ 1099511627776) :
    Calls Tryd.prog 42 #[.slice a l.length cap] w fun e w' => (∃ a', e = .returned (.slice a' (trimL l).length (trimL l).length) ∧ U32 w' a' (trimL l).length (trimL l)) ∧ Below w.heap.size w w' := by
  have tc := fun w h => trim_c a cap l w h
  have h1 := h.trim
  have hlm := Nat.le_trans (trim_len l) hlen
  generalize trimL l = m at *
  go_enter Tryd.func42, Tryd.ntmps42
  go_wp2_with fail
  refine (tc _ h).mono ?_
  rintro e w1 ⟨rfl, rfl⟩
  clear tc
  have hmk := mk32 m.length (by omega)
  go_wp2_with (refine wpList_copy_splice (o := ⟨some 11, _, _, _, _, _⟩) rfl _ _ 35 35 rfl 64 Tryd.underlying35 (by kernel_rfl) (some ⟨w.heap.size, 0, none⟩) a m.length m.length m.length m.length rfl rfl w.heap.size 0 (cel (List.replicate m.length 0)) 64 (blk_new w _) (cel m) ?_ ?_ ?_ (cel_one m) w.heap.size w (bal (Below.refl _ _) _) (Nat.le_refl _) ?_)
  · rw [cel_len]; exact (Nat.min_self _).symm
  · intro h0
    rw [cel_len] at h0
    rcases h1.2.2.2 with hm0 | ⟨b, off, ha, hcell⟩
    · subst hm0; simp at h0
    · refine ⟨_, ha, fun j v hj => cell_alloc ?_ _⟩
      have hjl : j < m.length := by have := (List.getElem?_eq_some_iff.1 hj).1; rwa [cel_len] at this
      rw [cel_get m j hjl] at hj
      cases hj
      have := hcell j hjl
      unfold Addr.add
      split
      · subst_vars; simpa using this
      · exact this
  · simp [cel_len]
  · intro w' hw' hb'
    have hsp : splice (cel (List.replicate m.length 0)) 0 (cel m) = cel m := by simp [splice, cel]
    rw [hsp] at hw'
    have HW : Hid (Blk w' w.heap.size m) := hw'
    go_wp2
    go_ret
    exact ⟨⟨_, rfl, (HW.out : Blk w' w.heap.size m).u32 h1.2.2.1 h1.2.1⟩, hb'⟩
end Go.Proofs.YtkejdmdldhlkgaaDoor

/- append of new cells to a row of the call's own, one law for all element types. -/
namespace Go.Proofs.YtkejdmdldhlkgaaDoor
open Num
open Go.ChangeShapes Go.WideShapes Go.ChangeAt Go.RowKit
/-- a row of a slice type: its element type, its size in cells and in bytes -/
structure Elt (P : Program) (T E : TypeId) (size bytes : Nat) : Prop where
  ht : P.underlying T = some (.slice E)
  info : ∃ i z, P.info? E = some i ∧ i.zero = some z ∧ i.size = size ∧ i.bytes = bytes ∧ z.cells.size = size
  pos : 0 < size
  small : bytes ≤ 128
theorem Elt.mk' {P : Program} {T E : TypeId} {size bytes : Nat} {z : Value} (ht : P.underlying T = some (.slice E)) (hi : (P.info? E).map (fun i => (i.zero, i.size, i.bytes)) = some (some z, size, bytes)) (hz : z.cells.size = size) (h1 : 0 < size) (h2 : bytes ≤ 128) : Elt P T E size bytes := by
  obtain ⟨i, h3, h4, h5, h6⟩ := info_parts hi
  exact ⟨ht, ⟨i, z, h3, h4, h5, h6, hz⟩, h1, h2⟩
/-- what the call owns since the world w0 -/
def OwnE (E : TypeId) (size : Nat) (w0 wr : World) (v : Value) (n : Nat) (xs : List Value) : Prop := wr.ownsRow w0.heap.size E size v n xs ∧ Below w0.heap.size w0 wr
theorem OwnE.below {E : TypeId} {size n : Nat} {w0 wr w' : World} {v : Value} {xs : List Value} (h : OwnE E size w0 wr v n xs) (hb : Below wr.heap.size wr w') : OwnE E size w0 w' v n xs :=
  ⟨own_below (w0 := w0) h.1 hb, bthen h.2 hb⟩
theorem OwnE.nil (E : TypeId) (size : Nat) {w0 wr : World} (hb : Below w0.heap.size w0 wr) : OwnE E size w0 wr (.slice none 0 0) 0 [] := ⟨World.ownsRow_nil _ _ _ _, hb⟩
theorem OwnE.ex {E : TypeId} {size n : Nat} {w0 wr : World} {v : Value} {xs : List Value} (h : OwnE E size w0 wr v n xs) : ∃ a c, v = .slice a n c := by
  rcases h.1.2 with ⟨rfl, rfl⟩ | ⟨g, c, _, rfl, _⟩
  · exact ⟨_, _, rfl⟩
  · exact ⟨_, _, rfl⟩
/-- the same, at a step of a region that draws its order -/
theorem step_lit {P : Program} {T E : TypeId} {size bytes : Nat} {ops : Array Oper} {o : Oper} {a : Act} {K : Act → World → Prop} {Q : Exit → Act → World → Prop} {R : Prop} {w0 wr : World} {v : Value} {n : Nat} {xs C : List Value} {t : TypeId} (el : Elt P T E size bytes) (hgd : o.guard = none) {s x : Operand}
    (ho : o.op = .call { callee := .builtin .append, args := #[s, x], argTypes := #[T, T] }) (hO : OwnE E size w0 wr v n xs) (hs : a.eval s = v)
    {m c : Nat} (hx : a.eval x = .slice (some ⟨wr.heap.size, 0, none⟩) m c) (hl : C.length = m * size) (h1 : ∀ u ∈ C, u.oneCell' = true) (hn : n + m ≤ 1099511627776)
    (h : ∀ v' w', OwnE E size w0 w' v' (n + m) (xs ++ C) → K (a.put o.dst v') w') : if Region.wanted o (yielded ops a.tmps) = true then Oper.wp P o a (wr.alloc (.cells C.toArray t)).drew K Q else R := by
  obtain ⟨i, z, hi, hz, hsize, hby, hzs⟩ := el.info
  have hb : (n + m) * bytes ≤ 1099511627776 * 128 := Nat.mul_le_mul hn el.small
  have hw : Region.wanted o (yielded ops a.tmps) = true := by simp [Region.wanted, hgd]
  rw [if_pos hw]
  refine wp_append_own _ s x T ho w0.heap.size E i z size bytes el.ht hi hz hsize hby hzs el.pos v n xs hs ((hO.1.alloc _).drew) ⟨wr.heap.size, 0, none⟩ m c C hx hl (fun j u hj => cell_drew (cells_new wr C t j u hj)) h1 (by unfold maxLen; omega) (by omega) (by have := hO.2.size; simp; omega) ?_
  intro v' w' hown hg _
  exact h v' w' ⟨hown, below_append (wr := wr) (bal hO.2 _).drew ((hO.1.alloc _).drew) hg⟩
theorem el32 : Elt Tryd.prog 35 64 1 4 := Elt.mk' Tryd.underlying35 info32 rfl (by decide) (by decide)
/-- limbs of the call's own -/
def Own32 (w0 wr : World) (v : Value) (L : List Nat) : Prop := OwnE 64 1 w0 wr v L.length (cel L)
theorem Own32.below {w0 wr w' : World} {v : Value} {L : List Nat} (h : Own32 w0 wr v L) (hb : Below wr.heap.size wr w') : Own32 w0 w' v L := OwnE.below h hb
theorem Own32.nil {w0 wr : World} (hb : Below w0.heap.size w0 wr) : Own32 w0 wr (.slice none 0 0) [] := OwnE.nil _ _ hb
theorem own_u32 {w : World} {base : Nat} {v : Value} {n : Nat} {L : List Nat} (h : w.ownsRow base 64 1 v n (cel L)) (hL : Limbs L) : ∃ a c, v = .slice a L.length c ∧ U32 w a c L := by
  obtain ⟨hl, h⟩ := h
  rw [cel_len, Nat.mul_one] at hl
  subst hl
  rcases h with ⟨rfl, h0⟩ | ⟨g, cap, cur, rfl, hg, hh, hn, hc, hs, ht⟩
  · have : L = [] := List.length_eq_zero_iff.1 h0
    subst this
    exact ⟨none, 0, rfl, Nat.le_refl _, by unfold maxLen; omega, hL, .inl rfl⟩
  · refine ⟨_, cap, rfl, hn, hc, hL, .inr ⟨g, 0, rfl, fun k hk => ?_, by unfold typOf; rw [hh]⟩⟩
    rw [Nat.mul_one] at ht
    have e : cur[k]? = some (.int .u32 (L.getD k 0 : Nat)) := by
      have := cel_get L k hk
      rw [← ht, List.getElem?_take, if_pos hk] at this
      simpa using this
    unfold World.cell?
    rw [Nat.zero_add, show w.heap[(⟨g, k, none⟩ : Addr).block]? = _ from hh]
    simpa using e
theorem Own32.u32 {w0 wr : World} {v : Value} {L : List Nat} (h : Own32 w0 wr v L) (hL : Limbs L) : ∃ a c, v = .slice a L.length c ∧ U32 wr a c L := own_u32 h.1 hL
theorem cel_app (l m : List Nat) : cel (l ++ m) = cel l ++ cel m := by simp [cel]
end Go.Proofs.YtkejdmdldhlkgaaDoor

/- prog: an instruction: two, constant, Asks. -/
namespace Go.Proofs.YtkejdmdldhlkgaaDoor
open Go.ChangeShapes Go.WideShapes Go.ChangeAt Go.RowKit
set_option linter.unusedVariables false
set_option linter.unusedSimpArgs false
/-- an instruction -/
structure Ins where
  op : Int
  to : Int
  a : Int
  b : Int
  c : Int
deriving Inhabited
def Ins.v (i : Ins) : Value := .agg #[.int .i64 i.op, .int .i64 i.to, .int .i64 i.a, .int .i64 i.b, .int .i64 i.c]
def twoB (op : Int) : Bool := decide (op = 3 ∨ op = 4)
def constB (op c : Int) : Bool := if op = 5 ∨ op = 6 then decide (c ≠ 0 ∧ -512 ≤ c ∧ c ≤ 512) else if op = 7 ∨ op = 8 then decide (1 ≤ c ∧ c ≤ 64) else decide (c = 0)
end Go.Proofs.YtkejdmdldhlkgaaDoor

/- prog: may. -/
namespace Go.Proofs.YtkejdmdldhlkgaaDoor
open Go.ChangeShapes Go.WideShapes Go.ChangeAt Go.RowKit
set_option linter.unusedVariables false
set_option linter.unusedSimpArgs false
def mayB (op t a b c regs : Int) : Bool := decide (1 ≤ op ∧ op ≤ 8 ∧ 0 ≤ t ∧ t < regs ∧ (twoB op = false → b = 0) ∧ constB op c = true ∧ 0 ≤ a ∧ a < regs ∧ (twoB op = true → 0 ≤ b ∧ b < regs))
end Go.Proofs.YtkejdmdldhlkgaaDoor

/- prog: Check. -/
namespace Go.Proofs.YtkejdmdldhlkgaaDoor
open Go.ChangeShapes Go.WideShapes Go.ChangeAt Go.RowKit
set_option linter.unusedVariables false
set_option linter.unusedSimpArgs false
/-- a list of ints in memory -/
def IntsV (w : World) (a : Option Addr) (cap : Nat) (L : List Int) : Prop := L = [] ∨ ∃ b off, a = some ⟨b, off, none⟩ ∧ L.length ≤ cap ∧ ∀ k, k < L.length → w.cell? ⟨b, off + k, none⟩ = some (.int .i64 (L.getD k 0))
theorem IntsV.keep {w w' : World} {a : Option Addr} {cap : Nat} {L : List Int} (h : IntsV w a cap L) (hb : Below w.heap.size w w') : IntsV w' a cap L := by
  rcases h with h | ⟨b, off, h1, h2, h3⟩
  · exact .inl h
  · exact .inr ⟨b, off, h1, h2, fun k hk => bkeep hb (h3 k hk)⟩
/-- a list of instructions in memory -/
structure InsAt (w : World) (b off : Nat) (i : Ins) : Prop where
  c0 : w.cell? ⟨b, off, none⟩ = some (.int .i64 i.op)
  c1 : w.cell? ⟨b, off + 1, none⟩ = some (.int .i64 i.to)
  c2 : w.cell? ⟨b, off + 2, none⟩ = some (.int .i64 i.a)
  c3 : w.cell? ⟨b, off + 3, none⟩ = some (.int .i64 i.b)
  c4 : w.cell? ⟨b, off + 4, none⟩ = some (.int .i64 i.c)
def InsV (w : World) (a : Option Addr) (cap : Nat) (L : List Ins) : Prop := L = [] ∨ ∃ b off, a = some ⟨b, off, none⟩ ∧ L.length ≤ cap ∧ ∀ k, k < L.length → InsAt w b (off + k * 5) (L.getD k default)
theorem InsAt.keep {w w' : World} {b off : Nat} {i : Ins} (h : InsAt w b off i) (hb : Below w.heap.size w w') : InsAt w' b off i := ⟨bkeep hb h.c0, bkeep hb h.c1, bkeep hb h.c2, bkeep hb h.c3, bkeep hb h.c4⟩
theorem InsV.keep {w w' : World} {a : Option Addr} {cap : Nat} {L : List Ins} (h : InsV w a cap L) (hb : Below w.heap.size w w') : InsV w' a cap L := by
  rcases h with h | ⟨b, off, h1, h2, h3⟩
  · exact .inl h
  · exact .inr ⟨b, off, h1, h2, fun k hk => (h3 k hk).keep hb⟩
/-- a slice's address: in a block of the type t, from B on -/
def FromA (B : Nat) (t : TypeId) (w : World) (a : Option Addr) : Prop := ∀ p, a = some p → B ≤ p.block ∧ typOf w p.block = some t
theorem FromA.nil (B : Nat) (t : TypeId) (w : World) : FromA B t w none := fun _ e => by cases e
theorem FromA.keep {B : Nat} {t : TypeId} {w w' : World} {a : Option Addr} (h : FromA B t w a) (hb : Below w.heap.size w w') : FromA B t w' a := fun p e => ⟨(h p e).1, typ_keep (h p e).2 hb⟩
theorem FromA.mono {B C : Nat} {t : TypeId} {w : World} {a : Option Addr} (h : FromA B t w a) (hc : C ≤ B) : FromA C t w a := fun p e => ⟨Nat.le_trans hc (h p e).1, (h p e).2⟩
theorem FromA.set {B : Nat} {t : TypeId} {w : World} {a : Option Addr} (h : FromA B t w a) (q : Addr) (v : Value) : FromA B t (w.setCell q v) a := fun p e => ⟨(h p e).1, by rw [typ_set]; exact (h p e).2⟩
theorem IntsV.far {w : World} {a : Option Addr} {cap : Nat} {L : List Int} (h : IntsV w a cap L) {q : Addr} (hq : ∀ p, a = some p → p.block ≠ q.block) (v : Value) : IntsV (w.setCell q v) a cap L := by
  rcases h with h | ⟨b, off, h1, h2, h3⟩
  · exact .inl h
  · exact .inr ⟨b, off, h1, h2, fun k hk => cell_far (h3 k hk) (fun e => hq _ h1 (by rw [e])) v⟩
theorem InsV.far {w : World} {a : Option Addr} {cap : Nat} {L : List Ins} (h : InsV w a cap L) {q : Addr} (hq : ∀ p, a = some p → p.block ≠ q.block) (v : Value) : InsV (w.setCell q v) a cap L := by
  rcases h with h | ⟨b, off, h1, h2, h3⟩
  · exact .inl h
  · refine .inr ⟨b, off, h1, h2, fun k hk => ?_⟩
    have hn : ∀ o, q ≠ (⟨b, o, Option.none⟩ : Addr) := fun o e => hq _ h1 (by rw [e])
    obtain ⟨c0, c1, c2, c3, c4⟩ := h3 k hk
    exact ⟨cell_far c0 (hn _) v, cell_far c1 (hn _) v, cell_far c2 (hn _) v, cell_far c3 (hn _) v, cell_far c4 (hn _) v⟩
/-- what Check asks of a program -/
structure ProgOk (ins regs : Int) (code : List Ins) (outs : List Int) : Prop where
  i1 : 1 ≤ ins
  i2 : ins ≤ regs
  r1 : regs ≤ 128
  c1 : code.length ≤ 16384
  o1 : 1 ≤ outs.length
  o2 : outs.length ≤ 128
  os : ∀ k, k < outs.length → 0 ≤ outs.getD k 0 ∧ outs.getD k 0 < regs
  cs : ∀ k, k < code.length → mayB (code.getD k default).op (code.getD k default).to (code.getD k default).a (code.getD k default).b (code.getD k default).c regs = true

end Go.Proofs.YtkejdmdldhlkgaaDoor

/- limb: Mul. -/
namespace Go.Proofs.YtkejdmdldhlkgaaDoor
open Num
open Go.ChangeShapes Go.WideShapes Go.ChangeAt Go.RowKit
set_option linter.unusedVariables false
set_option linter.unusedSimpArgs false
namespace Num
theorem val_set {l : List Nat} {k : Nat} (x : Nat) (hk : k < l.length) : val (l.set k x) + l.getD k 0 * BB ^ k = val l + x * BB ^ k := by
  induction l generalizing k with
  | nil => simp at hk
  | cons y l ih =>
    cases k with
    | zero => simp [val]; omega
    | succ k =>
      have := ih (k := k) (by simpa using hk)
      simp only [List.set_cons_succ, val, List.getD_cons_succ, Nat.pow_succ]
      have e := congrArg (BB * ·) this
      simp only [Nat.mul_add] at e
      have c1 : ∀ z : Nat, z * (BB ^ k * BB) = BB * (z * BB ^ k) := fun z => by rw [← Nat.mul_assoc, Nat.mul_comm]
      rw [c1, c1]
      omega
theorem limbs_set {l : List Nat} {k x : Nat} (h : Limbs l) (hx : x < BB) : Limbs (l.set k x) := by
  intro y hy
  rcases List.mem_or_eq_of_mem_set hy with h1 | rfl
  · exact h y h1
  · exact hx
theorem limb_get {l : List Nat} (h : Limbs l) (k : Nat) : l.getD k 0 < BB := by
  by_cases hk : k < l.length
  · simp only [List.getD_eq_getElem?_getD, List.getElem?_eq_getElem hk, Option.getD_some]; exact h _ (List.getElem_mem hk)
  · simp [hk, BB_pos, Nat.le_of_not_lt hk]
theorem val_take_succ {l : List Nat} {k : Nat} (hk : k < l.length) : val (l.take (k + 1)) = val (l.take k) + l.getD k 0 * BB ^ k := by
  rw [List.take_succ_eq_append_getElem hk, val_append]
  simp [val, hk, Nat.min_eq_left (Nat.le_of_lt hk), Nat.mul_comm]
/-- a step of the inner loop does not leave 64 bits -/
theorem step_lt {x y o c : Nat} (hx : x < BB) (hy : y < BB) (ho : o < BB) (hc : c < BB) : c + (x * y + o) < BB * BB := by
  have h1 : x * y ≤ (BB - 1) * (BB - 1) := Nat.mul_le_mul (by omega) (by omega)
  have h2 : (BB - 1) * (BB - 1) + (BB - 1) + (BB - 1) + 1 = BB * BB := by unfold BB; rfl
  omega
theorem w64 {x : Nat} (h : x < BB * BB) : IntKind.u64.wrap (x : Int) = (x : Int) := by
  have e : BB * BB = 18446744073709551616 := by unfold BB; rfl
  rw [e] at h
  simp only [IntKind.wrap, IntKind.bits, IntKind.signed]
  simp
  omega
theorem BB_sq (x : Nat) (h : x < BB) : x < BB * BB := by
  have e : BB * BB = 18446744073709551616 := by unfold BB; rfl
  unfold BB at *
  omega
end Num

set_option maxRecDepth 100000 in
set_option maxHeartbeats 2000000 in
theorem limbMul_c (a b : Option Addr) (ca cb : Nat) (l m : List Nat) (w : World) (ha : U32 w a ca l) (hb : U32 w b cb m) (h1 : l.length ≤ 1099511627776) (h2 : m.length ≤ 1099511627776) :
    Calls Tryd.prog 34 #[.slice a l.length ca, .slice b m.length cb] w fun e w' => (∃ a' n L, e = .returned (.slice a' n n) ∧ n = L.length ∧ U32 w' a' n L ∧ Nrm L ∧ val L = val l * val m) ∧ Below w.heap.size w w' := by
  have hmk := mk32 (l.length + m.length) (by omega)
  have ec : ((l.length + m.length : Nat) : Int) = (l.length : Int) + (m.length : Int) := by omega
  rw [ec] at hmk
  clear ec
  go_enter Tryd.func34, Tryd.ntmps34
  go_wp2
  clear hmk
  go_loopw [19] (fun x wr => ∃ (i : Nat) (O : List Nat), i ≤ l.length ∧ x = .int .i64 i ∧ Blk wr w.heap.size O ∧ O.length = l.length + m.length ∧ Limbs O ∧ (∀ j, i + m.length ≤ j → O.getD j 0 = 0) ∧ val O = val (l.take i) * val m ∧ Below w.heap.size w wr) (fun x _ => l.length - (intOf x).toNat)
  case atStart => exact ⟨0, List.replicate (l.length + m.length) 0, by omega, rfl, blk_new w _, by simp, (fun y hy => by simp at hy; rw [hy.2]; exact BB_pos), (fun j hj => by simp [List.getElem?_replicate]; split <;> rfl), by simp [val, val_zeros], bal (Below.refl _ _) _⟩
  case round =>
    obtain ⟨i, O, hi, rfl, hO, hOl, hOL, hO0, hV, hB⟩ := hrel
    by_cases hlt : i < l.length
    · rcases ha.2.2.2 with hl0 | ⟨ba, oa, rfl, hca⟩
      · subst hl0; simp at hlt
      have c0 := bkeep hB (hca i hlt)
      have hx := limb_get ha.2.2.1 i
      have HX := Lib.hid (val_take_succ hlt)
      generalize l.getD i 0 = x at *
      have HOl := Lib.hid hOl
      have HV := Lib.hid hV
      clear hOl hV
      go_wp2
      go_loopw [8, 26] (fun cv y wi => ∃ (k c : Nat) (Q : List Nat), k ≤ m.length ∧ y = .int .i64 k ∧ cv = .int .u64 c ∧ c < BB ∧ Blk wi w.heap.size Q ∧ Hid (Q.length = l.length + m.length) ∧ Limbs Q ∧ (∀ j, i + k ≤ j → Q.getD j 0 = O.getD j 0) ∧ Hid (val Q + c * BB ^ (i + k) = val O + x * val (m.take k) * BB ^ i) ∧ Below w.heap.size w wi) (fun _ y _ => m.length - (intOf y).toNat)
      case atStart => exact ⟨0, 0, O, by omega, rfl, rfl, BB_pos, hO, HOl, hOL, (fun _ _ => rfl), Lib.hid (by simp [val]), hB⟩
      case round =>
        rename World => wi
        obtain ⟨k, c, Q, hk, rfl, rfl, hcB, hQ, hQl, hQL, hQO, hQV, hB⟩ := hrel
        by_cases hkm : k < m.length
        · rcases hb.2.2.2 with hm0 | ⟨bb, ob, rfl, hcb⟩
          · subst hm0; simp at hkm
          have d0 := bkeep hB (hcb k hkm)
          have hy := limb_get hb.2.2.1 k
          have HY := Lib.hid (val_take_succ hkm)
          generalize m.getD k 0 = y at *
          have hql := hQl.out
          have q0 := hQ.cell (i + k) (by omega)
          have qf := hQ.frozen (i + k)
          have ho := limb_get hQL (i + k)
          have HSet := Lib.hid (val_set (l := Q) (k := i + k) ((c + (x * y + Q.getD (i + k) 0)) % BB) (by omega))
          generalize hoo : Q.getD (i + k) 0 = o at *
          have HO' := Lib.hid hoo
          clear hoo
          have hs := step_lt hx hy ho hcB
          have HS := Lib.hid hs
          clear hs
          have hql' : (i : Int) + (k : Int) < (l.length : Int) + (m.length : Int) := by omega
          have e1 := w64 (BB_sq x hx)
          have e2 := w64 (BB_sq y hy)
          have e3 := w64 (BB_sq o ho)
          have e4 : IntKind.u64.wrap ((x : Int) * (y : Int)) = (x : Int) * (y : Int) := by rw [← Int.natCast_mul]; exact w64 (by have := HS.out; omega)
          have e5 : IntKind.u64.wrap ((x : Int) * (y : Int) + (o : Int)) = ((x * y + o : Nat) : Int) := by rw [← Int.natCast_mul, ← Int.natCast_add]; exact w64 (by have := HS.out; omega)
          have e6 : IntKind.u64.wrap ((c : Int) + ((x * y + o : Nat) : Int)) = ((c + (x * y + o) : Nat) : Int) := by rw [← Int.natCast_add]; exact w64 (by have := HS.out; omega)
          have HT := Lib.hid (Nat.div_add_mod (c + (x * y + o)) BB)
          generalize hq : x * y + o = q at e5 e6 HT HSet HS
          generalize ht : c + q = t at e6 HT HSet HS
          have HTT := Lib.hid ht
          have HQQ := Lib.hid hq
          clear ht hq
          have qb := hQ.set (i + k) (t % BB)
          have ql := limbs_set hQL (k := i + k) (Nat.mod_lt t BB_pos)
          have eqb : ((t % BB : Nat) : Int) = (t : Int) % 4294967296 := by unfold BB; omega
          rw [eqb] at qb
          have bs := bset hB (p := ⟨w.heap.size, i + k, none⟩) (Nat.le_refl _) (.int .u32 ((t : Int) % 4294967296))
          go_wp2
          refine ⟨⟨k + 1, t / BB, Q.set (i + k) (t % BB), by omega, rfl, by unfold BB; simp, ?_, qb, Lib.hid (by simpa using hql), ql, ?_, Lib.hid ?_, bs⟩, by simp [intOf] <;> omega⟩
          · have := HS.out
            exact Nat.div_lt_of_lt_mul this
          · intro j hj
            rw [← hQO j (by omega)]
            simp [List.getD_eq_getElem?_getD, List.getElem?_set_ne (by omega : i + k ≠ j)]
          · have a1 := HSet.out
            have a2 := hQV.out
            have a3 := HT.out
            have a4 := HTT.out
            have a5 := HQQ.out
            rw [HY.out]
            have p1 : BB ^ (i + (k + 1)) = BB * BB ^ (i + k) := by rw [← Nat.add_assoc, Nat.pow_succ, Nat.mul_comm]
            have p2 : BB ^ (i + k) = BB ^ i * BB ^ k := Nat.pow_add _ _ _
            rw [p1]
            have a6 : t * BB ^ (i + k) = BB * (t / BB) * BB ^ (i + k) + t % BB * BB ^ (i + k) := by rw [← Nat.add_mul, a3]
            have a7 : t * BB ^ (i + k) = c * BB ^ (i + k) + x * y * BB ^ (i + k) + o * BB ^ (i + k) := by rw [← a4, ← a5]; simp only [Nat.add_mul]; omega
            have a8 : x * (val (List.take k m) + y * BB ^ k) * BB ^ i = x * val (List.take k m) * BB ^ i + x * y * BB ^ (i + k) := by
              rw [p2, Nat.mul_add, Nat.add_mul]; congr 1; ac_rfl
            have a9 : t / BB * (BB * BB ^ (i + k)) = BB * (t / BB) * BB ^ (i + k) := by ac_rfl
            rw [a8, a9]
            omega
        · obtain rfl : k = m.length := by omega
          have hql := hQl.out
          have HE := Lib.hid ((hQO (i + m.length) (by omega)).trans (hO0 (i + m.length) (by omega)))
          have qf := hQ.frozen (i + m.length)
          have HSet := Lib.hid (val_set (l := Q) (k := i + m.length) c (by omega))
          have q0 := hQ.cell (i + m.length) (by omega)
          have qb := hQ.set (i + m.length) c
          have ql := limbs_set hQL (k := i + m.length) hcB
          have ec : (c : Int) % 4294967296 = c := by unfold BB at hcB; omega
          have hql' : (i : Int) + (m.length : Int) < (l.length : Int) + (m.length : Int) := by omega
          have bs := bset hB (p := ⟨w.heap.size, i + m.length, none⟩) (Nat.le_refl _) (.int .u32 (c : Int))
          go_wp2
          refine ⟨⟨i + 1, Q.set (i + m.length) c, by omega, rfl, qb, by simpa using hql, ql, ?_, ?_, bs⟩, by simp [intOf] <;> omega⟩
          · intro j hj
            have e1 := hQO j (by omega)
            have e2 := hO0 j (by omega)
            refine Eq.trans ?_ (e1.trans e2)
            simp [List.getD_eq_getElem?_getD, List.getElem?_set_ne (by omega : i + m.length ≠ j)]
          · have a1 := HSet.out
            have a2 := hQV.out
            have a3 := HE.out
            have a4 := HV.out
            rw [HX.out, Nat.add_mul, ← a4]
            rw [a3] at a1
            rw [List.take_length] at a2
            have a5 : x * BB ^ i * val m = x * val m * BB ^ i := by ac_rfl
            rw [a5]
            omega
    · obtain rfl : i = l.length := by omega
      have hu := hO.u32 hOL (by unfold maxLen; omega)
      have tc := trim_c _ _ _ _ hu
      have HT := Lib.hid (val_trim O)
      have HN := trim_nrm O
      have hu2 := hu.trim
      generalize trimL O = T at *
      rw [hOl] at tc
      clear hOl
      go_wp2_with fail
      refine tc.mono ?_
      rintro e w1 ⟨rfl, rfl⟩
      clear tc
      go_wp2
      go_ret
      exact ⟨⟨_, _, T, rfl, rfl, hu2, HN, by rw [HT.out, hV, List.take_length]⟩, hB⟩
end Go.Proofs.YtkejdmdldhlkgaaDoor

/- limb: Cmp. -/
namespace Go.Proofs.YtkejdmdldhlkgaaDoor
open Num
open Go.ChangeShapes Go.WideShapes Go.ChangeAt Go.RowKit
set_option linter.unusedVariables false
set_option linter.unusedSimpArgs false
namespace Num
/-- less, like, more -/
def cmpN (x y : Nat) : Int := if x < y then -1 else if x = y then 0 else 1
theorem cmpN_lt {x y : Nat} (h : x < y) : cmpN x y = -1 := by unfold cmpN; rw [if_pos h]
theorem cmpN_eq {x y : Nat} (h : x = y) : cmpN x y = 0 := by unfold cmpN; rw [if_neg (by omega), if_pos h]
theorem cmpN_gt {x y : Nat} (h : y < x) : cmpN x y = 1 := by unfold cmpN; rw [if_neg (by omega), if_neg (by omega)]
theorem val_split {l : List Nat} {k : Nat} (hk : k < l.length) : val l = val (l.take k) + BB ^ k * (l.getD k 0 + BB * val (l.drop (k + 1))) := by
  have e : l = l.take k ++ (l.getD k 0 :: l.drop (k + 1)) := by
    conv => lhs; rw [← List.take_append_drop k l, List.drop_eq_getElem_cons hk]
    simp [hk]
  conv => lhs; rw [e, val_append]
  simp only [val, List.length_take, Nat.min_eq_left (Nat.le_of_lt hk)]
theorem limbs_take {l : List Nat} (h : Limbs l) (k : Nat) : Limbs (l.take k) := fun x hx => h x (List.mem_of_mem_take hx)
theorem val_lt_of_top {l m : List Nat} {k : Nat} (hk : k < l.length) (hm : k < m.length) (hl : Limbs l) (hd : l.drop (k + 1) = m.drop (k + 1)) (h : l.getD k 0 < m.getD k 0) : val l < val m := by
  rw [val_split hk, val_split hm, hd]
  have h1 := val_lt (limbs_take hl k)
  rw [List.length_take, Nat.min_eq_left (Nat.le_of_lt hk)] at h1
  have h2 : BB ^ k * (l.getD k 0 + BB * val (m.drop (k + 1)) + 1) ≤ BB ^ k * (m.getD k 0 + BB * val (m.drop (k + 1))) := Nat.mul_le_mul_left _ (by omega)
  rw [Nat.mul_add _ _ 1] at h2
  omega
theorem val_lt_of_len {l m : List Nat} (hl : Limbs l) (nm : Nrm m) (h : l.length < m.length) : val l < val m := by
  have h1 := val_lt hl
  have h2 := nrm_val_pos nm (by intro e; subst e; simp at h)
  have h3 : BB ^ l.length ≤ BB ^ (m.length - 1) := Nat.pow_le_pow_right BB_pos (by omega)
  omega
theorem drop_step {l m : List Nat} {k : Nat} (hk : k < l.length) (hm : k < m.length) (hd : l.drop (k + 1) = m.drop (k + 1)) (h : l.getD k 0 = m.getD k 0) : l.drop k = m.drop k := by
  rw [List.drop_eq_getElem_cons hk, List.drop_eq_getElem_cons hm, hd]
  simp [hk, hm] at h
  rw [h]
end Num

set_option maxRecDepth 100000 in
set_option maxHeartbeats 1000000 in
theorem limbCmp_c (a b : Option Addr) (ca cb : Nat) (l m : List Nat) (w : World) (ha : U32 w a ca l) (hb : U32 w b cb m) :
    Calls Tryd.prog 35 #[.slice a l.length ca, .slice b m.length cb] w fun e w' => e = .returned (.int .i64 (cmpN (val l) (val m))) ∧ Below w.heap.size w w' := by
  have tca := trim_c a ca l w ha
  have tcb := trim_c b cb m w hb
  have ha2 := ha.trim
  have hb2 := hb.trim
  have na := trim_nrm l
  have nb := trim_nrm m
  rw [← val_trim l, ← val_trim m]
  generalize trimL l = L at *
  generalize trimL m = M at *
  go_enter Tryd.func35, Tryd.ntmps35
  go_wp2_with fail
  refine tca.mono ?_
  rintro e w1 ⟨rfl, rfl⟩
  clear tca
  go_wp2_with fail
  refine tcb.mono ?_
  rintro e w1 ⟨rfl, rfl⟩
  clear tcb
  obtain ⟨_, hLm, hL, hLc⟩ := ha2
  obtain ⟨_, hMm, hM, hMc⟩ := hb2
  unfold maxLen at hLm hMm
  rcases Nat.lt_trichotomy L.length M.length with hlt | heq | hgt
  · go_wp2
    go_ret
    exact ⟨by rw [cmpN_lt (val_lt_of_len hL nb hlt)]; rfl, Below.refl _ _⟩
  · clear na nb
    have hc1 : ¬ (L.length < M.length) := by omega
    have hc2 : ¬ (M.length < L.length) := by omega
    have HQ := Lib.hid heq
    clear heq
    generalize hM' : M.length = n at *
    have HM := Lib.hid hM'
    clear hM'
    go_wp2
    go_loopw [5] (fun x wr => ∃ k : Nat, k ≤ n ∧ x = .int .i64 ((k : Int) - 1) ∧ L.drop k = M.drop k ∧ Below w.heap.size w wr) (fun x _ => (intOf x + 1).toNat)
    case atStart =>
      refine ⟨n, Nat.le_refl _, ?_, ?_, Below.refl _ _⟩
      · rw [HQ.out]
      · rw [List.drop_eq_nil_of_le (by have := HQ.out; omega), List.drop_eq_nil_of_le (by have := HM.out; omega)]
    case round =>
      obtain ⟨k, hk, rfl, hd, hB⟩ := hrel
      have HD := Lib.hid hd
      clear hd
      cases k with
      | zero =>
        go_wp2
        go_ret
        have e : L = M := by simpa using HD.out
        exact ⟨by rw [cmpN_eq (by rw [e])]; rfl, hB⟩
      | succ j =>
        have hjL : j < L.length := by have := HQ.out; omega
        have hjM : j < M.length := by have := HM.out; omega
        rcases hLc with rfl | ⟨ba, oa, rfl, hca⟩
        · simp at hjL
        rcases hMc with rfl | ⟨bb, ob, rfl, hcb⟩
        · simp at hjM
        have cj := bkeep hB (hca j hjL)
        have dj := bkeep hB (hcb j hjM)
        have HLt := Lib.hid (fun h => val_lt_of_top hjL hjM hL HD.out h)
        have HGt := Lib.hid (fun h => val_lt_of_top hjM hjL hM HD.out.symm h)
        have HEq := Lib.hid (fun h => drop_step hjL hjM HD.out h)
        have hjn : (j : Int) < (L.length : Int) := by omega
        generalize L.getD j 0 = x at *
        generalize M.getD j 0 = y at *
        rcases Nat.lt_trichotomy x y with h1 | h1 | h1
        · have h1' : (x : Int) < (y : Int) := by omega
          go_wp2
          go_quiet (fail)
          go_wp2
          go_ret
          exact ⟨by rw [cmpN_lt (HLt.out h1)]; rfl, by repeat (first | exact hB | refine below_drewN ?_ _)⟩
        · subst h1
          go_wp2
          go_quiet (fail)
          go_wp2
          go_quiet (fail)
          go_wp2
          exact ⟨⟨j, by omega, rfl, HEq.out (by trivial), by repeat (first | exact hB | refine below_drewN ?_ _)⟩, by simp [intOf] <;> omega⟩
        · have h1' : ¬ ((x : Int) < (y : Int)) := by omega
          have h1'' : ((y : Int) < (x : Int)) := by omega
          go_wp2
          go_quiet (fail)
          go_wp2
          go_quiet (fail)
          go_wp2
          go_ret
          exact ⟨by rw [cmpN_gt (HGt.out h1)]; rfl, by repeat (first | exact hB | refine below_drewN ?_ _)⟩
  · have hc1 : ¬ (L.length < M.length) := by omega
    go_wp2
    go_ret
    exact ⟨by rw [cmpN_gt (val_lt_of_len hM na hgt)]; rfl, Below.refl _ _⟩
end Go.Proofs.YtkejdmdldhlkgaaDoor

/- Plain laws: how many binary digits. -/
namespace Go.Proofs.YtkejdmdldhlkgaaDoor
open Num
set_option linter.unusedVariables false
namespace Num
/-- how many binary digits -/
def bitN (v : Nat) : Nat := if v = 0 then 0 else v.log2 + 1
theorem bitN_half {x : Nat} (h : x ≠ 0) : bitN x = 1 + bitN (x / 2) := by
  unfold bitN
  rw [if_neg h, Nat.log2_def]
  by_cases h2 : 2 ≤ x
  · rw [if_pos h2, if_neg (by omega)]; omega
  · rw [if_neg h2, if_pos (by omega)]
theorem bitLen_eq (x : Nat) (h : x < 2 ^ 64) : Lib.bitLen x = bitN x := by
  induction x using Nat.strongRecOn with
  | ind x ih =>
    by_cases h0 : x = 0
    · subst h0; rfl
    · rw [Lib.bitLen_half x h0 h, bitN_half h0, ih (x / 2) (by omega) (by omega)]
theorem BB_pow (n : Nat) : BB ^ n = 2 ^ (32 * n) := by
  rw [Nat.pow_mul]; rfl
theorem val_nil_iff {l : List Nat} (hn : Nrm l) : val l = 0 ↔ l = [] := by
  constructor
  · intro h
    by_cases h0 : l = []
    · exact h0
    · have := nrm_val_pos hn h0
      have : 0 < BB ^ (l.length - 1) := Nat.pow_pos BB_pos
      omega
  · rintro rfl; rfl
end Num
end Go.Proofs.YtkejdmdldhlkgaaDoor

/- integer: numbers as values; made, Make, Of. -/
namespace Go.Proofs.YtkejdmdldhlkgaaDoor
open Num
open Go.ChangeShapes Go.WideShapes Go.ChangeAt Go.RowKit
set_option linter.unusedVariables false
set_option linter.unusedSimpArgs false
namespace Num
/-- with a sign -/
def sg (neg : Bool) (n : Nat) : Int := if neg then -(n : Int) else n
theorem sg_zero (neg : Bool) : sg neg 0 = 0 := by cases neg <;> rfl
theorem sg_abs (neg : Bool) (n : Nat) : (sg neg n).natAbs = n := by cases neg <;> simp [sg]
theorem sg_mul (a b : Bool) (m n : Nat) : sg (a != b) (m * n) = sg a m * sg b n := by
  cases a <;> cases b <;> simp [sg, Int.mul_neg, Int.neg_mul]
/-- so many bits are enough -/
def Bd (k : Nat) (z : Int) : Prop := z.natAbs < 2 ^ k
theorem Bd.mul {k m : Nat} {x y : Int} (hx : Bd k x) (hy : Bd m y) : Bd (k + m) (x * y) := by
  unfold Bd at *
  rw [Int.natAbs_mul, Nat.pow_add]
  exact Nat.mul_lt_mul'' hx hy
theorem Bd.mono {k m : Nat} {x : Int} (hx : Bd k x) (h : k ≤ m) : Bd m x := Nat.lt_of_lt_of_le hx (Nat.pow_le_pow_right (by omega) h)
theorem bd_len {l : List Nat} {k : Nat} (hn : Nrm l) (h : val l < 2 ^ k) (hk : k ≤ 17179869184) : l.length ≤ 536870913 := by
  by_cases h0 : l = []
  · subst h0; simp
  · have h1 := nrm_val_pos hn h0
    rw [BB_pow] at h1
    have h2 : 32 * (l.length - 1) < k := (Nat.pow_lt_pow_iff_right (a := 2) (by omega)).1 (Nat.lt_of_le_of_lt h1 h)
    omega
end Num
/-- the value of a number, by its parts -/
def iv (neg : Bool) (a : Option Addr) (n cap : Nat) : Value := .agg #[.bool neg, .slice a n cap]
/-- a value is the number z -/
def IsInt (w : World) (v : Value) (z : Int) : Prop := ∃ neg a cap l, v = iv neg a (List.length l) cap ∧ U32 w a cap l ∧ Nrm l ∧ (neg = true → l ≠ []) ∧ z = sg neg (val l)
theorem IsInt.keep {w w' : World} {v : Value} {z : Int} (h : IsInt w v z) (hb : Below w.heap.size w w') : IsInt w' v z := by
  obtain ⟨neg, a, cap, l, h1, h2, h3, h4, h5⟩ := h
  exact ⟨neg, a, cap, l, h1, h2.keep hb, h3, h4, h5⟩
theorem addr_ne {b o b' o' : Nat} {s s' : Option Nat} (h : b ≠ b') : (⟨b, o, s⟩ : Addr) ≠ ⟨b', o', s'⟩ := fun e => h (congrArg Addr.block e)
/-- storing into a cell that holds no limb -/
theorem U32.put {w : World} {a : Option Addr} {cap : Nat} {l : List Nat} {p : Addr} {v : Value} (h : U32 w a cap l) (hp : w.cell? p = some v) (hv : ∀ n, v ≠ .int .u32 n) (u : Value) : U32 (w.setCell p u) a cap l := by
  refine ⟨h.1, h.2.1, h.2.2.1, ?_⟩
  rcases h.2.2.2 with h0 | ⟨b, off, h1, h2⟩
  · exact .inl h0
  · refine .inr ⟨b, off, h1, fun k hk => cell_far (h2 k hk) ?_ u, by rw [typ_set]; exact h2.ty⟩
    intro e
    rw [e, h2 k hk] at hp
    exact hv _ (Option.some.inj hp).symm
theorem IsInt.put {w : World} {x : Value} {z : Int} {p : Addr} {v : Value} (h : IsInt w x z) (hp : w.cell? p = some v) (hv : ∀ n, v ≠ .int .u32 n) (u : Value) : IsInt (w.setCell p u) x z := by
  obtain ⟨neg, a, cap, l, h1, h2, h3, h4, h5⟩ := h
  exact ⟨neg, a, cap, l, h1, h2.put hp hv u, h3, h4, h5⟩
theorem IsInt.put2 {w : World} {x : Value} {z : Int} {g : Nat} {b : Bool} {a : Option Addr} {n c : Nat} (h : IsInt w x z) (r0 : w.cell? ⟨g, 0, none⟩ = some (.bool b)) (r1 : w.cell? ⟨g, 1, none⟩ = some (.slice a n c)) (u v : Value) : IsInt ((w.setCell ⟨g, 0, none⟩ u).setCell ⟨g, 1, none⟩ v) x z :=
  (h.put r0 (fun _ e => by cases e) u).put (cell_far r1 (by simp) u) (fun _ e => by cases e) v

set_option maxRecDepth 100000 in
set_option maxHeartbeats 1000000 in
theorem made_c (neg : Bool) (a : Option Addr) (ca : Nat) (l : List Nat) (w : World) (ha : U32 w a ca l) (hn : Nrm l) :
    Calls Tryd.prog 33 #[.bool neg, .slice a l.length ca] w fun e w' => (∃ v, e = .returned v ∧ IsInt w' v (sg neg (val l))) ∧ Below w.heap.size w w' := by
  have key : Calls Tryd.prog 33 #[.bool neg, .slice a l.length ca] w fun e w' => e = .returned (iv (neg && decide (0 < l.length)) a l.length ca) ∧ Below w.heap.size w w' := by
    clear ha hn
    generalize hk : l.length = k
    clear hk
    cases neg with
    | false =>
      go_enter Tryd.func33, Tryd.ntmps33
      go_wp2
      refine bodyPost_ret (v := iv false a k ca) (by simp [iv, results, Tryd.results33, go_sem, *]) rfl ⟨rfl, ?_⟩
      repeat (first | exact Below.refl _ _ | exact Below.refl _ _ | refine Below.drew ?_ | refine below_drewN ?_ _ | refine bset ?_ (by simp <;> omega) _ | refine bal ?_ _)
    | true =>
      by_cases hk : 0 < k
      · have e : (0 : Int) < (k : Int) := by omega
        go_enter Tryd.func33, Tryd.ntmps33
        go_wp2
        refine bodyPost_ret (v := iv true a k ca) (by simp [iv, results, Tryd.results33, go_sem, *]) rfl ⟨by simp [hk], ?_⟩
        repeat (first | exact Below.refl _ _ | exact Below.refl _ _ | refine Below.drew ?_ | refine below_drewN ?_ _ | refine bset ?_ (by simp <;> omega) _ | refine bal ?_ _)
      · obtain rfl : k = 0 := by omega
        go_enter Tryd.func33, Tryd.ntmps33
        go_wp2
        refine bodyPost_ret (v := iv false a 0 ca) (by simp [iv, results, Tryd.results33, go_sem, *]) rfl ⟨by simp, ?_⟩
        repeat (first | exact Below.refl _ _ | exact Below.refl _ _ | refine Below.drew ?_ | refine below_drewN ?_ _ | refine bset ?_ (by simp <;> omega) _ | refine bal ?_ _)
  refine key.mono ?_
  rintro e w1 ⟨rfl, hB⟩
  refine ⟨⟨_, rfl, _, a, ca, l, rfl, ha.keep hB, hn, ?_, ?_⟩, hB⟩
  · intro h; simp at h; intro e; subst e; simp at h
  · by_cases h0 : l = []
    · subst h0; simp [sg, val]
    · have : 0 < l.length := List.length_pos_iff.2 h0
      simp [this, sg, h0]
end Go.Proofs.YtkejdmdldhlkgaaDoor

/- math/bits.Len32 (by the shelf's contract), limb: Bits. -/
namespace Go.Proofs.YtkejdmdldhlkgaaDoor
open Num
open Go.ChangeShapes Go.WideShapes Go.ChangeAt Go.RowKit
set_option linter.unusedVariables false
set_option linter.unusedSimpArgs false

end Go.Proofs.YtkejdmdldhlkgaaDoor

