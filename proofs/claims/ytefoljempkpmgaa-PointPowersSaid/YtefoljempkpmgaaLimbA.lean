/- limb: trim, Norm. -/
import Derived.Test.YtefoljempkpmgaaLib
import Derived.Test.YtefoljempkpmgaaNum
import Derived.Laws.CopyOwn
namespace Go.Proofs.Ytefoljempkpmgaa
open Num
open Go.ChangeShapes Go.WideShapes Go.ChangeAt Go.RowKit
set_option linter.unusedVariables false
set_option linter.unusedSimpArgs false

/-- the element type of a block -/
def typOf (w : World) (b : Nat) : Option TypeId := match w.heap[b]? with
  | some (.cells _ t _) => some t
  | _ => none
theorem typ_of_block {w w' : World} {b : Nat} (h : w'.heap[b]? = w.heap[b]?) : typOf w' b = typOf w b := by unfold typOf; rw [h]
theorem typ_lt {w : World} {b : Nat} {t : TypeId} (h : typOf w b = some t) : b < w.heap.size := by
  apply Nat.lt_of_not_le; intro hl
  have : w.heap[b]? = none := by simp [hl]
  simp [typOf, this] at h
theorem typ_keep {w w' : World} {b : Nat} {t : TypeId} (h : typOf w b = some t) (hb : Below w.heap.size w w') : typOf w' b = some t := by
  rw [typ_of_block (w := w) (hb.block b (typ_lt h))]; exact h
theorem typ_set (w : World) (p : Addr) (v : Value) (b : Nat) : typOf (w.setCell p v) b = typOf w b := by
  by_cases e : b = p.block
  · subst e
    unfold typOf World.setCell
    simp only [Array.getElem?_modify, if_true]
    cases w.heap[p.block]? with
    | none => rfl
    | some o => cases o <;> rfl
  · exact typ_of_block (Below.heap_setCell w p v b e)
/-- the cells of a list of limbs, in a block of limbs -/
structure At32 (w : World) (b off : Nat) (l : List Nat) : Prop where
  cell : ∀ k, k < l.length → w.cell? ⟨b, off + k, none⟩ = some (.int .u32 (l.getD k 0 : Nat))
  ty : typOf w b = some 81
instance {w : World} {b off : Nat} {l : List Nat} : CoeFun (At32 w b off l) (fun _ => ∀ k, k < l.length → w.cell? ⟨b, off + k, none⟩ = some (.int .u32 (l.getD k 0 : Nat))) := ⟨At32.cell⟩
/-- the cells of a list of limbs -/
def C32 (w : World) (a : Option Addr) (l : List Nat) : Prop := l = [] ∨ ∃ b off, a = some ⟨b, off, none⟩ ∧ At32 w b off l
/-- a slice holds a list of limbs -/
def U32 (w : World) (a : Option Addr) (cap : Nat) (l : List Nat) : Prop := l.length ≤ cap ∧ cap ≤ maxLen ∧ Limbs l ∧ C32 w a l
theorem C32.keep {w w' : World} {a : Option Addr} {l : List Nat} (h : C32 w a l) (hb : Below w.heap.size w w') : C32 w' a l := by
  rcases h with h | ⟨b, off, h1, h2⟩
  · exact .inl h
  · exact .inr ⟨b, off, h1, fun k hk => bkeep hb (h2 k hk), typ_keep h2.ty hb⟩
theorem U32.keep {w w' : World} {a : Option Addr} {cap : Nat} {l : List Nat} (h : U32 w a cap l) (hb : Below w.heap.size w w') : U32 w' a cap l := ⟨h.1, h.2.1, h.2.2.1, h.2.2.2.keep hb⟩
theorem C32.take {w : World} {a : Option Addr} {l m : List Nat} (h : C32 w a l) (hp : m <+: l) : C32 w a m := by
  rcases h with rfl | ⟨b, off, h1, h2⟩
  · exact .inl (List.prefix_nil.1 hp)
  · refine .inr ⟨b, off, h1, fun k hk => ?_, h2.ty⟩
    obtain ⟨t, rfl⟩ := hp
    rw [h2 k (by simp; omega)]
    simp [hk, List.getElem?_append]
namespace Num
theorem trim_take_zero {l : List Nat} {k : Nat} (hk : k < l.length) (h0 : l.getD k 0 = 0) : trimL (l.take (k + 1)) = trimL (l.take k) := by
  rw [List.take_succ_eq_append_getElem hk]
  have : l[k] = 0 := by simpa [hk] using h0
  rw [this, trimL_append_zero]
theorem trim_take_pos {l : List Nat} {k : Nat} (hk : k < l.length) (h0 : l.getD k 0 ≠ 0) : trimL (l.take (k + 1)) = l.take (k + 1) := by
  rw [List.take_succ_eq_append_getElem hk]
  have : l[k] ≠ 0 := by simpa [hk] using h0
  rw [trimL_append_pos _ _ this]
end Num

set_option maxHeartbeats 1000000 in
theorem trim_c (a : Option Addr) (cap : Nat) (l : List Nat) (w : World) (h : U32 w a cap l) :
    Calls Try.prog 57 #[.slice a l.length cap] w fun e w' => e = .returned (.slice a (trimL l).length (trimL l).length) ∧ w = w' := by
  obtain ⟨hc, hm, hl, hcs⟩ := h
  unfold maxLen at hm
  go_enter Try.func57, Try.ntmps57
  go_wp2
  go_loop [3] (fun x => ∃ k : Nat, k ≤ l.length ∧ x = .int .i64 k ∧ trimL (l.take k) = trimL l) (fun x => (intOf x).toNat)
  case atStart => exact ⟨l.length, Nat.le_refl _, rfl, by rw [List.take_length]⟩
  case round =>
    obtain ⟨k, hk, rfl, ht⟩ := hrel
    have HT := Lib.hid ht
    clear ht
    cases k with
    | zero =>
      have hz : (trimL l).length = 0 := by have := HT.out; rw [List.take_zero] at this; rw [← this]; rfl
      have HZ := Lib.hid hz
      clear hz
      go_wp2
      go_ret
      exact ⟨by rw [HZ.out]; rfl, rfl⟩
    | succ j =>
      rcases hcs with rfl | ⟨b, off, rfl, hcell⟩
      · simp at hk
      have hj := hcell j (by omega)
      by_cases h0 : l.getD j 0 = 0
      · have HN := Lib.hid (trim_take_zero (by omega : j < l.length) h0)
        rw [h0] at hj
        go_wp2
        exact ⟨⟨j, by omega, rfl, HN.out.symm.trans HT.out⟩, by simp [intOf] <;> omega⟩
      · have HN := Lib.hid (trim_take_pos (by omega : j < l.length) h0)
        generalize hx : l.getD j 0 = x at *
        have hx0 : ((x : Int) == 0) = false := by simp; omega
        have HL := Lib.hid (show (trimL l).length = j + 1 by rw [← HT.out, HN.out]; simp; omega)
        go_wp2
        go_ret
        exact ⟨by rw [HL.out]; rfl, rfl⟩

theorem U32.trim {w : World} {a : Option Addr} {cap : Nat} {l : List Nat} (h : U32 w a cap l) : U32 w a (trimL l).length (trimL l) :=
  ⟨Nat.le_refl _, Nat.le_trans (trim_len l) (Nat.le_trans h.1 h.2.1), trim_limbs h.2.2.1, h.2.2.2.take (trim_prefix l)⟩
theorem info32 : (Try.prog.info? 81).map (fun i => (i.zero, i.size, i.bytes)) = some (some (.int .u32 0), 1, 4) := by kernel_rfl
/-- limbs as cells -/
def cel (l : List Nat) : List Value := l.map fun x : Nat => .int .u32 (x : Int)
theorem cel_len (l : List Nat) : (cel l).length = l.length := by simp [cel]
theorem cel_get (l : List Nat) (k : Nat) (h : k < l.length) : (cel l)[k]? = some (.int .u32 (l.getD k 0 : Nat)) := by simp [cel, h]
theorem cel_one (l : List Nat) : ∀ v ∈ cel l, v.oneCell' = true := by
  intro v hv; simp only [cel, List.mem_map] at hv; obtain ⟨x, _, rfl⟩ := hv; rfl
/-- a block of the call's own that holds limbs -/
def Blk (w : World) (g : Nat) (l : List Nat) : Prop := w.heap[g]? = some (.cells (cel l).toArray 81 (0, 0))
theorem Blk.cell {w : World} {g : Nat} {l : List Nat} (h : Blk w g l) (k : Nat) (hk : k < l.length) : w.cell? ⟨g, k, none⟩ = some (.int .u32 (l.getD k 0 : Nat)) := by
  have := cel_get l k hk
  unfold World.cell?
  rw [show w.heap[(⟨g, k, none⟩ : Addr).block]? = _ from h]
  simpa using this
theorem Blk.frozen {w : World} {g : Nat} {l : List Nat} (h : Blk w g l) (k : Nat) : w.frozen? ⟨g, k, none⟩ = false := by
  unfold World.frozen?
  rw [show w.heap[(⟨g, k, none⟩ : Addr).block]? = _ from h]
  simp
theorem Blk.lt {w : World} {g : Nat} {l : List Nat} (h : Blk w g l) : g < w.heap.size := (Array.getElem?_eq_some_iff.1 h).1
theorem Blk.keep {w w' : World} {g : Nat} {l : List Nat} (h : Blk w g l) (hb : Below w.heap.size w w') : Blk w' g l := (hb.block g h.lt).trans h
theorem Blk.alloc {w : World} {g : Nat} {l : List Nat} (h : Blk w g l) (o : Obj) : Blk (w.alloc o) g l := (Below.heap_alloc w o g h.lt).trans h
theorem Blk.set {w : World} {g : Nat} {l : List Nat} (h : Blk w g l) (k x : Nat) : Blk (w.setCell ⟨g, k, none⟩ (.int .u32 (x : Int))) g (l.set k x) := by
  unfold Blk World.setCell
  simp only [Array.getElem?_modify, if_true]
  rw [show w.heap[g]? = _ from h]
  simp [cel, List.map_set]
theorem Blk.far {w : World} {g : Nat} {l : List Nat} (h : Blk w g l) (p : Addr) (v : Value) (hp : g ≠ p.block) : Blk (w.setCell p v) g l := (Below.heap_setCell w p v g hp).trans h
theorem Blk.u32 {w : World} {g : Nat} {l : List Nat} (h : Blk w g l) (hl : Limbs l) (hm : l.length ≤ maxLen) : U32 w (some ⟨g, 0, none⟩) l.length l :=
  ⟨Nat.le_refl _, hm, hl, .inr ⟨g, 0, rfl, fun k hk => by simpa using h.cell k hk, by unfold typOf; rw [show w.heap[g]? = _ from h]⟩⟩
/-- a new slice of limbs, all 0 -/
theorem mk32 (n : Nat) (hn : n ≤ 35184372088832) (w : World) : (Instr.makeSlice 55 (.int .i64 (n : Int)) (.int .i64 (n : Int))).run Try.prog w = .ok (.slice (some ⟨w.heap.size, 0, none⟩) n n) (w.alloc (.cells (cel (List.replicate n 0)).toArray 81)) := by
  obtain ⟨i0, hi, hz0, hz1, hz2⟩ := info_parts info32
  rw [run_make w _ _ i0 _ Try.underlying55 hi hz0 .i64 .i64 n n (by omega) (by omega) (by rw [hz2]; omega) (by omega)]
  congr 3
  · rw [hz1]
    apply Array.ext
    · simp [size_madeCells, cel]
    · intro i h1 h2
      simp [madeCells, cel, Value.cells, Nat.mod_one]
theorem blk_new (w : World) (l : List Nat) : Blk (w.alloc (.cells (cel l).toArray 81)) w.heap.size l := by
  unfold Blk; exact (MapKept.heap_alloc w _).1
theorem blk_at {w : World} {g : Nat} {l : List Nat} (hg : g = w.heap.size) : Blk (w.alloc (.cells (cel l).toArray 81)) g l := by subst hg; exact blk_new w l

set_option maxHeartbeats 1000000 in
theorem limbNorm_c (a : Option Addr) (cap : Nat) (l : List Nat) (w : World) (h : U32 w a cap l) (hlen : l.length ≤ 1099511627776) :
    Calls Try.prog 55 #[.slice a l.length cap] w fun e w' => (∃ a', e = .returned (.slice a' (trimL l).length (trimL l).length) ∧ U32 w' a' (trimL l).length (trimL l)) ∧ Below w.heap.size w w' := by
  have tc := fun w h => trim_c a cap l w h
  have h1 := h.trim
  have hlm := Nat.le_trans (trim_len l) hlen
  generalize trimL l = m at *
  go_enter Try.func55, Try.ntmps55
  go_wp2_with fail
  refine (tc _ h).mono ?_
  rintro e w1 ⟨rfl, rfl⟩
  clear tc
  have hmk := mk32 m.length (by omega)
  go_wp2_with (refine wpList_copy_splice (o := ⟨some 11, _, _, _, _, _⟩) rfl _ _ 55 55 rfl 81 Try.underlying55 (by kernel_rfl) (some ⟨w.heap.size, 0, none⟩) a m.length m.length m.length m.length rfl rfl w.heap.size 0 (cel (List.replicate m.length 0)) 81 (blk_new w _) (cel m) ?_ ?_ ?_ (cel_one m) w.heap.size w (bal (Below.refl _ _) _) (Nat.le_refl _) ?_)
  · rw [cel_len]; exact (Nat.min_self _).symm
  · intro h0
    rw [cel_len] at h0
    rcases h1.2.2.2 with hm0 | ⟨b, off, ha, hcell⟩
    · subst hm0; simp at h0
    · refine ⟨_, ha, fun j v hj => cell_alloc ?_ _⟩
      have hjl : j < m.length := by have := (List.getElem?_eq_some_iff.1 hj).1; rwa [cel_len] at this
      rw [cel_get m j hjl] at hj
      cases hj
      have := hcell j hjl
      unfold Addr.add
      split
      · subst_vars; simpa using this
      · exact this
  · simp [cel_len]
  · intro w' hw' hb'
    have hsp : splice (cel (List.replicate m.length 0)) 0 (cel m) = cel m := by simp [splice, cel]
    rw [hsp] at hw'
    have HW : Hid (Blk w' w.heap.size m) := hw'
    go_wp2
    go_ret
    exact ⟨⟨_, rfl, (HW.out : Blk w' w.heap.size m).u32 h1.2.2.1 h1.2.1⟩, hb'⟩
end Go.Proofs.Ytefoljempkpmgaa
