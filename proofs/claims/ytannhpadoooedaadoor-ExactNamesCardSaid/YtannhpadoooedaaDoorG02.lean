/- Texts of this seat, laid together: Lib, LimbA. Each opens with its own remark, which says what it proves, and under which conditions. -/
import Derived.Test.YtannhpadoooedaaDoorRows
import Derived.WalkKit
import Derived.ProofKit
import Derived.OpenShut
import Derived.Deep.QuietTactic
import Derived.BigQuiet
import Derived.Outline
import Derived.Lib.Hide
import Derived.WalkSmall
import Derived.WalkSpells
import Derived.WalkLawsBesides
import Derived.Deep.RegionWith
import Derived.Deep.RegionHeld3
import Derived.Test.YtannhpadoooedaaDoorG01
import Derived.Laws.CopyOwn
/- Small lemmas that every walk of this seat uses: worlds that only grow, cells that are kept, endings. -/
namespace Go.Proofs.YtannhpadoooedaaDoor
open Go.ChangeShapes Go.WideShapes Go.ChangeAt Go.RowKit

theorem ret_bool {a b : Bool} (h : a = b) : Ending.returned (.bool a) = Ending.returned (.bool b) := by rw [h]
theorem ret_int {k : IntKind} {a b : Int} (h : a = b) : Ending.returned (.int k a) = Ending.returned (.int k b) := by rw [h]
theorem size_drewN (w : World) (n : Nat) : (w.drewN n).heap.size = w.heap.size := rfl
theorem bthen {a W w1 : World} (h : Below a.heap.size a W) (k : Below W.heap.size W w1) : Below a.heap.size a w1 := h.trans (k.mono h.size)
theorem bal {a W : World} (h : Below a.heap.size a W) (o : Obj) : Below a.heap.size a (W.alloc o) := h.alloc h.size o
theorem bset {a W : World} (h : Below a.heap.size a W) {p : Addr} (hp : a.heap.size ≤ p.block) (u : Value) : Below a.heap.size a (W.setCell p u) := h.setCell hp u
theorem bcell {W w1 : World} (hb : Below W.heap.size W w1) : (∀ b o, b < W.heap.size → w1.cell? ⟨b, o, none⟩ = W.cell? ⟨b, o, none⟩) ∧ (∀ b o, b < W.heap.size → w1.frozen? ⟨b, o, none⟩ = W.frozen? ⟨b, o, none⟩) :=
  ⟨fun b o h => hb.cell (p := ⟨b, o, none⟩) h, fun b o h => hb.frozen (p := ⟨b, o, none⟩) h⟩
theorem bfar {W w1 : World} (hb : Below W.heap.size W w1) {n : Nat} (hn : n < W.heap.size) : n < w1.heap.size := Nat.lt_of_lt_of_le hn hb.size
theorem cell_lt {W : World} {b o : Nat} {s : Option Nat} {v : Value} (h : W.cell? ⟨b, o, s⟩ = some v) : b < W.heap.size := by
  apply Nat.lt_of_not_le; intro hl
  have : W.heap[b]? = none := by simp [hl]
  simp [World.cell?, this] at h
theorem bkeep {W w1 : World} (hb : Below W.heap.size W w1) {p : Addr} {v : Value} (h : W.cell? p = some v) : w1.cell? p = some v := by
  have hp : p.block < W.heap.size := by
    apply Nat.lt_of_not_le; intro hl
    have : W.heap[p.block]? = none := by simp [hl]
    simp [World.cell?, this] at h
  rw [hb.cell hp]; exact h
theorem bkeepf {W w1 : World} (hb : Below W.heap.size W w1) {p : Addr} {v : Value} (h : W.cell? p = some v) (hf : W.frozen? p = false) : w1.frozen? p = false := by
  have hp : p.block < W.heap.size := by
    apply Nat.lt_of_not_le; intro hl
    have : W.heap[p.block]? = none := by simp [hl]
    simp [World.cell?, this] at h
  rw [hb.frozen hp]; exact hf
/-! a cell, behind a step of the world -/
theorem cell_alloc {w : World} {a : Addr} {v : Value} (h : w.cell? a = some v) (o : Obj) : (w.alloc o).cell? a = some v := by
  obtain ⟨b, o', s⟩ := a
  rw [World.cell?_alloc_lt (h := cell_lt h)]; exact h
theorem cell_drew {w : World} {a : Addr} {v : Value} (h : w.cell? a = some v) : w.drew.cell? a = some v := h
theorem cell_drewN {w : World} {a : Addr} {v : Value} (h : w.cell? a = some v) (n : Nat) : (w.drewN n).cell? a = some v := h
theorem cell_new {w : World} {c : Array Value} {t : TypeId} {b i : Nat} {v : Value} (hb : b = w.heap.size) (h : c[i]? = some v) : (w.alloc (.cells c t)).cell? ⟨b, i, none⟩ = some v := by
  rw [World.cell?_alloc_at (hn := hb)]; exact h
theorem cell_far {w : World} {a p : Addr} {v : Value} (h : w.cell? a = some v) (hne : p ≠ a) (u : Value) : (w.setCell p u).cell? a = some v := by
  rw [World.cell?_setCell_other (h := hne)]; exact h
theorem cell_here {w : World} {a : Addr} {v : Value} (h : w.cell? a = some v) (u : Value) : (w.setCell a u).cell? a = some u := by rw [World.cell?_setCell_same (h := h)]
theorem frz_alloc {w : World} {a : Addr} {v : Value} (h : w.cell? a = some v) (hf : w.frozen? a = false) (o : Obj) : (w.alloc o).frozen? a = false := by
  obtain ⟨b, o', s⟩ := a
  rw [World.frozen?_alloc_old (h := Nat.ne_of_lt (cell_lt h))]; exact hf

/-- a block that has just been made, cell by cell -/
theorem cells_new (w : World) (C : List Value) (t : TypeId) : ∀ j u, C[j]? = some u → (w.alloc (.cells C.toArray t)).cell? ((⟨w.heap.size, 0, none⟩ : Addr).add j) = some u := by
  intro j u h
  have e : (⟨w.heap.size, 0, none⟩ : Addr).add j = ⟨w.heap.size, j, none⟩ := by
    unfold Addr.add; split
    · subst_vars; rfl
    · simp
  rw [e]
  exact cell_new rfl (by simpa using h)
/-- a row of the call's own, behind an append -/
theorem own_below {B : Nat} {e : TypeId} {size : Nat} {w0 wr w' : World} {v : Value} {n : Nat} {xs : List Value} (h : wr.ownsRow B e size v n xs) (hb : Below wr.heap.size wr w') : w'.ownsRow B e size v n xs := by
  obtain ⟨h1, h2⟩ := h
  refine ⟨h1, ?_⟩
  rcases h2 with h2 | ⟨g, cap, cur, hv, hg, hh, r⟩
  · exact .inl h2
  · exact .inr ⟨g, cap, cur, hv, hg, by rw [hb.block g (Array.getElem?_eq_some_iff.1 hh).1]; exact hh, r⟩
theorem below_append {w0 wr W w1 : World} {e : TypeId} {size : Nat} {v : Value} {n : Nat} {xs : List Value} (hB : Below w0.heap.size w0 W) (hown : W.ownsRow w0.heap.size e size v n xs) (hg : W.grownBy w1 v.ownBlock) : Below w0.heap.size w0 w1 :=
  hB.grown hg hB.size (fun k hk => (hown.lt k hk).1)

/-! ### A region that draws its order, whose calls only make memory and answer what their arguments say: one walk in the text's order -/
/-- a world that has grown out of w -/
structure Grows (w : World) where
  world : World
  below : Below w.heap.size w world
instance (w : World) : Nonempty (Grows w) := ⟨⟨w, Below.refl _ _⟩⟩
def grow (w : World) (s : Grows w) : World := s.world
theorem wp_name {P : Program} {c : Code} {Q : Exit → Act → World → Prop} {a : Act} {w : World} (h : ∀ W, W = w → c.wp P Q a W) : c.wp P Q a w := h w rfl
theorem wp_region_grow {P : Program} {id : Nat} {Q : Exit → Act → World → Prop} {a : Act} {w : World} {l : List Oper} (hm : P.follows .mixedOrders = true) (hB : Region.lexB .any l.toArray = true)
    (h : wpQuiet P l.toArray (fun w' => ∃ s, w' = grow w s) (fun a' => ∀ w', Below w.heap.size w w' → Q .normal a' w') l a) : (Code.region id l.toArray true).wp P Q a w := by
  have e : (fun a' => ∀ w', Below w.heap.size w w' → Q .normal a' w') = (fun a' => ∀ w', (∃ s, w' = grow w s) → Q .normal a' w') := by
    funext a'
    exact propext ⟨fun h w' ⟨s, hs⟩ => h w' (hs ▸ s.below), fun h w' hb => h w' ⟨⟨w', hb⟩, rfl⟩⟩
  rw [e] at h
  exact wp_region_quiet (C := fun w' => ∃ s, w' = grow w s) hm hB ⟨⟨w.drew, (Below.refl _ _).drew⟩, rfl⟩ (by simpa using h)
theorem grow_of {P : Program} {f : FuncId} {args : Array Value} {w : World} {s : Grows w} {v : Value}
    (h : Calls P f args (grow w s) fun e w' => e = .returned v ∧ Below (grow w s).heap.size (grow w s) w') : Calls P f args (grow w s) fun e w'' => e = .returned v ∧ ∃ s', w'' = grow w s' :=
  h.mono fun _ w' ⟨he, hb⟩ => ⟨he, ⟨w', s.below.trans (hb.mono s.below.size)⟩, rfl⟩
end Go.Proofs.YtannhpadoooedaaDoor
/- limb: trim, Norm. -/
namespace Go.Proofs.YtannhpadoooedaaDoor
open Num
open Go.ChangeShapes Go.WideShapes Go.ChangeAt Go.RowKit
set_option linter.unusedVariables false
set_option linter.unusedSimpArgs false

/-- the element type of a block -/
def typOf (w : World) (b : Nat) : Option TypeId := match w.heap[b]? with
  | some (.cells _ t _) => some t
  | _ => none
theorem typ_of_block {w w' : World} {b : Nat} (h : w'.heap[b]? = w.heap[b]?) : typOf w' b = typOf w b := by unfold typOf; rw [h]
theorem typ_lt {w : World} {b : Nat} {t : TypeId} (h : typOf w b = some t) : b < w.heap.size := by
  apply Nat.lt_of_not_le; intro hl
  have : w.heap[b]? = none := by simp [hl]
  simp [typOf, this] at h
theorem typ_keep {w w' : World} {b : Nat} {t : TypeId} (h : typOf w b = some t) (hb : Below w.heap.size w w') : typOf w' b = some t := by
  rw [typ_of_block (w := w) (hb.block b (typ_lt h))]; exact h
theorem typ_set (w : World) (p : Addr) (v : Value) (b : Nat) : typOf (w.setCell p v) b = typOf w b := by
  by_cases e : b = p.block
  · subst e
    unfold typOf World.setCell
    simp only [Array.getElem?_modify, if_true]
    cases w.heap[p.block]? with
    | none => rfl
    | some o => cases o <;> rfl
  · exact typ_of_block (Below.heap_setCell w p v b e)
/-- the cells of a list of limbs, in a block of limbs -/
structure At32 (w : World) (b off : Nat) (l : List Nat) : Prop where
  cell : ∀ k, k < l.length → w.cell? ⟨b, off + k, none⟩ = some (.int .u32 (l.getD k 0 : Nat))
  ty : typOf w b = some 120
instance {w : World} {b off : Nat} {l : List Nat} : CoeFun (At32 w b off l) (fun _ => ∀ k, k < l.length → w.cell? ⟨b, off + k, none⟩ = some (.int .u32 (l.getD k 0 : Nat))) := ⟨At32.cell⟩
/-- the cells of a list of limbs -/
def C32 (w : World) (a : Option Addr) (l : List Nat) : Prop := l = [] ∨ ∃ b off, a = some ⟨b, off, none⟩ ∧ At32 w b off l
/-- a slice holds a list of limbs -/
def U32 (w : World) (a : Option Addr) (cap : Nat) (l : List Nat) : Prop := l.length ≤ cap ∧ cap ≤ maxLen ∧ Limbs l ∧ C32 w a l
theorem C32.keep {w w' : World} {a : Option Addr} {l : List Nat} (h : C32 w a l) (hb : Below w.heap.size w w') : C32 w' a l := by
  rcases h with h | ⟨b, off, h1, h2⟩
  · exact .inl h
  · exact .inr ⟨b, off, h1, fun k hk => bkeep hb (h2 k hk), typ_keep h2.ty hb⟩
theorem U32.keep {w w' : World} {a : Option Addr} {cap : Nat} {l : List Nat} (h : U32 w a cap l) (hb : Below w.heap.size w w') : U32 w' a cap l := ⟨h.1, h.2.1, h.2.2.1, h.2.2.2.keep hb⟩
theorem C32.take {w : World} {a : Option Addr} {l m : List Nat} (h : C32 w a l) (hp : m <+: l) : C32 w a m := by
  rcases h with rfl | ⟨b, off, h1, h2⟩
  · exact .inl (List.prefix_nil.1 hp)
  · refine .inr ⟨b, off, h1, fun k hk => ?_, h2.ty⟩
    obtain ⟨t, rfl⟩ := hp
    rw [h2 k (by simp; omega)]
    simp [hk, List.getElem?_append]
namespace Num
theorem trim_take_zero {l : List Nat} {k : Nat} (hk : k < l.length) (h0 : l.getD k 0 = 0) : trimL (l.take (k + 1)) = trimL (l.take k) := by
  rw [List.take_succ_eq_append_getElem hk]
  have : l[k] = 0 := by simpa [hk] using h0
  rw [this, trimL_append_zero]
theorem trim_take_pos {l : List Nat} {k : Nat} (hk : k < l.length) (h0 : l.getD k 0 ≠ 0) : trimL (l.take (k + 1)) = l.take (k + 1) := by
  rw [List.take_succ_eq_append_getElem hk]
  have : l[k] ≠ 0 := by simpa [hk] using h0
  rw [trimL_append_pos _ _ this]
end Num

set_option maxRecDepth 100000 in
set_option maxHeartbeats 1000000 in
theorem trim_c (a : Option Addr) (cap : Nat) (l : List Nat) (w : World) (h : U32 w a cap l) :
    Calls Tryd.prog 62 #[.slice a l.length cap] w fun e w' => e = .returned (.slice a (trimL l).length (trimL l).length) ∧ w = w' := by
  obtain ⟨hc, hm, hl, hcs⟩ := h
  unfold maxLen at hm
  go_enter Tryd.func62, Tryd.ntmps62
  go_wp2
  go_loop [3] (fun x => ∃ k : Nat, k ≤ l.length ∧ x = .int .i64 k ∧ trimL (l.take k) = trimL l) (fun x => (intOf x).toNat)
  case atStart => exact ⟨l.length, Nat.le_refl _, rfl, by rw [List.take_length]⟩
  case round =>
    obtain ⟨k, hk, rfl, ht⟩ := hrel
    have HT := Lib.hid ht
    clear ht
    cases k with
    | zero =>
      have hz : (trimL l).length = 0 := by have := HT.out; rw [List.take_zero] at this; rw [← this]; rfl
      have HZ := Lib.hid hz
      clear hz
      go_wp2
      go_ret
      exact ⟨by rw [HZ.out]; rfl, rfl⟩
    | succ j =>
      rcases hcs with rfl | ⟨b, off, rfl, hcell⟩
      · simp at hk
      have hj := hcell j (by omega)
      by_cases h0 : l.getD j 0 = 0
      · have HN := Lib.hid (trim_take_zero (by omega : j < l.length) h0)
        rw [h0] at hj
        go_wp2
        exact ⟨⟨j, by omega, rfl, HN.out.symm.trans HT.out⟩, by simp [intOf] <;> omega⟩
      · have HN := Lib.hid (trim_take_pos (by omega : j < l.length) h0)
        generalize hx : l.getD j 0 = x at *
        have hx0 : ((x : Int) == 0) = false := by simp; omega
        have HL := Lib.hid (show (trimL l).length = j + 1 by rw [← HT.out, HN.out]; simp; omega)
        go_wp2
        go_ret
        exact ⟨by rw [HL.out]; rfl, rfl⟩

theorem U32.trim {w : World} {a : Option Addr} {cap : Nat} {l : List Nat} (h : U32 w a cap l) : U32 w a (trimL l).length (trimL l) :=
  ⟨Nat.le_refl _, Nat.le_trans (trim_len l) (Nat.le_trans h.1 h.2.1), trim_limbs h.2.2.1, h.2.2.2.take (trim_prefix l)⟩
theorem info32 : (Tryd.prog.info? 120).map (fun i => (i.zero, i.size, i.bytes)) = some (some (.int .u32 0), 1, 4) := by kernel_rfl
/-- limbs as cells -/
def cel (l : List Nat) : List Value := l.map fun x : Nat => .int .u32 (x : Int)
theorem cel_len (l : List Nat) : (cel l).length = l.length := by simp [cel]
theorem cel_get (l : List Nat) (k : Nat) (h : k < l.length) : (cel l)[k]? = some (.int .u32 (l.getD k 0 : Nat)) := by simp [cel, h]
theorem cel_one (l : List Nat) : ∀ v ∈ cel l, v.oneCell' = true := by
  intro v hv; simp only [cel, List.mem_map] at hv; obtain ⟨x, _, rfl⟩ := hv; rfl
/-- a block of the call's own that holds limbs -/
def Blk (w : World) (g : Nat) (l : List Nat) : Prop := w.heap[g]? = some (.cells (cel l).toArray 120 (0, 0))
theorem Blk.cell {w : World} {g : Nat} {l : List Nat} (h : Blk w g l) (k : Nat) (hk : k < l.length) : w.cell? ⟨g, k, none⟩ = some (.int .u32 (l.getD k 0 : Nat)) := by
  have := cel_get l k hk
  unfold World.cell?
  rw [show w.heap[(⟨g, k, none⟩ : Addr).block]? = _ from h]
  simpa using this
theorem Blk.frozen {w : World} {g : Nat} {l : List Nat} (h : Blk w g l) (k : Nat) : w.frozen? ⟨g, k, none⟩ = false := by
  unfold World.frozen?
  rw [show w.heap[(⟨g, k, none⟩ : Addr).block]? = _ from h]
  simp
theorem Blk.lt {w : World} {g : Nat} {l : List Nat} (h : Blk w g l) : g < w.heap.size := (Array.getElem?_eq_some_iff.1 h).1
theorem Blk.keep {w w' : World} {g : Nat} {l : List Nat} (h : Blk w g l) (hb : Below w.heap.size w w') : Blk w' g l := (hb.block g h.lt).trans h
theorem Blk.alloc {w : World} {g : Nat} {l : List Nat} (h : Blk w g l) (o : Obj) : Blk (w.alloc o) g l := (Below.heap_alloc w o g h.lt).trans h
theorem Blk.set {w : World} {g : Nat} {l : List Nat} (h : Blk w g l) (k x : Nat) : Blk (w.setCell ⟨g, k, none⟩ (.int .u32 (x : Int))) g (l.set k x) := by
  unfold Blk World.setCell
  simp only [Array.getElem?_modify, if_true]
  rw [show w.heap[g]? = _ from h]
  simp [cel, List.map_set]
theorem Blk.far {w : World} {g : Nat} {l : List Nat} (h : Blk w g l) (p : Addr) (v : Value) (hp : g ≠ p.block) : Blk (w.setCell p v) g l := (Below.heap_setCell w p v g hp).trans h
theorem Blk.u32 {w : World} {g : Nat} {l : List Nat} (h : Blk w g l) (hl : Limbs l) (hm : l.length ≤ maxLen) : U32 w (some ⟨g, 0, none⟩) l.length l :=
  ⟨Nat.le_refl _, hm, hl, .inr ⟨g, 0, rfl, fun k hk => by simpa using h.cell k hk, by unfold typOf; rw [show w.heap[g]? = _ from h]⟩⟩
/-- a new slice of limbs, all 0 -/
theorem mk32 (n : Nat) (hn : n ≤ 35184372088832) (w : World) : (Instr.makeSlice 32 (.int .i64 (n : Int)) (.int .i64 (n : Int))).run Tryd.prog w = .ok (.slice (some ⟨w.heap.size, 0, none⟩) n n) (w.alloc (.cells (cel (List.replicate n 0)).toArray 120)) := by
  obtain ⟨i0, hi, hz0, hz1, hz2⟩ := info_parts info32
  have e : madeCells (Value.int .u32 0).cells ((n : Int).toNat * 1) = (cel (List.replicate n 0)).toArray := by
    apply Array.ext
    · simp [size_madeCells, cel]
    · intro i h1 h2
      simp [madeCells, cel, Value.cells, Nat.mod_one]
  rw [run_make w _ _ i0 _ Tryd.underlying32 hi hz0 .i64 .i64 n n (by omega) (by omega) (by rw [hz2]; omega) (by omega), hz1, e]
  rfl
theorem blk_new (w : World) (l : List Nat) : Blk (w.alloc (.cells (cel l).toArray 120)) w.heap.size l := by
  unfold Blk; exact (MapKept.heap_alloc w _).1
theorem blk_at {w : World} {g : Nat} {l : List Nat} (hg : g = w.heap.size) : Blk (w.alloc (.cells (cel l).toArray 120)) g l := by subst hg; exact blk_new w l

set_option maxRecDepth 100000 in
set_option maxHeartbeats 1000000 in
theorem limbNorm_c (a : Option Addr) (cap : Nat) (l : List Nat) (w : World) (h : U32 w a cap l) (hlen : l.length ≤ 1099511627776) :
    Calls Tryd.prog 101 #[.slice a l.length cap] w fun e w' => (∃ a', e = .returned (.slice a' (trimL l).length (trimL l).length) ∧ U32 w' a' (trimL l).length (trimL l)) ∧ Below w.heap.size w w' := by
  have tc := fun w h => trim_c a cap l w h
  have h1 := h.trim
  have hlm := Nat.le_trans (trim_len l) hlen
  generalize trimL l = m at *
  go_enter Tryd.func101, Tryd.ntmps101
  go_wp2_with fail
  refine (tc _ h).mono ?_
  rintro e w1 ⟨rfl, rfl⟩
  clear tc
  have hmk := mk32 m.length (by omega)
  go_wp2_with (refine wpList_copy_splice (o := ⟨some 11, _, _, _, _, _⟩) rfl _ _ 32 32 rfl 120 Tryd.underlying32 (by kernel_rfl) (some ⟨w.heap.size, 0, none⟩) a m.length m.length m.length m.length rfl rfl w.heap.size 0 (cel (List.replicate m.length 0)) 120 (blk_new w _) (cel m) ?_ ?_ ?_ (cel_one m) w.heap.size w (bal (Below.refl _ _) _) (Nat.le_refl _) ?_)
  · rw [cel_len]; exact (Nat.min_self _).symm
  · intro h0
    rw [cel_len] at h0
    rcases h1.2.2.2 with hm0 | ⟨b, off, ha, hcell⟩
    · subst hm0; simp at h0
    · refine ⟨_, ha, fun j v hj => cell_alloc ?_ _⟩
      have hjl : j < m.length := by have := (List.getElem?_eq_some_iff.1 hj).1; rwa [cel_len] at this
      rw [cel_get m j hjl] at hj
      cases hj
      have := hcell j hjl
      unfold Addr.add
      split
      · subst_vars; simpa using this
      · exact this
  · simp [cel_len]
  · intro w' hw' hb'
    have hsp : splice (cel (List.replicate m.length 0)) 0 (cel m) = cel m := by simp [splice, cel]
    rw [hsp] at hw'
    have HW : Hid (Blk w' w.heap.size m) := hw'
    go_wp2
    go_ret
    exact ⟨⟨_, rfl, (HW.out : Blk w' w.heap.size m).u32 h1.2.2.1 h1.2.1⟩, hb'⟩
end Go.Proofs.YtannhpadoooedaaDoor
