/- The law PointNames: the limits, and a text that is too long. -/
import Derived.Test.YtphhjkclokjboaaDoorPtRefAll
import Derived.Test.YtphhjkclokjboaaDoorPtNm
namespace Go.Proofs.YtphhjkclokjboaaDoor
open Pt
open Go.ChangeShapes Go.WideShapes Go.ChangeAt Go.RowKit
set_option linter.unusedVariables false
set_option linter.unusedSimpArgs false
theorem info8n : (Tryd.prog.info? 5).map (fun i => (i.zero, i.size, i.bytes)) = some (some (.int .u8 0), 1, 1) := by kernel_rfl
theorem mk8n (n : Nat) (hn : n ≤ 35184372088832) (w : World) : (Instr.makeSlice 35 (.int .i64 (n : Int)) (.int .i64 (n : Int))).run Tryd.prog w = .ok (.slice (some ⟨w.heap.size, 0, none⟩) n n) (w.alloc (.cells (Array.replicate n (.int .u8 0)) 5)) := by
  obtain ⟨i0, hi, hp⟩ := Option.map_eq_some_iff.1 info8n
  obtain ⟨hz0, hz2'⟩ := Prod.mk.inj hp
  obtain ⟨hz1, hz2⟩ := Prod.mk.inj hz2'
  have e : madeCells (Value.int .u8 0).cells ((n : Int).toNat * 1) = Array.replicate n (.int .u8 0) := by
    apply Array.ext
    · simp [size_madeCells]
    · intro i h1 h2
      simp [madeCells, Value.cells, Nat.mod_one]
  rw [run_make w _ _ i0 _ Tryd.underlying35 hi hz0 .i64 .i64 n n (by omega) (by omega) (by rw [hz2]; omega) (by omega)]
  rw [hz1, e]
  rfl
theorem txt8n (n : Nat) (w : World) : (convert 35 9 (.slice (some ⟨w.heap.size, 0, none⟩) n n)).run Tryd.prog (w.alloc (.cells (Array.replicate n (.int .u8 0)) 5)) = .ok (.string ⟨(List.replicate n 0).toArray⟩) (w.alloc (.cells (Array.replicate n (.int .u8 0)) 5)) := by
  have h := run_convert_bytes_back (P := Tryd.prog) (w.alloc (.cells (Array.replicate n (.int .u8 0)) 5)) 35 9 5 ⟨w.heap.size, 0, none⟩ n (List.replicate n 0) Tryd.underlying35 Tryd.underlying5 Tryd.underlying9 (fun j hj => ?_)
  · rwa [List.length_replicate] at h
  · have hj' : j < n := by simpa using hj
    have e : (⟨w.heap.size, 0, none⟩ : Addr).add j = ⟨w.heap.size, j, none⟩ := by
      unfold Addr.add; split <;> simp_all
    rw [e]
    exact cell_new rfl (by simp [hj'])
def zer8 : Array Value := Array.replicate 65537 (.int .u8 0)
def big8 : ByteArray := ⟨(List.replicate 65537 0).toArray⟩
theorem big8_size : 65536 < big8.size := by
  have h : big8.size = (List.replicate 65537 (0 : UInt8)).length := rfl
  rw [h, List.length_replicate]; omega
theorem mkBig (w : World) : (Instr.makeSlice 35 (.int .i64 65537) (.int .i64 65537)).run Tryd.prog w = .ok (.slice (some ⟨w.heap.size, 0, none⟩) 65537 65537) (w.alloc (.cells zer8 5)) := mk8n 65537 (by omega) w
theorem txtBig (w : World) : (convert 35 9 (.slice (some ⟨w.heap.size, 0, none⟩) 65537 65537)).run Tryd.prog (w.alloc (.cells zer8 5)) = .ok (.string big8) (w.alloc (.cells zer8 5)) := txt8n 65537 w
attribute [irreducible] zer8 big8
theorem ne_blkN {b c i j : Nat} {s t : Option Nat} (h : b ≠ c) : (⟨b, i, s⟩ : Addr) ≠ ⟨c, j, t⟩ := fun e => h (congrArg Addr.block e)
theorem eql_nilFuncN (f : Fn) (a c : Array Value) (w : World) : (binOp .eql 37 (.func f a c) .nilFunc).run Tryd.prog w = .ok (.bool false) w := by kernel_rfl
attribute [local go_sem] Oper.semAt_some
set_option maxRecDepth 100000 in
set_option maxHeartbeats 8000000 in
theorem names_h (w : World) :
    Calls Tryd.prog 4 #[] w fun e w' => e = .returned (.bool true) ∧ Below w.heap.size w w' := by
  have lc := live_c
  have em := mkBig
  have et := txtBig
  have rl := fun w => readLong_c big8 w big8_size
  refine calls_of_wp_marks Tryd.func4 rfl ?_
  simp only [Tryd.ntmps4, List.size_toArray, List.length_cons, List.length_nil, Nat.reduceAdd, Nat.reduceSub, Array.replicate_succ, Array.replicate_zero, List.push_toArray, List.append_toArray, List.nil_append, List.cons_append, Array.append_empty, Array.empty_append]
  go_wp2_with fail
  refine (lc _).mono ?_
  rintro e w1 ⟨rfl, hb1⟩
  have hB := hb1
  go_wp2_with fail
  refine (rl _).mono ?_
  rintro e w2 ⟨rfl, hb2⟩
  have hB : Below w.heap.size w w2 := bthen (by repeat (first | exact Below.refl _ _ | exact hB | refine Below.drew ?_ | refine below_drewN ?_ _ | refine bset ?_ (by simp <;> omega) _ | refine bal ?_ _)) hb2
  have hz : w.heap.size ≤ w2.heap.size := hB.size
  go_wp2_with fail
  refine (ptAll_c 16 _).mono ?_
  rintro e w3 ⟨rfl, hb3, ha3⟩
  have n0 : w3.cell? ⟨w2.heap.size + 1, 0, none⟩ = some (.int .i64 0) := bkeep hb3 (by first | assumption | exact cell_new (by with_reducible first | rfl | (simp; done) | (simp; omega)) rfl | (repeat (first | assumption | exact cell_new (by with_reducible first | rfl | (simp; done) | (simp; omega)) rfl | refine cell_alloc ?_ _ | refine cell_drew ?_ | refine cell_drewN ?_ _ | refine cell_far ?_ (by simp) _ | (refine cell_far ?_ (by simp <;> omega) _))) | simp [go_sem, *])
  have zn0 := cell_lt n0
  have n0f : w3.frozen? ⟨w2.heap.size + 1, 0, none⟩ = false := bkeepf (v := .int .i64 0) hb3 (by first | assumption | exact cell_new (by with_reducible first | rfl | (simp; done) | (simp; omega)) rfl | (repeat (first | assumption | exact cell_new (by with_reducible first | rfl | (simp; done) | (simp; omega)) rfl | refine cell_alloc ?_ _ | refine cell_drew ?_ | refine cell_drewN ?_ _ | refine cell_far ?_ (by simp) _ | (refine cell_far ?_ (by simp <;> omega) _))) | simp [go_sem, *]) (by first | assumption | (simp <;> assumption) | simp [go_sem, *])
  have p0 : w3.cell? ⟨w2.heap.size, 0, none⟩ = some (.int .i64 3) := bkeep hb3 (by first | assumption | exact cell_new (by with_reducible first | rfl | (simp; done) | (simp; omega)) rfl | (repeat (first | assumption | exact cell_new (by with_reducible first | rfl | (simp; done) | (simp; omega)) rfl | refine cell_alloc ?_ _ | refine cell_drew ?_ | refine cell_drewN ?_ _ | refine cell_far ?_ (by simp) _ | (refine cell_far ?_ (by simp <;> omega) _))) | simp [go_sem, *])
  have zp0 := cell_lt p0
  have p1 : w3.cell? ⟨w2.heap.size, 1, none⟩ = some (.int .i64 65536) := bkeep hb3 (by first | assumption | exact cell_new (by with_reducible first | rfl | (simp; done) | (simp; omega)) rfl | (repeat (first | assumption | exact cell_new (by with_reducible first | rfl | (simp; done) | (simp; omega)) rfl | refine cell_alloc ?_ _ | refine cell_drew ?_ | refine cell_drewN ?_ _ | refine cell_far ?_ (by simp) _ | (refine cell_far ?_ (by simp <;> omega) _))) | simp [go_sem, *])
  have hB : Below w.heap.size w w3 := bthen (by repeat (first | exact Below.refl _ _ | exact hB | refine Below.drew ?_ | refine below_drewN ?_ _ | refine bset ?_ (by simp <;> omega) _ | refine bal ?_ _)) hb3
  have hz : w.heap.size ≤ w3.heap.size := hB.size
  have hsz3 := cell_lt ha3
  simp at ha3 hsz3
  have hn : (allL 16).length ≤ 20000 := by decide +kernel
  generalize hL : allL 16 = L at *
  generalize hnl : L.length = n at *
  have HL := Lib.hid hL
  have HN := Lib.hid hnl
  clear hL hnl
  have he := eql_nilFuncN
  go_wp2
  have HI3 : (w3.cell? ⟨w2.heap.size + 1, 0, none⟩ = some (.int .i64 (([] : List (Int × Int)).length : Int)) ∧ w3.frozen? ⟨w2.heap.size + 1, 0, none⟩ = false ∧ w3.cell? ⟨w2.heap.size, 0, none⟩ = some (.int .i64 3) ∧ w3.cell? ⟨w2.heap.size, 1, none⟩ = some (.int .i64 65536) ∧ Below w.heap.size w w3 ∧ w3.heap.size ≤ w3.heap.size) := ⟨n0, n0f, p0, p1, hB, Nat.le_refl _⟩
  clear n0 n0f p0 p1 hB
  refine wp_rangeK (gf := 17) (lb := #[.pointer (some ⟨w2.heap.size + 1 + 1, 0, none⟩)]) (w0 := w3) (L := L) (N := n) (Kp := Bex (w2.heap.size + 1) w3.heap.size) (by simp [Act.eval]) (enters_of Tryd.func17 (by kernel_rfl) rfl)
    (encs := fun x : Int × Int => #[.agg #[.int .i64 x.1, .int .i64 x.2]]) (by have e := all1_stopsK (w3.heap.size) (w2.heap.size + 1 + 1) n 8 16 w3 (Bex (w2.heap.size + 1) w3.heap.size) (bex_krel _ _) (fun h hv => h.cell (by simp) (by simp; omega) hv) (Nat.le_refl _) ha3 (by rw [HL.out, HN.out]; omega); rw [HL.out] at e; exact e) (fun h k => (bex_krel (w2.heap.size + 1) w3.heap.size).trans h k)
    (fun W l o o' h1 h2 h3 h4 => (bex_krel (w2.heap.size + 1) w3.heap.size).bel (belowK_b (Nat.le_refl _) W l o o' h1 h2 h3 h4)) (Below.refl _ _) (fun _ => rfl)
    (fun pre W => (W.cell? ⟨w2.heap.size + 1, 0, none⟩ = some (.int .i64 (pre.length : Int)) ∧ W.frozen? ⟨w2.heap.size + 1, 0, none⟩ = false ∧ W.cell? ⟨w2.heap.size, 0, none⟩ = some (.int .i64 3) ∧ W.cell? ⟨w2.heap.size, 1, none⟩ = some (.int .i64 65536) ∧ Below w.heap.size w W ∧ w3.heap.size ≤ W.heap.size))
    (fun c pre W => False)
    ?_ ?_ ?_ ?_ ?_
    (fun T x a' W => a' = { tmps := T.setIfInBounds 17 (.agg #[.int .i64 x.1, .int .i64 x.2]), defers := [] } ∧ w3.heap.size ≤ W.heap.size)
    ?_ ?_ ?assign0 ?body0 ?done0 ?stop0
  case assign0 =>
    rintro l pre x W K hi hK
    gi_wp2
    exact hK _ _ (KeepsFrom.refl _ _) ((bex_krel _ _).refl _) hi ⟨by simp, hi.2.2.2.2.2⟩
  case body0 =>
    rintro l pre x a' w6 ⟨n0, n0f, p0, p1, hB, hs⟩ ⟨rfl, _⟩ hl
    simp only [List.setIfInBounds_toArray, List.set_cons_succ, List.set_cons_zero]
    have hpl : (pre.length : Int) < n := by omega
    gi_wp2
    have hz1 := cell_lt n0
    refine ⟨kf_set (KeepsFrom.refl _ _) _ _, ⟨by simp, fun k hk hc => Below.heap_setCell _ _ _ _ hc⟩, ?_⟩
    dsimp only
    rw [show ((pre ++ [x]).length : Int) = (pre.length : Int) + 1 by simp]
    exact ⟨cell_here n0 _, by rw [World.frozen?_setCell]; exact n0f, cell_far p0 (ne_blkN (by omega)) _, cell_far p1 (ne_blkN (by omega)) _, bset hB (by simp; have := hb1.size; have := hb2.size; simp at *; omega) _, by simp; omega⟩
  case done0 =>
    rintro D w8 hDs ⟨n0, n0f, p0, p1, hB, hs⟩ hK0
    rw [HN.out] at n0
    have ra : ∀ w, Calls Tryd.prog 10 #[.int .i64 16] w fun e w' => ∃ a cap, e = .returned (.slice a n cap) ∧ Below w.heap.size w w' := fun w => (refAll_v 16 w).mono fun e w' ⟨a, cap, he, _, hb⟩ => ⟨a, cap, by rw [he, HL.out, HN.out], hb⟩
    have hDl := (Array.getElem?_eq_some_iff.1 hK0).1
    clear em et rl lc hb1 hb2 hb3 HI3 ha3 he n0f
    go_wp2
    go_region_held3 (fun w' => w'.cell? ⟨w2.heap.size + 1, 0, none⟩ = some (.int .i64 (n : Int)) ∧ w'.cell? ⟨w2.heap.size, 0, none⟩ = some (.int .i64 3) ∧ w'.cell? ⟨w2.heap.size, 1, none⟩ = some (.int .i64 65536) ∧ Below w.heap.size w w' ∧ w'.heap[D]? = some (.deferred (some [])))
      (first | exact ⟨n0, p0, p1, hB, hK0⟩ | exact ⟨n0, p0, p1, hB.drew, hK0⟩)
      (first | (go_at_call 10; refine (ra _).mono ?_; rintro e w9 ⟨av, cap, rfl, hb9⟩; have n0 := bkeep hb9 n0; have p0 := bkeep hb9 p0; have p1 := bkeep hb9 p1; have hB : Below w.heap.size w w9 := (by first | exact bthen hB hb9 | exact bthen hB.drew hb9); have hK0 := (hb9.block D (by have := (Array.getElem?_eq_some_iff.1 hK0).1; simpa using this)).trans hK0) | (go_at_call 8; refine (ptTextNil_c _).mono ?_; rintro e w9 ⟨rfl, hb9⟩; have n0 := bkeep hb9 n0; have p0 := bkeep hb9 p0; have p1 := bkeep hb9 p1; have hB : Below w.heap.size w w9 := (by first | exact bthen hB hb9 | exact bthen hB.drew hb9); have hK0 := (hb9.block D (by have := (Array.getElem?_eq_some_iff.1 hK0).1; simpa using this)).trans hK0))
    rename_i w9
    have hDl := (Array.getElem?_eq_some_iff.1 hK0).1
    go_wp2
    refine ⟨by simp, .inl ⟨_, _, rfl, run_takeDeferred (b := D) (ds := []) hK0, ?_⟩⟩
    refine ⟨.bool true, ?_, rfl, b_put hB (by have := hB.size; omega) _⟩
    simp [results, Tryd.results4, go_sem]
  case stop0 => intro D c pre W _ _ h; cases h
  · exact fun pre W W' h s => ⟨s.cell h.1, s.frozen h.1 h.2.1, s.cell h.2.2.1, s.cell h.2.2.2.1, h.2.2.2.2.1.trans (s.below.mono (by have := HI3.2.2.2.2.1.size; omega)), Nat.le_trans h.2.2.2.2.2 s.below.size⟩
  · exact fun c pre W W' h s => h
  · exact fun pre W h => h.2.2.2.2.2
  · exact fun c pre W h => h.elim
  · exact HI3
  · rintro x a' W W' ⟨rfl, h⟩ s; exact ⟨rfl, Nat.le_trans h s.below.size⟩
  · rintro x a' W ⟨rfl, h⟩; exact h
end Go.Proofs.YtphhjkclokjboaaDoor
