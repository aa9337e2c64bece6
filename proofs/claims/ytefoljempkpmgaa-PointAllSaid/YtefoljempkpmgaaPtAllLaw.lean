/- The law PointAll: all norms, in order; left early, gone through again. -/
import Derived.Test.YtefoljempkpmgaaPtRefAll
namespace Go.Proofs.Ytefoljempkpmgaa
open Pt
open Go.ChangeShapes Go.WideShapes Go.ChangeAt Go.RowKit
set_option linter.unusedVariables false
set_option linter.unusedSimpArgs false
attribute [local go_sem] Oper.semAt_some

/-- what the law's own variables hold between two rounds of the inner loop -/
structure AllInv (w : World) (rb ib wb B : Nat) (r st m : Int) (av : Option Addr) (n cap : Nat) (L : List (Int × Int)) (k : Int) (W : World) : Prop where
  i0 : W.cell? ⟨ib, 0, none⟩ = some (.int .i64 k)
  i0f : W.frozen? ⟨ib, 0, none⟩ = false
  r0 : W.cell? ⟨rb, 0, none⟩ = some (.int .i64 r)
  s0 : W.cell? ⟨w.heap.size, 0, none⟩ = some (.int .i64 st)
  a0 : W.cell? ⟨wb, 0, none⟩ = some (.slice av n cap)
  res : W.cell? ⟨w.heap.size + 1, 0, none⟩ = some (.bool false)
  resf : W.frozen? ⟨w.heap.size + 1, 0, none⟩ = false
  cl : W.cell? ⟨wb + 1, 0, none⟩ = some (.int .i64 m)
  pts : PtsV W av n cap (fun i => L.getD i (0, 0))
  below : Below w.heap.size w W
  size : B ≤ W.heap.size
theorem PtsV.soft {B : Nat} {w w' : World} {a : Option Addr} {n cap : Nat} {f : Nat → Int × Int} (h : PtsV w a n cap f) (hb : Soft B w w') : PtsV w' a n cap f := by
  rcases h with h | ⟨b, off, h1, h2, h3⟩
  · exact .inl h
  · exact .inr ⟨b, off, h1, h2, fun k hk => ⟨hb.cell (h3 k hk).1, hb.cell (h3 k hk).2⟩⟩
theorem AllInv.soft {w : World} {rb ib wb B : Nat} {r st m : Int} {av : Option Addr} {n cap : Nat} {L : List (Int × Int)} {k : Int} {W W' : World} (hw : w.heap.size ≤ B)
    (h : AllInv w rb ib wb B r st m av n cap L k W) (s : Soft B W W') : AllInv w rb ib wb B r st m av n cap L k W' :=
  ⟨s.cell h.i0, s.frozen h.i0 h.i0f, s.cell h.r0, s.cell h.s0, s.cell h.a0, s.cell h.res, s.frozen h.res h.resf, s.cell h.cl, h.pts.soft s, h.below.trans (s.below.mono hw), Nat.le_trans h.size s.below.size⟩
theorem prefix_snoc {L pre : List (Int × Int)} {x : Int × Int} (h : pre <+: L) (hl : pre.length < L.length) (hx : x = L.getD pre.length (0, 0)) : pre ++ [x] <+: L := by
  obtain ⟨t, rfl⟩ := h
  cases t with
  | nil => simp at hl
  | cons y t =>
    have : x = y := by rw [hx]; simp
    subst this
    exact ⟨t, by simp⟩
theorem prefix_snoc_no {L pre : List (Int × Int)} {x : Int × Int} (hl : pre.length < L.length) (hx : x ≠ L.getD pre.length (0, 0)) : ¬ pre ++ [x] <+: L := by
  rintro ⟨t, rfl⟩
  exact hx (by simp)
theorem ne_blk {b c i j : Nat} {s t : Option Nat} (h : b ≠ c) : (⟨b, i, s⟩ : Addr) ≠ ⟨c, j, t⟩ := fun e => h (congrArg Addr.block e)
theorem AllInv.keep {w : World} {rb ib wb B : Nat} {r st m : Int} {av : Option Addr} {n cap : Nat} {L : List (Int × Int)} {k : Int} {W W' : World}
    (h : AllInv w rb ib wb B r st m av n cap L k W) (s : Below W.heap.size W W') : AllInv w rb ib wb B r st m av n cap L k W' :=
  ⟨bkeep s h.i0, bkeepf s h.i0 h.i0f, bkeep s h.r0, bkeep s h.s0, bkeep s h.a0, bkeep s h.res, bkeepf s h.res h.resf, bkeep s h.cl, h.pts.keep s, bthen h.below s, Nat.le_trans h.size s.size⟩
theorem eql_nilFunc (f : Fn) (a c : Array Value) (w : World) : (binOp .eql 46 (.func f a c) .nilFunc).run Try.prog w = .ok (.bool false) w := by kernel_rfl
theorem allL_len (m : Int) : (allL m).length ≤ 20000 := by
  by_cases h : 1 ≤ m ∧ m ≤ 16
  · rw [allL_yes h, ← refR_rings m.toNat (by omega)]
    have := refR_len m.toNat (by omega)
    simp; omega
  · rw [allL_no h]; simp

set_option maxRecDepth 100000 in
set_option maxHeartbeats 8000000 in
theorem all_h (m st : Int) (w : World) (hst : (Lit.int .i64 st).wf = true) :
    Calls Try.prog 6 #[.int .i64 m, .int .i64 st] w fun e w' => e = .returned (.bool true) ∧ Below w.heap.size w w' := by
  have lc := live_c
  refine calls_of_wp_marks Try.func6 rfl ?_
  simp only [Try.ntmps6, List.size_toArray, List.length_cons, List.length_nil, Nat.reduceAdd, Nat.reduceSub, Array.replicate_succ, Array.replicate_zero, List.push_toArray, List.append_toArray, List.nil_append, List.cons_append]
  go_wp2_with fail
  refine (lc _).mono ?_
  rintro e w1 ⟨rfl, hb1⟩
  have s0 : w1.cell? ⟨w.heap.size, 0, none⟩ = some (.int .i64 st) := bkeep hb1 (by first | assumption | exact cell_new (by with_reducible first | rfl | (simp; done) | (simp; omega)) rfl | (repeat (first | assumption | exact cell_new (by with_reducible first | rfl | (simp; done) | (simp; omega)) rfl | refine cell_alloc ?_ _ | refine cell_drew ?_ | refine cell_drewN ?_ _ | refine cell_far ?_ (by simp) _ | (refine cell_far ?_ (by simp <;> omega) _))) | simp [go_sem, *])
  have zs0 := cell_lt s0
  have r0 : w1.cell? ⟨w.heap.size + 1, 0, none⟩ = some (.bool false) := bkeep hb1 (by first | assumption | exact cell_new (by with_reducible first | rfl | (simp; done) | (simp; omega)) rfl | (repeat (first | assumption | exact cell_new (by with_reducible first | rfl | (simp; done) | (simp; omega)) rfl | refine cell_alloc ?_ _ | refine cell_drew ?_ | refine cell_drewN ?_ _ | refine cell_far ?_ (by simp) _ | (refine cell_far ?_ (by simp <;> omega) _))) | simp [go_sem, *])
  have zr0 := cell_lt r0
  have r0f : w1.frozen? ⟨w.heap.size + 1, 0, none⟩ = false := bkeepf (v := .bool false) hb1 (by first | assumption | exact cell_new (by with_reducible first | rfl | (simp; done) | (simp; omega)) rfl | (repeat (first | assumption | exact cell_new (by with_reducible first | rfl | (simp; done) | (simp; omega)) rfl | refine cell_alloc ?_ _ | refine cell_drew ?_ | refine cell_drewN ?_ _ | refine cell_far ?_ (by simp) _ | (refine cell_far ?_ (by simp <;> omega) _))) | simp [go_sem, *]) (by first | assumption | (simp <;> assumption) | simp [go_sem, *])
  have hB : Below w.heap.size w w1 := bthen (by repeat (first | exact Below.refl _ _ | exact hB | refine Below.drew ?_ | refine below_drewN ?_ _ | refine bset ?_ (by simp <;> omega) _ | refine bal ?_ _)) hb1
  have hz : w.heap.size ≤ w1.heap.size := hB.size
  go_wp2_with fail
  refine (refAll_v m _).mono ?_
  rintro e w2 ⟨av, cap, rfl, hv, hb2⟩
  have s0 : w2.cell? ⟨w.heap.size, 0, none⟩ = some (.int .i64 st) := bkeep hb2 (by first | assumption | exact cell_new (by with_reducible first | rfl | (simp; done) | (simp; omega)) rfl | (repeat (first | assumption | exact cell_new (by with_reducible first | rfl | (simp; done) | (simp; omega)) rfl | refine cell_alloc ?_ _ | refine cell_drew ?_ | refine cell_drewN ?_ _ | refine cell_far ?_ (by simp) _ | (refine cell_far ?_ (by simp <;> omega) _))) | simp [go_sem, *])
  have zs0 := cell_lt s0
  have r0 : w2.cell? ⟨w.heap.size + 1, 0, none⟩ = some (.bool false) := bkeep hb2 (by first | assumption | exact cell_new (by with_reducible first | rfl | (simp; done) | (simp; omega)) rfl | (repeat (first | assumption | exact cell_new (by with_reducible first | rfl | (simp; done) | (simp; omega)) rfl | refine cell_alloc ?_ _ | refine cell_drew ?_ | refine cell_drewN ?_ _ | refine cell_far ?_ (by simp) _ | (refine cell_far ?_ (by simp <;> omega) _))) | simp [go_sem, *])
  have zr0 := cell_lt r0
  have r0f : w2.frozen? ⟨w.heap.size + 1, 0, none⟩ = false := bkeepf (v := .bool false) hb2 (by first | assumption | exact cell_new (by with_reducible first | rfl | (simp; done) | (simp; omega)) rfl | (repeat (first | assumption | exact cell_new (by with_reducible first | rfl | (simp; done) | (simp; omega)) rfl | refine cell_alloc ?_ _ | refine cell_drew ?_ | refine cell_drewN ?_ _ | refine cell_far ?_ (by simp) _ | (refine cell_far ?_ (by simp <;> omega) _))) | simp [go_sem, *]) (by first | assumption | (simp <;> assumption) | simp [go_sem, *])
  have hB : Below w.heap.size w w2 := bthen (by repeat (first | exact Below.refl _ _ | exact hB | refine Below.drew ?_ | refine below_drewN ?_ _ | refine bset ?_ (by simp <;> omega) _ | refine bal ?_ _)) hb2
  have hz : w.heap.size ≤ w2.heap.size := hB.size
  have hn : (allL m).length ≤ 20000 := allL_len m
  generalize hL : allL m = L at *
  generalize hnl : L.length = n at *
  have HL := Lib.hid hL
  have HN := Lib.hid hnl
  clear hL hnl
  have hpb0 : ∀ b o, av = some ⟨b, o, none⟩ → 0 < n → b < w2.heap.size := by
    intro b o e h0
    rcases hv with h | ⟨b', o', e', _, hp⟩
    · omega
    · rw [e] at e'; cases e'; exact cell_lt (hp 0 h0).1
  have HPB := Lib.hid hpb0
  clear hpb0
  go_wp2_with fail
  refine (ptAll_c m _).mono ?_
  rintro e w3 ⟨rfl, hb3, ha3⟩
  have hv3 := (hv.keep (bal (Below.refl _ _) _)).keep hb3
  have s0 : w3.cell? ⟨w.heap.size, 0, none⟩ = some (.int .i64 st) := bkeep hb3 (by first | assumption | exact cell_new (by with_reducible first | rfl | (simp; done) | (simp; omega)) rfl | (repeat (first | assumption | exact cell_new (by with_reducible first | rfl | (simp; done) | (simp; omega)) rfl | refine cell_alloc ?_ _ | refine cell_drew ?_ | refine cell_drewN ?_ _ | refine cell_far ?_ (by simp) _ | (refine cell_far ?_ (by simp <;> omega) _))) | simp [go_sem, *])
  have zs0 := cell_lt s0
  have r0 : w3.cell? ⟨w.heap.size + 1, 0, none⟩ = some (.bool false) := bkeep hb3 (by first | assumption | exact cell_new (by with_reducible first | rfl | (simp; done) | (simp; omega)) rfl | (repeat (first | assumption | exact cell_new (by with_reducible first | rfl | (simp; done) | (simp; omega)) rfl | refine cell_alloc ?_ _ | refine cell_drew ?_ | refine cell_drewN ?_ _ | refine cell_far ?_ (by simp) _ | (refine cell_far ?_ (by simp <;> omega) _))) | simp [go_sem, *])
  have zr0 := cell_lt r0
  have r0f : w3.frozen? ⟨w.heap.size + 1, 0, none⟩ = false := bkeepf (v := .bool false) hb3 (by first | assumption | exact cell_new (by with_reducible first | rfl | (simp; done) | (simp; omega)) rfl | (repeat (first | assumption | exact cell_new (by with_reducible first | rfl | (simp; done) | (simp; omega)) rfl | refine cell_alloc ?_ _ | refine cell_drew ?_ | refine cell_drewN ?_ _ | refine cell_far ?_ (by simp) _ | (refine cell_far ?_ (by simp <;> omega) _))) | simp [go_sem, *]) (by first | assumption | (simp <;> assumption) | simp [go_sem, *])
  have a0 : w3.cell? ⟨w2.heap.size, 0, none⟩ = some (.slice av n cap) := bkeep hb3 (by first | assumption | exact cell_new (by with_reducible first | rfl | (simp; done) | (simp; omega)) rfl | (repeat (first | assumption | exact cell_new (by with_reducible first | rfl | (simp; done) | (simp; omega)) rfl | refine cell_alloc ?_ _ | refine cell_drew ?_ | refine cell_drewN ?_ _ | refine cell_far ?_ (by simp) _ | (refine cell_far ?_ (by simp <;> omega) _))) | simp [go_sem, *])
  have za0 := cell_lt a0
  have hB : Below w.heap.size w w3 := bthen (by repeat (first | exact Below.refl _ _ | exact hB | refine Below.drew ?_ | refine below_drewN ?_ _ | refine bset ?_ (by simp <;> omega) _ | refine bal ?_ _)) hb3
  have hz : w.heap.size ≤ w3.heap.size := hB.size
  have he := eql_nilFunc
  go_wp2_with fail
  refine (lc _).mono ?_
  rintro e w4 ⟨rfl, hb4⟩
  have hv4 := hv3.keep hb4
  have ha4 := bkeep hb4 ha3
  have s0 : w4.cell? ⟨w.heap.size, 0, none⟩ = some (.int .i64 st) := bkeep hb4 (by first | assumption | exact cell_new (by with_reducible first | rfl | (simp; done) | (simp; omega)) rfl | (repeat (first | assumption | exact cell_new (by with_reducible first | rfl | (simp; done) | (simp; omega)) rfl | refine cell_alloc ?_ _ | refine cell_drew ?_ | refine cell_drewN ?_ _ | refine cell_far ?_ (by simp) _ | (refine cell_far ?_ (by simp <;> omega) _))) | simp [go_sem, *])
  have zs0 := cell_lt s0
  have r0 : w4.cell? ⟨w.heap.size + 1, 0, none⟩ = some (.bool false) := bkeep hb4 (by first | assumption | exact cell_new (by with_reducible first | rfl | (simp; done) | (simp; omega)) rfl | (repeat (first | assumption | exact cell_new (by with_reducible first | rfl | (simp; done) | (simp; omega)) rfl | refine cell_alloc ?_ _ | refine cell_drew ?_ | refine cell_drewN ?_ _ | refine cell_far ?_ (by simp) _ | (refine cell_far ?_ (by simp <;> omega) _))) | simp [go_sem, *])
  have zr0 := cell_lt r0
  have r0f : w4.frozen? ⟨w.heap.size + 1, 0, none⟩ = false := bkeepf (v := .bool false) hb4 (by first | assumption | exact cell_new (by with_reducible first | rfl | (simp; done) | (simp; omega)) rfl | (repeat (first | assumption | exact cell_new (by with_reducible first | rfl | (simp; done) | (simp; omega)) rfl | refine cell_alloc ?_ _ | refine cell_drew ?_ | refine cell_drewN ?_ _ | refine cell_far ?_ (by simp) _ | (refine cell_far ?_ (by simp <;> omega) _))) | simp [go_sem, *]) (by first | assumption | (simp <;> assumption) | simp [go_sem, *])
  have a0 : w4.cell? ⟨w2.heap.size, 0, none⟩ = some (.slice av n cap) := bkeep hb4 (by first | assumption | exact cell_new (by with_reducible first | rfl | (simp; done) | (simp; omega)) rfl | (repeat (first | assumption | exact cell_new (by with_reducible first | rfl | (simp; done) | (simp; omega)) rfl | refine cell_alloc ?_ _ | refine cell_drew ?_ | refine cell_drewN ?_ _ | refine cell_far ?_ (by simp) _ | (refine cell_far ?_ (by simp <;> omega) _))) | simp [go_sem, *])
  have za0 := cell_lt a0
  have hB : Below w.heap.size w w4 := bthen (by repeat (first | exact Below.refl _ _ | exact hB | refine Below.drew ?_ | refine below_drewN ?_ _ | refine bset ?_ (by simp <;> omega) _ | refine bal ?_ _)) hb4
  have hz : w.heap.size ≤ w4.heap.size := hB.size
  go_wp2
  refine wp_loop_rounds 3 ?_
  rw [rounds_succ]
  go_wp2
  have hcl : w4.cell? ⟨w2.heap.size + 1, 0, none⟩ = some (.int .i64 m) := by have := bkeep hb4 ha3; simpa using this
  have hzcl := cell_lt hcl
  have hza := cell_lt a0
  have hzs := cell_lt s0
  have hzr := cell_lt r0
  refine wp_name fun w5 hW5 => ?_
  have hb5 : Below w4.heap.size w4 w5 := by rw [hW5]; exact bal (bal (Below.refl _ _) _) _
  have HS5 := Lib.hid (show w5.heap.size = w4.heap.size + 2 by rw [hW5]; simp)
  have hi5 : w5.cell? ⟨w4.heap.size + 1, 0, none⟩ = some (.int .i64 0) := by rw [hW5]; exact cell_new (by simp) rfl
  have hi5f : w5.frozen? ⟨w4.heap.size + 1, 0, none⟩ = false := by rw [hW5, World.frozen?_alloc_at (hn := by simp)]
  have hr5 : w5.cell? ⟨w4.heap.size, 0, none⟩ = some (.int .i64 0) := by rw [hW5]; exact cell_alloc (cell_new rfl rfl) _
  have HI5 := Lib.hid (show AllInv w w4.heap.size (w4.heap.size + 1) w2.heap.size w5.heap.size 0 st m av n cap L 0 w5 from
    ⟨hi5, hi5f, hr5, bkeep hb5 s0, bkeep hb5 a0, bkeep hb5 r0, bkeepf hb5 r0 r0f, bkeep hb5 hcl, hv4.keep hb5, bthen hB hb5, Nat.le_refl _⟩)
  clear hW5 hi5 hi5f hr5
  have hIw5 : AllInv w w4.heap.size (w4.heap.size + 1) w2.heap.size w5.heap.size 0 st m av n cap L 0 w5 := by
    exact HI5.out
  have hs5 : w5.heap.size = w4.heap.size + 2 := HS5.out
  clear s0 r0 a0 hv4 hv3 ha4
  refine wp_range (gf := 36) (lb := #[.pointer (some ⟨w2.heap.size + 1, 0, none⟩)]) (w0 := w5) (L := L) (N := n) (n0 := w4.heap.size) (by simp [Act.eval]) (enters_of Try.func36 (by kernel_rfl) rfl)
    (encs := fun x : Int × Int => #[.agg #[.int .i64 x.1, .int .i64 x.2]]) (by have e := all1_stops (w4.heap.size) (w2.heap.size + 1) n 8 m w5 (by omega) (by omega) hIw5.cl (by rw [HL.out, HN.out]; omega); rw [HL.out] at e; exact e) (Below.refl _ _) (by omega) (fun _ => rfl)
    (fun pre W => (pre <+: L ∧ AllInv w w4.heap.size (w4.heap.size + 1) w2.heap.size w5.heap.size 0 st m av n cap L pre.length W))
    (fun c pre W => (c = .ret ∧ (¬ pre <+: L) ∧ w5.heap.size ≤ W.heap.size) ∨ (c = .exit 2 ∧ (pre.length : Int) = st ∧ AllInv w w4.heap.size (w4.heap.size + 1) w2.heap.size w5.heap.size 0 st m av n cap L pre.length W))
    ?_ ?_ ?_ ?_ ?_
    (fun T x a' W => ∃ B, w5.heap.size ≤ B ∧ W.cell? ⟨B, 0, none⟩ = some (.int .i64 x.1) ∧ W.cell? ⟨B, 1, none⟩ = some (.int .i64 x.2) ∧ a' = { tmps := (T.setIfInBounds 27 (.agg #[.int .i64 x.1, .int .i64 x.2])).setIfInBounds 9 (.pointer (some ⟨B, 0, none⟩)), defers := [] })
    ?_ ?_ ?assign0 ?body0 ?done0 ?stop0
  case assign0 =>
    rintro l pre x W K ⟨hp, hi⟩ hK
    gi_wp2
    refine hK _ _ (kf_alloc (KeepsFrom.refl _ _) _) ((Below.refl _ _).alloc (by have := hi.size; omega) _) ⟨hp, ?_⟩ ⟨W.heap.size, hi.size, cell_new rfl rfl, cell_new rfl rfl, by simp⟩
    · exact hi.keep (bal (Below.refl _ _) _)
  case body0 =>
    rintro l pre x a' w6 ⟨hp, hi⟩ ⟨B, hBs, c0, c1, rfl⟩ hl
    obtain ⟨i0, i0f, r0, s0, a0, res, resf, cl, pts, hB, size⟩ := hi
    simp only [List.setIfInBounds_toArray, List.set_cons_succ, List.set_cons_zero]
    have hpl := hp.length_le
    rcases pts with h0 | ⟨pb, po, rfl, hcap, hpts⟩
    · omega
    have hpb := HPB.out pb po rfl (by omega)
    obtain ⟨p0, p1⟩ := hpts pre.length hl
    dsimp only at p0 p1
    have il : (pre.length : Int) < (n : Int) := by omega
    have hd : decide (n ≤ pre.length) = false := by simp; omega
    by_cases hx : x = L.getD pre.length (0, 0)
    · have HPX := Lib.hid (prefix_snoc hp (by have := HN.out; omega) hx)
      have HLX := Lib.hid (show ((pre ++ [x]).length : Int) = (pre.length : Int) + 1 by simp)
      rw [← hx] at p0 p1
      clear hx
      have hne : ∀ w', (binOp .neq 23 (.agg #[.int .i64 x.1, .int .i64 x.2]) (.agg #[.int .i64 x.1, .int .i64 x.2])).run Try.prog w' = .ok (.bool false) w' := fun w' => by rw [neq_pvg]; simp
      obtain ⟨y, hy⟩ : ∃ y, x = y := ⟨x, rfl⟩
      subst hy
      by_cases hs : (pre.length : Int) + 1 = st
      · have t2 : ((pre.length : Int) + 1 == st) = true := by simpa using hs
        have HS := Lib.hid hs
        clear hs
        gi_wp2
        refine wpInR_region_grow (w := w6) (by kernel_rfl) (by kernel_rfl) (by kernel_rfl) ?_
        have c0g : ∀ gs, (grow w6 gs).cell? ⟨B, 0, none⟩ = some (.int .i64 x.1) := fun gs => bkeep gs.below c0
        have c1g : ∀ gs, (grow w6 gs).cell? ⟨B, 1, none⟩ = some (.int .i64 x.2) := fun gs => bkeep gs.below c1
        have i0g : ∀ gs, (grow w6 gs).cell? ⟨(w4.heap.size + 1), 0, none⟩ = some (.int .i64 (pre.length : Int)) := fun gs => bkeep gs.below i0
        have r0g : ∀ gs, (grow w6 gs).cell? ⟨w4.heap.size, 0, none⟩ = some (.int .i64 0) := fun gs => bkeep gs.below r0
        have s0g : ∀ gs, (grow w6 gs).cell? ⟨w.heap.size, 0, none⟩ = some (.int .i64 st) := fun gs => bkeep gs.below s0
        have a0g : ∀ gs, (grow w6 gs).cell? ⟨w2.heap.size, 0, none⟩ = some (.slice (some ⟨pb, po, none⟩) n cap) := fun gs => bkeep gs.below a0
        have resg : ∀ gs, (grow w6 gs).cell? ⟨w.heap.size + 1, 0, none⟩ = some (.bool false) := fun gs => bkeep gs.below res
        have clg : ∀ gs, (grow w6 gs).cell? ⟨w2.heap.size + 1, 0, none⟩ = some (.int .i64 m) := fun gs => bkeep gs.below cl
        have p0g : ∀ gs, (grow w6 gs).cell? ⟨pb, po + pre.length * 2, none⟩ = some (.int .i64 x.1) := fun gs => bkeep gs.below p0
        have p1g : ∀ gs, (grow w6 gs).cell? ⟨pb, po + pre.length * 2 + 1, none⟩ = some (.int .i64 x.2) := fun gs => bkeep gs.below p1
        repeat (go_big_quiet_step (fail))
        refine wpQuiet_nil ?_
        intro w7 hb7
        clear c0g
        clear c1g
        clear i0g
        clear r0g
        clear s0g
        clear a0g
        clear resg
        clear clg
        clear p0g
        clear p1g
        have c0 : w7.cell? ⟨B, 0, none⟩ = some (.int .i64 x.1) := bkeep hb7 (by first | assumption | exact cell_new (by with_reducible first | rfl | (simp; done) | (simp; omega)) rfl | (repeat (first | assumption | exact cell_new (by with_reducible first | rfl | (simp; done) | (simp; omega)) rfl | refine cell_alloc ?_ _ | refine cell_drew ?_ | refine cell_drewN ?_ _ | refine cell_far ?_ (by simp) _ | (refine cell_far ?_ (by simp <;> omega) _))) | simp [go_sem, *])
        have zc0 := cell_lt c0
        have c1 : w7.cell? ⟨B, 1, none⟩ = some (.int .i64 x.2) := bkeep hb7 (by first | assumption | exact cell_new (by with_reducible first | rfl | (simp; done) | (simp; omega)) rfl | (repeat (first | assumption | exact cell_new (by with_reducible first | rfl | (simp; done) | (simp; omega)) rfl | refine cell_alloc ?_ _ | refine cell_drew ?_ | refine cell_drewN ?_ _ | refine cell_far ?_ (by simp) _ | (refine cell_far ?_ (by simp <;> omega) _))) | simp [go_sem, *])
        have i0 : w7.cell? ⟨(w4.heap.size + 1), 0, none⟩ = some (.int .i64 (pre.length : Int)) := bkeep hb7 (by first | assumption | exact cell_new (by with_reducible first | rfl | (simp; done) | (simp; omega)) rfl | (repeat (first | assumption | exact cell_new (by with_reducible first | rfl | (simp; done) | (simp; omega)) rfl | refine cell_alloc ?_ _ | refine cell_drew ?_ | refine cell_drewN ?_ _ | refine cell_far ?_ (by simp) _ | (refine cell_far ?_ (by simp <;> omega) _))) | simp [go_sem, *])
        have zi0 := cell_lt i0
        have i0f : w7.frozen? ⟨(w4.heap.size + 1), 0, none⟩ = false := bkeepf (v := .int .i64 (pre.length : Int)) hb7 (by first | assumption | exact cell_new (by with_reducible first | rfl | (simp; done) | (simp; omega)) rfl | (repeat (first | assumption | exact cell_new (by with_reducible first | rfl | (simp; done) | (simp; omega)) rfl | refine cell_alloc ?_ _ | refine cell_drew ?_ | refine cell_drewN ?_ _ | refine cell_far ?_ (by simp) _ | (refine cell_far ?_ (by simp <;> omega) _))) | simp [go_sem, *]) (by first | assumption | (simp <;> assumption) | simp [go_sem, *])
        have r0 : w7.cell? ⟨w4.heap.size, 0, none⟩ = some (.int .i64 0) := bkeep hb7 (by first | assumption | exact cell_new (by with_reducible first | rfl | (simp; done) | (simp; omega)) rfl | (repeat (first | assumption | exact cell_new (by with_reducible first | rfl | (simp; done) | (simp; omega)) rfl | refine cell_alloc ?_ _ | refine cell_drew ?_ | refine cell_drewN ?_ _ | refine cell_far ?_ (by simp) _ | (refine cell_far ?_ (by simp <;> omega) _))) | simp [go_sem, *])
        have zr0 := cell_lt r0
        have s0 : w7.cell? ⟨w.heap.size, 0, none⟩ = some (.int .i64 st) := bkeep hb7 (by first | assumption | exact cell_new (by with_reducible first | rfl | (simp; done) | (simp; omega)) rfl | (repeat (first | assumption | exact cell_new (by with_reducible first | rfl | (simp; done) | (simp; omega)) rfl | refine cell_alloc ?_ _ | refine cell_drew ?_ | refine cell_drewN ?_ _ | refine cell_far ?_ (by simp) _ | (refine cell_far ?_ (by simp <;> omega) _))) | simp [go_sem, *])
        have zs0 := cell_lt s0
        have a0 : w7.cell? ⟨w2.heap.size, 0, none⟩ = some (.slice (some ⟨pb, po, none⟩) n cap) := bkeep hb7 (by first | assumption | exact cell_new (by with_reducible first | rfl | (simp; done) | (simp; omega)) rfl | (repeat (first | assumption | exact cell_new (by with_reducible first | rfl | (simp; done) | (simp; omega)) rfl | refine cell_alloc ?_ _ | refine cell_drew ?_ | refine cell_drewN ?_ _ | refine cell_far ?_ (by simp) _ | (refine cell_far ?_ (by simp <;> omega) _))) | simp [go_sem, *])
        have za0 := cell_lt a0
        have res : w7.cell? ⟨w.heap.size + 1, 0, none⟩ = some (.bool false) := bkeep hb7 (by first | assumption | exact cell_new (by with_reducible first | rfl | (simp; done) | (simp; omega)) rfl | (repeat (first | assumption | exact cell_new (by with_reducible first | rfl | (simp; done) | (simp; omega)) rfl | refine cell_alloc ?_ _ | refine cell_drew ?_ | refine cell_drewN ?_ _ | refine cell_far ?_ (by simp) _ | (refine cell_far ?_ (by simp <;> omega) _))) | simp [go_sem, *])
        have zres := cell_lt res
        have resf : w7.frozen? ⟨w.heap.size + 1, 0, none⟩ = false := bkeepf (v := .bool false) hb7 (by first | assumption | exact cell_new (by with_reducible first | rfl | (simp; done) | (simp; omega)) rfl | (repeat (first | assumption | exact cell_new (by with_reducible first | rfl | (simp; done) | (simp; omega)) rfl | refine cell_alloc ?_ _ | refine cell_drew ?_ | refine cell_drewN ?_ _ | refine cell_far ?_ (by simp) _ | (refine cell_far ?_ (by simp <;> omega) _))) | simp [go_sem, *]) (by first | assumption | (simp <;> assumption) | simp [go_sem, *])
        have cl : w7.cell? ⟨w2.heap.size + 1, 0, none⟩ = some (.int .i64 m) := bkeep hb7 (by first | assumption | exact cell_new (by with_reducible first | rfl | (simp; done) | (simp; omega)) rfl | (repeat (first | assumption | exact cell_new (by with_reducible first | rfl | (simp; done) | (simp; omega)) rfl | refine cell_alloc ?_ _ | refine cell_drew ?_ | refine cell_drewN ?_ _ | refine cell_far ?_ (by simp) _ | (refine cell_far ?_ (by simp <;> omega) _))) | simp [go_sem, *])
        have zcl := cell_lt cl
        have p0 : w7.cell? ⟨pb, po + pre.length * 2, none⟩ = some (.int .i64 x.1) := bkeep hb7 (by first | assumption | exact cell_new (by with_reducible first | rfl | (simp; done) | (simp; omega)) rfl | (repeat (first | assumption | exact cell_new (by with_reducible first | rfl | (simp; done) | (simp; omega)) rfl | refine cell_alloc ?_ _ | refine cell_drew ?_ | refine cell_drewN ?_ _ | refine cell_far ?_ (by simp) _ | (refine cell_far ?_ (by simp <;> omega) _))) | simp [go_sem, *])
        have zp0 := cell_lt p0
        have p1 : w7.cell? ⟨pb, po + pre.length * 2 + 1, none⟩ = some (.int .i64 x.2) := bkeep hb7 (by first | assumption | exact cell_new (by with_reducible first | rfl | (simp; done) | (simp; omega)) rfl | (repeat (first | assumption | exact cell_new (by with_reducible first | rfl | (simp; done) | (simp; omega)) rfl | refine cell_alloc ?_ _ | refine cell_drew ?_ | refine cell_drewN ?_ _ | refine cell_far ?_ (by simp) _ | (refine cell_far ?_ (by simp <;> omega) _))) | simp [go_sem, *])
        have hB : Below w.heap.size w w7 := bthen (by repeat (first | exact Below.refl _ _ | exact hB | refine Below.drew ?_ | refine below_drewN ?_ _ | refine bset ?_ (by simp <;> omega) _ | refine bal ?_ _)) hb7
        have hz : w.heap.size ≤ w7.heap.size := hB.size
        gi_wp2
        refine ⟨kf_set (kf_below (KeepsFrom.refl _ _) hb7) _ _, .inr ⟨rfl, by rw [HLX.out]; exact HS.out, ?_⟩⟩
        rw [HLX.out]
        exact ⟨cell_here i0 _, by rw [World.frozen?_setCell]; exact i0f, cell_far r0 (ne_blk (by omega)) _, cell_far s0 (ne_blk (by omega)) _, cell_far a0 (ne_blk (by omega)) _, cell_far res (ne_blk (by omega)) _, by rw [World.frozen?_setCell]; exact resf, cell_far cl (ne_blk (by omega)) _, .inr ⟨pb, po, rfl, hcap, fun k hk => ⟨cell_far (bkeep hb7 (hpts k hk).1) (ne_blk (by omega)) _, cell_far (bkeep hb7 (hpts k hk).2) (ne_blk (by omega)) _⟩⟩, bset hB (by simp <;> omega) _, by have := hb7.size; simp <;> omega⟩
      · have t2 : ((pre.length : Int) + 1 == st) = false := by simpa using hs
        clear hs
        gi_wp2
        refine wpInR_region_grow (w := w6) (by kernel_rfl) (by kernel_rfl) (by kernel_rfl) ?_
        have c0g : ∀ gs, (grow w6 gs).cell? ⟨B, 0, none⟩ = some (.int .i64 x.1) := fun gs => bkeep gs.below c0
        have c1g : ∀ gs, (grow w6 gs).cell? ⟨B, 1, none⟩ = some (.int .i64 x.2) := fun gs => bkeep gs.below c1
        have i0g : ∀ gs, (grow w6 gs).cell? ⟨(w4.heap.size + 1), 0, none⟩ = some (.int .i64 (pre.length : Int)) := fun gs => bkeep gs.below i0
        have r0g : ∀ gs, (grow w6 gs).cell? ⟨w4.heap.size, 0, none⟩ = some (.int .i64 0) := fun gs => bkeep gs.below r0
        have s0g : ∀ gs, (grow w6 gs).cell? ⟨w.heap.size, 0, none⟩ = some (.int .i64 st) := fun gs => bkeep gs.below s0
        have a0g : ∀ gs, (grow w6 gs).cell? ⟨w2.heap.size, 0, none⟩ = some (.slice (some ⟨pb, po, none⟩) n cap) := fun gs => bkeep gs.below a0
        have resg : ∀ gs, (grow w6 gs).cell? ⟨w.heap.size + 1, 0, none⟩ = some (.bool false) := fun gs => bkeep gs.below res
        have clg : ∀ gs, (grow w6 gs).cell? ⟨w2.heap.size + 1, 0, none⟩ = some (.int .i64 m) := fun gs => bkeep gs.below cl
        have p0g : ∀ gs, (grow w6 gs).cell? ⟨pb, po + pre.length * 2, none⟩ = some (.int .i64 x.1) := fun gs => bkeep gs.below p0
        have p1g : ∀ gs, (grow w6 gs).cell? ⟨pb, po + pre.length * 2 + 1, none⟩ = some (.int .i64 x.2) := fun gs => bkeep gs.below p1
        repeat (go_big_quiet_step (fail))
        refine wpQuiet_nil ?_
        intro w7 hb7
        clear c0g
        clear c1g
        clear i0g
        clear r0g
        clear s0g
        clear a0g
        clear resg
        clear clg
        clear p0g
        clear p1g
        have c0 : w7.cell? ⟨B, 0, none⟩ = some (.int .i64 x.1) := bkeep hb7 (by first | assumption | exact cell_new (by with_reducible first | rfl | (simp; done) | (simp; omega)) rfl | (repeat (first | assumption | exact cell_new (by with_reducible first | rfl | (simp; done) | (simp; omega)) rfl | refine cell_alloc ?_ _ | refine cell_drew ?_ | refine cell_drewN ?_ _ | refine cell_far ?_ (by simp) _ | (refine cell_far ?_ (by simp <;> omega) _))) | simp [go_sem, *])
        have zc0 := cell_lt c0
        have c1 : w7.cell? ⟨B, 1, none⟩ = some (.int .i64 x.2) := bkeep hb7 (by first | assumption | exact cell_new (by with_reducible first | rfl | (simp; done) | (simp; omega)) rfl | (repeat (first | assumption | exact cell_new (by with_reducible first | rfl | (simp; done) | (simp; omega)) rfl | refine cell_alloc ?_ _ | refine cell_drew ?_ | refine cell_drewN ?_ _ | refine cell_far ?_ (by simp) _ | (refine cell_far ?_ (by simp <;> omega) _))) | simp [go_sem, *])
        have i0 : w7.cell? ⟨(w4.heap.size + 1), 0, none⟩ = some (.int .i64 (pre.length : Int)) := bkeep hb7 (by first | assumption | exact cell_new (by with_reducible first | rfl | (simp; done) | (simp; omega)) rfl | (repeat (first | assumption | exact cell_new (by with_reducible first | rfl | (simp; done) | (simp; omega)) rfl | refine cell_alloc ?_ _ | refine cell_drew ?_ | refine cell_drewN ?_ _ | refine cell_far ?_ (by simp) _ | (refine cell_far ?_ (by simp <;> omega) _))) | simp [go_sem, *])
        have zi0 := cell_lt i0
        have i0f : w7.frozen? ⟨(w4.heap.size + 1), 0, none⟩ = false := bkeepf (v := .int .i64 (pre.length : Int)) hb7 (by first | assumption | exact cell_new (by with_reducible first | rfl | (simp; done) | (simp; omega)) rfl | (repeat (first | assumption | exact cell_new (by with_reducible first | rfl | (simp; done) | (simp; omega)) rfl | refine cell_alloc ?_ _ | refine cell_drew ?_ | refine cell_drewN ?_ _ | refine cell_far ?_ (by simp) _ | (refine cell_far ?_ (by simp <;> omega) _))) | simp [go_sem, *]) (by first | assumption | (simp <;> assumption) | simp [go_sem, *])
        have r0 : w7.cell? ⟨w4.heap.size, 0, none⟩ = some (.int .i64 0) := bkeep hb7 (by first | assumption | exact cell_new (by with_reducible first | rfl | (simp; done) | (simp; omega)) rfl | (repeat (first | assumption | exact cell_new (by with_reducible first | rfl | (simp; done) | (simp; omega)) rfl | refine cell_alloc ?_ _ | refine cell_drew ?_ | refine cell_drewN ?_ _ | refine cell_far ?_ (by simp) _ | (refine cell_far ?_ (by simp <;> omega) _))) | simp [go_sem, *])
        have zr0 := cell_lt r0
        have s0 : w7.cell? ⟨w.heap.size, 0, none⟩ = some (.int .i64 st) := bkeep hb7 (by first | assumption | exact cell_new (by with_reducible first | rfl | (simp; done) | (simp; omega)) rfl | (repeat (first | assumption | exact cell_new (by with_reducible first | rfl | (simp; done) | (simp; omega)) rfl | refine cell_alloc ?_ _ | refine cell_drew ?_ | refine cell_drewN ?_ _ | refine cell_far ?_ (by simp) _ | (refine cell_far ?_ (by simp <;> omega) _))) | simp [go_sem, *])
        have zs0 := cell_lt s0
        have a0 : w7.cell? ⟨w2.heap.size, 0, none⟩ = some (.slice (some ⟨pb, po, none⟩) n cap) := bkeep hb7 (by first | assumption | exact cell_new (by with_reducible first | rfl | (simp; done) | (simp; omega)) rfl | (repeat (first | assumption | exact cell_new (by with_reducible first | rfl | (simp; done) | (simp; omega)) rfl | refine cell_alloc ?_ _ | refine cell_drew ?_ | refine cell_drewN ?_ _ | refine cell_far ?_ (by simp) _ | (refine cell_far ?_ (by simp <;> omega) _))) | simp [go_sem, *])
        have za0 := cell_lt a0
        have res : w7.cell? ⟨w.heap.size + 1, 0, none⟩ = some (.bool false) := bkeep hb7 (by first | assumption | exact cell_new (by with_reducible first | rfl | (simp; done) | (simp; omega)) rfl | (repeat (first | assumption | exact cell_new (by with_reducible first | rfl | (simp; done) | (simp; omega)) rfl | refine cell_alloc ?_ _ | refine cell_drew ?_ | refine cell_drewN ?_ _ | refine cell_far ?_ (by simp) _ | (refine cell_far ?_ (by simp <;> omega) _))) | simp [go_sem, *])
        have zres := cell_lt res
        have resf : w7.frozen? ⟨w.heap.size + 1, 0, none⟩ = false := bkeepf (v := .bool false) hb7 (by first | assumption | exact cell_new (by with_reducible first | rfl | (simp; done) | (simp; omega)) rfl | (repeat (first | assumption | exact cell_new (by with_reducible first | rfl | (simp; done) | (simp; omega)) rfl | refine cell_alloc ?_ _ | refine cell_drew ?_ | refine cell_drewN ?_ _ | refine cell_far ?_ (by simp) _ | (refine cell_far ?_ (by simp <;> omega) _))) | simp [go_sem, *]) (by first | assumption | (simp <;> assumption) | simp [go_sem, *])
        have cl : w7.cell? ⟨w2.heap.size + 1, 0, none⟩ = some (.int .i64 m) := bkeep hb7 (by first | assumption | exact cell_new (by with_reducible first | rfl | (simp; done) | (simp; omega)) rfl | (repeat (first | assumption | exact cell_new (by with_reducible first | rfl | (simp; done) | (simp; omega)) rfl | refine cell_alloc ?_ _ | refine cell_drew ?_ | refine cell_drewN ?_ _ | refine cell_far ?_ (by simp) _ | (refine cell_far ?_ (by simp <;> omega) _))) | simp [go_sem, *])
        have zcl := cell_lt cl
        have p0 : w7.cell? ⟨pb, po + pre.length * 2, none⟩ = some (.int .i64 x.1) := bkeep hb7 (by first | assumption | exact cell_new (by with_reducible first | rfl | (simp; done) | (simp; omega)) rfl | (repeat (first | assumption | exact cell_new (by with_reducible first | rfl | (simp; done) | (simp; omega)) rfl | refine cell_alloc ?_ _ | refine cell_drew ?_ | refine cell_drewN ?_ _ | refine cell_far ?_ (by simp) _ | (refine cell_far ?_ (by simp <;> omega) _))) | simp [go_sem, *])
        have zp0 := cell_lt p0
        have p1 : w7.cell? ⟨pb, po + pre.length * 2 + 1, none⟩ = some (.int .i64 x.2) := bkeep hb7 (by first | assumption | exact cell_new (by with_reducible first | rfl | (simp; done) | (simp; omega)) rfl | (repeat (first | assumption | exact cell_new (by with_reducible first | rfl | (simp; done) | (simp; omega)) rfl | refine cell_alloc ?_ _ | refine cell_drew ?_ | refine cell_drewN ?_ _ | refine cell_far ?_ (by simp) _ | (refine cell_far ?_ (by simp <;> omega) _))) | simp [go_sem, *])
        have hB : Below w.heap.size w w7 := bthen (by repeat (first | exact Below.refl _ _ | exact hB | refine Below.drew ?_ | refine below_drewN ?_ _ | refine bset ?_ (by simp <;> omega) _ | refine bal ?_ _)) hb7
        have hz : w.heap.size ≤ w7.heap.size := hB.size
        gi_wp2
        refine ⟨kf_set (kf_below (KeepsFrom.refl _ _) hb7) _ _, ((Below.refl _ w6).trans (hb7.mono (by omega))).setCell (by simp <;> omega) _, HPX.out, ?_⟩
        rw [HLX.out]
        exact ⟨cell_here i0 _, by rw [World.frozen?_setCell]; exact i0f, cell_far r0 (ne_blk (by omega)) _, cell_far s0 (ne_blk (by omega)) _, cell_far a0 (ne_blk (by omega)) _, cell_far res (ne_blk (by omega)) _, by rw [World.frozen?_setCell]; exact resf, cell_far cl (ne_blk (by omega)) _, .inr ⟨pb, po, rfl, hcap, fun k hk => ⟨cell_far (bkeep hb7 (hpts k hk).1) (ne_blk (by omega)) _, cell_far (bkeep hb7 (hpts k hk).2) (ne_blk (by omega)) _⟩⟩, bset hB (by simp <;> omega) _, by have := hb7.size; simp <;> omega⟩
    · have hne : ∀ w', (binOp .neq 23 (.agg #[.int .i64 x.1, .int .i64 x.2]) (.agg #[.int .i64 (L.getD pre.length (0, 0)).1, .int .i64 (L.getD pre.length (0, 0)).2])).run Try.prog w' = .ok (.bool true) w' := fun w' => by
        rw [neq_pvg]; congr 2
        rw [Bool.not_eq_true', Bool.eq_false_iff]; simp only [ne_eq, Bool.and_eq_true, beq_iff_eq]; exact fun k => hx (Prod.ext k.1 k.2)
      have hnp := prefix_snoc_no (x := x) (by have := HN.out; omega : pre.length < L.length) hx
      generalize L.getD pre.length (0, 0) = y at *
      gi_wp2
      refine wpInR_region_grow (w := w6) (by kernel_rfl) (by kernel_rfl) (by kernel_rfl) ?_
      have c0g : ∀ gs, (grow w6 gs).cell? ⟨B, 0, none⟩ = some (.int .i64 x.1) := fun gs => bkeep gs.below c0
      have c1g : ∀ gs, (grow w6 gs).cell? ⟨B, 1, none⟩ = some (.int .i64 x.2) := fun gs => bkeep gs.below c1
      have i0g : ∀ gs, (grow w6 gs).cell? ⟨(w4.heap.size + 1), 0, none⟩ = some (.int .i64 (pre.length : Int)) := fun gs => bkeep gs.below i0
      have r0g : ∀ gs, (grow w6 gs).cell? ⟨w4.heap.size, 0, none⟩ = some (.int .i64 0) := fun gs => bkeep gs.below r0
      have s0g : ∀ gs, (grow w6 gs).cell? ⟨w.heap.size, 0, none⟩ = some (.int .i64 st) := fun gs => bkeep gs.below s0
      have a0g : ∀ gs, (grow w6 gs).cell? ⟨w2.heap.size, 0, none⟩ = some (.slice (some ⟨pb, po, none⟩) n cap) := fun gs => bkeep gs.below a0
      have resg : ∀ gs, (grow w6 gs).cell? ⟨w.heap.size + 1, 0, none⟩ = some (.bool false) := fun gs => bkeep gs.below res
      have clg : ∀ gs, (grow w6 gs).cell? ⟨w2.heap.size + 1, 0, none⟩ = some (.int .i64 m) := fun gs => bkeep gs.below cl
      have p0g : ∀ gs, (grow w6 gs).cell? ⟨pb, po + pre.length * 2, none⟩ = some (.int .i64 y.1) := fun gs => bkeep gs.below p0
      have p1g : ∀ gs, (grow w6 gs).cell? ⟨pb, po + pre.length * 2 + 1, none⟩ = some (.int .i64 y.2) := fun gs => bkeep gs.below p1
      repeat (go_big_quiet_step (fail))
      refine wpQuiet_nil ?_
      intro w7 hb7
      clear c0g
      clear c1g
      clear i0g
      clear r0g
      clear s0g
      clear a0g
      clear resg
      clear clg
      clear p0g
      clear p1g
      have c0 : w7.cell? ⟨B, 0, none⟩ = some (.int .i64 x.1) := bkeep hb7 (by first | assumption | exact cell_new (by with_reducible first | rfl | (simp; done) | (simp; omega)) rfl | (repeat (first | assumption | exact cell_new (by with_reducible first | rfl | (simp; done) | (simp; omega)) rfl | refine cell_alloc ?_ _ | refine cell_drew ?_ | refine cell_drewN ?_ _ | refine cell_far ?_ (by simp) _ | (refine cell_far ?_ (by simp <;> omega) _))) | simp [go_sem, *])
      have zc0 := cell_lt c0
      have c1 : w7.cell? ⟨B, 1, none⟩ = some (.int .i64 x.2) := bkeep hb7 (by first | assumption | exact cell_new (by with_reducible first | rfl | (simp; done) | (simp; omega)) rfl | (repeat (first | assumption | exact cell_new (by with_reducible first | rfl | (simp; done) | (simp; omega)) rfl | refine cell_alloc ?_ _ | refine cell_drew ?_ | refine cell_drewN ?_ _ | refine cell_far ?_ (by simp) _ | (refine cell_far ?_ (by simp <;> omega) _))) | simp [go_sem, *])
      have i0 : w7.cell? ⟨(w4.heap.size + 1), 0, none⟩ = some (.int .i64 (pre.length : Int)) := bkeep hb7 (by first | assumption | exact cell_new (by with_reducible first | rfl | (simp; done) | (simp; omega)) rfl | (repeat (first | assumption | exact cell_new (by with_reducible first | rfl | (simp; done) | (simp; omega)) rfl | refine cell_alloc ?_ _ | refine cell_drew ?_ | refine cell_drewN ?_ _ | refine cell_far ?_ (by simp) _ | (refine cell_far ?_ (by simp <;> omega) _))) | simp [go_sem, *])
      have zi0 := cell_lt i0
      have i0f : w7.frozen? ⟨(w4.heap.size + 1), 0, none⟩ = false := bkeepf (v := .int .i64 (pre.length : Int)) hb7 (by first | assumption | exact cell_new (by with_reducible first | rfl | (simp; done) | (simp; omega)) rfl | (repeat (first | assumption | exact cell_new (by with_reducible first | rfl | (simp; done) | (simp; omega)) rfl | refine cell_alloc ?_ _ | refine cell_drew ?_ | refine cell_drewN ?_ _ | refine cell_far ?_ (by simp) _ | (refine cell_far ?_ (by simp <;> omega) _))) | simp [go_sem, *]) (by first | assumption | (simp <;> assumption) | simp [go_sem, *])
      have r0 : w7.cell? ⟨w4.heap.size, 0, none⟩ = some (.int .i64 0) := bkeep hb7 (by first | assumption | exact cell_new (by with_reducible first | rfl | (simp; done) | (simp; omega)) rfl | (repeat (first | assumption | exact cell_new (by with_reducible first | rfl | (simp; done) | (simp; omega)) rfl | refine cell_alloc ?_ _ | refine cell_drew ?_ | refine cell_drewN ?_ _ | refine cell_far ?_ (by simp) _ | (refine cell_far ?_ (by simp <;> omega) _))) | simp [go_sem, *])
      have zr0 := cell_lt r0
      have s0 : w7.cell? ⟨w.heap.size, 0, none⟩ = some (.int .i64 st) := bkeep hb7 (by first | assumption | exact cell_new (by with_reducible first | rfl | (simp; done) | (simp; omega)) rfl | (repeat (first | assumption | exact cell_new (by with_reducible first | rfl | (simp; done) | (simp; omega)) rfl | refine cell_alloc ?_ _ | refine cell_drew ?_ | refine cell_drewN ?_ _ | refine cell_far ?_ (by simp) _ | (refine cell_far ?_ (by simp <;> omega) _))) | simp [go_sem, *])
      have zs0 := cell_lt s0
      have a0 : w7.cell? ⟨w2.heap.size, 0, none⟩ = some (.slice (some ⟨pb, po, none⟩) n cap) := bkeep hb7 (by first | assumption | exact cell_new (by with_reducible first | rfl | (simp; done) | (simp; omega)) rfl | (repeat (first | assumption | exact cell_new (by with_reducible first | rfl | (simp; done) | (simp; omega)) rfl | refine cell_alloc ?_ _ | refine cell_drew ?_ | refine cell_drewN ?_ _ | refine cell_far ?_ (by simp) _ | (refine cell_far ?_ (by simp <;> omega) _))) | simp [go_sem, *])
      have za0 := cell_lt a0
      have res : w7.cell? ⟨w.heap.size + 1, 0, none⟩ = some (.bool false) := bkeep hb7 (by first | assumption | exact cell_new (by with_reducible first | rfl | (simp; done) | (simp; omega)) rfl | (repeat (first | assumption | exact cell_new (by with_reducible first | rfl | (simp; done) | (simp; omega)) rfl | refine cell_alloc ?_ _ | refine cell_drew ?_ | refine cell_drewN ?_ _ | refine cell_far ?_ (by simp) _ | (refine cell_far ?_ (by simp <;> omega) _))) | simp [go_sem, *])
      have zres := cell_lt res
      have resf : w7.frozen? ⟨w.heap.size + 1, 0, none⟩ = false := bkeepf (v := .bool false) hb7 (by first | assumption | exact cell_new (by with_reducible first | rfl | (simp; done) | (simp; omega)) rfl | (repeat (first | assumption | exact cell_new (by with_reducible first | rfl | (simp; done) | (simp; omega)) rfl | refine cell_alloc ?_ _ | refine cell_drew ?_ | refine cell_drewN ?_ _ | refine cell_far ?_ (by simp) _ | (refine cell_far ?_ (by simp <;> omega) _))) | simp [go_sem, *]) (by first | assumption | (simp <;> assumption) | simp [go_sem, *])
      have cl : w7.cell? ⟨w2.heap.size + 1, 0, none⟩ = some (.int .i64 m) := bkeep hb7 (by first | assumption | exact cell_new (by with_reducible first | rfl | (simp; done) | (simp; omega)) rfl | (repeat (first | assumption | exact cell_new (by with_reducible first | rfl | (simp; done) | (simp; omega)) rfl | refine cell_alloc ?_ _ | refine cell_drew ?_ | refine cell_drewN ?_ _ | refine cell_far ?_ (by simp) _ | (refine cell_far ?_ (by simp <;> omega) _))) | simp [go_sem, *])
      have zcl := cell_lt cl
      have p0 : w7.cell? ⟨pb, po + pre.length * 2, none⟩ = some (.int .i64 y.1) := bkeep hb7 (by first | assumption | exact cell_new (by with_reducible first | rfl | (simp; done) | (simp; omega)) rfl | (repeat (first | assumption | exact cell_new (by with_reducible first | rfl | (simp; done) | (simp; omega)) rfl | refine cell_alloc ?_ _ | refine cell_drew ?_ | refine cell_drewN ?_ _ | refine cell_far ?_ (by simp) _ | (refine cell_far ?_ (by simp <;> omega) _))) | simp [go_sem, *])
      have zp0 := cell_lt p0
      have p1 : w7.cell? ⟨pb, po + pre.length * 2 + 1, none⟩ = some (.int .i64 y.2) := bkeep hb7 (by first | assumption | exact cell_new (by with_reducible first | rfl | (simp; done) | (simp; omega)) rfl | (repeat (first | assumption | exact cell_new (by with_reducible first | rfl | (simp; done) | (simp; omega)) rfl | refine cell_alloc ?_ _ | refine cell_drew ?_ | refine cell_drewN ?_ _ | refine cell_far ?_ (by simp) _ | (refine cell_far ?_ (by simp <;> omega) _))) | simp [go_sem, *])
      have hB : Below w.heap.size w w7 := bthen (by repeat (first | exact Below.refl _ _ | exact hB | refine Below.drew ?_ | refine below_drewN ?_ _ | refine bset ?_ (by simp <;> omega) _ | refine bal ?_ _)) hb7
      have hz : w.heap.size ≤ w7.heap.size := hB.size
      gi_wp2
      exact ⟨kf_set (kf_below (KeepsFrom.refl _ _) hb7) _ _, .inl ⟨rfl, hnp, by have := hb7.size; simp <;> omega⟩⟩
  case done0 =>
    rintro D0 w8 hDs ⟨_, hi⟩ hK0
    obtain ⟨i0, i0f, r0, s0, a0, res, resf, cl, pts, hB, size⟩ := hi
    rw [HN.out] at i0
    go_wp2
    rw [rounds_succ]
    go_wp2
    refine wp_name fun w9 hW9 => ?_
    have hz0 := cell_lt r0
    have hz1 := cell_lt s0
    have hz2 := cell_lt a0
    have hz3 := cell_lt cl
    have hIw9 : AllInv w w8.heap.size (w8.heap.size + 1) w2.heap.size w9.heap.size 1 st m av n cap L 0 w9 := by
      rw [hW9]
      have hb : Below w8.heap.size w8 ((w8.alloc (.cells #[.int .i64 1] 3)).alloc (.cells #[.int .i64 0] 3)) := bal (bal (Below.refl _ _) _) _
      exact ⟨cell_new (by simp) rfl, by rw [World.frozen?_alloc_at (hn := by simp)], cell_alloc (cell_new rfl rfl) _, bkeep hb s0, bkeep hb a0, bkeep hb res, bkeepf hb res resf, bkeep hb cl, pts.keep hb, bthen hB hb, Nat.le_refl _⟩
    have hDw9 : w9.heap[D0]? = some (.deferred (some [])) := by
      have hb : Below w8.heap.size w8 ((w8.alloc (.cells #[.int .i64 1] 3)).alloc (.cells #[.int .i64 0] 3)) := bal (bal (Below.refl _ _) _) _
      rw [hW9]; exact (hb.block D0 (Array.getElem?_eq_some_iff.1 hK0).1).trans hK0
    have hs9 : w9.heap.size = w8.heap.size + 2 := by rw [hW9]; simp
    have hDl := (Array.getElem?_eq_some_iff.1 hK0).1
    clear hW9 i0 i0f r0 s0 a0 res resf cl pts
    refine wp_range (gf := 36) (lb := #[.pointer (some ⟨w2.heap.size + 1, 0, none⟩)]) (w0 := w9) (L := L) (N := n) (n0 := w8.heap.size) (by simp [Act.eval]) (enters_of Try.func36 (by kernel_rfl) rfl)
      (encs := fun x : Int × Int => #[.agg #[.int .i64 x.1, .int .i64 x.2]]) (by have e := all1_stops (w8.heap.size) (w2.heap.size + 1) n 8 m w9 (by omega) (by omega) hIw9.cl (by rw [HL.out, HN.out]; omega); rw [HL.out] at e; exact e) (Below.refl _ _) (by omega) (fun _ => rfl)
      (fun pre W => (pre <+: L ∧ AllInv w w8.heap.size (w8.heap.size + 1) w2.heap.size w9.heap.size 1 st m av n cap L pre.length W) ∧ W.heap[D0]? = some (.deferred (some [])))
      (fun c pre W => (¬ pre <+: L) ∧ w9.heap.size ≤ W.heap.size)
      ?_ ?_ ?_ ?_ ?_
      (fun T x a' W => ∃ B, w9.heap.size ≤ B ∧ W.cell? ⟨B, 0, none⟩ = some (.int .i64 x.1) ∧ W.cell? ⟨B, 1, none⟩ = some (.int .i64 x.2) ∧ a' = { tmps := (T.setIfInBounds 27 (.agg #[.int .i64 x.1, .int .i64 x.2])).setIfInBounds 9 (.pointer (some ⟨B, 0, none⟩)), defers := [] })
      ?_ ?_ ?assign1 ?body1 ?done1 ?stop1
    case assign1 =>
      rintro l pre x W K ⟨⟨hp, hi⟩, hD1⟩ hK
      gi_wp2
      refine hK _ _ (kf_alloc (KeepsFrom.refl _ _) _) ((Below.refl _ _).alloc (by have := hi.size; omega) _) ⟨⟨hp, ?_⟩, ?_⟩ ⟨W.heap.size, hi.size, cell_new rfl rfl, cell_new rfl rfl, by simp⟩
      · exact hi.keep (bal (Below.refl _ _) _)
      · exact (Below.heap_alloc _ _ _ (Array.getElem?_eq_some_iff.1 hD1).1).trans hD1
    case body1 =>
      rintro l pre x a' w6 ⟨⟨hp, hi⟩, hD1⟩ ⟨B, hBs, c0, c1, rfl⟩ hl
      obtain ⟨i0, i0f, r0, s0, a0, res, resf, cl, pts, hB, size⟩ := hi
      simp only [List.setIfInBounds_toArray, List.set_cons_succ, List.set_cons_zero]
      have hpl := hp.length_le
      rcases pts with h0 | ⟨pb, po, rfl, hcap, hpts⟩
      · omega
      have hpb := HPB.out pb po rfl (by omega)
      obtain ⟨p0, p1⟩ := hpts pre.length hl
      dsimp only at p0 p1
      have il : (pre.length : Int) < (n : Int) := by omega
      have hd : decide (n ≤ pre.length) = false := by simp; omega
      by_cases hx : x = L.getD pre.length (0, 0)
      · have HPX := Lib.hid (prefix_snoc hp (by have := HN.out; omega) hx)
        have HLX := Lib.hid (show ((pre ++ [x]).length : Int) = (pre.length : Int) + 1 by simp)
        rw [← hx] at p0 p1
        clear hx
        have hne : ∀ w', (binOp .neq 23 (.agg #[.int .i64 x.1, .int .i64 x.2]) (.agg #[.int .i64 x.1, .int .i64 x.2])).run Try.prog w' = .ok (.bool false) w' := fun w' => by rw [neq_pvg]; simp
        obtain ⟨y, hy⟩ : ∃ y, x = y := ⟨x, rfl⟩
        subst hy
        gi_wp2
        refine wpInR_region_grow (w := w6) (by kernel_rfl) (by kernel_rfl) (by kernel_rfl) ?_
        have c0g : ∀ gs, (grow w6 gs).cell? ⟨B, 0, none⟩ = some (.int .i64 x.1) := fun gs => bkeep gs.below c0
        have c1g : ∀ gs, (grow w6 gs).cell? ⟨B, 1, none⟩ = some (.int .i64 x.2) := fun gs => bkeep gs.below c1
        have i0g : ∀ gs, (grow w6 gs).cell? ⟨(w8.heap.size + 1), 0, none⟩ = some (.int .i64 (pre.length : Int)) := fun gs => bkeep gs.below i0
        have r0g : ∀ gs, (grow w6 gs).cell? ⟨w8.heap.size, 0, none⟩ = some (.int .i64 1) := fun gs => bkeep gs.below r0
        have s0g : ∀ gs, (grow w6 gs).cell? ⟨w.heap.size, 0, none⟩ = some (.int .i64 st) := fun gs => bkeep gs.below s0
        have a0g : ∀ gs, (grow w6 gs).cell? ⟨w2.heap.size, 0, none⟩ = some (.slice (some ⟨pb, po, none⟩) n cap) := fun gs => bkeep gs.below a0
        have resg : ∀ gs, (grow w6 gs).cell? ⟨w.heap.size + 1, 0, none⟩ = some (.bool false) := fun gs => bkeep gs.below res
        have clg : ∀ gs, (grow w6 gs).cell? ⟨w2.heap.size + 1, 0, none⟩ = some (.int .i64 m) := fun gs => bkeep gs.below cl
        have p0g : ∀ gs, (grow w6 gs).cell? ⟨pb, po + pre.length * 2, none⟩ = some (.int .i64 x.1) := fun gs => bkeep gs.below p0
        have p1g : ∀ gs, (grow w6 gs).cell? ⟨pb, po + pre.length * 2 + 1, none⟩ = some (.int .i64 x.2) := fun gs => bkeep gs.below p1
        repeat (go_big_quiet_step (fail))
        refine wpQuiet_nil ?_
        intro w7 hb7
        clear c0g
        clear c1g
        clear i0g
        clear r0g
        clear s0g
        clear a0g
        clear resg
        clear clg
        clear p0g
        clear p1g
        have c0 : w7.cell? ⟨B, 0, none⟩ = some (.int .i64 x.1) := bkeep hb7 (by first | assumption | exact cell_new (by with_reducible first | rfl | (simp; done) | (simp; omega)) rfl | (repeat (first | assumption | exact cell_new (by with_reducible first | rfl | (simp; done) | (simp; omega)) rfl | refine cell_alloc ?_ _ | refine cell_drew ?_ | refine cell_drewN ?_ _ | refine cell_far ?_ (by simp) _ | (refine cell_far ?_ (by simp <;> omega) _))) | simp [go_sem, *])
        have zc0 := cell_lt c0
        have c1 : w7.cell? ⟨B, 1, none⟩ = some (.int .i64 x.2) := bkeep hb7 (by first | assumption | exact cell_new (by with_reducible first | rfl | (simp; done) | (simp; omega)) rfl | (repeat (first | assumption | exact cell_new (by with_reducible first | rfl | (simp; done) | (simp; omega)) rfl | refine cell_alloc ?_ _ | refine cell_drew ?_ | refine cell_drewN ?_ _ | refine cell_far ?_ (by simp) _ | (refine cell_far ?_ (by simp <;> omega) _))) | simp [go_sem, *])
        have i0 : w7.cell? ⟨(w8.heap.size + 1), 0, none⟩ = some (.int .i64 (pre.length : Int)) := bkeep hb7 (by first | assumption | exact cell_new (by with_reducible first | rfl | (simp; done) | (simp; omega)) rfl | (repeat (first | assumption | exact cell_new (by with_reducible first | rfl | (simp; done) | (simp; omega)) rfl | refine cell_alloc ?_ _ | refine cell_drew ?_ | refine cell_drewN ?_ _ | refine cell_far ?_ (by simp) _ | (refine cell_far ?_ (by simp <;> omega) _))) | simp [go_sem, *])
        have zi0 := cell_lt i0
        have i0f : w7.frozen? ⟨(w8.heap.size + 1), 0, none⟩ = false := bkeepf (v := .int .i64 (pre.length : Int)) hb7 (by first | assumption | exact cell_new (by with_reducible first | rfl | (simp; done) | (simp; omega)) rfl | (repeat (first | assumption | exact cell_new (by with_reducible first | rfl | (simp; done) | (simp; omega)) rfl | refine cell_alloc ?_ _ | refine cell_drew ?_ | refine cell_drewN ?_ _ | refine cell_far ?_ (by simp) _ | (refine cell_far ?_ (by simp <;> omega) _))) | simp [go_sem, *]) (by first | assumption | (simp <;> assumption) | simp [go_sem, *])
        have r0 : w7.cell? ⟨w8.heap.size, 0, none⟩ = some (.int .i64 1) := bkeep hb7 (by first | assumption | exact cell_new (by with_reducible first | rfl | (simp; done) | (simp; omega)) rfl | (repeat (first | assumption | exact cell_new (by with_reducible first | rfl | (simp; done) | (simp; omega)) rfl | refine cell_alloc ?_ _ | refine cell_drew ?_ | refine cell_drewN ?_ _ | refine cell_far ?_ (by simp) _ | (refine cell_far ?_ (by simp <;> omega) _))) | simp [go_sem, *])
        have zr0 := cell_lt r0
        have s0 : w7.cell? ⟨w.heap.size, 0, none⟩ = some (.int .i64 st) := bkeep hb7 (by first | assumption | exact cell_new (by with_reducible first | rfl | (simp; done) | (simp; omega)) rfl | (repeat (first | assumption | exact cell_new (by with_reducible first | rfl | (simp; done) | (simp; omega)) rfl | refine cell_alloc ?_ _ | refine cell_drew ?_ | refine cell_drewN ?_ _ | refine cell_far ?_ (by simp) _ | (refine cell_far ?_ (by simp <;> omega) _))) | simp [go_sem, *])
        have zs0 := cell_lt s0
        have a0 : w7.cell? ⟨w2.heap.size, 0, none⟩ = some (.slice (some ⟨pb, po, none⟩) n cap) := bkeep hb7 (by first | assumption | exact cell_new (by with_reducible first | rfl | (simp; done) | (simp; omega)) rfl | (repeat (first | assumption | exact cell_new (by with_reducible first | rfl | (simp; done) | (simp; omega)) rfl | refine cell_alloc ?_ _ | refine cell_drew ?_ | refine cell_drewN ?_ _ | refine cell_far ?_ (by simp) _ | (refine cell_far ?_ (by simp <;> omega) _))) | simp [go_sem, *])
        have za0 := cell_lt a0
        have res : w7.cell? ⟨w.heap.size + 1, 0, none⟩ = some (.bool false) := bkeep hb7 (by first | assumption | exact cell_new (by with_reducible first | rfl | (simp; done) | (simp; omega)) rfl | (repeat (first | assumption | exact cell_new (by with_reducible first | rfl | (simp; done) | (simp; omega)) rfl | refine cell_alloc ?_ _ | refine cell_drew ?_ | refine cell_drewN ?_ _ | refine cell_far ?_ (by simp) _ | (refine cell_far ?_ (by simp <;> omega) _))) | simp [go_sem, *])
        have zres := cell_lt res
        have resf : w7.frozen? ⟨w.heap.size + 1, 0, none⟩ = false := bkeepf (v := .bool false) hb7 (by first | assumption | exact cell_new (by with_reducible first | rfl | (simp; done) | (simp; omega)) rfl | (repeat (first | assumption | exact cell_new (by with_reducible first | rfl | (simp; done) | (simp; omega)) rfl | refine cell_alloc ?_ _ | refine cell_drew ?_ | refine cell_drewN ?_ _ | refine cell_far ?_ (by simp) _ | (refine cell_far ?_ (by simp <;> omega) _))) | simp [go_sem, *]) (by first | assumption | (simp <;> assumption) | simp [go_sem, *])
        have cl : w7.cell? ⟨w2.heap.size + 1, 0, none⟩ = some (.int .i64 m) := bkeep hb7 (by first | assumption | exact cell_new (by with_reducible first | rfl | (simp; done) | (simp; omega)) rfl | (repeat (first | assumption | exact cell_new (by with_reducible first | rfl | (simp; done) | (simp; omega)) rfl | refine cell_alloc ?_ _ | refine cell_drew ?_ | refine cell_drewN ?_ _ | refine cell_far ?_ (by simp) _ | (refine cell_far ?_ (by simp <;> omega) _))) | simp [go_sem, *])
        have zcl := cell_lt cl
        have p0 : w7.cell? ⟨pb, po + pre.length * 2, none⟩ = some (.int .i64 x.1) := bkeep hb7 (by first | assumption | exact cell_new (by with_reducible first | rfl | (simp; done) | (simp; omega)) rfl | (repeat (first | assumption | exact cell_new (by with_reducible first | rfl | (simp; done) | (simp; omega)) rfl | refine cell_alloc ?_ _ | refine cell_drew ?_ | refine cell_drewN ?_ _ | refine cell_far ?_ (by simp) _ | (refine cell_far ?_ (by simp <;> omega) _))) | simp [go_sem, *])
        have zp0 := cell_lt p0
        have p1 : w7.cell? ⟨pb, po + pre.length * 2 + 1, none⟩ = some (.int .i64 x.2) := bkeep hb7 (by first | assumption | exact cell_new (by with_reducible first | rfl | (simp; done) | (simp; omega)) rfl | (repeat (first | assumption | exact cell_new (by with_reducible first | rfl | (simp; done) | (simp; omega)) rfl | refine cell_alloc ?_ _ | refine cell_drew ?_ | refine cell_drewN ?_ _ | refine cell_far ?_ (by simp) _ | (refine cell_far ?_ (by simp <;> omega) _))) | simp [go_sem, *])
        have hB : Below w.heap.size w w7 := bthen (by repeat (first | exact Below.refl _ _ | exact hB | refine Below.drew ?_ | refine below_drewN ?_ _ | refine bset ?_ (by simp <;> omega) _ | refine bal ?_ _)) hb7
        have hz : w.heap.size ≤ w7.heap.size := hB.size
        gi_wp2
        refine ⟨kf_set (kf_below (KeepsFrom.refl _ _) hb7) _ _, ((Below.refl _ w6).trans (hb7.mono (by omega))).setCell (by simp <;> omega) _, ⟨HPX.out, ?_⟩, (Below.heap_setCell _ _ _ _ (by simp <;> omega)).trans ((hb7.block D0 (Array.getElem?_eq_some_iff.1 hD1).1).trans hD1)⟩
        rw [HLX.out]
        exact ⟨cell_here i0 _, by rw [World.frozen?_setCell]; exact i0f, cell_far r0 (ne_blk (by omega)) _, cell_far s0 (ne_blk (by omega)) _, cell_far a0 (ne_blk (by omega)) _, cell_far res (ne_blk (by omega)) _, by rw [World.frozen?_setCell]; exact resf, cell_far cl (ne_blk (by omega)) _, .inr ⟨pb, po, rfl, hcap, fun k hk => ⟨cell_far (bkeep hb7 (hpts k hk).1) (ne_blk (by omega)) _, cell_far (bkeep hb7 (hpts k hk).2) (ne_blk (by omega)) _⟩⟩, bset hB (by simp <;> omega) _, by have := hb7.size; simp <;> omega⟩
      · have hne : ∀ w', (binOp .neq 23 (.agg #[.int .i64 x.1, .int .i64 x.2]) (.agg #[.int .i64 (L.getD pre.length (0, 0)).1, .int .i64 (L.getD pre.length (0, 0)).2])).run Try.prog w' = .ok (.bool true) w' := fun w' => by
          rw [neq_pvg]; congr 2
          rw [Bool.not_eq_true', Bool.eq_false_iff]; simp only [ne_eq, Bool.and_eq_true, beq_iff_eq]; exact fun k => hx (Prod.ext k.1 k.2)
        have hnp := prefix_snoc_no (x := x) (by have := HN.out; omega : pre.length < L.length) hx
        generalize L.getD pre.length (0, 0) = y at *
        gi_wp2
        refine wpInR_region_grow (w := w6) (by kernel_rfl) (by kernel_rfl) (by kernel_rfl) ?_
        have c0g : ∀ gs, (grow w6 gs).cell? ⟨B, 0, none⟩ = some (.int .i64 x.1) := fun gs => bkeep gs.below c0
        have c1g : ∀ gs, (grow w6 gs).cell? ⟨B, 1, none⟩ = some (.int .i64 x.2) := fun gs => bkeep gs.below c1
        have i0g : ∀ gs, (grow w6 gs).cell? ⟨(w8.heap.size + 1), 0, none⟩ = some (.int .i64 (pre.length : Int)) := fun gs => bkeep gs.below i0
        have r0g : ∀ gs, (grow w6 gs).cell? ⟨w8.heap.size, 0, none⟩ = some (.int .i64 1) := fun gs => bkeep gs.below r0
        have s0g : ∀ gs, (grow w6 gs).cell? ⟨w.heap.size, 0, none⟩ = some (.int .i64 st) := fun gs => bkeep gs.below s0
        have a0g : ∀ gs, (grow w6 gs).cell? ⟨w2.heap.size, 0, none⟩ = some (.slice (some ⟨pb, po, none⟩) n cap) := fun gs => bkeep gs.below a0
        have resg : ∀ gs, (grow w6 gs).cell? ⟨w.heap.size + 1, 0, none⟩ = some (.bool false) := fun gs => bkeep gs.below res
        have clg : ∀ gs, (grow w6 gs).cell? ⟨w2.heap.size + 1, 0, none⟩ = some (.int .i64 m) := fun gs => bkeep gs.below cl
        have p0g : ∀ gs, (grow w6 gs).cell? ⟨pb, po + pre.length * 2, none⟩ = some (.int .i64 y.1) := fun gs => bkeep gs.below p0
        have p1g : ∀ gs, (grow w6 gs).cell? ⟨pb, po + pre.length * 2 + 1, none⟩ = some (.int .i64 y.2) := fun gs => bkeep gs.below p1
        repeat (go_big_quiet_step (fail))
        refine wpQuiet_nil ?_
        intro w7 hb7
        clear c0g
        clear c1g
        clear i0g
        clear r0g
        clear s0g
        clear a0g
        clear resg
        clear clg
        clear p0g
        clear p1g
        have c0 : w7.cell? ⟨B, 0, none⟩ = some (.int .i64 x.1) := bkeep hb7 (by first | assumption | exact cell_new (by with_reducible first | rfl | (simp; done) | (simp; omega)) rfl | (repeat (first | assumption | exact cell_new (by with_reducible first | rfl | (simp; done) | (simp; omega)) rfl | refine cell_alloc ?_ _ | refine cell_drew ?_ | refine cell_drewN ?_ _ | refine cell_far ?_ (by simp) _ | (refine cell_far ?_ (by simp <;> omega) _))) | simp [go_sem, *])
        have zc0 := cell_lt c0
        have c1 : w7.cell? ⟨B, 1, none⟩ = some (.int .i64 x.2) := bkeep hb7 (by first | assumption | exact cell_new (by with_reducible first | rfl | (simp; done) | (simp; omega)) rfl | (repeat (first | assumption | exact cell_new (by with_reducible first | rfl | (simp; done) | (simp; omega)) rfl | refine cell_alloc ?_ _ | refine cell_drew ?_ | refine cell_drewN ?_ _ | refine cell_far ?_ (by simp) _ | (refine cell_far ?_ (by simp <;> omega) _))) | simp [go_sem, *])
        have i0 : w7.cell? ⟨(w8.heap.size + 1), 0, none⟩ = some (.int .i64 (pre.length : Int)) := bkeep hb7 (by first | assumption | exact cell_new (by with_reducible first | rfl | (simp; done) | (simp; omega)) rfl | (repeat (first | assumption | exact cell_new (by with_reducible first | rfl | (simp; done) | (simp; omega)) rfl | refine cell_alloc ?_ _ | refine cell_drew ?_ | refine cell_drewN ?_ _ | refine cell_far ?_ (by simp) _ | (refine cell_far ?_ (by simp <;> omega) _))) | simp [go_sem, *])
        have zi0 := cell_lt i0
        have i0f : w7.frozen? ⟨(w8.heap.size + 1), 0, none⟩ = false := bkeepf (v := .int .i64 (pre.length : Int)) hb7 (by first | assumption | exact cell_new (by with_reducible first | rfl | (simp; done) | (simp; omega)) rfl | (repeat (first | assumption | exact cell_new (by with_reducible first | rfl | (simp; done) | (simp; omega)) rfl | refine cell_alloc ?_ _ | refine cell_drew ?_ | refine cell_drewN ?_ _ | refine cell_far ?_ (by simp) _ | (refine cell_far ?_ (by simp <;> omega) _))) | simp [go_sem, *]) (by first | assumption | (simp <;> assumption) | simp [go_sem, *])
        have r0 : w7.cell? ⟨w8.heap.size, 0, none⟩ = some (.int .i64 1) := bkeep hb7 (by first | assumption | exact cell_new (by with_reducible first | rfl | (simp; done) | (simp; omega)) rfl | (repeat (first | assumption | exact cell_new (by with_reducible first | rfl | (simp; done) | (simp; omega)) rfl | refine cell_alloc ?_ _ | refine cell_drew ?_ | refine cell_drewN ?_ _ | refine cell_far ?_ (by simp) _ | (refine cell_far ?_ (by simp <;> omega) _))) | simp [go_sem, *])
        have zr0 := cell_lt r0
        have s0 : w7.cell? ⟨w.heap.size, 0, none⟩ = some (.int .i64 st) := bkeep hb7 (by first | assumption | exact cell_new (by with_reducible first | rfl | (simp; done) | (simp; omega)) rfl | (repeat (first | assumption | exact cell_new (by with_reducible first | rfl | (simp; done) | (simp; omega)) rfl | refine cell_alloc ?_ _ | refine cell_drew ?_ | refine cell_drewN ?_ _ | refine cell_far ?_ (by simp) _ | (refine cell_far ?_ (by simp <;> omega) _))) | simp [go_sem, *])
        have zs0 := cell_lt s0
        have a0 : w7.cell? ⟨w2.heap.size, 0, none⟩ = some (.slice (some ⟨pb, po, none⟩) n cap) := bkeep hb7 (by first | assumption | exact cell_new (by with_reducible first | rfl | (simp; done) | (simp; omega)) rfl | (repeat (first | assumption | exact cell_new (by with_reducible first | rfl | (simp; done) | (simp; omega)) rfl | refine cell_alloc ?_ _ | refine cell_drew ?_ | refine cell_drewN ?_ _ | refine cell_far ?_ (by simp) _ | (refine cell_far ?_ (by simp <;> omega) _))) | simp [go_sem, *])
        have za0 := cell_lt a0
        have res : w7.cell? ⟨w.heap.size + 1, 0, none⟩ = some (.bool false) := bkeep hb7 (by first | assumption | exact cell_new (by with_reducible first | rfl | (simp; done) | (simp; omega)) rfl | (repeat (first | assumption | exact cell_new (by with_reducible first | rfl | (simp; done) | (simp; omega)) rfl | refine cell_alloc ?_ _ | refine cell_drew ?_ | refine cell_drewN ?_ _ | refine cell_far ?_ (by simp) _ | (refine cell_far ?_ (by simp <;> omega) _))) | simp [go_sem, *])
        have zres := cell_lt res
        have resf : w7.frozen? ⟨w.heap.size + 1, 0, none⟩ = false := bkeepf (v := .bool false) hb7 (by first | assumption | exact cell_new (by with_reducible first | rfl | (simp; done) | (simp; omega)) rfl | (repeat (first | assumption | exact cell_new (by with_reducible first | rfl | (simp; done) | (simp; omega)) rfl | refine cell_alloc ?_ _ | refine cell_drew ?_ | refine cell_drewN ?_ _ | refine cell_far ?_ (by simp) _ | (refine cell_far ?_ (by simp <;> omega) _))) | simp [go_sem, *]) (by first | assumption | (simp <;> assumption) | simp [go_sem, *])
        have cl : w7.cell? ⟨w2.heap.size + 1, 0, none⟩ = some (.int .i64 m) := bkeep hb7 (by first | assumption | exact cell_new (by with_reducible first | rfl | (simp; done) | (simp; omega)) rfl | (repeat (first | assumption | exact cell_new (by with_reducible first | rfl | (simp; done) | (simp; omega)) rfl | refine cell_alloc ?_ _ | refine cell_drew ?_ | refine cell_drewN ?_ _ | refine cell_far ?_ (by simp) _ | (refine cell_far ?_ (by simp <;> omega) _))) | simp [go_sem, *])
        have zcl := cell_lt cl
        have p0 : w7.cell? ⟨pb, po + pre.length * 2, none⟩ = some (.int .i64 y.1) := bkeep hb7 (by first | assumption | exact cell_new (by with_reducible first | rfl | (simp; done) | (simp; omega)) rfl | (repeat (first | assumption | exact cell_new (by with_reducible first | rfl | (simp; done) | (simp; omega)) rfl | refine cell_alloc ?_ _ | refine cell_drew ?_ | refine cell_drewN ?_ _ | refine cell_far ?_ (by simp) _ | (refine cell_far ?_ (by simp <;> omega) _))) | simp [go_sem, *])
        have zp0 := cell_lt p0
        have p1 : w7.cell? ⟨pb, po + pre.length * 2 + 1, none⟩ = some (.int .i64 y.2) := bkeep hb7 (by first | assumption | exact cell_new (by with_reducible first | rfl | (simp; done) | (simp; omega)) rfl | (repeat (first | assumption | exact cell_new (by with_reducible first | rfl | (simp; done) | (simp; omega)) rfl | refine cell_alloc ?_ _ | refine cell_drew ?_ | refine cell_drewN ?_ _ | refine cell_far ?_ (by simp) _ | (refine cell_far ?_ (by simp <;> omega) _))) | simp [go_sem, *])
        have hB : Below w.heap.size w w7 := bthen (by repeat (first | exact Below.refl _ _ | exact hB | refine Below.drew ?_ | refine below_drewN ?_ _ | refine bset ?_ (by simp <;> omega) _ | refine bal ?_ _)) hb7
        have hz : w.heap.size ≤ w7.heap.size := hB.size
        gi_wp2
        exact ⟨kf_set (kf_below (KeepsFrom.refl _ _) hb7) _ _, hnp, by have := hb7.size; simp <;> omega⟩
    case done1 =>
      rintro D1 w10 hDs ⟨⟨_, hi⟩, hD1⟩ hK1
      obtain ⟨i0, i0f, r0, s0, a0, res, resf, cl, pts, hB, size⟩ := hi
      rw [HN.out] at i0
      have hy0 := cell_lt r0
      have hy1 := cell_lt s0
      have hy2 := cell_lt a0
      have hy3 := cell_lt res
      have hy4 := cell_lt i0
      go_wp2
      rw [rounds_succ]
      go_wp2
      have hsz10 := (Array.getElem?_eq_some_iff.1 hK1).1
      refine ⟨by simp, .inl ⟨_, _, rfl, run_takeDeferred (b := D1) (ds := []) ?_, by simp, .inl ⟨_, _, rfl, run_takeDeferred (b := D0) (ds := []) ?_, ?_⟩⟩⟩
      · exact (Below.heap_alloc _ _ D1 (by simp; omega)).trans ((Below.heap_setCell _ _ _ D1 (by simp; omega)).trans hK1)
      · exact (put_other _ (by omega)).trans ((Below.heap_alloc _ _ D0 (by simp; omega)).trans ((Below.heap_setCell _ _ _ D0 (by simp; omega)).trans hD1))
      · have hfin := cell_put (D := D0) (cell_put (D := D1) (cell_alloc (cell_here res (.bool true)) (.cells #[.int .i64 2] 3)) (by simp; omega) (.deferred none)) (by simp; omega) (.deferred none)
        refine ⟨.bool true, ?_, rfl, b_put (b_put (bal (bset hB (by simp) _) _) (by omega) _) (by omega) _⟩
        simp [results, Try.results6, go_sem, hfin]
    case stop1 =>
      rintro D c pre W hDs hp ⟨hn', _⟩ hK
      exact absurd hp hn'
    · exact fun pre W W' h s => ⟨⟨h.1.1, h.1.2.soft (by omega) s⟩, (s.below.block D0 (by omega)).trans h.2⟩
    · exact fun c pre W W' h s => ⟨h.1, Nat.le_trans h.2 s.below.size⟩
    · exact fun pre W h => h.1.2.size
    · exact fun c pre W h => h.2
    · exact ⟨⟨List.nil_prefix, hIw9⟩, hDw9⟩
    · rintro x a' W W' ⟨B, h1, c0, c1, rfl⟩ s; exact ⟨B, h1, s.cell c0, s.cell c1, rfl⟩
    · rintro x a' W ⟨B, h1, c0, c1, rfl⟩; have := cell_lt c0; omega
  case stop0 =>
    rintro D0 c pre w8 hDs hp (⟨_, hn', _⟩ | ⟨rfl, hks, hi⟩) hK0
    · exact absurd hp hn'
    obtain ⟨i0, i0f, r0, s0, a0, res, resf, cl, pts, hB, size⟩ := hi
    by_cases hsn : st = (n : Int)
    · rw [hks, hsn] at i0
      clear hks hsn
      go_wp2
      rw [rounds_succ]
      go_wp2
      refine wp_name fun w9 hW9 => ?_
      have hz0 := cell_lt r0
      have hz1 := cell_lt s0
      have hz2 := cell_lt a0
      have hz3 := cell_lt cl
      have hIw9 : AllInv w w8.heap.size (w8.heap.size + 1) w2.heap.size w9.heap.size 1 st m av n cap L 0 w9 := by
        rw [hW9]
        have hb : Below w8.heap.size w8 ((w8.alloc (.cells #[.int .i64 1] 3)).alloc (.cells #[.int .i64 0] 3)) := bal (bal (Below.refl _ _) _) _
        exact ⟨cell_new (by simp) rfl, by rw [World.frozen?_alloc_at (hn := by simp)], cell_alloc (cell_new rfl rfl) _, bkeep hb s0, bkeep hb a0, bkeep hb res, bkeepf hb res resf, bkeep hb cl, pts.keep hb, bthen hB hb, Nat.le_refl _⟩
      have hDw9 : w9.heap[D0]? = some (.deferred (some [])) := by
        have hb : Below w8.heap.size w8 ((w8.alloc (.cells #[.int .i64 1] 3)).alloc (.cells #[.int .i64 0] 3)) := bal (bal (Below.refl _ _) _) _
        rw [hW9]; exact (hb.block D0 (Array.getElem?_eq_some_iff.1 hK0).1).trans hK0
      have hs9 : w9.heap.size = w8.heap.size + 2 := by rw [hW9]; simp
      have hDl := (Array.getElem?_eq_some_iff.1 hK0).1
      clear hW9 i0 i0f r0 s0 a0 res resf cl pts
      refine wp_range (gf := 36) (lb := #[.pointer (some ⟨w2.heap.size + 1, 0, none⟩)]) (w0 := w9) (L := L) (N := n) (n0 := w8.heap.size) (by simp [Act.eval]) (enters_of Try.func36 (by kernel_rfl) rfl)
        (encs := fun x : Int × Int => #[.agg #[.int .i64 x.1, .int .i64 x.2]]) (by have e := all1_stops (w8.heap.size) (w2.heap.size + 1) n 8 m w9 (by omega) (by omega) hIw9.cl (by rw [HL.out, HN.out]; omega); rw [HL.out] at e; exact e) (Below.refl _ _) (by omega) (fun _ => rfl)
        (fun pre W => (pre <+: L ∧ AllInv w w8.heap.size (w8.heap.size + 1) w2.heap.size w9.heap.size 1 st m av n cap L pre.length W) ∧ W.heap[D0]? = some (.deferred (some [])))
        (fun c pre W => (¬ pre <+: L) ∧ w9.heap.size ≤ W.heap.size)
        ?_ ?_ ?_ ?_ ?_
        (fun T x a' W => ∃ B, w9.heap.size ≤ B ∧ W.cell? ⟨B, 0, none⟩ = some (.int .i64 x.1) ∧ W.cell? ⟨B, 1, none⟩ = some (.int .i64 x.2) ∧ a' = { tmps := (T.setIfInBounds 27 (.agg #[.int .i64 x.1, .int .i64 x.2])).setIfInBounds 9 (.pointer (some ⟨B, 0, none⟩)), defers := [] })
        ?_ ?_ ?assign1 ?body1 ?done1 ?stop1
      case assign1 =>
        rintro l pre x W K ⟨⟨hp, hi⟩, hD1⟩ hK
        gi_wp2
        refine hK _ _ (kf_alloc (KeepsFrom.refl _ _) _) ((Below.refl _ _).alloc (by have := hi.size; omega) _) ⟨⟨hp, ?_⟩, ?_⟩ ⟨W.heap.size, hi.size, cell_new rfl rfl, cell_new rfl rfl, by simp⟩
        · exact hi.keep (bal (Below.refl _ _) _)
        · exact (Below.heap_alloc _ _ _ (Array.getElem?_eq_some_iff.1 hD1).1).trans hD1
      case body1 =>
        rintro l pre x a' w6 ⟨⟨hp, hi⟩, hD1⟩ ⟨B, hBs, c0, c1, rfl⟩ hl
        obtain ⟨i0, i0f, r0, s0, a0, res, resf, cl, pts, hB, size⟩ := hi
        simp only [List.setIfInBounds_toArray, List.set_cons_succ, List.set_cons_zero]
        have hpl := hp.length_le
        rcases pts with h0 | ⟨pb, po, rfl, hcap, hpts⟩
        · omega
        have hpb := HPB.out pb po rfl (by omega)
        obtain ⟨p0, p1⟩ := hpts pre.length hl
        dsimp only at p0 p1
        have il : (pre.length : Int) < (n : Int) := by omega
        have hd : decide (n ≤ pre.length) = false := by simp; omega
        by_cases hx : x = L.getD pre.length (0, 0)
        · have HPX := Lib.hid (prefix_snoc hp (by have := HN.out; omega) hx)
          have HLX := Lib.hid (show ((pre ++ [x]).length : Int) = (pre.length : Int) + 1 by simp)
          rw [← hx] at p0 p1
          clear hx
          have hne : ∀ w', (binOp .neq 23 (.agg #[.int .i64 x.1, .int .i64 x.2]) (.agg #[.int .i64 x.1, .int .i64 x.2])).run Try.prog w' = .ok (.bool false) w' := fun w' => by rw [neq_pvg]; simp
          obtain ⟨y, hy⟩ : ∃ y, x = y := ⟨x, rfl⟩
          subst hy
          gi_wp2
          refine wpInR_region_grow (w := w6) (by kernel_rfl) (by kernel_rfl) (by kernel_rfl) ?_
          have c0g : ∀ gs, (grow w6 gs).cell? ⟨B, 0, none⟩ = some (.int .i64 x.1) := fun gs => bkeep gs.below c0
          have c1g : ∀ gs, (grow w6 gs).cell? ⟨B, 1, none⟩ = some (.int .i64 x.2) := fun gs => bkeep gs.below c1
          have i0g : ∀ gs, (grow w6 gs).cell? ⟨(w8.heap.size + 1), 0, none⟩ = some (.int .i64 (pre.length : Int)) := fun gs => bkeep gs.below i0
          have r0g : ∀ gs, (grow w6 gs).cell? ⟨w8.heap.size, 0, none⟩ = some (.int .i64 1) := fun gs => bkeep gs.below r0
          have s0g : ∀ gs, (grow w6 gs).cell? ⟨w.heap.size, 0, none⟩ = some (.int .i64 st) := fun gs => bkeep gs.below s0
          have a0g : ∀ gs, (grow w6 gs).cell? ⟨w2.heap.size, 0, none⟩ = some (.slice (some ⟨pb, po, none⟩) n cap) := fun gs => bkeep gs.below a0
          have resg : ∀ gs, (grow w6 gs).cell? ⟨w.heap.size + 1, 0, none⟩ = some (.bool false) := fun gs => bkeep gs.below res
          have clg : ∀ gs, (grow w6 gs).cell? ⟨w2.heap.size + 1, 0, none⟩ = some (.int .i64 m) := fun gs => bkeep gs.below cl
          have p0g : ∀ gs, (grow w6 gs).cell? ⟨pb, po + pre.length * 2, none⟩ = some (.int .i64 x.1) := fun gs => bkeep gs.below p0
          have p1g : ∀ gs, (grow w6 gs).cell? ⟨pb, po + pre.length * 2 + 1, none⟩ = some (.int .i64 x.2) := fun gs => bkeep gs.below p1
          repeat (go_big_quiet_step (fail))
          refine wpQuiet_nil ?_
          intro w7 hb7
          clear c0g
          clear c1g
          clear i0g
          clear r0g
          clear s0g
          clear a0g
          clear resg
          clear clg
          clear p0g
          clear p1g
          have c0 : w7.cell? ⟨B, 0, none⟩ = some (.int .i64 x.1) := bkeep hb7 (by first | assumption | exact cell_new (by with_reducible first | rfl | (simp; done) | (simp; omega)) rfl | (repeat (first | assumption | exact cell_new (by with_reducible first | rfl | (simp; done) | (simp; omega)) rfl | refine cell_alloc ?_ _ | refine cell_drew ?_ | refine cell_drewN ?_ _ | refine cell_far ?_ (by simp) _ | (refine cell_far ?_ (by simp <;> omega) _))) | simp [go_sem, *])
          have zc0 := cell_lt c0
          have c1 : w7.cell? ⟨B, 1, none⟩ = some (.int .i64 x.2) := bkeep hb7 (by first | assumption | exact cell_new (by with_reducible first | rfl | (simp; done) | (simp; omega)) rfl | (repeat (first | assumption | exact cell_new (by with_reducible first | rfl | (simp; done) | (simp; omega)) rfl | refine cell_alloc ?_ _ | refine cell_drew ?_ | refine cell_drewN ?_ _ | refine cell_far ?_ (by simp) _ | (refine cell_far ?_ (by simp <;> omega) _))) | simp [go_sem, *])
          have i0 : w7.cell? ⟨(w8.heap.size + 1), 0, none⟩ = some (.int .i64 (pre.length : Int)) := bkeep hb7 (by first | assumption | exact cell_new (by with_reducible first | rfl | (simp; done) | (simp; omega)) rfl | (repeat (first | assumption | exact cell_new (by with_reducible first | rfl | (simp; done) | (simp; omega)) rfl | refine cell_alloc ?_ _ | refine cell_drew ?_ | refine cell_drewN ?_ _ | refine cell_far ?_ (by simp) _ | (refine cell_far ?_ (by simp <;> omega) _))) | simp [go_sem, *])
          have zi0 := cell_lt i0
          have i0f : w7.frozen? ⟨(w8.heap.size + 1), 0, none⟩ = false := bkeepf (v := .int .i64 (pre.length : Int)) hb7 (by first | assumption | exact cell_new (by with_reducible first | rfl | (simp; done) | (simp; omega)) rfl | (repeat (first | assumption | exact cell_new (by with_reducible first | rfl | (simp; done) | (simp; omega)) rfl | refine cell_alloc ?_ _ | refine cell_drew ?_ | refine cell_drewN ?_ _ | refine cell_far ?_ (by simp) _ | (refine cell_far ?_ (by simp <;> omega) _))) | simp [go_sem, *]) (by first | assumption | (simp <;> assumption) | simp [go_sem, *])
          have r0 : w7.cell? ⟨w8.heap.size, 0, none⟩ = some (.int .i64 1) := bkeep hb7 (by first | assumption | exact cell_new (by with_reducible first | rfl | (simp; done) | (simp; omega)) rfl | (repeat (first | assumption | exact cell_new (by with_reducible first | rfl | (simp; done) | (simp; omega)) rfl | refine cell_alloc ?_ _ | refine cell_drew ?_ | refine cell_drewN ?_ _ | refine cell_far ?_ (by simp) _ | (refine cell_far ?_ (by simp <;> omega) _))) | simp [go_sem, *])
          have zr0 := cell_lt r0
          have s0 : w7.cell? ⟨w.heap.size, 0, none⟩ = some (.int .i64 st) := bkeep hb7 (by first | assumption | exact cell_new (by with_reducible first | rfl | (simp; done) | (simp; omega)) rfl | (repeat (first | assumption | exact cell_new (by with_reducible first | rfl | (simp; done) | (simp; omega)) rfl | refine cell_alloc ?_ _ | refine cell_drew ?_ | refine cell_drewN ?_ _ | refine cell_far ?_ (by simp) _ | (refine cell_far ?_ (by simp <;> omega) _))) | simp [go_sem, *])
          have zs0 := cell_lt s0
          have a0 : w7.cell? ⟨w2.heap.size, 0, none⟩ = some (.slice (some ⟨pb, po, none⟩) n cap) := bkeep hb7 (by first | assumption | exact cell_new (by with_reducible first | rfl | (simp; done) | (simp; omega)) rfl | (repeat (first | assumption | exact cell_new (by with_reducible first | rfl | (simp; done) | (simp; omega)) rfl | refine cell_alloc ?_ _ | refine cell_drew ?_ | refine cell_drewN ?_ _ | refine cell_far ?_ (by simp) _ | (refine cell_far ?_ (by simp <;> omega) _))) | simp [go_sem, *])
          have za0 := cell_lt a0
          have res : w7.cell? ⟨w.heap.size + 1, 0, none⟩ = some (.bool false) := bkeep hb7 (by first | assumption | exact cell_new (by with_reducible first | rfl | (simp; done) | (simp; omega)) rfl | (repeat (first | assumption | exact cell_new (by with_reducible first | rfl | (simp; done) | (simp; omega)) rfl | refine cell_alloc ?_ _ | refine cell_drew ?_ | refine cell_drewN ?_ _ | refine cell_far ?_ (by simp) _ | (refine cell_far ?_ (by simp <;> omega) _))) | simp [go_sem, *])
          have zres := cell_lt res
          have resf : w7.frozen? ⟨w.heap.size + 1, 0, none⟩ = false := bkeepf (v := .bool false) hb7 (by first | assumption | exact cell_new (by with_reducible first | rfl | (simp; done) | (simp; omega)) rfl | (repeat (first | assumption | exact cell_new (by with_reducible first | rfl | (simp; done) | (simp; omega)) rfl | refine cell_alloc ?_ _ | refine cell_drew ?_ | refine cell_drewN ?_ _ | refine cell_far ?_ (by simp) _ | (refine cell_far ?_ (by simp <;> omega) _))) | simp [go_sem, *]) (by first | assumption | (simp <;> assumption) | simp [go_sem, *])
          have cl : w7.cell? ⟨w2.heap.size + 1, 0, none⟩ = some (.int .i64 m) := bkeep hb7 (by first | assumption | exact cell_new (by with_reducible first | rfl | (simp; done) | (simp; omega)) rfl | (repeat (first | assumption | exact cell_new (by with_reducible first | rfl | (simp; done) | (simp; omega)) rfl | refine cell_alloc ?_ _ | refine cell_drew ?_ | refine cell_drewN ?_ _ | refine cell_far ?_ (by simp) _ | (refine cell_far ?_ (by simp <;> omega) _))) | simp [go_sem, *])
          have zcl := cell_lt cl
          have p0 : w7.cell? ⟨pb, po + pre.length * 2, none⟩ = some (.int .i64 x.1) := bkeep hb7 (by first | assumption | exact cell_new (by with_reducible first | rfl | (simp; done) | (simp; omega)) rfl | (repeat (first | assumption | exact cell_new (by with_reducible first | rfl | (simp; done) | (simp; omega)) rfl | refine cell_alloc ?_ _ | refine cell_drew ?_ | refine cell_drewN ?_ _ | refine cell_far ?_ (by simp) _ | (refine cell_far ?_ (by simp <;> omega) _))) | simp [go_sem, *])
          have zp0 := cell_lt p0
          have p1 : w7.cell? ⟨pb, po + pre.length * 2 + 1, none⟩ = some (.int .i64 x.2) := bkeep hb7 (by first | assumption | exact cell_new (by with_reducible first | rfl | (simp; done) | (simp; omega)) rfl | (repeat (first | assumption | exact cell_new (by with_reducible first | rfl | (simp; done) | (simp; omega)) rfl | refine cell_alloc ?_ _ | refine cell_drew ?_ | refine cell_drewN ?_ _ | refine cell_far ?_ (by simp) _ | (refine cell_far ?_ (by simp <;> omega) _))) | simp [go_sem, *])
          have hB : Below w.heap.size w w7 := bthen (by repeat (first | exact Below.refl _ _ | exact hB | refine Below.drew ?_ | refine below_drewN ?_ _ | refine bset ?_ (by simp <;> omega) _ | refine bal ?_ _)) hb7
          have hz : w.heap.size ≤ w7.heap.size := hB.size
          gi_wp2
          refine ⟨kf_set (kf_below (KeepsFrom.refl _ _) hb7) _ _, ((Below.refl _ w6).trans (hb7.mono (by omega))).setCell (by simp <;> omega) _, ⟨HPX.out, ?_⟩, (Below.heap_setCell _ _ _ _ (by simp <;> omega)).trans ((hb7.block D0 (Array.getElem?_eq_some_iff.1 hD1).1).trans hD1)⟩
          rw [HLX.out]
          exact ⟨cell_here i0 _, by rw [World.frozen?_setCell]; exact i0f, cell_far r0 (ne_blk (by omega)) _, cell_far s0 (ne_blk (by omega)) _, cell_far a0 (ne_blk (by omega)) _, cell_far res (ne_blk (by omega)) _, by rw [World.frozen?_setCell]; exact resf, cell_far cl (ne_blk (by omega)) _, .inr ⟨pb, po, rfl, hcap, fun k hk => ⟨cell_far (bkeep hb7 (hpts k hk).1) (ne_blk (by omega)) _, cell_far (bkeep hb7 (hpts k hk).2) (ne_blk (by omega)) _⟩⟩, bset hB (by simp <;> omega) _, by have := hb7.size; simp <;> omega⟩
        · have hne : ∀ w', (binOp .neq 23 (.agg #[.int .i64 x.1, .int .i64 x.2]) (.agg #[.int .i64 (L.getD pre.length (0, 0)).1, .int .i64 (L.getD pre.length (0, 0)).2])).run Try.prog w' = .ok (.bool true) w' := fun w' => by
            rw [neq_pvg]; congr 2
            rw [Bool.not_eq_true', Bool.eq_false_iff]; simp only [ne_eq, Bool.and_eq_true, beq_iff_eq]; exact fun k => hx (Prod.ext k.1 k.2)
          have hnp := prefix_snoc_no (x := x) (by have := HN.out; omega : pre.length < L.length) hx
          generalize L.getD pre.length (0, 0) = y at *
          gi_wp2
          refine wpInR_region_grow (w := w6) (by kernel_rfl) (by kernel_rfl) (by kernel_rfl) ?_
          have c0g : ∀ gs, (grow w6 gs).cell? ⟨B, 0, none⟩ = some (.int .i64 x.1) := fun gs => bkeep gs.below c0
          have c1g : ∀ gs, (grow w6 gs).cell? ⟨B, 1, none⟩ = some (.int .i64 x.2) := fun gs => bkeep gs.below c1
          have i0g : ∀ gs, (grow w6 gs).cell? ⟨(w8.heap.size + 1), 0, none⟩ = some (.int .i64 (pre.length : Int)) := fun gs => bkeep gs.below i0
          have r0g : ∀ gs, (grow w6 gs).cell? ⟨w8.heap.size, 0, none⟩ = some (.int .i64 1) := fun gs => bkeep gs.below r0
          have s0g : ∀ gs, (grow w6 gs).cell? ⟨w.heap.size, 0, none⟩ = some (.int .i64 st) := fun gs => bkeep gs.below s0
          have a0g : ∀ gs, (grow w6 gs).cell? ⟨w2.heap.size, 0, none⟩ = some (.slice (some ⟨pb, po, none⟩) n cap) := fun gs => bkeep gs.below a0
          have resg : ∀ gs, (grow w6 gs).cell? ⟨w.heap.size + 1, 0, none⟩ = some (.bool false) := fun gs => bkeep gs.below res
          have clg : ∀ gs, (grow w6 gs).cell? ⟨w2.heap.size + 1, 0, none⟩ = some (.int .i64 m) := fun gs => bkeep gs.below cl
          have p0g : ∀ gs, (grow w6 gs).cell? ⟨pb, po + pre.length * 2, none⟩ = some (.int .i64 y.1) := fun gs => bkeep gs.below p0
          have p1g : ∀ gs, (grow w6 gs).cell? ⟨pb, po + pre.length * 2 + 1, none⟩ = some (.int .i64 y.2) := fun gs => bkeep gs.below p1
          repeat (go_big_quiet_step (fail))
          refine wpQuiet_nil ?_
          intro w7 hb7
          clear c0g
          clear c1g
          clear i0g
          clear r0g
          clear s0g
          clear a0g
          clear resg
          clear clg
          clear p0g
          clear p1g
          have c0 : w7.cell? ⟨B, 0, none⟩ = some (.int .i64 x.1) := bkeep hb7 (by first | assumption | exact cell_new (by with_reducible first | rfl | (simp; done) | (simp; omega)) rfl | (repeat (first | assumption | exact cell_new (by with_reducible first | rfl | (simp; done) | (simp; omega)) rfl | refine cell_alloc ?_ _ | refine cell_drew ?_ | refine cell_drewN ?_ _ | refine cell_far ?_ (by simp) _ | (refine cell_far ?_ (by simp <;> omega) _))) | simp [go_sem, *])
          have zc0 := cell_lt c0
          have c1 : w7.cell? ⟨B, 1, none⟩ = some (.int .i64 x.2) := bkeep hb7 (by first | assumption | exact cell_new (by with_reducible first | rfl | (simp; done) | (simp; omega)) rfl | (repeat (first | assumption | exact cell_new (by with_reducible first | rfl | (simp; done) | (simp; omega)) rfl | refine cell_alloc ?_ _ | refine cell_drew ?_ | refine cell_drewN ?_ _ | refine cell_far ?_ (by simp) _ | (refine cell_far ?_ (by simp <;> omega) _))) | simp [go_sem, *])
          have i0 : w7.cell? ⟨(w8.heap.size + 1), 0, none⟩ = some (.int .i64 (pre.length : Int)) := bkeep hb7 (by first | assumption | exact cell_new (by with_reducible first | rfl | (simp; done) | (simp; omega)) rfl | (repeat (first | assumption | exact cell_new (by with_reducible first | rfl | (simp; done) | (simp; omega)) rfl | refine cell_alloc ?_ _ | refine cell_drew ?_ | refine cell_drewN ?_ _ | refine cell_far ?_ (by simp) _ | (refine cell_far ?_ (by simp <;> omega) _))) | simp [go_sem, *])
          have zi0 := cell_lt i0
          have i0f : w7.frozen? ⟨(w8.heap.size + 1), 0, none⟩ = false := bkeepf (v := .int .i64 (pre.length : Int)) hb7 (by first | assumption | exact cell_new (by with_reducible first | rfl | (simp; done) | (simp; omega)) rfl | (repeat (first | assumption | exact cell_new (by with_reducible first | rfl | (simp; done) | (simp; omega)) rfl | refine cell_alloc ?_ _ | refine cell_drew ?_ | refine cell_drewN ?_ _ | refine cell_far ?_ (by simp) _ | (refine cell_far ?_ (by simp <;> omega) _))) | simp [go_sem, *]) (by first | assumption | (simp <;> assumption) | simp [go_sem, *])
          have r0 : w7.cell? ⟨w8.heap.size, 0, none⟩ = some (.int .i64 1) := bkeep hb7 (by first | assumption | exact cell_new (by with_reducible first | rfl | (simp; done) | (simp; omega)) rfl | (repeat (first | assumption | exact cell_new (by with_reducible first | rfl | (simp; done) | (simp; omega)) rfl | refine cell_alloc ?_ _ | refine cell_drew ?_ | refine cell_drewN ?_ _ | refine cell_far ?_ (by simp) _ | (refine cell_far ?_ (by simp <;> omega) _))) | simp [go_sem, *])
          have zr0 := cell_lt r0
          have s0 : w7.cell? ⟨w.heap.size, 0, none⟩ = some (.int .i64 st) := bkeep hb7 (by first | assumption | exact cell_new (by with_reducible first | rfl | (simp; done) | (simp; omega)) rfl | (repeat (first | assumption | exact cell_new (by with_reducible first | rfl | (simp; done) | (simp; omega)) rfl | refine cell_alloc ?_ _ | refine cell_drew ?_ | refine cell_drewN ?_ _ | refine cell_far ?_ (by simp) _ | (refine cell_far ?_ (by simp <;> omega) _))) | simp [go_sem, *])
          have zs0 := cell_lt s0
          have a0 : w7.cell? ⟨w2.heap.size, 0, none⟩ = some (.slice (some ⟨pb, po, none⟩) n cap) := bkeep hb7 (by first | assumption | exact cell_new (by with_reducible first | rfl | (simp; done) | (simp; omega)) rfl | (repeat (first | assumption | exact cell_new (by with_reducible first | rfl | (simp; done) | (simp; omega)) rfl | refine cell_alloc ?_ _ | refine cell_drew ?_ | refine cell_drewN ?_ _ | refine cell_far ?_ (by simp) _ | (refine cell_far ?_ (by simp <;> omega) _))) | simp [go_sem, *])
          have za0 := cell_lt a0
          have res : w7.cell? ⟨w.heap.size + 1, 0, none⟩ = some (.bool false) := bkeep hb7 (by first | assumption | exact cell_new (by with_reducible first | rfl | (simp; done) | (simp; omega)) rfl | (repeat (first | assumption | exact cell_new (by with_reducible first | rfl | (simp; done) | (simp; omega)) rfl | refine cell_alloc ?_ _ | refine cell_drew ?_ | refine cell_drewN ?_ _ | refine cell_far ?_ (by simp) _ | (refine cell_far ?_ (by simp <;> omega) _))) | simp [go_sem, *])
          have zres := cell_lt res
          have resf : w7.frozen? ⟨w.heap.size + 1, 0, none⟩ = false := bkeepf (v := .bool false) hb7 (by first | assumption | exact cell_new (by with_reducible first | rfl | (simp; done) | (simp; omega)) rfl | (repeat (first | assumption | exact cell_new (by with_reducible first | rfl | (simp; done) | (simp; omega)) rfl | refine cell_alloc ?_ _ | refine cell_drew ?_ | refine cell_drewN ?_ _ | refine cell_far ?_ (by simp) _ | (refine cell_far ?_ (by simp <;> omega) _))) | simp [go_sem, *]) (by first | assumption | (simp <;> assumption) | simp [go_sem, *])
          have cl : w7.cell? ⟨w2.heap.size + 1, 0, none⟩ = some (.int .i64 m) := bkeep hb7 (by first | assumption | exact cell_new (by with_reducible first | rfl | (simp; done) | (simp; omega)) rfl | (repeat (first | assumption | exact cell_new (by with_reducible first | rfl | (simp; done) | (simp; omega)) rfl | refine cell_alloc ?_ _ | refine cell_drew ?_ | refine cell_drewN ?_ _ | refine cell_far ?_ (by simp) _ | (refine cell_far ?_ (by simp <;> omega) _))) | simp [go_sem, *])
          have zcl := cell_lt cl
          have p0 : w7.cell? ⟨pb, po + pre.length * 2, none⟩ = some (.int .i64 y.1) := bkeep hb7 (by first | assumption | exact cell_new (by with_reducible first | rfl | (simp; done) | (simp; omega)) rfl | (repeat (first | assumption | exact cell_new (by with_reducible first | rfl | (simp; done) | (simp; omega)) rfl | refine cell_alloc ?_ _ | refine cell_drew ?_ | refine cell_drewN ?_ _ | refine cell_far ?_ (by simp) _ | (refine cell_far ?_ (by simp <;> omega) _))) | simp [go_sem, *])
          have zp0 := cell_lt p0
          have p1 : w7.cell? ⟨pb, po + pre.length * 2 + 1, none⟩ = some (.int .i64 y.2) := bkeep hb7 (by first | assumption | exact cell_new (by with_reducible first | rfl | (simp; done) | (simp; omega)) rfl | (repeat (first | assumption | exact cell_new (by with_reducible first | rfl | (simp; done) | (simp; omega)) rfl | refine cell_alloc ?_ _ | refine cell_drew ?_ | refine cell_drewN ?_ _ | refine cell_far ?_ (by simp) _ | (refine cell_far ?_ (by simp <;> omega) _))) | simp [go_sem, *])
          have hB : Below w.heap.size w w7 := bthen (by repeat (first | exact Below.refl _ _ | exact hB | refine Below.drew ?_ | refine below_drewN ?_ _ | refine bset ?_ (by simp <;> omega) _ | refine bal ?_ _)) hb7
          have hz : w.heap.size ≤ w7.heap.size := hB.size
          gi_wp2
          exact ⟨kf_set (kf_below (KeepsFrom.refl _ _) hb7) _ _, hnp, by have := hb7.size; simp <;> omega⟩
      case done1 =>
        rintro D1 w10 hDs ⟨⟨_, hi⟩, hD1⟩ hK1
        obtain ⟨i0, i0f, r0, s0, a0, res, resf, cl, pts, hB, size⟩ := hi
        rw [HN.out] at i0
        have hy0 := cell_lt r0
        have hy1 := cell_lt s0
        have hy2 := cell_lt a0
        have hy3 := cell_lt res
        have hy4 := cell_lt i0
        go_wp2
        rw [rounds_succ]
        go_wp2
        have hsz10 := (Array.getElem?_eq_some_iff.1 hK1).1
        refine ⟨by simp, .inl ⟨_, _, rfl, run_takeDeferred (b := D1) (ds := []) ?_, by simp, .inl ⟨_, _, rfl, run_takeDeferred (b := D0) (ds := []) ?_, ?_⟩⟩⟩
        · exact (Below.heap_alloc _ _ D1 (by simp; omega)).trans ((Below.heap_setCell _ _ _ D1 (by simp; omega)).trans hK1)
        · exact (put_other _ (by omega)).trans ((Below.heap_alloc _ _ D0 (by simp; omega)).trans ((Below.heap_setCell _ _ _ D0 (by simp; omega)).trans hD1))
        · have hfin := cell_put (D := D0) (cell_put (D := D1) (cell_alloc (cell_here res (.bool true)) (.cells #[.int .i64 2] 3)) (by simp; omega) (.deferred none)) (by simp; omega) (.deferred none)
          refine ⟨.bool true, ?_, rfl, b_put (b_put (bal (bset hB (by simp) _) _) (by omega) _) (by omega) _⟩
          simp [results, Try.results6, go_sem, hfin]
      case stop1 =>
        rintro D c pre W hDs hp ⟨hn', _⟩ hK
        exact absurd hp hn'
      · exact fun pre W W' h s => ⟨⟨h.1.1, h.1.2.soft (by omega) s⟩, (s.below.block D0 (by omega)).trans h.2⟩
      · exact fun c pre W W' h s => ⟨h.1, Nat.le_trans h.2 s.below.size⟩
      · exact fun pre W h => h.1.2.size
      · exact fun c pre W h => h.2
      · exact ⟨⟨List.nil_prefix, hIw9⟩, hDw9⟩
      · rintro x a' W W' ⟨B, h1, c0, c1, rfl⟩ s; exact ⟨B, h1, s.cell c0, s.cell c1, rfl⟩
      · rintro x a' W ⟨B, h1, c0, c1, rfl⟩; have := cell_lt c0; omega
    · have tne : (st != (n : Int)) = true := by simpa using hsn
      rw [hks] at i0
      clear hks hsn
      go_wp2
      rw [rounds_succ]
      go_wp2
      refine wp_name fun w9 hW9 => ?_
      have hz0 := cell_lt r0
      have hz1 := cell_lt s0
      have hz2 := cell_lt a0
      have hz3 := cell_lt cl
      have hIw9 : AllInv w w8.heap.size (w8.heap.size + 1) w2.heap.size w9.heap.size 1 st m av n cap L 0 w9 := by
        rw [hW9]
        have hb : Below w8.heap.size w8 ((w8.alloc (.cells #[.int .i64 1] 3)).alloc (.cells #[.int .i64 0] 3)) := bal (bal (Below.refl _ _) _) _
        exact ⟨cell_new (by simp) rfl, by rw [World.frozen?_alloc_at (hn := by simp)], cell_alloc (cell_new rfl rfl) _, bkeep hb s0, bkeep hb a0, bkeep hb res, bkeepf hb res resf, bkeep hb cl, pts.keep hb, bthen hB hb, Nat.le_refl _⟩
      have hDw9 : w9.heap[D0]? = some (.deferred (some [])) := by
        have hb : Below w8.heap.size w8 ((w8.alloc (.cells #[.int .i64 1] 3)).alloc (.cells #[.int .i64 0] 3)) := bal (bal (Below.refl _ _) _) _
        rw [hW9]; exact (hb.block D0 (Array.getElem?_eq_some_iff.1 hK0).1).trans hK0
      have hs9 : w9.heap.size = w8.heap.size + 2 := by rw [hW9]; simp
      have hDl := (Array.getElem?_eq_some_iff.1 hK0).1
      clear hW9 i0 i0f r0 s0 a0 res resf cl pts
      refine wp_range (gf := 36) (lb := #[.pointer (some ⟨w2.heap.size + 1, 0, none⟩)]) (w0 := w9) (L := L) (N := n) (n0 := w8.heap.size) (by simp [Act.eval]) (enters_of Try.func36 (by kernel_rfl) rfl)
        (encs := fun x : Int × Int => #[.agg #[.int .i64 x.1, .int .i64 x.2]]) (by have e := all1_stops (w8.heap.size) (w2.heap.size + 1) n 8 m w9 (by omega) (by omega) hIw9.cl (by rw [HL.out, HN.out]; omega); rw [HL.out] at e; exact e) (Below.refl _ _) (by omega) (fun _ => rfl)
        (fun pre W => (pre <+: L ∧ AllInv w w8.heap.size (w8.heap.size + 1) w2.heap.size w9.heap.size 1 st m av n cap L pre.length W) ∧ W.heap[D0]? = some (.deferred (some [])))
        (fun c pre W => (¬ pre <+: L) ∧ w9.heap.size ≤ W.heap.size)
        ?_ ?_ ?_ ?_ ?_
        (fun T x a' W => ∃ B, w9.heap.size ≤ B ∧ W.cell? ⟨B, 0, none⟩ = some (.int .i64 x.1) ∧ W.cell? ⟨B, 1, none⟩ = some (.int .i64 x.2) ∧ a' = { tmps := (T.setIfInBounds 27 (.agg #[.int .i64 x.1, .int .i64 x.2])).setIfInBounds 9 (.pointer (some ⟨B, 0, none⟩)), defers := [] })
        ?_ ?_ ?assign1 ?body1 ?done1 ?stop1
      case assign1 =>
        rintro l pre x W K ⟨⟨hp, hi⟩, hD1⟩ hK
        gi_wp2
        refine hK _ _ (kf_alloc (KeepsFrom.refl _ _) _) ((Below.refl _ _).alloc (by have := hi.size; omega) _) ⟨⟨hp, ?_⟩, ?_⟩ ⟨W.heap.size, hi.size, cell_new rfl rfl, cell_new rfl rfl, by simp⟩
        · exact hi.keep (bal (Below.refl _ _) _)
        · exact (Below.heap_alloc _ _ _ (Array.getElem?_eq_some_iff.1 hD1).1).trans hD1
      case body1 =>
        rintro l pre x a' w6 ⟨⟨hp, hi⟩, hD1⟩ ⟨B, hBs, c0, c1, rfl⟩ hl
        obtain ⟨i0, i0f, r0, s0, a0, res, resf, cl, pts, hB, size⟩ := hi
        simp only [List.setIfInBounds_toArray, List.set_cons_succ, List.set_cons_zero]
        have hpl := hp.length_le
        rcases pts with h0 | ⟨pb, po, rfl, hcap, hpts⟩
        · omega
        have hpb := HPB.out pb po rfl (by omega)
        obtain ⟨p0, p1⟩ := hpts pre.length hl
        dsimp only at p0 p1
        have il : (pre.length : Int) < (n : Int) := by omega
        have hd : decide (n ≤ pre.length) = false := by simp; omega
        by_cases hx : x = L.getD pre.length (0, 0)
        · have HPX := Lib.hid (prefix_snoc hp (by have := HN.out; omega) hx)
          have HLX := Lib.hid (show ((pre ++ [x]).length : Int) = (pre.length : Int) + 1 by simp)
          rw [← hx] at p0 p1
          clear hx
          have hne : ∀ w', (binOp .neq 23 (.agg #[.int .i64 x.1, .int .i64 x.2]) (.agg #[.int .i64 x.1, .int .i64 x.2])).run Try.prog w' = .ok (.bool false) w' := fun w' => by rw [neq_pvg]; simp
          obtain ⟨y, hy⟩ : ∃ y, x = y := ⟨x, rfl⟩
          subst hy
          gi_wp2
          refine wpInR_region_grow (w := w6) (by kernel_rfl) (by kernel_rfl) (by kernel_rfl) ?_
          have c0g : ∀ gs, (grow w6 gs).cell? ⟨B, 0, none⟩ = some (.int .i64 x.1) := fun gs => bkeep gs.below c0
          have c1g : ∀ gs, (grow w6 gs).cell? ⟨B, 1, none⟩ = some (.int .i64 x.2) := fun gs => bkeep gs.below c1
          have i0g : ∀ gs, (grow w6 gs).cell? ⟨(w8.heap.size + 1), 0, none⟩ = some (.int .i64 (pre.length : Int)) := fun gs => bkeep gs.below i0
          have r0g : ∀ gs, (grow w6 gs).cell? ⟨w8.heap.size, 0, none⟩ = some (.int .i64 1) := fun gs => bkeep gs.below r0
          have s0g : ∀ gs, (grow w6 gs).cell? ⟨w.heap.size, 0, none⟩ = some (.int .i64 st) := fun gs => bkeep gs.below s0
          have a0g : ∀ gs, (grow w6 gs).cell? ⟨w2.heap.size, 0, none⟩ = some (.slice (some ⟨pb, po, none⟩) n cap) := fun gs => bkeep gs.below a0
          have resg : ∀ gs, (grow w6 gs).cell? ⟨w.heap.size + 1, 0, none⟩ = some (.bool false) := fun gs => bkeep gs.below res
          have clg : ∀ gs, (grow w6 gs).cell? ⟨w2.heap.size + 1, 0, none⟩ = some (.int .i64 m) := fun gs => bkeep gs.below cl
          have p0g : ∀ gs, (grow w6 gs).cell? ⟨pb, po + pre.length * 2, none⟩ = some (.int .i64 x.1) := fun gs => bkeep gs.below p0
          have p1g : ∀ gs, (grow w6 gs).cell? ⟨pb, po + pre.length * 2 + 1, none⟩ = some (.int .i64 x.2) := fun gs => bkeep gs.below p1
          repeat (go_big_quiet_step (fail))
          refine wpQuiet_nil ?_
          intro w7 hb7
          clear c0g
          clear c1g
          clear i0g
          clear r0g
          clear s0g
          clear a0g
          clear resg
          clear clg
          clear p0g
          clear p1g
          have c0 : w7.cell? ⟨B, 0, none⟩ = some (.int .i64 x.1) := bkeep hb7 (by first | assumption | exact cell_new (by with_reducible first | rfl | (simp; done) | (simp; omega)) rfl | (repeat (first | assumption | exact cell_new (by with_reducible first | rfl | (simp; done) | (simp; omega)) rfl | refine cell_alloc ?_ _ | refine cell_drew ?_ | refine cell_drewN ?_ _ | refine cell_far ?_ (by simp) _ | (refine cell_far ?_ (by simp <;> omega) _))) | simp [go_sem, *])
          have zc0 := cell_lt c0
          have c1 : w7.cell? ⟨B, 1, none⟩ = some (.int .i64 x.2) := bkeep hb7 (by first | assumption | exact cell_new (by with_reducible first | rfl | (simp; done) | (simp; omega)) rfl | (repeat (first | assumption | exact cell_new (by with_reducible first | rfl | (simp; done) | (simp; omega)) rfl | refine cell_alloc ?_ _ | refine cell_drew ?_ | refine cell_drewN ?_ _ | refine cell_far ?_ (by simp) _ | (refine cell_far ?_ (by simp <;> omega) _))) | simp [go_sem, *])
          have i0 : w7.cell? ⟨(w8.heap.size + 1), 0, none⟩ = some (.int .i64 (pre.length : Int)) := bkeep hb7 (by first | assumption | exact cell_new (by with_reducible first | rfl | (simp; done) | (simp; omega)) rfl | (repeat (first | assumption | exact cell_new (by with_reducible first | rfl | (simp; done) | (simp; omega)) rfl | refine cell_alloc ?_ _ | refine cell_drew ?_ | refine cell_drewN ?_ _ | refine cell_far ?_ (by simp) _ | (refine cell_far ?_ (by simp <;> omega) _))) | simp [go_sem, *])
          have zi0 := cell_lt i0
          have i0f : w7.frozen? ⟨(w8.heap.size + 1), 0, none⟩ = false := bkeepf (v := .int .i64 (pre.length : Int)) hb7 (by first | assumption | exact cell_new (by with_reducible first | rfl | (simp; done) | (simp; omega)) rfl | (repeat (first | assumption | exact cell_new (by with_reducible first | rfl | (simp; done) | (simp; omega)) rfl | refine cell_alloc ?_ _ | refine cell_drew ?_ | refine cell_drewN ?_ _ | refine cell_far ?_ (by simp) _ | (refine cell_far ?_ (by simp <;> omega) _))) | simp [go_sem, *]) (by first | assumption | (simp <;> assumption) | simp [go_sem, *])
          have r0 : w7.cell? ⟨w8.heap.size, 0, none⟩ = some (.int .i64 1) := bkeep hb7 (by first | assumption | exact cell_new (by with_reducible first | rfl | (simp; done) | (simp; omega)) rfl | (repeat (first | assumption | exact cell_new (by with_reducible first | rfl | (simp; done) | (simp; omega)) rfl | refine cell_alloc ?_ _ | refine cell_drew ?_ | refine cell_drewN ?_ _ | refine cell_far ?_ (by simp) _ | (refine cell_far ?_ (by simp <;> omega) _))) | simp [go_sem, *])
          have zr0 := cell_lt r0
          have s0 : w7.cell? ⟨w.heap.size, 0, none⟩ = some (.int .i64 st) := bkeep hb7 (by first | assumption | exact cell_new (by with_reducible first | rfl | (simp; done) | (simp; omega)) rfl | (repeat (first | assumption | exact cell_new (by with_reducible first | rfl | (simp; done) | (simp; omega)) rfl | refine cell_alloc ?_ _ | refine cell_drew ?_ | refine cell_drewN ?_ _ | refine cell_far ?_ (by simp) _ | (refine cell_far ?_ (by simp <;> omega) _))) | simp [go_sem, *])
          have zs0 := cell_lt s0
          have a0 : w7.cell? ⟨w2.heap.size, 0, none⟩ = some (.slice (some ⟨pb, po, none⟩) n cap) := bkeep hb7 (by first | assumption | exact cell_new (by with_reducible first | rfl | (simp; done) | (simp; omega)) rfl | (repeat (first | assumption | exact cell_new (by with_reducible first | rfl | (simp; done) | (simp; omega)) rfl | refine cell_alloc ?_ _ | refine cell_drew ?_ | refine cell_drewN ?_ _ | refine cell_far ?_ (by simp) _ | (refine cell_far ?_ (by simp <;> omega) _))) | simp [go_sem, *])
          have za0 := cell_lt a0
          have res : w7.cell? ⟨w.heap.size + 1, 0, none⟩ = some (.bool false) := bkeep hb7 (by first | assumption | exact cell_new (by with_reducible first | rfl | (simp; done) | (simp; omega)) rfl | (repeat (first | assumption | exact cell_new (by with_reducible first | rfl | (simp; done) | (simp; omega)) rfl | refine cell_alloc ?_ _ | refine cell_drew ?_ | refine cell_drewN ?_ _ | refine cell_far ?_ (by simp) _ | (refine cell_far ?_ (by simp <;> omega) _))) | simp [go_sem, *])
          have zres := cell_lt res
          have resf : w7.frozen? ⟨w.heap.size + 1, 0, none⟩ = false := bkeepf (v := .bool false) hb7 (by first | assumption | exact cell_new (by with_reducible first | rfl | (simp; done) | (simp; omega)) rfl | (repeat (first | assumption | exact cell_new (by with_reducible first | rfl | (simp; done) | (simp; omega)) rfl | refine cell_alloc ?_ _ | refine cell_drew ?_ | refine cell_drewN ?_ _ | refine cell_far ?_ (by simp) _ | (refine cell_far ?_ (by simp <;> omega) _))) | simp [go_sem, *]) (by first | assumption | (simp <;> assumption) | simp [go_sem, *])
          have cl : w7.cell? ⟨w2.heap.size + 1, 0, none⟩ = some (.int .i64 m) := bkeep hb7 (by first | assumption | exact cell_new (by with_reducible first | rfl | (simp; done) | (simp; omega)) rfl | (repeat (first | assumption | exact cell_new (by with_reducible first | rfl | (simp; done) | (simp; omega)) rfl | refine cell_alloc ?_ _ | refine cell_drew ?_ | refine cell_drewN ?_ _ | refine cell_far ?_ (by simp) _ | (refine cell_far ?_ (by simp <;> omega) _))) | simp [go_sem, *])
          have zcl := cell_lt cl
          have p0 : w7.cell? ⟨pb, po + pre.length * 2, none⟩ = some (.int .i64 x.1) := bkeep hb7 (by first | assumption | exact cell_new (by with_reducible first | rfl | (simp; done) | (simp; omega)) rfl | (repeat (first | assumption | exact cell_new (by with_reducible first | rfl | (simp; done) | (simp; omega)) rfl | refine cell_alloc ?_ _ | refine cell_drew ?_ | refine cell_drewN ?_ _ | refine cell_far ?_ (by simp) _ | (refine cell_far ?_ (by simp <;> omega) _))) | simp [go_sem, *])
          have zp0 := cell_lt p0
          have p1 : w7.cell? ⟨pb, po + pre.length * 2 + 1, none⟩ = some (.int .i64 x.2) := bkeep hb7 (by first | assumption | exact cell_new (by with_reducible first | rfl | (simp; done) | (simp; omega)) rfl | (repeat (first | assumption | exact cell_new (by with_reducible first | rfl | (simp; done) | (simp; omega)) rfl | refine cell_alloc ?_ _ | refine cell_drew ?_ | refine cell_drewN ?_ _ | refine cell_far ?_ (by simp) _ | (refine cell_far ?_ (by simp <;> omega) _))) | simp [go_sem, *])
          have hB : Below w.heap.size w w7 := bthen (by repeat (first | exact Below.refl _ _ | exact hB | refine Below.drew ?_ | refine below_drewN ?_ _ | refine bset ?_ (by simp <;> omega) _ | refine bal ?_ _)) hb7
          have hz : w.heap.size ≤ w7.heap.size := hB.size
          gi_wp2
          refine ⟨kf_set (kf_below (KeepsFrom.refl _ _) hb7) _ _, ((Below.refl _ w6).trans (hb7.mono (by omega))).setCell (by simp <;> omega) _, ⟨HPX.out, ?_⟩, (Below.heap_setCell _ _ _ _ (by simp <;> omega)).trans ((hb7.block D0 (Array.getElem?_eq_some_iff.1 hD1).1).trans hD1)⟩
          rw [HLX.out]
          exact ⟨cell_here i0 _, by rw [World.frozen?_setCell]; exact i0f, cell_far r0 (ne_blk (by omega)) _, cell_far s0 (ne_blk (by omega)) _, cell_far a0 (ne_blk (by omega)) _, cell_far res (ne_blk (by omega)) _, by rw [World.frozen?_setCell]; exact resf, cell_far cl (ne_blk (by omega)) _, .inr ⟨pb, po, rfl, hcap, fun k hk => ⟨cell_far (bkeep hb7 (hpts k hk).1) (ne_blk (by omega)) _, cell_far (bkeep hb7 (hpts k hk).2) (ne_blk (by omega)) _⟩⟩, bset hB (by simp <;> omega) _, by have := hb7.size; simp <;> omega⟩
        · have hne : ∀ w', (binOp .neq 23 (.agg #[.int .i64 x.1, .int .i64 x.2]) (.agg #[.int .i64 (L.getD pre.length (0, 0)).1, .int .i64 (L.getD pre.length (0, 0)).2])).run Try.prog w' = .ok (.bool true) w' := fun w' => by
            rw [neq_pvg]; congr 2
            rw [Bool.not_eq_true', Bool.eq_false_iff]; simp only [ne_eq, Bool.and_eq_true, beq_iff_eq]; exact fun k => hx (Prod.ext k.1 k.2)
          have hnp := prefix_snoc_no (x := x) (by have := HN.out; omega : pre.length < L.length) hx
          generalize L.getD pre.length (0, 0) = y at *
          gi_wp2
          refine wpInR_region_grow (w := w6) (by kernel_rfl) (by kernel_rfl) (by kernel_rfl) ?_
          have c0g : ∀ gs, (grow w6 gs).cell? ⟨B, 0, none⟩ = some (.int .i64 x.1) := fun gs => bkeep gs.below c0
          have c1g : ∀ gs, (grow w6 gs).cell? ⟨B, 1, none⟩ = some (.int .i64 x.2) := fun gs => bkeep gs.below c1
          have i0g : ∀ gs, (grow w6 gs).cell? ⟨(w8.heap.size + 1), 0, none⟩ = some (.int .i64 (pre.length : Int)) := fun gs => bkeep gs.below i0
          have r0g : ∀ gs, (grow w6 gs).cell? ⟨w8.heap.size, 0, none⟩ = some (.int .i64 1) := fun gs => bkeep gs.below r0
          have s0g : ∀ gs, (grow w6 gs).cell? ⟨w.heap.size, 0, none⟩ = some (.int .i64 st) := fun gs => bkeep gs.below s0
          have a0g : ∀ gs, (grow w6 gs).cell? ⟨w2.heap.size, 0, none⟩ = some (.slice (some ⟨pb, po, none⟩) n cap) := fun gs => bkeep gs.below a0
          have resg : ∀ gs, (grow w6 gs).cell? ⟨w.heap.size + 1, 0, none⟩ = some (.bool false) := fun gs => bkeep gs.below res
          have clg : ∀ gs, (grow w6 gs).cell? ⟨w2.heap.size + 1, 0, none⟩ = some (.int .i64 m) := fun gs => bkeep gs.below cl
          have p0g : ∀ gs, (grow w6 gs).cell? ⟨pb, po + pre.length * 2, none⟩ = some (.int .i64 y.1) := fun gs => bkeep gs.below p0
          have p1g : ∀ gs, (grow w6 gs).cell? ⟨pb, po + pre.length * 2 + 1, none⟩ = some (.int .i64 y.2) := fun gs => bkeep gs.below p1
          repeat (go_big_quiet_step (fail))
          refine wpQuiet_nil ?_
          intro w7 hb7
          clear c0g
          clear c1g
          clear i0g
          clear r0g
          clear s0g
          clear a0g
          clear resg
          clear clg
          clear p0g
          clear p1g
          have c0 : w7.cell? ⟨B, 0, none⟩ = some (.int .i64 x.1) := bkeep hb7 (by first | assumption | exact cell_new (by with_reducible first | rfl | (simp; done) | (simp; omega)) rfl | (repeat (first | assumption | exact cell_new (by with_reducible first | rfl | (simp; done) | (simp; omega)) rfl | refine cell_alloc ?_ _ | refine cell_drew ?_ | refine cell_drewN ?_ _ | refine cell_far ?_ (by simp) _ | (refine cell_far ?_ (by simp <;> omega) _))) | simp [go_sem, *])
          have zc0 := cell_lt c0
          have c1 : w7.cell? ⟨B, 1, none⟩ = some (.int .i64 x.2) := bkeep hb7 (by first | assumption | exact cell_new (by with_reducible first | rfl | (simp; done) | (simp; omega)) rfl | (repeat (first | assumption | exact cell_new (by with_reducible first | rfl | (simp; done) | (simp; omega)) rfl | refine cell_alloc ?_ _ | refine cell_drew ?_ | refine cell_drewN ?_ _ | refine cell_far ?_ (by simp) _ | (refine cell_far ?_ (by simp <;> omega) _))) | simp [go_sem, *])
          have i0 : w7.cell? ⟨(w8.heap.size + 1), 0, none⟩ = some (.int .i64 (pre.length : Int)) := bkeep hb7 (by first | assumption | exact cell_new (by with_reducible first | rfl | (simp; done) | (simp; omega)) rfl | (repeat (first | assumption | exact cell_new (by with_reducible first | rfl | (simp; done) | (simp; omega)) rfl | refine cell_alloc ?_ _ | refine cell_drew ?_ | refine cell_drewN ?_ _ | refine cell_far ?_ (by simp) _ | (refine cell_far ?_ (by simp <;> omega) _))) | simp [go_sem, *])
          have zi0 := cell_lt i0
          have i0f : w7.frozen? ⟨(w8.heap.size + 1), 0, none⟩ = false := bkeepf (v := .int .i64 (pre.length : Int)) hb7 (by first | assumption | exact cell_new (by with_reducible first | rfl | (simp; done) | (simp; omega)) rfl | (repeat (first | assumption | exact cell_new (by with_reducible first | rfl | (simp; done) | (simp; omega)) rfl | refine cell_alloc ?_ _ | refine cell_drew ?_ | refine cell_drewN ?_ _ | refine cell_far ?_ (by simp) _ | (refine cell_far ?_ (by simp <;> omega) _))) | simp [go_sem, *]) (by first | assumption | (simp <;> assumption) | simp [go_sem, *])
          have r0 : w7.cell? ⟨w8.heap.size, 0, none⟩ = some (.int .i64 1) := bkeep hb7 (by first | assumption | exact cell_new (by with_reducible first | rfl | (simp; done) | (simp; omega)) rfl | (repeat (first | assumption | exact cell_new (by with_reducible first | rfl | (simp; done) | (simp; omega)) rfl | refine cell_alloc ?_ _ | refine cell_drew ?_ | refine cell_drewN ?_ _ | refine cell_far ?_ (by simp) _ | (refine cell_far ?_ (by simp <;> omega) _))) | simp [go_sem, *])
          have zr0 := cell_lt r0
          have s0 : w7.cell? ⟨w.heap.size, 0, none⟩ = some (.int .i64 st) := bkeep hb7 (by first | assumption | exact cell_new (by with_reducible first | rfl | (simp; done) | (simp; omega)) rfl | (repeat (first | assumption | exact cell_new (by with_reducible first | rfl | (simp; done) | (simp; omega)) rfl | refine cell_alloc ?_ _ | refine cell_drew ?_ | refine cell_drewN ?_ _ | refine cell_far ?_ (by simp) _ | (refine cell_far ?_ (by simp <;> omega) _))) | simp [go_sem, *])
          have zs0 := cell_lt s0
          have a0 : w7.cell? ⟨w2.heap.size, 0, none⟩ = some (.slice (some ⟨pb, po, none⟩) n cap) := bkeep hb7 (by first | assumption | exact cell_new (by with_reducible first | rfl | (simp; done) | (simp; omega)) rfl | (repeat (first | assumption | exact cell_new (by with_reducible first | rfl | (simp; done) | (simp; omega)) rfl | refine cell_alloc ?_ _ | refine cell_drew ?_ | refine cell_drewN ?_ _ | refine cell_far ?_ (by simp) _ | (refine cell_far ?_ (by simp <;> omega) _))) | simp [go_sem, *])
          have za0 := cell_lt a0
          have res : w7.cell? ⟨w.heap.size + 1, 0, none⟩ = some (.bool false) := bkeep hb7 (by first | assumption | exact cell_new (by with_reducible first | rfl | (simp; done) | (simp; omega)) rfl | (repeat (first | assumption | exact cell_new (by with_reducible first | rfl | (simp; done) | (simp; omega)) rfl | refine cell_alloc ?_ _ | refine cell_drew ?_ | refine cell_drewN ?_ _ | refine cell_far ?_ (by simp) _ | (refine cell_far ?_ (by simp <;> omega) _))) | simp [go_sem, *])
          have zres := cell_lt res
          have resf : w7.frozen? ⟨w.heap.size + 1, 0, none⟩ = false := bkeepf (v := .bool false) hb7 (by first | assumption | exact cell_new (by with_reducible first | rfl | (simp; done) | (simp; omega)) rfl | (repeat (first | assumption | exact cell_new (by with_reducible first | rfl | (simp; done) | (simp; omega)) rfl | refine cell_alloc ?_ _ | refine cell_drew ?_ | refine cell_drewN ?_ _ | refine cell_far ?_ (by simp) _ | (refine cell_far ?_ (by simp <;> omega) _))) | simp [go_sem, *]) (by first | assumption | (simp <;> assumption) | simp [go_sem, *])
          have cl : w7.cell? ⟨w2.heap.size + 1, 0, none⟩ = some (.int .i64 m) := bkeep hb7 (by first | assumption | exact cell_new (by with_reducible first | rfl | (simp; done) | (simp; omega)) rfl | (repeat (first | assumption | exact cell_new (by with_reducible first | rfl | (simp; done) | (simp; omega)) rfl | refine cell_alloc ?_ _ | refine cell_drew ?_ | refine cell_drewN ?_ _ | refine cell_far ?_ (by simp) _ | (refine cell_far ?_ (by simp <;> omega) _))) | simp [go_sem, *])
          have zcl := cell_lt cl
          have p0 : w7.cell? ⟨pb, po + pre.length * 2, none⟩ = some (.int .i64 y.1) := bkeep hb7 (by first | assumption | exact cell_new (by with_reducible first | rfl | (simp; done) | (simp; omega)) rfl | (repeat (first | assumption | exact cell_new (by with_reducible first | rfl | (simp; done) | (simp; omega)) rfl | refine cell_alloc ?_ _ | refine cell_drew ?_ | refine cell_drewN ?_ _ | refine cell_far ?_ (by simp) _ | (refine cell_far ?_ (by simp <;> omega) _))) | simp [go_sem, *])
          have zp0 := cell_lt p0
          have p1 : w7.cell? ⟨pb, po + pre.length * 2 + 1, none⟩ = some (.int .i64 y.2) := bkeep hb7 (by first | assumption | exact cell_new (by with_reducible first | rfl | (simp; done) | (simp; omega)) rfl | (repeat (first | assumption | exact cell_new (by with_reducible first | rfl | (simp; done) | (simp; omega)) rfl | refine cell_alloc ?_ _ | refine cell_drew ?_ | refine cell_drewN ?_ _ | refine cell_far ?_ (by simp) _ | (refine cell_far ?_ (by simp <;> omega) _))) | simp [go_sem, *])
          have hB : Below w.heap.size w w7 := bthen (by repeat (first | exact Below.refl _ _ | exact hB | refine Below.drew ?_ | refine below_drewN ?_ _ | refine bset ?_ (by simp <;> omega) _ | refine bal ?_ _)) hb7
          have hz : w.heap.size ≤ w7.heap.size := hB.size
          gi_wp2
          exact ⟨kf_set (kf_below (KeepsFrom.refl _ _) hb7) _ _, hnp, by have := hb7.size; simp <;> omega⟩
      case done1 =>
        rintro D1 w10 hDs ⟨⟨_, hi⟩, hD1⟩ hK1
        obtain ⟨i0, i0f, r0, s0, a0, res, resf, cl, pts, hB, size⟩ := hi
        rw [HN.out] at i0
        have hy0 := cell_lt r0
        have hy1 := cell_lt s0
        have hy2 := cell_lt a0
        have hy3 := cell_lt res
        have hy4 := cell_lt i0
        go_wp2
        rw [rounds_succ]
        go_wp2
        have hsz10 := (Array.getElem?_eq_some_iff.1 hK1).1
        refine ⟨by simp, .inl ⟨_, _, rfl, run_takeDeferred (b := D1) (ds := []) ?_, by simp, .inl ⟨_, _, rfl, run_takeDeferred (b := D0) (ds := []) ?_, ?_⟩⟩⟩
        · exact (Below.heap_alloc _ _ D1 (by simp; omega)).trans ((Below.heap_setCell _ _ _ D1 (by simp; omega)).trans hK1)
        · exact (put_other _ (by omega)).trans ((Below.heap_alloc _ _ D0 (by simp; omega)).trans ((Below.heap_setCell _ _ _ D0 (by simp; omega)).trans hD1))
        · have hfin := cell_put (D := D0) (cell_put (D := D1) (cell_alloc (cell_here res (.bool true)) (.cells #[.int .i64 2] 3)) (by simp; omega) (.deferred none)) (by simp; omega) (.deferred none)
          refine ⟨.bool true, ?_, rfl, b_put (b_put (bal (bset hB (by simp) _) _) (by omega) _) (by omega) _⟩
          simp [results, Try.results6, go_sem, hfin]
      case stop1 =>
        rintro D c pre W hDs hp ⟨hn', _⟩ hK
        exact absurd hp hn'
      · exact fun pre W W' h s => ⟨⟨h.1.1, h.1.2.soft (by omega) s⟩, (s.below.block D0 (by omega)).trans h.2⟩
      · exact fun c pre W W' h s => ⟨h.1, Nat.le_trans h.2 s.below.size⟩
      · exact fun pre W h => h.1.2.size
      · exact fun c pre W h => h.2
      · exact ⟨⟨List.nil_prefix, hIw9⟩, hDw9⟩
      · rintro x a' W W' ⟨B, h1, c0, c1, rfl⟩ s; exact ⟨B, h1, s.cell c0, s.cell c1, rfl⟩
      · rintro x a' W ⟨B, h1, c0, c1, rfl⟩; have := cell_lt c0; omega
  · exact fun pre W W' h s => ⟨h.1, h.2.soft (by omega) s⟩
  · exact fun c pre W W' h s => h.imp (fun h => ⟨h.1, h.2.1, Nat.le_trans h.2.2 s.below.size⟩) (fun h => ⟨h.1, h.2.1, h.2.2.soft (by omega) s⟩)
  · exact fun pre W h => h.2.size
  · exact fun c pre W h => h.elim (fun h => h.2.2) (fun h => h.2.2.size)
  · exact ⟨List.nil_prefix, hIw5⟩
  · rintro x a' W W' ⟨B, h1, c0, c1, rfl⟩ s; exact ⟨B, h1, s.cell c0, s.cell c1, rfl⟩
  · rintro x a' W ⟨B, h1, c0, c1, rfl⟩; have := cell_lt c0; omega

theorem all_c (m st : Int) (w : World) (_ : (Lit.int .i64 m).wf = true) (hst : (Lit.int .i64 st).wf = true) :
    Calls Try.prog 6 #[.int .i64 m, .int .i64 st] w fun e w' => e = .returned (.bool true) ∧ Below w.heap.size w w' := all_h m st w hst
end Go.Proofs.Ytefoljempkpmgaa
