/- ExactRuns: what a program answers, or the instruction that fails; what each sets. -/
import Derived.Test.YtannhpadoooedaaGreatDoorP10
import Derived.Test.YtannhpadoooedaaGreatDoorP11
import Derived.Test.YtannhpadoooedaaGreatDoorP12
import Derived.Test.YtannhpadoooedaaGreatDoorP13
set_option linter.unusedVariables false
set_option linter.unusedSimpArgs false
namespace Go.Proofs.YtannhpadoooedaaGreatDoor
open Num
open Go.ChangeShapes Go.WideShapes Go.ChangeAt Go.RowKit
set_option linter.unusedVariables false
set_option linter.unusedSimpArgs false
attribute [local go_sem ↓] Go.wp_at_zero Go.wp_at_succ
attribute [local go_sem] Oper.semAt_some
set_option maxRecDepth 100000 in
set_option maxHeartbeats 2000000 in
theorem trace_c (ins regs : Int) (ca oa : Option Addr) (cl cc ol oc : Nat) (v : Value) (l : List Int) (w : World) (hv : PRow 0 w v l) :
    Calls Tryz.prog 14 #[.agg #[.int .i64 ins, .int .i64 regs, .slice ca cl cc, .slice oa ol oc], v] w fun e w' => ∃ pb xb, e = .returned (.func (.func 60) #[] #[.pointer (some ⟨pb, 0, none⟩), .pointer (some ⟨xb, 0, none⟩)]) ∧
      (w'.cell? ⟨pb, 0, none⟩ = some (.int .i64 ins) ∧ w'.cell? ⟨pb, 1, none⟩ = some (.int .i64 regs) ∧ w'.cell? ⟨pb, 2, none⟩ = some (.slice ca cl cc) ∧ w'.cell? ⟨pb, 3, none⟩ = some (.slice oa ol oc) ∧ w'.cell? ⟨xb, 0, none⟩ = some v) ∧ Below w.heap.size w w' := by
  obtain ⟨va, vc, rfl, -⟩ := hv
  have hB := Below.refl w.heap.size w
  go_enter Tryz.func14, Tryz.ntmps14
  go_wp2
  go_ret
  exact ⟨_, _, rfl, ⟨by simp [go_sem], by simp [go_sem], by simp [go_sem], by simp [go_sem], by simp [go_sem]⟩, by repeat (first | exact Below.refl _ _ | exact hB | refine Below.drew ?_ | refine below_drewN ?_ _ | refine bset ?_ (by simp <;> omega) _ | refine bal ?_ _)⟩
theorem eql_nilFuncT (f : Fn) (a c : Array Value) (w : World) : (binOp .eql 38 (.func f a c) .nilFunc).run Tryz.prog w = .ok (.bool false) w := by kernel_rfl
/-- Run's answer: a list, an int, an error -/
theorem exRunAll {ins regs : Int} {code : List Ins} {outs l : List Int} {w : World} {e : Ending} {w' : World} (h : ExRunPost ins regs code outs l w e w') :
    (∃ (a : Option Addr) (n c : Nat) (q x : Int), e = .returned (.tuple #[.slice a n c, .int .i64 q, .int .i64 x]) ∧ Hid ((¬ ProgOk ins regs code outs ∧ n = 0 ∧ q = 0 ∧ x = 80) ∨ (ProgOk ins regs code outs ∧ (l.length : Int) ≠ ins ∧ n = 0 ∧ q = 0 ∧ x = 5) ∨
      (ProgOk ins regs code outs ∧ (l.length : Int) = ins ∧ ∃ (m : Nat) (s : List Int), m < code.length ∧ afterN code (startN l regs.toNat) m = some s ∧ afterN code (startN l regs.toNat) (m + 1) = none ∧ n = 0 ∧ q = m ∧ x = 20) ∨
      (ProgOk ins regs code outs ∧ (l.length : Int) = ins ∧ ∃ (s : List Int), afterN code (startN l regs.toNat) code.length = some s ∧ n = outs.length ∧ q = 0 ∧ x = 0 ∧ OwnF IsInt 48 w w' (.slice a n c) outs.length (fun k => (outsN outs s).getD k 0)))) ∧ Below w.heap.size w w' := by
  obtain ⟨h, hB⟩ := h
  refine ⟨?_, hB⟩
  rcases h with ⟨h1, rfl⟩ | ⟨h1, h2, rfl⟩ | ⟨h1, h2, m, s, h3, h4, h5, rfl⟩ | ⟨h1, h2, s, v, h3, rfl, h4⟩
  · exact ⟨_, _, _, _, _, rfl, Lib.hid (.inl ⟨h1, rfl, rfl, rfl⟩)⟩
  · exact ⟨_, _, _, _, _, rfl, Lib.hid (.inr (.inl ⟨h1, h2, rfl, rfl, rfl⟩))⟩
  · exact ⟨_, _, _, _, _, rfl, Lib.hid (.inr (.inr (.inl ⟨h1, h2, m, s, h3, h4, h5, rfl, rfl, rfl⟩)))⟩
  · obtain ⟨a, c, rfl, _⟩ := h4.view
    exact ⟨_, _, _, _, _, rfl, Lib.hid (.inr (.inr (.inr ⟨h1, h2, s, h3, rfl, rfl, rfl, h4⟩)))⟩
/-- numbers as a grid of one column -/
def colOf (l : List Int) : Grid := l.map fun x => [x]
theorem colOf_len (l : List Int) : (colOf l).length = l.length := by simp [colOf]
theorem colOf_get {l : List Int} {k : Nat} (h : k < l.length) : (colOf l).getD k [] = [l.getD k 0] := by simp [colOf, h]
theorem colOf_rect (l : List Int) : Rect 1 (colOf l) := fun k hk => by rw [colOf_get (by rw [colOf_len] at hk; exact hk)]; rfl
theorem colOf_col (l : List Int) : colG (colOf l) 0 = l := by
  unfold colG colOf
  rw [List.map_map]
  conv => rhs; rw [← List.map_id l]
  rfl
theorem colOf_bd {l : List Int} {K : Nat} (h : ∀ j, Bd K (l.getD j 0)) : BdG K (colOf l) := fun i j => by
  by_cases hi : i < l.length
  · rw [colOf_get hi]
    cases j with
    | zero => exact h i
    | succ j => simp [bd_zero]
  · rw [List.getD_eq_getElem?_getD (l := colOf l), List.getElem?_eq_none (by rw [colOf_len]; omega)]
    simp [bd_zero]
section
variable {code : List Ins} {l : List Int} {R : Nat}
theorem col_some (hlR : l.length ≤ R) (ha : ∀ n, n < code.length → (code.getD n default).a.toNat < R) {n : Nat} {h : Grid} (hn : n ≤ code.length) (e : after code (startG (colOf l) R 1) n = some h) : afterN code (startN l R) n = some (colG h 0) := by
  have h1 := col_after (startG_rect (regs := R) (colOf_rect l)) (startG_len (by rw [colOf_len]; exact hlR)) ha (show 0 < 1 by omega) hn e
  rwa [colG_start, colOf_col] at h1
theorem col_none (hlR : l.length ≤ R) (ha : ∀ n, n < code.length → (code.getD n default).a.toNat < R) {n : Nat} {h : Grid} (hn : n < code.length) (e : after code (startG (colOf l) R 1) n = some h) (e2 : after code (startG (colOf l) R 1) (n + 1) = none) : afterN code (startN l R) (n + 1) = none := by
  obtain ⟨k, hk, h1⟩ := col_fail (startG_rect (regs := R) (colOf_rect l)) (startG_len (by rw [colOf_len]; exact hlR)) ha hn e e2
  obtain rfl : k = 0 := by omega
  rwa [colG_start, colOf_col] at h1
/-- a row that is told, of one number -/
theorem told_row (hlR : l.length ≤ R) (ha : ∀ n, n < code.length → (code.getD n default).a.toNat < R) {n M : Nat} (hn : n < M) (hM : M ≤ code.length) {h : Grid} (e : after code (startG (colOf l) R 1) M = some h) : toldR code (startG (colOf l) R 1) n = [toldN code (startN l R) n] := by
  have hr := startG_rect (regs := R) (colOf_rect l)
  have hl := startG_len (g := colOf l) (n := 1) (by rw [colOf_len]; exact hlR : (colOf l).length ≤ R)
  cases e1 : after code (startG (colOf l) R 1) n with
  | none => rw [after_mono e1 (show n ≤ M by omega)] at e; cases e
  | some g =>
    have hR := after_rect hr hl ha (show n ≤ code.length by omega) e1
    have hA := hR (code.getD n default).a.toNat (by rw [after_len e1, hl]; exact ha n (by omega))
    cases e2 : stepR (code.getD n default) (g.getD (code.getD n default).a.toNat []) (g.getD (code.getD n default).b.toNat []) with
    | none =>
      have : after code (startG (colOf l) R 1) (n + 1) = none := by rw [after, e1, Option.bind_some, e2]; rfl
      rw [after_mono this (show n + 1 ≤ M by omega)] at e; cases e
    | some r =>
      have hrl := stepR_len e2
      rw [hA] at hrl
      rw [toldR_eq e1 e2, toldN_eq (col_some hlR ha (by omega) e1) (col_step hA (show 0 < 1 by omega) e2)]
      match r, hrl with
      | [x], _ => rfl
end
/-- Follow's answer: a list, an int, a list -/
theorem followAll {code : List Ins} {outs : List Int} {G : Grid} {w : World} {e : Ending} {w' : World} (h : FollowP code outs G w e w') :
    (∃ (M : Nat) (a : Option Addr) (c : Nat) (q : Int) (a' : Option Addr) (n' c' : Nat), e = .returned (.tuple #[.slice a M c, .int .i64 q, .slice a' n' c']) ∧ M ≤ code.length ∧ Hid (∃ h, after code G M = some h ∧ OwnL 31 (RRow 0) w w' (.slice a M c) (told code G M) ∧
      ((M < code.length ∧ after code G (M + 1) = none ∧ q = M) ∨ (M = code.length ∧ q = -1 ∧ n' = outs.length ∧ OwnL 31 (RRow 0) w w' (.slice a' n' c') (outsG outs h))))) ∧ Below w.heap.size w w' := by
  obtain ⟨h, hB⟩ := h
  refine ⟨?_, hB⟩
  rcases h with ⟨m, h, v, h1, h2, h3, rfl, h4⟩ | ⟨h, v, u, h1, rfl, h2, h3⟩
  · obtain ⟨a, c, hv⟩ := h4.ex
    rw [told_len] at hv
    subst hv
    exact ⟨m, a, c, m, none, 0, 0, rfl, by omega, Lib.hid ⟨h, h2, h4, .inl ⟨h1, h3, rfl⟩⟩⟩
  · obtain ⟨a, c, hv⟩ := h2.ex
    rw [told_len] at hv
    subst hv
    obtain ⟨a', c', rfl⟩ := h3.ex
    exact ⟨code.length, a, c, -1, a', _, c', rfl, Nat.le_refl _, Lib.hid ⟨h, h1, h2, .inr ⟨rfl, rfl, by simp [outsG], h3⟩⟩⟩
theorem row1 {w : World} {B n c : Nat} {nb : Bool} {a : Option Addr} {x : Int} (c0 : w.cell? ⟨B, 0, none⟩ = some (.bool nb)) (c1 : w.cell? ⟨B, 1, none⟩ = some (.slice a n c)) (ht : typOf w B = some 44) (hx : IsRef w (.agg #[.bool nb, .slice a n c]) x) : RRow 0 w (.slice (some ⟨B, 0, none⟩) 1 1) [x] :=
  ⟨_, 1, rfl, Nat.le_refl _, by unfold maxLen; omega, .inr ⟨B, 0, rfl, Nat.zero_le _, ht, fun k hk => by
    have : k < 1 := hk
    obtain rfl : k = 0 := by omega
    exact ⟨nb, a, n, c, c0, c1, hx⟩⟩⟩
theorem toldN_bd {code : List Ins} {r : List Int} {K k : Nat} (hr : ∀ j, Bd K (r.getD j 0)) (hc : Cs code) (hk : k < code.length) : Bd (K + 65 * k + 65) (toldN code r k) := by
  unfold toldN
  cases e : afterN code r k with
  | none => exact bd_zero
  | some s =>
    have hb := afterN_bd hr hc (by omega) e
    dsimp only
    cases e2 : opI (code.getD k default) (s.getD (code.getD k default).a.toNat 0) (s.getD (code.getD k default).b.toNat 0) with
    | none => exact bd_zero
    | some x => exact opI_bd e2 (hb _) (hb _) (hc k hk).1 (hc k hk).2
theorem startN_bd {l : List Int} {R K : Nat} (h : ∀ j, Bd K (l.getD j 0)) : ∀ j, Bd K ((startN l R).getD j 0) := fun j => by
  by_cases e : j < l.length
  · rw [startN_lt e]; exact h j
  · rw [startN_ge (by omega)]; exact bd_zero
/-- a row that is answered, of one number -/
theorem outs_row {ins : Int} {outs l : List Int} {code : List Ins} {R M : Nat} {h : Grid} (hok : ProgOk ins R code outs) (hlR : l.length ≤ R) (ha : ∀ n, n < code.length → (code.getD n default).a.toNat < R) (hM : M ≤ code.length) (e : after code (startG (colOf l) R 1) M = some h) {k : Nat} (hk : k < (outsG outs h).length) : (outsG outs h)[k] = [(outsN outs (colG h 0)).getD k 0] := by
  have hr := startG_rect (regs := R) (colOf_rect l)
  have hl := startG_len (g := colOf l) (n := 1) (by rw [colOf_len]; exact hlR : (colOf l).length ≤ R)
  have h1 := outsG_len (after_rect hr hl ha hM e) (fun j hj => by
    have := hok.os j hj
    rw [after_len e, hl]; exact this) k hk
  have hx := colG_outs outs h k 0
  rw [List.getD_eq_getElem?_getD (l := outsG outs h), List.getElem?_eq_getElem hk, Option.getD_some] at hx
  generalize (outsG outs h)[k] = r at *
  match r, h1 with
  | [x], _ => rw [← hx]; rfl
theorem outsN_bd {outs s : List Int} {K : Nat} (h : ∀ j, Bd K (s.getD j 0)) : ∀ j, Bd K ((outsN outs s).getD j 0) := fun j => by
  unfold outsN
  by_cases hj : j < outs.length
  · rw [List.getD_eq_getElem?_getD, List.getElem?_map, List.getElem?_eq_getElem hj]; exact h _
  · rw [List.getD_eq_getElem?_getD, List.getElem?_eq_none (by simp; omega)]; exact bd_zero
/-- what a round's body keeps: how many were told -/
structure RunInv (w0 : World) (ib k : Nat) (W : World) : Prop where
  i0 : W.cell? ⟨ib, 0, none⟩ = some (.int .i64 (k : Int))
  i0f : W.frozen? ⟨ib, 0, none⟩ = false
  out : Out (fun q => q = ib) w0 W
theorem out_low {X0 : Nat → Prop} {a b c : World} (h : Out X0 a b) (k : Below a.heap.size b c) : Out X0 a c :=
  ⟨k.os.trans h.os, k.tape.trans h.tape, k.output.trans h.output, Nat.le_trans h.size k.size, fun i hi hx => (k.block i hi).trans (h.block i hi hx)⟩
theorem RunInv.low {w0 X Y : World} {ib k : Nat} (h : RunInv w0 ib k X) (hi : ib < w0.heap.size) (c : Below w0.heap.size X Y) : RunInv w0 ib k Y :=
  ⟨(c.cell (p := ⟨ib, 0, none⟩) hi).trans h.i0, by rw [World.frozen?_of_block (w := X) (c.block ib hi)]; exact h.i0f, out_low h.out c⟩
theorem RunInv.step {w0 X Y : World} {ib k : Nat} (h : RunInv w0 ib k X) (hb : Below X.heap.size X Y) : RunInv w0 ib (k + 1) (Y.setCell ⟨ib, 0, none⟩ (.int .i64 ((k : Int) + 1))) ∧ OutT (fun q => q = ib) X (Y.setCell ⟨ib, 0, none⟩ (.int .i64 ((k : Int) + 1))) := by
  have i1 := bkeep hb h.i0
  have o1 : Out (fun q => q = ib) X (Y.setCell ⟨ib, 0, none⟩ (.int .i64 ((k : Int) + 1))) := Out.set (Out.of_below (fun q => q = ib) hb) (p := ⟨ib, 0, none⟩) (fun _ => rfl) _
  refine ⟨⟨cell_here i1 _, by rw [World.frozen?_setCell]; exact bkeepf hb h.i0 h.i0f, h.out.trans o1⟩, o1, fun q hq hl => ?_⟩
  rw [typ_set]; unfold typOf; rw [hb.block q hl]
/-- a told number in its box -/
def BoxAt (code : List Ins) (r : List Int) (S : Array Value) (k : Nat) (args : Array Value) (a' : Act) (X : World) : Prop :=
  ∃ (B : Nat) (nb : Bool) (ad : Option Addr) (n c : Nat), X.cell? ⟨B, 0, none⟩ = some (.bool nb) ∧ X.cell? ⟨B, 1, none⟩ = some (.slice ad n c) ∧ IsInt X (.agg #[.bool nb, .slice ad n c]) (toldN code r k) ∧
    a' = { tmps := ((((S.setIfInBounds 112 (.int .i64 (k : Int))).setIfInBounds 113 (.agg #[.bool nb, .slice ad n c])).setIfInBounds 21 (.int .i64 (k : Int))).setIfInBounds 22 (.pointer (some ⟨B, 0, none⟩))), defers := [] }
theorem lim_put {X : World} {l : Nat} {o o' : Obj} (h : X.heap[l]? = some o) (ho : o.isCells = false) : Lim X (X.putObj l o') := fun q ht => by
  have e : q ≠ l := fun e => by
    subst e
    obtain ⟨o2, h2, c2⟩ := typ_cells ht
    rw [h] at h2; cases h2; rw [ho] at c2; cases c2
  have hb : (X.putObj l o').heap[q]? = X.heap[q]? := World.putObj_heap_other e
  exact ⟨by unfold typOf at *; rw [hb]; exact ht, fun o n hc => by rw [World.cell?_of_block (w := X) hb]; exact hc⟩
theorem put_cell {X : World} {l B i : Nat} {o o' : Obj} {v : Value} (h : X.heap[l]? = some o) (ho : o.isCells = false) (hc : X.cell? ⟨B, i, none⟩ = some v) : (X.putObj l o').cell? ⟨B, i, none⟩ = some v := by
  have e : B ≠ l := fun e => by
    subst e
    obtain ⟨o2, h2, c2⟩ := cells_of_cell hc
    have h2' : X.heap[B]? = some o2 := h2
    rw [h] at h2'; cases h2'; rw [ho] at c2; cases c2
  rw [World.cell?_of_block (w := X) (World.putObj_heap_other e)]; exact hc
theorem BoxAt.put {code : List Ins} {r : List Int} {S : Array Value} {k : Nat} {args : Array Value} {a' : Act} {X : World} {l : Nat} {o o' : Obj} (h : X.heap[l]? = some o) (ho : o.isCells = false) (b : BoxAt code r S k args a' X) : BoxAt code r S k args a' (X.putObj l o') := by
  obtain ⟨B, nb, ad, n, c, c0, c1, hi, e⟩ := b
  exact ⟨B, nb, ad, n, c, put_cell h ho c0, put_cell h ho c1, hi.lim (lim_put h ho), e⟩
set_option maxRecDepth 100000 in
set_option maxHeartbeats 32000000 in
theorem exactRuns_h (ins regs : Int) (ca oa : Option Addr) (cc oc : Nat) (code : List Ins) (outs : List Int) (v : Value) (l : List Int) (st : Int) (w : World) (hc : InsV w ca cc code) (ho : IntsV w oa oc outs) (hv : RowI w v l) (hl : l.length ≤ 1152921504606846976) (hst : (Lit.int .i64 st).wf = true) :
    Calls Tryz.prog 3 #[.agg #[.int .i64 ins, .int .i64 regs, .slice ca code.length cc, .slice oa outs.length oc], v, .int .i64 st] w fun e w' => e = .returned (.bool true) ∧ Below w.heap.size w w' := by
  obtain ⟨la, lcp, rfl, hvr⟩ := hv
  have lc := fun W (h : Below w.heap.size w W) => long10_c ins regs ca oa cc outs.length oc code (.slice none 0 0) (.slice la l.length lcp) [] l.length W (hc.keep h) ⟨none, 0, rfl, fun k hk => absurd hk (by simp)⟩ (fun k hk => absurd hk (by simp)) ⟨_, _, rfl⟩ hl
  have rc := fun W (h : Below w.heap.size w W) => rright_c ins regs ca oa cc oc code outs W (hc.keep h) (ho.keep h)
  have HC := Lib.hid (And.intro hc ho)
  have HV := Lib.hid (show RowI w (.slice la l.length lcp) l from ⟨la, lcp, rfl, hvr⟩)
  have HBD := Lib.hid (show ∀ j, Bd 64 (l.getD j 0) from fun j => by
    by_cases hj : j < l.length
    · obtain ⟨_, _, _, _, h⟩ := hvr j hj
      unfold I64 at h; unfold Bd; omega
    · rw [List.getD_eq_getElem?_getD, List.getElem?_eq_none (by omega)]; exact bd_zero)
  clear hc ho hvr hl
  have he := eql_nilFuncT
  have hB := Below.refl w.heap.size w
  refine calls_of_wp_marks Tryz.func3 rfl ?_
  simp only [Tryz.ntmps3, List.size_toArray, List.length_cons, List.length_nil, Nat.reduceAdd, Nat.reduceSub, Array.replicate_succ, Array.replicate_zero, List.push_toArray, List.append_toArray, List.nil_append, List.cons_append]
  go_wp2_with fail
  refine (live_c _).mono ?_
  rintro e w1 ⟨rfl, hb1⟩
  have p0 : w1.cell? ⟨w.heap.size, 0, none⟩ = some (.int .i64 ins) := bkeep hb1 (by first | assumption | exact cell_new (by with_reducible first | rfl | (simp; done) | (simp; omega)) rfl | (repeat (first | assumption | exact cell_new (by with_reducible first | rfl | (simp; done) | (simp; omega)) rfl | refine cell_alloc ?_ _ | refine cell_drew ?_ | refine cell_drewN ?_ _ | refine cell_far ?_ (by simp) _ | (refine cell_far ?_ (by simp <;> omega) _))) | simp [go_sem, *])
  have zp0 := cell_lt p0
  have p1 : w1.cell? ⟨w.heap.size, 1, none⟩ = some (.int .i64 regs) := bkeep hb1 (by first | assumption | exact cell_new (by with_reducible first | rfl | (simp; done) | (simp; omega)) rfl | (repeat (first | assumption | exact cell_new (by with_reducible first | rfl | (simp; done) | (simp; omega)) rfl | refine cell_alloc ?_ _ | refine cell_drew ?_ | refine cell_drewN ?_ _ | refine cell_far ?_ (by simp) _ | (refine cell_far ?_ (by simp <;> omega) _))) | simp [go_sem, *])
  have p2 : w1.cell? ⟨w.heap.size, 2, none⟩ = some (.slice ca code.length cc) := bkeep hb1 (by first | assumption | exact cell_new (by with_reducible first | rfl | (simp; done) | (simp; omega)) rfl | (repeat (first | assumption | exact cell_new (by with_reducible first | rfl | (simp; done) | (simp; omega)) rfl | refine cell_alloc ?_ _ | refine cell_drew ?_ | refine cell_drewN ?_ _ | refine cell_far ?_ (by simp) _ | (refine cell_far ?_ (by simp <;> omega) _))) | simp [go_sem, *])
  have p3 : w1.cell? ⟨w.heap.size, 3, none⟩ = some (.slice oa outs.length oc) := bkeep hb1 (by first | assumption | exact cell_new (by with_reducible first | rfl | (simp; done) | (simp; omega)) rfl | (repeat (first | assumption | exact cell_new (by with_reducible first | rfl | (simp; done) | (simp; omega)) rfl | refine cell_alloc ?_ _ | refine cell_drew ?_ | refine cell_drewN ?_ _ | refine cell_far ?_ (by simp) _ | (refine cell_far ?_ (by simp <;> omega) _))) | simp [go_sem, *])
  have s0 : w1.cell? ⟨w.heap.size + 1, 0, none⟩ = some (.int .i64 st) := bkeep hb1 (by first | assumption | exact cell_new (by with_reducible first | rfl | (simp; done) | (simp; omega)) rfl | (repeat (first | assumption | exact cell_new (by with_reducible first | rfl | (simp; done) | (simp; omega)) rfl | refine cell_alloc ?_ _ | refine cell_drew ?_ | refine cell_drewN ?_ _ | refine cell_far ?_ (by simp) _ | (refine cell_far ?_ (by simp <;> omega) _))) | simp [go_sem, *])
  have zs0 := cell_lt s0
  have r0 : w1.cell? ⟨w.heap.size + 1 + 1, 0, none⟩ = some (.bool false) := bkeep hb1 (by first | assumption | exact cell_new (by with_reducible first | rfl | (simp; done) | (simp; omega)) rfl | (repeat (first | assumption | exact cell_new (by with_reducible first | rfl | (simp; done) | (simp; omega)) rfl | refine cell_alloc ?_ _ | refine cell_drew ?_ | refine cell_drewN ?_ _ | refine cell_far ?_ (by simp) _ | (refine cell_far ?_ (by simp <;> omega) _))) | simp [go_sem, *])
  have zr0 := cell_lt r0
  have r0f : w1.frozen? ⟨w.heap.size + 1 + 1, 0, none⟩ = false := bkeepf (v := .bool false) hb1 (by first | assumption | exact cell_new (by with_reducible first | rfl | (simp; done) | (simp; omega)) rfl | (repeat (first | assumption | exact cell_new (by with_reducible first | rfl | (simp; done) | (simp; omega)) rfl | refine cell_alloc ?_ _ | refine cell_drew ?_ | refine cell_drewN ?_ _ | refine cell_far ?_ (by simp) _ | (refine cell_far ?_ (by simp <;> omega) _))) | simp [go_sem, *]) (by first | assumption | (simp <;> assumption) | simp [go_sem, *])
  have hB : Below w.heap.size w w1 := bthen (by repeat (first | exact Below.refl _ _ | exact hB | refine Below.drew ?_ | refine below_drewN ?_ _ | refine bset ?_ (by simp <;> omega) _ | refine bal ?_ _)) hb1
  have hz : w.heap.size ≤ w1.heap.size := hB.size
  go_wp2_with fail
  refine (lc _ (by repeat (first | exact Below.refl _ _ | exact hB | refine Below.drew ?_ | refine below_drewN ?_ _ | refine bset ?_ (by simp <;> omega) _ | refine bal ?_ _))).mono ?_
  rintro e w2 ⟨b2, rfl, hs2, hb2⟩
  have p0 : w2.cell? ⟨w.heap.size, 0, none⟩ = some (.int .i64 ins) := bkeep hb2 (by first | assumption | exact cell_new (by with_reducible first | rfl | (simp; done) | (simp; omega)) rfl | (repeat (first | assumption | exact cell_new (by with_reducible first | rfl | (simp; done) | (simp; omega)) rfl | refine cell_alloc ?_ _ | refine cell_drew ?_ | refine cell_drewN ?_ _ | refine cell_far ?_ (by simp) _ | (refine cell_far ?_ (by simp <;> omega) _))) | simp [go_sem, *])
  have zp0 := cell_lt p0
  have p1 : w2.cell? ⟨w.heap.size, 1, none⟩ = some (.int .i64 regs) := bkeep hb2 (by first | assumption | exact cell_new (by with_reducible first | rfl | (simp; done) | (simp; omega)) rfl | (repeat (first | assumption | exact cell_new (by with_reducible first | rfl | (simp; done) | (simp; omega)) rfl | refine cell_alloc ?_ _ | refine cell_drew ?_ | refine cell_drewN ?_ _ | refine cell_far ?_ (by simp) _ | (refine cell_far ?_ (by simp <;> omega) _))) | simp [go_sem, *])
  have p2 : w2.cell? ⟨w.heap.size, 2, none⟩ = some (.slice ca code.length cc) := bkeep hb2 (by first | assumption | exact cell_new (by with_reducible first | rfl | (simp; done) | (simp; omega)) rfl | (repeat (first | assumption | exact cell_new (by with_reducible first | rfl | (simp; done) | (simp; omega)) rfl | refine cell_alloc ?_ _ | refine cell_drew ?_ | refine cell_drewN ?_ _ | refine cell_far ?_ (by simp) _ | (refine cell_far ?_ (by simp <;> omega) _))) | simp [go_sem, *])
  have p3 : w2.cell? ⟨w.heap.size, 3, none⟩ = some (.slice oa outs.length oc) := bkeep hb2 (by first | assumption | exact cell_new (by with_reducible first | rfl | (simp; done) | (simp; omega)) rfl | (repeat (first | assumption | exact cell_new (by with_reducible first | rfl | (simp; done) | (simp; omega)) rfl | refine cell_alloc ?_ _ | refine cell_drew ?_ | refine cell_drewN ?_ _ | refine cell_far ?_ (by simp) _ | (refine cell_far ?_ (by simp <;> omega) _))) | simp [go_sem, *])
  have s0 : w2.cell? ⟨w.heap.size + 1, 0, none⟩ = some (.int .i64 st) := bkeep hb2 (by first | assumption | exact cell_new (by with_reducible first | rfl | (simp; done) | (simp; omega)) rfl | (repeat (first | assumption | exact cell_new (by with_reducible first | rfl | (simp; done) | (simp; omega)) rfl | refine cell_alloc ?_ _ | refine cell_drew ?_ | refine cell_drewN ?_ _ | refine cell_far ?_ (by simp) _ | (refine cell_far ?_ (by simp <;> omega) _))) | simp [go_sem, *])
  have zs0 := cell_lt s0
  have r0 : w2.cell? ⟨w.heap.size + 1 + 1, 0, none⟩ = some (.bool false) := bkeep hb2 (by first | assumption | exact cell_new (by with_reducible first | rfl | (simp; done) | (simp; omega)) rfl | (repeat (first | assumption | exact cell_new (by with_reducible first | rfl | (simp; done) | (simp; omega)) rfl | refine cell_alloc ?_ _ | refine cell_drew ?_ | refine cell_drewN ?_ _ | refine cell_far ?_ (by simp) _ | (refine cell_far ?_ (by simp <;> omega) _))) | simp [go_sem, *])
  have zr0 := cell_lt r0
  have r0f : w2.frozen? ⟨w.heap.size + 1 + 1, 0, none⟩ = false := bkeepf (v := .bool false) hb2 (by first | assumption | exact cell_new (by with_reducible first | rfl | (simp; done) | (simp; omega)) rfl | (repeat (first | assumption | exact cell_new (by with_reducible first | rfl | (simp; done) | (simp; omega)) rfl | refine cell_alloc ?_ _ | refine cell_drew ?_ | refine cell_drewN ?_ _ | refine cell_far ?_ (by simp) _ | (refine cell_far ?_ (by simp <;> omega) _))) | simp [go_sem, *]) (by first | assumption | (simp <;> assumption) | simp [go_sem, *])
  have hB : Below w.heap.size w w2 := bthen (by repeat (first | exact Below.refl _ _ | exact hB | refine Below.drew ?_ | refine below_drewN ?_ _ | refine bset ?_ (by simp <;> omega) _ | refine bal ?_ _)) hb2
  have hz : w.heap.size ≤ w2.heap.size := hB.size
  clear lc
  cases b2 with
  | true =>
    go_wp2
    refine ⟨.bool true, ?_, rfl, bset hB (by show w.heap.size ≤ w.heap.size + 1 + 1; omega) _⟩
    simp [results, Tryz.results3, go_sem, cell_here r0 (.bool true)]
  | false =>
    have HSH := Lib.hid (hs2.out rfl)
    have hll : l.length ≤ 400 := by have := HSH.out.1; omega
    clear hs2
    have gx := fun W (h : Below w.heap.size w W) => rows10_c (.slice la l.length lcp) l W (HV.out.keep h) hll
    go_wp2_with fail
    refine (gx _ (by repeat (first | exact Below.refl _ _ | exact hB | refine Below.drew ?_ | refine below_drewN ?_ _ | refine bset ?_ (by simp <;> omega) _ | refine bal ?_ _))).mono ?_
    rintro e w3 ⟨va, vb, rfl, hra, hrb, hb3⟩
    have p0 : w3.cell? ⟨w.heap.size, 0, none⟩ = some (.int .i64 ins) := bkeep hb3 (by first | assumption | exact cell_new (by with_reducible first | rfl | (simp; done) | (simp; omega)) rfl | (repeat (first | assumption | exact cell_new (by with_reducible first | rfl | (simp; done) | (simp; omega)) rfl | refine cell_alloc ?_ _ | refine cell_drew ?_ | refine cell_drewN ?_ _ | refine cell_far ?_ (by simp) _ | (refine cell_far ?_ (by simp <;> omega) _))) | simp [go_sem, *])
    have zp0 := cell_lt p0
    have p1 : w3.cell? ⟨w.heap.size, 1, none⟩ = some (.int .i64 regs) := bkeep hb3 (by first | assumption | exact cell_new (by with_reducible first | rfl | (simp; done) | (simp; omega)) rfl | (repeat (first | assumption | exact cell_new (by with_reducible first | rfl | (simp; done) | (simp; omega)) rfl | refine cell_alloc ?_ _ | refine cell_drew ?_ | refine cell_drewN ?_ _ | refine cell_far ?_ (by simp) _ | (refine cell_far ?_ (by simp <;> omega) _))) | simp [go_sem, *])
    have p2 : w3.cell? ⟨w.heap.size, 2, none⟩ = some (.slice ca code.length cc) := bkeep hb3 (by first | assumption | exact cell_new (by with_reducible first | rfl | (simp; done) | (simp; omega)) rfl | (repeat (first | assumption | exact cell_new (by with_reducible first | rfl | (simp; done) | (simp; omega)) rfl | refine cell_alloc ?_ _ | refine cell_drew ?_ | refine cell_drewN ?_ _ | refine cell_far ?_ (by simp) _ | (refine cell_far ?_ (by simp <;> omega) _))) | simp [go_sem, *])
    have p3 : w3.cell? ⟨w.heap.size, 3, none⟩ = some (.slice oa outs.length oc) := bkeep hb3 (by first | assumption | exact cell_new (by with_reducible first | rfl | (simp; done) | (simp; omega)) rfl | (repeat (first | assumption | exact cell_new (by with_reducible first | rfl | (simp; done) | (simp; omega)) rfl | refine cell_alloc ?_ _ | refine cell_drew ?_ | refine cell_drewN ?_ _ | refine cell_far ?_ (by simp) _ | (refine cell_far ?_ (by simp <;> omega) _))) | simp [go_sem, *])
    have s0 : w3.cell? ⟨w.heap.size + 1, 0, none⟩ = some (.int .i64 st) := bkeep hb3 (by first | assumption | exact cell_new (by with_reducible first | rfl | (simp; done) | (simp; omega)) rfl | (repeat (first | assumption | exact cell_new (by with_reducible first | rfl | (simp; done) | (simp; omega)) rfl | refine cell_alloc ?_ _ | refine cell_drew ?_ | refine cell_drewN ?_ _ | refine cell_far ?_ (by simp) _ | (refine cell_far ?_ (by simp <;> omega) _))) | simp [go_sem, *])
    have zs0 := cell_lt s0
    have r0 : w3.cell? ⟨w.heap.size + 1 + 1, 0, none⟩ = some (.bool false) := bkeep hb3 (by first | assumption | exact cell_new (by with_reducible first | rfl | (simp; done) | (simp; omega)) rfl | (repeat (first | assumption | exact cell_new (by with_reducible first | rfl | (simp; done) | (simp; omega)) rfl | refine cell_alloc ?_ _ | refine cell_drew ?_ | refine cell_drewN ?_ _ | refine cell_far ?_ (by simp) _ | (refine cell_far ?_ (by simp <;> omega) _))) | simp [go_sem, *])
    have zr0 := cell_lt r0
    have r0f : w3.frozen? ⟨w.heap.size + 1 + 1, 0, none⟩ = false := bkeepf (v := .bool false) hb3 (by first | assumption | exact cell_new (by with_reducible first | rfl | (simp; done) | (simp; omega)) rfl | (repeat (first | assumption | exact cell_new (by with_reducible first | rfl | (simp; done) | (simp; omega)) rfl | refine cell_alloc ?_ _ | refine cell_drew ?_ | refine cell_drewN ?_ _ | refine cell_far ?_ (by simp) _ | (refine cell_far ?_ (by simp <;> omega) _))) | simp [go_sem, *]) (by first | assumption | (simp <;> assumption) | simp [go_sem, *])
    have hB : Below w.heap.size w w3 := bthen (by repeat (first | exact Below.refl _ _ | exact hB | refine Below.drew ?_ | refine below_drewN ?_ _ | refine bset ?_ (by simp <;> omega) _ | refine bal ?_ _)) hb3
    have hz : w.heap.size ≤ w3.heap.size := hB.size
    have HA := Lib.hid (show PRow 0 w3 va l from hra.row.rebase (Nat.zero_le _))
    have HQ := Lib.hid (show RRow 0 w3 vb l from hrb.row.rebase (Nat.zero_le _))
    obtain ⟨a3, c3, rfl⟩ := hra.ex
    obtain ⟨a4, c4, rfl⟩ := hrb.ex
    clear hra hrb gx
    have hw3 := Below.refl w3.heap.size w3
    have ex := fun W (h : Below w.heap.size w W) (h3 : Below w3.heap.size w3 W) => exRun_c ins regs ca oa cc oc code outs (.slice a3 l.length c3) l 64 W (HC.out.1.keep h) (HC.out.2.keep h) (HA.out.keep lims_int h3) (by omega) HBD.out (by omega)
    go_wp2_with fail
    refine (ex _ (by repeat (first | exact Below.refl _ _ | exact hB | refine Below.drew ?_ | refine below_drewN ?_ _ | refine bset ?_ (by simp <;> omega) _ | refine bal ?_ _)) (by repeat (first | exact Below.refl _ _ | exact hw3 | refine Below.drew ?_ | refine below_drewN ?_ _ | refine bset ?_ (by simp <;> omega) _ | refine bal ?_ _))).mono ?_
    rintro e w4 hp4
    obtain ⟨⟨a5, n5, c5, q5, x5, rfl, HR⟩, hb4⟩ := exRunAll hp4
    have hb34 : Below w3.heap.size w3 w4 := bthen (by repeat (first | exact Below.refl _ _ | exact hw3 | refine Below.drew ?_ | refine below_drewN ?_ _ | refine bset ?_ (by simp <;> omega) _ | refine bal ?_ _)) hb4
    have p0 : w4.cell? ⟨w.heap.size, 0, none⟩ = some (.int .i64 ins) := bkeep hb4 (by first | assumption | exact cell_new (by with_reducible first | rfl | (simp; done) | (simp; omega)) rfl | (repeat (first | assumption | exact cell_new (by with_reducible first | rfl | (simp; done) | (simp; omega)) rfl | refine cell_alloc ?_ _ | refine cell_drew ?_ | refine cell_drewN ?_ _ | refine cell_far ?_ (by simp) _ | (refine cell_far ?_ (by simp <;> omega) _))) | simp [go_sem, *])
    have zp0 := cell_lt p0
    have p1 : w4.cell? ⟨w.heap.size, 1, none⟩ = some (.int .i64 regs) := bkeep hb4 (by first | assumption | exact cell_new (by with_reducible first | rfl | (simp; done) | (simp; omega)) rfl | (repeat (first | assumption | exact cell_new (by with_reducible first | rfl | (simp; done) | (simp; omega)) rfl | refine cell_alloc ?_ _ | refine cell_drew ?_ | refine cell_drewN ?_ _ | refine cell_far ?_ (by simp) _ | (refine cell_far ?_ (by simp <;> omega) _))) | simp [go_sem, *])
    have p2 : w4.cell? ⟨w.heap.size, 2, none⟩ = some (.slice ca code.length cc) := bkeep hb4 (by first | assumption | exact cell_new (by with_reducible first | rfl | (simp; done) | (simp; omega)) rfl | (repeat (first | assumption | exact cell_new (by with_reducible first | rfl | (simp; done) | (simp; omega)) rfl | refine cell_alloc ?_ _ | refine cell_drew ?_ | refine cell_drewN ?_ _ | refine cell_far ?_ (by simp) _ | (refine cell_far ?_ (by simp <;> omega) _))) | simp [go_sem, *])
    have p3 : w4.cell? ⟨w.heap.size, 3, none⟩ = some (.slice oa outs.length oc) := bkeep hb4 (by first | assumption | exact cell_new (by with_reducible first | rfl | (simp; done) | (simp; omega)) rfl | (repeat (first | assumption | exact cell_new (by with_reducible first | rfl | (simp; done) | (simp; omega)) rfl | refine cell_alloc ?_ _ | refine cell_drew ?_ | refine cell_drewN ?_ _ | refine cell_far ?_ (by simp) _ | (refine cell_far ?_ (by simp <;> omega) _))) | simp [go_sem, *])
    have s0 : w4.cell? ⟨w.heap.size + 1, 0, none⟩ = some (.int .i64 st) := bkeep hb4 (by first | assumption | exact cell_new (by with_reducible first | rfl | (simp; done) | (simp; omega)) rfl | (repeat (first | assumption | exact cell_new (by with_reducible first | rfl | (simp; done) | (simp; omega)) rfl | refine cell_alloc ?_ _ | refine cell_drew ?_ | refine cell_drewN ?_ _ | refine cell_far ?_ (by simp) _ | (refine cell_far ?_ (by simp <;> omega) _))) | simp [go_sem, *])
    have zs0 := cell_lt s0
    have r0 : w4.cell? ⟨w.heap.size + 1 + 1, 0, none⟩ = some (.bool false) := bkeep hb4 (by first | assumption | exact cell_new (by with_reducible first | rfl | (simp; done) | (simp; omega)) rfl | (repeat (first | assumption | exact cell_new (by with_reducible first | rfl | (simp; done) | (simp; omega)) rfl | refine cell_alloc ?_ _ | refine cell_drew ?_ | refine cell_drewN ?_ _ | refine cell_far ?_ (by simp) _ | (refine cell_far ?_ (by simp <;> omega) _))) | simp [go_sem, *])
    have zr0 := cell_lt r0
    have r0f : w4.frozen? ⟨w.heap.size + 1 + 1, 0, none⟩ = false := bkeepf (v := .bool false) hb4 (by first | assumption | exact cell_new (by with_reducible first | rfl | (simp; done) | (simp; omega)) rfl | (repeat (first | assumption | exact cell_new (by with_reducible first | rfl | (simp; done) | (simp; omega)) rfl | refine cell_alloc ?_ _ | refine cell_drew ?_ | refine cell_drewN ?_ _ | refine cell_far ?_ (by simp) _ | (refine cell_far ?_ (by simp <;> omega) _))) | simp [go_sem, *]) (by first | assumption | (simp <;> assumption) | simp [go_sem, *])
    have hB : Below w.heap.size w w4 := bthen (by repeat (first | exact Below.refl _ _ | exact hB | refine Below.drew ?_ | refine below_drewN ?_ _ | refine bset ?_ (by simp <;> omega) _ | refine bal ?_ _)) hb4
    have hz : w.heap.size ≤ w4.heap.size := hB.size
    have hw4 := Below.refl w4.heap.size w4
    clear ex hp4
    have tx := fun W (h3 : Below w4.heap.size w4 W) => trace_c ins regs ca oa code.length cc outs.length oc (.slice a3 l.length c3) l W ((HA.out.keep lims_int hb34).keep lims_int h3)
    go_wp2_with fail
    refine (tx _ (by repeat (first | exact Below.refl _ _ | exact hw4 | refine Below.drew ?_ | refine below_drewN ?_ _ | refine bset ?_ (by simp <;> omega) _ | refine bal ?_ _))).mono ?_
    rintro e w5 ⟨pb, xb, rfl, htc, hb5⟩
    have hb45 : Below w4.heap.size w4 w5 := bthen (by repeat (first | exact Below.refl _ _ | exact hw4 | refine Below.drew ?_ | refine below_drewN ?_ _ | refine bset ?_ (by simp <;> omega) _ | refine bal ?_ _)) hb5
    have HTC := Lib.hid htc
    have p0 : w5.cell? ⟨w.heap.size, 0, none⟩ = some (.int .i64 ins) := bkeep hb5 (by first | assumption | exact cell_new (by with_reducible first | rfl | (simp; done) | (simp; omega)) rfl | (repeat (first | assumption | exact cell_new (by with_reducible first | rfl | (simp; done) | (simp; omega)) rfl | refine cell_alloc ?_ _ | refine cell_drew ?_ | refine cell_drewN ?_ _ | refine cell_far ?_ (by simp) _ | (refine cell_far ?_ (by simp <;> omega) _))) | simp [go_sem, *])
    have zp0 := cell_lt p0
    have p1 : w5.cell? ⟨w.heap.size, 1, none⟩ = some (.int .i64 regs) := bkeep hb5 (by first | assumption | exact cell_new (by with_reducible first | rfl | (simp; done) | (simp; omega)) rfl | (repeat (first | assumption | exact cell_new (by with_reducible first | rfl | (simp; done) | (simp; omega)) rfl | refine cell_alloc ?_ _ | refine cell_drew ?_ | refine cell_drewN ?_ _ | refine cell_far ?_ (by simp) _ | (refine cell_far ?_ (by simp <;> omega) _))) | simp [go_sem, *])
    have p2 : w5.cell? ⟨w.heap.size, 2, none⟩ = some (.slice ca code.length cc) := bkeep hb5 (by first | assumption | exact cell_new (by with_reducible first | rfl | (simp; done) | (simp; omega)) rfl | (repeat (first | assumption | exact cell_new (by with_reducible first | rfl | (simp; done) | (simp; omega)) rfl | refine cell_alloc ?_ _ | refine cell_drew ?_ | refine cell_drewN ?_ _ | refine cell_far ?_ (by simp) _ | (refine cell_far ?_ (by simp <;> omega) _))) | simp [go_sem, *])
    have p3 : w5.cell? ⟨w.heap.size, 3, none⟩ = some (.slice oa outs.length oc) := bkeep hb5 (by first | assumption | exact cell_new (by with_reducible first | rfl | (simp; done) | (simp; omega)) rfl | (repeat (first | assumption | exact cell_new (by with_reducible first | rfl | (simp; done) | (simp; omega)) rfl | refine cell_alloc ?_ _ | refine cell_drew ?_ | refine cell_drewN ?_ _ | refine cell_far ?_ (by simp) _ | (refine cell_far ?_ (by simp <;> omega) _))) | simp [go_sem, *])
    have s0 : w5.cell? ⟨w.heap.size + 1, 0, none⟩ = some (.int .i64 st) := bkeep hb5 (by first | assumption | exact cell_new (by with_reducible first | rfl | (simp; done) | (simp; omega)) rfl | (repeat (first | assumption | exact cell_new (by with_reducible first | rfl | (simp; done) | (simp; omega)) rfl | refine cell_alloc ?_ _ | refine cell_drew ?_ | refine cell_drewN ?_ _ | refine cell_far ?_ (by simp) _ | (refine cell_far ?_ (by simp <;> omega) _))) | simp [go_sem, *])
    have zs0 := cell_lt s0
    have r0 : w5.cell? ⟨w.heap.size + 1 + 1, 0, none⟩ = some (.bool false) := bkeep hb5 (by first | assumption | exact cell_new (by with_reducible first | rfl | (simp; done) | (simp; omega)) rfl | (repeat (first | assumption | exact cell_new (by with_reducible first | rfl | (simp; done) | (simp; omega)) rfl | refine cell_alloc ?_ _ | refine cell_drew ?_ | refine cell_drewN ?_ _ | refine cell_far ?_ (by simp) _ | (refine cell_far ?_ (by simp <;> omega) _))) | simp [go_sem, *])
    have zr0 := cell_lt r0
    have r0f : w5.frozen? ⟨w.heap.size + 1 + 1, 0, none⟩ = false := bkeepf (v := .bool false) hb5 (by first | assumption | exact cell_new (by with_reducible first | rfl | (simp; done) | (simp; omega)) rfl | (repeat (first | assumption | exact cell_new (by with_reducible first | rfl | (simp; done) | (simp; omega)) rfl | refine cell_alloc ?_ _ | refine cell_drew ?_ | refine cell_drewN ?_ _ | refine cell_far ?_ (by simp) _ | (refine cell_far ?_ (by simp <;> omega) _))) | simp [go_sem, *]) (by first | assumption | (simp <;> assumption) | simp [go_sem, *])
    have hB : Below w.heap.size w w5 := bthen (by repeat (first | exact Below.refl _ _ | exact hB | refine Below.drew ?_ | refine below_drewN ?_ _ | refine bset ?_ (by simp <;> omega) _ | refine bal ?_ _)) hb5
    have hz : w.heap.size ≤ w5.heap.size := hB.size
    have hw5 := Below.refl w5.heap.size w5
    clear tx htc
    go_wp2_with fail
    refine (rc _ (by repeat (first | exact Below.refl _ _ | exact hB | refine Below.drew ?_ | refine below_drewN ?_ _ | refine bset ?_ (by simp <;> omega) _ | refine bal ?_ _))).mono ?_
    rintro e w6 ⟨b6, rfl, hr6, hb6⟩
    have hb56 : Below w5.heap.size w5 w6 := bthen (by repeat (first | exact Below.refl _ _ | exact hw5 | refine Below.drew ?_ | refine below_drewN ?_ _ | refine bset ?_ (by simp <;> omega) _ | refine bal ?_ _)) hb6
    have p0 : w6.cell? ⟨w.heap.size, 0, none⟩ = some (.int .i64 ins) := bkeep hb6 (by first | assumption | exact cell_new (by with_reducible first | rfl | (simp; done) | (simp; omega)) rfl | (repeat (first | assumption | exact cell_new (by with_reducible first | rfl | (simp; done) | (simp; omega)) rfl | refine cell_alloc ?_ _ | refine cell_drew ?_ | refine cell_drewN ?_ _ | refine cell_far ?_ (by simp) _ | (refine cell_far ?_ (by simp <;> omega) _))) | simp [go_sem, *])
    have zp0 := cell_lt p0
    have p1 : w6.cell? ⟨w.heap.size, 1, none⟩ = some (.int .i64 regs) := bkeep hb6 (by first | assumption | exact cell_new (by with_reducible first | rfl | (simp; done) | (simp; omega)) rfl | (repeat (first | assumption | exact cell_new (by with_reducible first | rfl | (simp; done) | (simp; omega)) rfl | refine cell_alloc ?_ _ | refine cell_drew ?_ | refine cell_drewN ?_ _ | refine cell_far ?_ (by simp) _ | (refine cell_far ?_ (by simp <;> omega) _))) | simp [go_sem, *])
    have p2 : w6.cell? ⟨w.heap.size, 2, none⟩ = some (.slice ca code.length cc) := bkeep hb6 (by first | assumption | exact cell_new (by with_reducible first | rfl | (simp; done) | (simp; omega)) rfl | (repeat (first | assumption | exact cell_new (by with_reducible first | rfl | (simp; done) | (simp; omega)) rfl | refine cell_alloc ?_ _ | refine cell_drew ?_ | refine cell_drewN ?_ _ | refine cell_far ?_ (by simp) _ | (refine cell_far ?_ (by simp <;> omega) _))) | simp [go_sem, *])
    have p3 : w6.cell? ⟨w.heap.size, 3, none⟩ = some (.slice oa outs.length oc) := bkeep hb6 (by first | assumption | exact cell_new (by with_reducible first | rfl | (simp; done) | (simp; omega)) rfl | (repeat (first | assumption | exact cell_new (by with_reducible first | rfl | (simp; done) | (simp; omega)) rfl | refine cell_alloc ?_ _ | refine cell_drew ?_ | refine cell_drewN ?_ _ | refine cell_far ?_ (by simp) _ | (refine cell_far ?_ (by simp <;> omega) _))) | simp [go_sem, *])
    have s0 : w6.cell? ⟨w.heap.size + 1, 0, none⟩ = some (.int .i64 st) := bkeep hb6 (by first | assumption | exact cell_new (by with_reducible first | rfl | (simp; done) | (simp; omega)) rfl | (repeat (first | assumption | exact cell_new (by with_reducible first | rfl | (simp; done) | (simp; omega)) rfl | refine cell_alloc ?_ _ | refine cell_drew ?_ | refine cell_drewN ?_ _ | refine cell_far ?_ (by simp) _ | (refine cell_far ?_ (by simp <;> omega) _))) | simp [go_sem, *])
    have zs0 := cell_lt s0
    have r0 : w6.cell? ⟨w.heap.size + 1 + 1, 0, none⟩ = some (.bool false) := bkeep hb6 (by first | assumption | exact cell_new (by with_reducible first | rfl | (simp; done) | (simp; omega)) rfl | (repeat (first | assumption | exact cell_new (by with_reducible first | rfl | (simp; done) | (simp; omega)) rfl | refine cell_alloc ?_ _ | refine cell_drew ?_ | refine cell_drewN ?_ _ | refine cell_far ?_ (by simp) _ | (refine cell_far ?_ (by simp <;> omega) _))) | simp [go_sem, *])
    have zr0 := cell_lt r0
    have r0f : w6.frozen? ⟨w.heap.size + 1 + 1, 0, none⟩ = false := bkeepf (v := .bool false) hb6 (by first | assumption | exact cell_new (by with_reducible first | rfl | (simp; done) | (simp; omega)) rfl | (repeat (first | assumption | exact cell_new (by with_reducible first | rfl | (simp; done) | (simp; omega)) rfl | refine cell_alloc ?_ _ | refine cell_drew ?_ | refine cell_drewN ?_ _ | refine cell_far ?_ (by simp) _ | (refine cell_far ?_ (by simp <;> omega) _))) | simp [go_sem, *]) (by first | assumption | (simp <;> assumption) | simp [go_sem, *])
    have hB : Below w.heap.size w w6 := bthen (by repeat (first | exact Below.refl _ _ | exact hB | refine Below.drew ?_ | refine below_drewN ?_ _ | refine bset ?_ (by simp <;> omega) _ | refine bal ?_ _)) hb6
    have hz : w.heap.size ≤ w6.heap.size := hB.size
    have HR6 := Lib.hid hr6
    have hw6 := Below.refl w6.heap.size w6
    clear rc hr6
    go_wp2_with fail
    refine (live_c _).mono ?_
    rintro e w7 ⟨rfl, hb7⟩
    have hb67 : Below w6.heap.size w6 w7 := bthen (by repeat (first | exact Below.refl _ _ | exact hw6 | refine Below.drew ?_ | refine below_drewN ?_ _ | refine bset ?_ (by simp <;> omega) _ | refine bal ?_ _)) hb7
    have p0 : w7.cell? ⟨w.heap.size, 0, none⟩ = some (.int .i64 ins) := bkeep hb7 (by first | assumption | exact cell_new (by with_reducible first | rfl | (simp; done) | (simp; omega)) rfl | (repeat (first | assumption | exact cell_new (by with_reducible first | rfl | (simp; done) | (simp; omega)) rfl | refine cell_alloc ?_ _ | refine cell_drew ?_ | refine cell_drewN ?_ _ | refine cell_far ?_ (by simp) _ | (refine cell_far ?_ (by simp <;> omega) _))) | simp [go_sem, *])
    have zp0 := cell_lt p0
    have p1 : w7.cell? ⟨w.heap.size, 1, none⟩ = some (.int .i64 regs) := bkeep hb7 (by first | assumption | exact cell_new (by with_reducible first | rfl | (simp; done) | (simp; omega)) rfl | (repeat (first | assumption | exact cell_new (by with_reducible first | rfl | (simp; done) | (simp; omega)) rfl | refine cell_alloc ?_ _ | refine cell_drew ?_ | refine cell_drewN ?_ _ | refine cell_far ?_ (by simp) _ | (refine cell_far ?_ (by simp <;> omega) _))) | simp [go_sem, *])
    have p2 : w7.cell? ⟨w.heap.size, 2, none⟩ = some (.slice ca code.length cc) := bkeep hb7 (by first | assumption | exact cell_new (by with_reducible first | rfl | (simp; done) | (simp; omega)) rfl | (repeat (first | assumption | exact cell_new (by with_reducible first | rfl | (simp; done) | (simp; omega)) rfl | refine cell_alloc ?_ _ | refine cell_drew ?_ | refine cell_drewN ?_ _ | refine cell_far ?_ (by simp) _ | (refine cell_far ?_ (by simp <;> omega) _))) | simp [go_sem, *])
    have p3 : w7.cell? ⟨w.heap.size, 3, none⟩ = some (.slice oa outs.length oc) := bkeep hb7 (by first | assumption | exact cell_new (by with_reducible first | rfl | (simp; done) | (simp; omega)) rfl | (repeat (first | assumption | exact cell_new (by with_reducible first | rfl | (simp; done) | (simp; omega)) rfl | refine cell_alloc ?_ _ | refine cell_drew ?_ | refine cell_drewN ?_ _ | refine cell_far ?_ (by simp) _ | (refine cell_far ?_ (by simp <;> omega) _))) | simp [go_sem, *])
    have s0 : w7.cell? ⟨w.heap.size + 1, 0, none⟩ = some (.int .i64 st) := bkeep hb7 (by first | assumption | exact cell_new (by with_reducible first | rfl | (simp; done) | (simp; omega)) rfl | (repeat (first | assumption | exact cell_new (by with_reducible first | rfl | (simp; done) | (simp; omega)) rfl | refine cell_alloc ?_ _ | refine cell_drew ?_ | refine cell_drewN ?_ _ | refine cell_far ?_ (by simp) _ | (refine cell_far ?_ (by simp <;> omega) _))) | simp [go_sem, *])
    have zs0 := cell_lt s0
    have r0 : w7.cell? ⟨w.heap.size + 1 + 1, 0, none⟩ = some (.bool false) := bkeep hb7 (by first | assumption | exact cell_new (by with_reducible first | rfl | (simp; done) | (simp; omega)) rfl | (repeat (first | assumption | exact cell_new (by with_reducible first | rfl | (simp; done) | (simp; omega)) rfl | refine cell_alloc ?_ _ | refine cell_drew ?_ | refine cell_drewN ?_ _ | refine cell_far ?_ (by simp) _ | (refine cell_far ?_ (by simp <;> omega) _))) | simp [go_sem, *])
    have zr0 := cell_lt r0
    have r0f : w7.frozen? ⟨w.heap.size + 1 + 1, 0, none⟩ = false := bkeepf (v := .bool false) hb7 (by first | assumption | exact cell_new (by with_reducible first | rfl | (simp; done) | (simp; omega)) rfl | (repeat (first | assumption | exact cell_new (by with_reducible first | rfl | (simp; done) | (simp; omega)) rfl | refine cell_alloc ?_ _ | refine cell_drew ?_ | refine cell_drewN ?_ _ | refine cell_far ?_ (by simp) _ | (refine cell_far ?_ (by simp <;> omega) _))) | simp [go_sem, *]) (by first | assumption | (simp <;> assumption) | simp [go_sem, *])
    have hB : Below w.heap.size w w7 := bthen (by repeat (first | exact Below.refl _ _ | exact hB | refine Below.drew ?_ | refine below_drewN ?_ _ | refine bset ?_ (by simp <;> omega) _ | refine bal ?_ _)) hb7
    have hz : w.heap.size ≤ w7.heap.size := hB.size
    have hb37 := bthen hb34 (bthen hb45 (bthen hb56 hb67))
    have HTI := Lib.hid (show ∀ (X0 : Nat → Prop), (∀ q, X0 q → q < w7.heap.size) → (∀ q, X0 q → typOf w7 q = some 3) → (∀ b off, ca = some ⟨b, off, none⟩ → 0 < code.length → ¬ X0 b) → TraceIn w7.heap.size X0 pb xb ins regs ca oa cc oc code outs (.slice a3 l.length c3) l w7 from fun X0 h1 h2 h3 =>
      have hb57 := bthen hb56 hb67
      ⟨bkeep hb57 HTC.out.1, bkeep hb57 HTC.out.2.1, bkeep hb57 HTC.out.2.2.1, bkeep hb57 HTC.out.2.2.2.1, bkeep hb57 HTC.out.2.2.2.2, HC.out.1.keep hB, HC.out.2.keep hB, HA.out.keep lims_int hb37, h1, Nat.le_refl _, h2, h3⟩)
    have hrz : w.heap.size + 1 + 1 < w7.heap.size := zr0
    cases b6 with
    | false =>
      have HNO := Lib.hid (show ¬ ProgOk ins regs code outs ∨ (l.length : Int) ≠ ins from .inl fun h => by have := HR6.out.2 h; cases this)
      have HNX := Lib.hid (show n5 = 0 ∧ q5 = 0 ∧ x5 = 80 by
        have hno : ¬ ProgOk ins regs code outs := fun h => by have := HR6.out.2 h; cases this
        rcases HR.out with ⟨_, h⟩ | ⟨h, _⟩ | ⟨h, _⟩ | ⟨h, _⟩
        · exact h
        · exact absurd h hno
        · exact absurd h hno
        · exact absurd h hno)
      go_wp2
      obtain ⟨hnx, hqx, hxx⟩ := HNX.out
      refine wp_rangeV (gf := 60) (lb := #[.pointer (some ⟨pb, 0, none⟩), .pointer (some ⟨xb, 0, none⟩)]) (by simp [Act.eval]) (enters_of Tryz.func60 (by kernel_rfl) rfl)
        (trace_no (n0 := w7.heap.size) (X0 := fun _ => False) HNO.out) (fun X o h => (Below.refl _ _).alloc h o) (fun X l o o' h1 h2 h3 h4 => belowK_b (Nat.le_refl _) X l o o' h1 h2 h3 h4)
        (fun W h => (HTI.out _ (fun q hq => hq.elim) (fun q hq => hq.elim) (fun _ _ _ _ hq => hq.elim)).keep h) (fun _ _ _ h => h.elim)
        (fun _ W => Below w7.heap.size w7 W) (fun _ _ _ => False) (fun _ X Y h c => h.trans c) (fun _ _ _ _ h _ => h.elim) (Below.refl _ _)
        (fun _ _ _ _ _ => True) (fun _ _ _ _ _ _ _ _ _ _ _ => trivial) (fun _ _ _ _ _ h _ => h.elim) (fun _ _ _ _ _ h => absurd h (by omega)) (fun _ _ _ _ _ h => absurd h (by omega)) ?_ (fun _ _ _ _ _ _ h => h.elim)
      intro D Y hD hI hK
      replace r0f := bkeepf hI r0 r0f
      replace r0 := bkeep hI r0
      replace p0 := bkeep hI p0
      have hBY := bthen hB hI
      have hDl := (Array.getElem?_eq_some_iff.1 hK).1
      have zr0 := cell_lt r0
      have zbs := hB.size
      subst hnx hqx hxx
      go_wp2
      refine ⟨by simp, .inl ⟨_, _, rfl, run_takeDeferred (b := D) (ds := []) ?_, ?_⟩⟩
      · exact (Below.heap_setCell _ _ _ D (by simp; omega)).trans hK
      · have hfin := cell_put (D := D) (cell_here r0 (.bool true)) (by simp; omega) (.deferred none)
        refine ⟨.bool true, ?_, rfl, b_put (bset hBY (by show w.heap.size ≤ w.heap.size + 1 + 1; omega) _) (by omega) _⟩
        simp [results, Tryz.results3, go_sem, hfin]
    | true =>
      have HOK := Lib.hid (show ProgOk ins regs code outs from by have := HR6.out; simpa using this)
      by_cases hle : (l.length : Int) = ins
      · have HLE := Lib.hid hle
        have hleI : ((l.length : Int) != ins) = false := by simp; exact hle
        clear hle he
        obtain ⟨R, hR⟩ : ∃ R : Nat, regs = R := ⟨regs.toNat, by have := HOK.out.i1; have := HOK.out.i2; omega⟩
        have hlR : l.length ≤ R := by have := HOK.out.i2; have := HLE.out; omega
        have h0 : 0 < l.length := by have := HOK.out.i1; have := HLE.out; omega
        have HA2 := Lib.hid (show ∀ n, n < code.length → (code.getD n default).a.toNat < R from fun n hn => by have h1 := (ins_of HOK.out hn).a1; have h2 := (ins_of HOK.out hn).a0; rw [hR, Int.toNat_natCast] at h1; omega)
        subst hR
        have hcl := HOK.out.c1
        have hol := HOK.out.o2
        have HQ7 := Lib.hid (HQ.out.keep lims_ref hb37)
        have hw7 := Below.refl w7.heap.size w7
        go_wp2
        go_loopw [14, 15] (fun v x wr => ∃ j : Nat, j ≤ l.length ∧ x = .int .i64 j ∧ Hid (OwnL 31 (RRow 0) w7 wr v ((colOf l).take j))) (fun _ x _ => l.length - (intOf x).toNat)
        case atStart => exact ⟨0, Nat.zero_le _, rfl, Lib.hid (OwnL.nil _ _ hw7)⟩
        case round =>
          obtain ⟨j, hj, rfl, hO⟩ := hrel
          have hbr := hO.out.bel
          have hlen : ((colOf l).take j).length = j := by rw [List.length_take, colOf_len]; omega
          obtain ⟨ga, gc, hgv⟩ := hO.out.ex
          rw [hlen] at hgv
          subst hgv
          have HLEN := Lib.hid hlen
          clear hlen
          by_cases hlt : j < l.length
          · have hltI : (j : Int) < (l.length : Int) := by omega
            obtain ⟨a', c', heq, -, vr⟩ := (HQ7.out.keep lims_ref hbr).view
            obtain ⟨rfl, -, rfl⟩ := Value.slice.inj heq
            obtain ⟨rb, ro, nn, na, nl, nc, rfl, d0, d1, hi⟩ := vr j hlt
            have zrb := cell_lt d0
            have HI := Lib.hid hi
            have HT := Lib.hid (take_getD (l := colOf l) [] (show j < (colOf l).length by rw [colOf_len]; exact hlt))
            rw [colOf_get hlt] at HT
            obtain ⟨z, hz⟩ : ∃ z, l.getD j 0 = z := ⟨_, rfl⟩
            rw [hz] at HT HI
            clear vr heq hi hz
            go_wp2_with (at_builtin; refine appL elRws (prs_row lims_ref _ _) (by decide) (by rfl) (by rfl) (hO.out.below (prs_row lims_ref _ _) (bal (bal (Below.refl _ _) _) _)) (row1 (cell_alloc (cell_new rfl rfl) _) (cell_alloc (cell_new rfl rfl) _) (typ_keep (typ_fresh rfl) (bal (Below.refl _ _) _)) (HI.out.keep (bal (bal (Below.refl _ _) _) _))) (by rfl) (by rfl) (cell_new (by simp) rfl) (by rw [HLEN.out]; omega) (by rw [HLEN.out]; unfold maxLen; omega) ?_)
            intro v' w8 hO8 hk8
            rw [← HT.out] at hO8
            have HO8 := Lib.hid hO8
            clear hO8 hk8
            go_wp2
            exact ⟨⟨j + 1, by omega, by go_num, HO8⟩, by simp [intOf]; omega⟩
          · obtain rfl : j = l.length := by omega
            have hall : (colOf l).take l.length = colOf l := by rw [← colOf_len l, List.take_length]
            rw [hall] at hO
            have HGV := Lib.hid (show GridQ wr (.slice ga l.length gc) (colOf l) from hO.out.isL.rebase (Nat.zero_le _))
            have hBr := bthen hB hbr
            obtain ⟨w8, hw8⟩ : ∃ w8, wr = w8 := ⟨_, rfl⟩
            rw [hw8] at HGV hbr hBr ⊢
            clear hw8 hall hO
            replace p0 := bkeep hbr p0
            replace p1 := bkeep hbr p1
            replace p2 := bkeep hbr p2
            replace p3 := bkeep hbr p3
            replace s0 := bkeep hbr s0
            replace r0f := bkeepf hbr r0 r0f
            replace r0 := bkeep hbr r0
            have zp8 := cell_lt p0
            have hw8 := Below.refl w8.heap.size w8
            have fx := fun W (h : Below w8.heap.size w8 W) => follow_c ins R ca oa cc oc code outs (.slice ga l.length gc) (colOf l) 1 64 W (HC.out.1.keep (bthen hBr h)) (HC.out.2.keep (bthen hBr h)) (HGV.out.keep (prs_row lims_ref _ _) h) HOK.out (by rw [colOf_len]; exact HLE.out) (colOf_rect l) (by rw [colOf_get h0]; rfl) (by omega) (colOf_bd HBD.out) (by omega)
            go_wp2_with fail
            refine (fx _ (by repeat (first | exact Below.refl _ _ | exact hw8 | refine Below.drew ?_ | refine below_drewN ?_ _ | refine bset ?_ (by simp <;> omega) _ | refine bal ?_ _))).mono ?_
            rintro e w9 hf
            obtain ⟨⟨M, sa, sc, bad, wa, wn, wc, rfl, hMl, HF⟩, hb9⟩ := followAll hf
            have hb89 : Below w8.heap.size w8 w9 := bthen (by repeat (first | exact Below.refl _ _ | exact hw8 | refine Below.drew ?_ | refine below_drewN ?_ _ | refine bset ?_ (by simp <;> omega) _ | refine bal ?_ _)) hb9
            have hB9 := bthen hBr hb89
            have HM := Lib.hid (show ToldM code (startN l R) M by
              obtain ⟨h, h1, _, h2⟩ := HF.out
              refine ⟨hMl, ⟨_, col_some hlR HA2.out hMl h1⟩, fun hlt => ?_⟩
              rcases h2 with ⟨_, h3, _⟩ | ⟨h3, _⟩
              · exact col_none hlR HA2.out hlt h1 h3
              · omega)
            have HTR := Lib.hid (show ∀ n, n < M → toldR code (startG (colOf l) R 1) n = [toldN code (startN l R) n] from fun n hn => by
              obtain ⟨h, h1, _⟩ := HF.out
              exact told_row hlR HA2.out hn hMl h1)
            clear hf fx
            replace p0 := bkeep hb89 p0
            replace p1 := bkeep hb89 p1
            replace p2 := bkeep hb89 p2
            replace p3 := bkeep hb89 p3
            replace s0 := bkeep hb89 s0
            replace r0f := bkeepf hb89 r0 r0f
            replace r0 := bkeep hb89 r0
            have zp9 := cell_lt p0
            have zs9 := cell_lt s0
            have zr9 := cell_lt r0
            -- ROUNDS
            have hst9 := cell_lt r0
            have HSZ := Lib.hid hst9
            have hb59 : Below w5.heap.size w5 w9 := bthen (bthen hb56 hb67) (bthen hbr hb89)
            have hb39 : Below w3.heap.size w3 w9 := bthen hb37 (bthen hbr hb89)
            have hb49 : Below w4.heap.size w4 w9 := bthen hb45 hb59
            have HROW := Lib.hid (show ∀ k, k < M → ∃ b o rb ro c nb na nl nc, sa = some ⟨b, o, none⟩ ∧ w9.cell? ⟨b, o + k, none⟩ = some (.slice (some ⟨rb, ro, none⟩) 1 c) ∧ w9.cell? ⟨rb, ro, none⟩ = some (.bool nb) ∧ w9.cell? ⟨rb, ro + 1, none⟩ = some (.slice na nl nc) ∧ IsRef w9 (.agg #[.bool nb, .slice na nl nc]) (toldN code (startN l R) k) from fun k hk => by
              obtain ⟨h, h1, h2, _⟩ := HF.out
              obtain ⟨a', c', he', -, hv'⟩ := h2.isL.view
              obtain ⟨rfl, -, rfl⟩ := Value.slice.inj he'
              obtain ⟨b, o, u, rfl, hcu, hru⟩ := hv' k (by rw [told_len]; exact hk)
              have e1 : (told code (startG (colOf l) R 1) M)[k]'(by rw [told_len]; exact hk) = [toldN code (startN l R) k] := by
                rw [← HTR.out k hk]; simp [told]
              rw [e1] at hru
              obtain ⟨a2, c2, rfl, -, hr2⟩ := hru.view
              obtain ⟨rb, ro, nb, na, nl, nc, rfl, d0, d1, hi⟩ := hr2 0 (by simp)
              exact ⟨b, o, rb, ro, c2, nb, na, nl, nc, rfl, hcu, by simpa using d0, by simpa using d1, by simpa using hi⟩)
            have HTB := Lib.hid (show ∀ k, k < code.length → Bd 8192 (toldN code (startN l R) k) from fun k hk => (toldN_bd (startN_bd HBD.out) (cs_of HOK.out) hk).mono (by have := HSH.out.2.1; omega))
            have HE := Lib.hid (show (bad = (M : Int) ∧ n5 = 0 ∧ q5 = (M : Int) ∧ x5 = 20) ∨ (bad = -1 ∧ q5 = 0 ∧ x5 = 0 ∧ ∃ L : List Int, n5 = L.length ∧ wn = L.length ∧ L.length ≤ 128 ∧ (∀ j, Bd 8192 (L.getD j 0)) ∧ PRow 0 w4 (.slice a5 L.length c5) L ∧ ∀ k, k < L.length → ∃ b o rb ro c nb na nl nc, wa = some ⟨b, o, none⟩ ∧ w9.cell? ⟨b, o + k, none⟩ = some (.slice (some ⟨rb, ro, none⟩) 1 c) ∧ w9.cell? ⟨rb, ro, none⟩ = some (.bool nb) ∧ w9.cell? ⟨rb, ro + 1, none⟩ = some (.slice na nl nc) ∧ IsRef w9 (.agg #[.bool nb, .slice na nl nc]) (L.getD k 0)) from by
              have hT := HM.out
              obtain ⟨h, h1, h2, h3⟩ := HF.out
              rcases h3 with ⟨g1, g2, g3⟩ | ⟨g1, g2, g3, g4⟩
              · have hs := hT.has
                have hn := hT.stop g1
                rcases HR.out with ⟨e, _⟩ | ⟨_, e, _⟩ | ⟨_, _, m, s, k1, k2, k3, k4, k5, k6⟩ | ⟨_, _, s, k1, _⟩
                · exact absurd HOK.out e
                · exact absurd HLE.out e
                · obtain rfl : m = M := afterN_uniq ⟨s, k2⟩ k3 hs hn
                  exact .inl ⟨g3, k4, k5, k6⟩
                · have k7 := afterN_mono hn (show M + 1 ≤ code.length by omega)
                  have k8 : some s = none := k1.symm.trans k7
                  cases k8
              · obtain ⟨s', hs'⟩ := hT.has
                rw [g1] at hs'
                rcases HR.out with ⟨e, _⟩ | ⟨_, e, _⟩ | ⟨_, _, m, s, k1, k2, k3, k4, k5, k6⟩ | ⟨_, _, s, k1, k2, k3, k4, k5⟩
                · exact absurd HOK.out e
                · exact absurd HLE.out e
                · have k7 := afterN_mono k3 (show m + 1 ≤ code.length by omega)
                  have k8 : some s' = none := hs'.symm.trans k7
                  cases k8
                · have e1 := col_some hlR HA2.out hMl h1
                  rw [g1] at e1
                  have e2 : colG h 0 = s := Option.some.inj (e1.symm.trans k1)
                  have eL : (outsN outs s).length = outs.length := by simp [outsN]
                  have hb := outsN_bd (outs := outs) (afterN_bd (startN_bd HBD.out) (cs_of HOK.out) (Nat.le_refl _) k1)
                  refine .inr ⟨g2, k3, k4, outsN outs s, by omega, by omega, by omega, fun j => (hb j).mono (by have := HSH.out.2.1; omega), ?_, fun k hk => ?_⟩
                  · rw [k2] at k5
                    rw [← eL] at k5
                    exact k5.row.rebase (Nat.zero_le _)
                  · have eG : (outsG outs h).length = outs.length := by simp [outsG]
                    obtain ⟨a', c', he', -, hv'⟩ := g4.isL.view
                    obtain ⟨rfl, -, rfl⟩ := Value.slice.inj he'
                    obtain ⟨b, o, u, rfl, hcu, hru⟩ := hv' k (by omega)
                    rw [outs_row HOK.out hlR HA2.out hMl h1 (by omega), e2] at hru
                    obtain ⟨a2, c2, rfl, -, hr2⟩ := hru.view
                    obtain ⟨rb, ro, nb, na, nl, nc, rfl, d0, d1, hi⟩ := hr2 0 (by simp)
                    exact ⟨b, o, rb, ro, c2, nb, na, nl, nc, rfl, hcu, by simpa using d0, by simpa using d1, by simpa using hi⟩)
            go_wp2
            refine wp_loop_rounds 3 ?_
            rw [rounds_succ]
            go_wp2
            refine wp_name fun w10 hW10 => ?_
            have hb9w10 : Below w9.heap.size w9 w10 := by rw [hW10]; exact bal (bal (bal (Below.refl _ _) _) _) _
            obtain ⟨stb, hstb⟩ : ∃ b, b = w9.heap.size := ⟨_, rfl⟩
            obtain ⟨rdbA, hrdA⟩ : ∃ b, b = w9.heap.size + 1 := ⟨_, rfl⟩
            obtain ⟨ibA, hiA⟩ : ∃ b, b = w9.heap.size + 1 + 1 := ⟨_, rfl⟩
            have hiw10 : w10.cell? ⟨ibA, 0, none⟩ = some (.int .i64 ((0 : Nat) : Int)) := by rw [hW10, hiA]; exact cell_new (by simp) rfl
            have hiw10f : w10.frozen? ⟨ibA, 0, none⟩ = false := by rw [hW10, hiA, World.frozen?_alloc_at (hn := by simp)]
            have htw10 : Hid (typOf w10 ibA = some 3) := Lib.hid (by rw [hW10, hiA]; exact typ_fresh (by simp))
            have hrdw10 : w10.cell? ⟨rdbA, 0, none⟩ = some (.int .i64 0) := by rw [hW10, hrdA]; exact cell_alloc (cell_new (by simp) rfl) _
            have hstw10 : w10.cell? ⟨stb, 0, none⟩ = some (.slice sa M sc) := by rw [hW10, hstb]; exact cell_alloc (cell_alloc (cell_new rfl rfl) _) _
            rw [← hiA, ← hrdA, ← hstb]
            clear hW10
            have HST := Lib.hid hstb
            clear hstb
            have hstb := HST.out
            have hb9X : Below w9.heap.size w9 w10 := hb9w10
            have hBX := bthen hB9 hb9X
            have hibX : ibA < w10.heap.size := cell_lt hiw10
            have HTNA := Lib.hid (show TraceIn w10.heap.size (fun q => q = ibA) pb xb ins R ca oa cc oc code outs (.slice a3 l.length c3) l w10 from by
              have hb510 : Below w5.heap.size w5 w10 := bthen hb59 hb9X
              refine ⟨bkeep hb510 HTC.out.1, bkeep hb510 HTC.out.2.1, bkeep hb510 HTC.out.2.2.1, bkeep hb510 HTC.out.2.2.2.1, bkeep hb510 HTC.out.2.2.2.2, HC.out.1.keep hBX, HC.out.2.keep hBX, HA.out.keep lims_int (bthen hb39 hb9X), (fun q hq => by subst hq; exact hibX), Nat.le_refl _, (fun q hq => by subst hq; exact htw10.out), fun b off e hl hq => ?_⟩
              rcases HC.out.1 with h0 | ⟨b', off', h1, _, h3⟩
              · rw [h0] at hl; simp at hl
              · rw [e] at h1; cases h1
                have := cell_lt (h3 0 hl).c0
                have := hB9.size
                omega)
            have HINA := Lib.hid (show RunInv w10 ibA 0 w10 from ⟨hiw10, hiw10f, Out.refl _ _⟩)
            have HXA := Lib.hid (show ∀ W, Out (fun q => q = ibA) w10 W → Below w9.heap.size w9 W ∧ W.cell? ⟨stb, 0, none⟩ = some (.slice sa M sc) ∧ W.cell? ⟨rdbA, 0, none⟩ = some (.int .i64 0) from fun W h =>
              ⟨hb9X.trans (h.to_below (fun q hq _ e => by omega) hb9X.size), okeep h hstw10 (by omega), okeep h hrdw10 (by omega)⟩)
            have HADA := Lib.hid (And.intro hrdA hiA)
            clear hiw10 hiw10f hstw10 hrdw10 hb9X hBX hrdA hiA hstb
            refine wp_rangeV (gf := 60) (lb := #[.pointer (some ⟨pb, 0, none⟩), .pointer (some ⟨xb, 0, none⟩)]) (by simp [Act.eval]) (enters_of Tryz.func60 (by kernel_rfl) rfl)
              (trace_yes (n0 := w10.heap.size) (X0 := fun q => q = ibA) (M := M) (K := 64) HOK.out HLE.out (by rw [Int.toNat_natCast]; exact HM.out) HBD.out (by omega)) (fun X o h => (Below.refl _ _).alloc h o) (fun X l o o' h1 h2 h3 h4 => belowK_b (Nat.le_refl _) X l o o' h1 h2 h3 h4)
              (fun W h => HTNA.out.keep h) (fun _ _ _ h => by obtain ⟨v, rfl, _⟩ := h; rfl)
              (fun k W => RunInv w10 ibA k W) (fun c k W => c = .exit 6 ∧ (k : Int) = st ∧ RunInv w10 ibA k W) (fun k X Y h c => h.low hibX c) (fun c k X Y h d => ⟨h.1, h.2.1, h.2.2.low hibX d⟩) HINA.out
              (fun T k args a' X => BoxAt code (startN l R) T k args a' X) (fun k args a' X l o o' _ h1 h2 b => BoxAt.put h1 h2 b) (fun k args X q h _ hq => by subst hq; exact cells_of_cell h.i0)
              ?assignA ?bodyA ?doneA ?stopA
            case assignA =>
              rintro y k args X K hk hi ⟨v, rfl, hv⟩ hK
              rw [Int.toNat_natCast] at hv
              have HVV := Lib.hid hv
              obtain ⟨n1, a1, c1, l1, rfl, -⟩ := hv
              unfold iv at *
              gi_wp2
              refine hK _ _ (bal (Below.refl _ _) _) (hi.low hibX (bal (Below.refl _ _) _ |>.mono (by have := hi.out.size; omega))) ⟨X.heap.size, n1, a1, l1.length, c1, cell_new rfl rfl, cell_new rfl rfl, HVV.out.keep (bal (Below.refl _ _) _), by simp⟩
            case bodyA =>
              rintro y k args a' w6 hk hi ⟨B, nb, ad, bn, bc, c0, c1, hbi, rfl⟩
              have HI := Lib.hid hi
              obtain ⟨i0, i0f, hout⟩ := hi
              obtain ⟨hb9w, sb0, rd0⟩ := HXA.out w6 hout
              have hB := bthen hB9 hb9w
              replace s0 := bkeep hb9w s0
              obtain ⟨sb, so, tb, tof, tcc, nr, ra, rl, rcc, rfl, q0, d0, d1, hri⟩ := HROW.out k hk
              replace q0 := bkeep hb9w q0
              replace d0 := bkeep hb9w d0
              replace d1 := bkeep hb9w d1
              have hki : (k : Int) < (M : Int) := by omega
              have hkd : decide (M ≤ k) = false := by simp; omega
              have hri := hri.keep hb9w
              have htb := HTB.out k (by omega)
              obtain ⟨t, htE⟩ : ∃ t, toldN code (startN l R) k = t := ⟨_, rfl⟩
              rw [htE] at hri hbi htb
              have oc := fun W (h : Below w6.heap.size w6 W) => one_c _ _ t t 8192 W (hbi.keep h) (hri.keep h) htb (by omega)
              rw [show decide (t = t) = true by simp] at oc
              simp only [List.setIfInBounds_toArray, List.set_cons_succ, List.set_cons_zero]
              have zi0 := cell_lt i0
              have zsb0 := cell_lt sb0
              have zrd0 := cell_lt rd0
              have zs0 := cell_lt s0
              have zq0 := cell_lt q0
              have zd0 := cell_lt d0
              have zc0 := cell_lt c0
              clear hri hbi htb htE hout
              have hkk : ((k : Int) != (k : Int)) = false := by simp
              have hn1 : rdbA ≠ ibA := by have := HADA.out; omega
              have hn2 : ibA ≠ rdbA := by have := HADA.out; omega
              have hn3 : w.heap.size + 1 ≠ ibA := by have := HADA.out; have := HSZ.out; omega
              have hn4 : ibA ≠ w.heap.size + 1 := by have := HADA.out; have := HSZ.out; omega
              by_cases hs : (k : Int) + 1 = st
              · have t2 : ((k : Int) + 1 == st) = true := by simpa using hs
                have HS := Lib.hid hs
                clear hs
                gi_wp2
                refine wpInR_region_grow (w := w6) (by kernel_rfl) (by kernel_rfl) (by kernel_rfl) ?_
                have c0g : ∀ gs, (grow w6 gs).cell? ⟨B, 0, none⟩ = some (.bool nb) := fun gs => bkeep gs.below c0
                have c1g : ∀ gs, (grow w6 gs).cell? ⟨B, 1, none⟩ = some (.slice ad bn bc) := fun gs => bkeep gs.below c1
                have i0g : ∀ gs, (grow w6 gs).cell? ⟨ibA, 0, none⟩ = some (.int .i64 (k : Int)) := fun gs => bkeep gs.below i0
                have sb0g : ∀ gs, (grow w6 gs).cell? ⟨stb, 0, none⟩ = some (.slice (some ⟨sb, so, none⟩) M sc) := fun gs => bkeep gs.below sb0
                have rd0g : ∀ gs, (grow w6 gs).cell? ⟨rdbA, 0, none⟩ = some (.int .i64 0) := fun gs => bkeep gs.below rd0
                have s0g : ∀ gs, (grow w6 gs).cell? ⟨w.heap.size + 1, 0, none⟩ = some (.int .i64 st) := fun gs => bkeep gs.below s0
                have q0g : ∀ gs, (grow w6 gs).cell? ⟨sb, so + k, none⟩ = some (.slice (some ⟨tb, tof, none⟩) 1 tcc) := fun gs => bkeep gs.below q0
                have d0g : ∀ gs, (grow w6 gs).cell? ⟨tb, tof, none⟩ = some (.bool nr) := fun gs => bkeep gs.below d0
                have d1g : ∀ gs, (grow w6 gs).cell? ⟨tb, tof + 1, none⟩ = some (.slice ra rl rcc) := fun gs => bkeep gs.below d1
                repeat (go_big_quiet_step ((first | (go_at_call 17; exact grow_of (oc _ (Grows.below _))) | fail)))
                refine wpQuiet_nil ?_
                intro w7 hb7
                clear c0g
                clear c1g
                clear i0g
                clear sb0g
                clear rd0g
                clear s0g
                clear q0g
                clear d0g
                clear d1g
                have c0 : w7.cell? ⟨B, 0, none⟩ = some (.bool nb) := bkeep hb7 (by first | assumption | exact cell_new (by with_reducible first | rfl | (simp; done) | (simp; omega)) rfl | (repeat (first | assumption | exact cell_new (by with_reducible first | rfl | (simp; done) | (simp; omega)) rfl | refine cell_alloc ?_ _ | refine cell_drew ?_ | refine cell_drewN ?_ _ | refine cell_far ?_ (by simp) _ | (refine cell_far ?_ (by simp <;> omega) _))) | simp [go_sem, *])
                have zc0 := cell_lt c0
                have c1 : w7.cell? ⟨B, 1, none⟩ = some (.slice ad bn bc) := bkeep hb7 (by first | assumption | exact cell_new (by with_reducible first | rfl | (simp; done) | (simp; omega)) rfl | (repeat (first | assumption | exact cell_new (by with_reducible first | rfl | (simp; done) | (simp; omega)) rfl | refine cell_alloc ?_ _ | refine cell_drew ?_ | refine cell_drewN ?_ _ | refine cell_far ?_ (by simp) _ | (refine cell_far ?_ (by simp <;> omega) _))) | simp [go_sem, *])
                have i0 : w7.cell? ⟨ibA, 0, none⟩ = some (.int .i64 (k : Int)) := bkeep hb7 (by first | assumption | exact cell_new (by with_reducible first | rfl | (simp; done) | (simp; omega)) rfl | (repeat (first | assumption | exact cell_new (by with_reducible first | rfl | (simp; done) | (simp; omega)) rfl | refine cell_alloc ?_ _ | refine cell_drew ?_ | refine cell_drewN ?_ _ | refine cell_far ?_ (by simp) _ | (refine cell_far ?_ (by simp <;> omega) _))) | simp [go_sem, *])
                have zi0 := cell_lt i0
                have i0f : w7.frozen? ⟨ibA, 0, none⟩ = false := bkeepf (v := .int .i64 (k : Int)) hb7 (by first | assumption | exact cell_new (by with_reducible first | rfl | (simp; done) | (simp; omega)) rfl | (repeat (first | assumption | exact cell_new (by with_reducible first | rfl | (simp; done) | (simp; omega)) rfl | refine cell_alloc ?_ _ | refine cell_drew ?_ | refine cell_drewN ?_ _ | refine cell_far ?_ (by simp) _ | (refine cell_far ?_ (by simp <;> omega) _))) | simp [go_sem, *]) (by first | assumption | (simp <;> assumption) | simp [go_sem, *])
                have sb0 : w7.cell? ⟨stb, 0, none⟩ = some (.slice (some ⟨sb, so, none⟩) M sc) := bkeep hb7 (by first | assumption | exact cell_new (by with_reducible first | rfl | (simp; done) | (simp; omega)) rfl | (repeat (first | assumption | exact cell_new (by with_reducible first | rfl | (simp; done) | (simp; omega)) rfl | refine cell_alloc ?_ _ | refine cell_drew ?_ | refine cell_drewN ?_ _ | refine cell_far ?_ (by simp) _ | (refine cell_far ?_ (by simp <;> omega) _))) | simp [go_sem, *])
                have zsb0 := cell_lt sb0
                have rd0 : w7.cell? ⟨rdbA, 0, none⟩ = some (.int .i64 0) := bkeep hb7 (by first | assumption | exact cell_new (by with_reducible first | rfl | (simp; done) | (simp; omega)) rfl | (repeat (first | assumption | exact cell_new (by with_reducible first | rfl | (simp; done) | (simp; omega)) rfl | refine cell_alloc ?_ _ | refine cell_drew ?_ | refine cell_drewN ?_ _ | refine cell_far ?_ (by simp) _ | (refine cell_far ?_ (by simp <;> omega) _))) | simp [go_sem, *])
                have zrd0 := cell_lt rd0
                have s0 : w7.cell? ⟨w.heap.size + 1, 0, none⟩ = some (.int .i64 st) := bkeep hb7 (by first | assumption | exact cell_new (by with_reducible first | rfl | (simp; done) | (simp; omega)) rfl | (repeat (first | assumption | exact cell_new (by with_reducible first | rfl | (simp; done) | (simp; omega)) rfl | refine cell_alloc ?_ _ | refine cell_drew ?_ | refine cell_drewN ?_ _ | refine cell_far ?_ (by simp) _ | (refine cell_far ?_ (by simp <;> omega) _))) | simp [go_sem, *])
                have zs0 := cell_lt s0
                have q0 : w7.cell? ⟨sb, so + k, none⟩ = some (.slice (some ⟨tb, tof, none⟩) 1 tcc) := bkeep hb7 (by first | assumption | exact cell_new (by with_reducible first | rfl | (simp; done) | (simp; omega)) rfl | (repeat (first | assumption | exact cell_new (by with_reducible first | rfl | (simp; done) | (simp; omega)) rfl | refine cell_alloc ?_ _ | refine cell_drew ?_ | refine cell_drewN ?_ _ | refine cell_far ?_ (by simp) _ | (refine cell_far ?_ (by simp <;> omega) _))) | simp [go_sem, *])
                have zq0 := cell_lt q0
                have d0 : w7.cell? ⟨tb, tof, none⟩ = some (.bool nr) := bkeep hb7 (by first | assumption | exact cell_new (by with_reducible first | rfl | (simp; done) | (simp; omega)) rfl | (repeat (first | assumption | exact cell_new (by with_reducible first | rfl | (simp; done) | (simp; omega)) rfl | refine cell_alloc ?_ _ | refine cell_drew ?_ | refine cell_drewN ?_ _ | refine cell_far ?_ (by simp) _ | (refine cell_far ?_ (by simp <;> omega) _))) | simp [go_sem, *])
                have zd0 := cell_lt d0
                have d1 : w7.cell? ⟨tb, tof + 1, none⟩ = some (.slice ra rl rcc) := bkeep hb7 (by first | assumption | exact cell_new (by with_reducible first | rfl | (simp; done) | (simp; omega)) rfl | (repeat (first | assumption | exact cell_new (by with_reducible first | rfl | (simp; done) | (simp; omega)) rfl | refine cell_alloc ?_ _ | refine cell_drew ?_ | refine cell_drewN ?_ _ | refine cell_far ?_ (by simp) _ | (refine cell_far ?_ (by simp <;> omega) _))) | simp [go_sem, *])
                have hB : Below w.heap.size w w7 := bthen (by repeat (first | exact Below.refl _ _ | exact hB | refine Below.drew ?_ | refine below_drewN ?_ _ | refine bset ?_ (by simp <;> omega) _ | refine bal ?_ _)) hb7
                have hz : w.heap.size ≤ w7.heap.size := hB.size
                gi_wp2
                have hstp := HI.out.step hb7
                exact ⟨hstp.2, rfl, by rw [← HS.out]; rfl, hstp.1⟩
              · have t2 : ((k : Int) + 1 == st) = false := by simpa using hs
                clear hs
                gi_wp2
                refine wpInR_region_grow (w := w6) (by kernel_rfl) (by kernel_rfl) (by kernel_rfl) ?_
                have c0g : ∀ gs, (grow w6 gs).cell? ⟨B, 0, none⟩ = some (.bool nb) := fun gs => bkeep gs.below c0
                have c1g : ∀ gs, (grow w6 gs).cell? ⟨B, 1, none⟩ = some (.slice ad bn bc) := fun gs => bkeep gs.below c1
                have i0g : ∀ gs, (grow w6 gs).cell? ⟨ibA, 0, none⟩ = some (.int .i64 (k : Int)) := fun gs => bkeep gs.below i0
                have sb0g : ∀ gs, (grow w6 gs).cell? ⟨stb, 0, none⟩ = some (.slice (some ⟨sb, so, none⟩) M sc) := fun gs => bkeep gs.below sb0
                have rd0g : ∀ gs, (grow w6 gs).cell? ⟨rdbA, 0, none⟩ = some (.int .i64 0) := fun gs => bkeep gs.below rd0
                have s0g : ∀ gs, (grow w6 gs).cell? ⟨w.heap.size + 1, 0, none⟩ = some (.int .i64 st) := fun gs => bkeep gs.below s0
                have q0g : ∀ gs, (grow w6 gs).cell? ⟨sb, so + k, none⟩ = some (.slice (some ⟨tb, tof, none⟩) 1 tcc) := fun gs => bkeep gs.below q0
                have d0g : ∀ gs, (grow w6 gs).cell? ⟨tb, tof, none⟩ = some (.bool nr) := fun gs => bkeep gs.below d0
                have d1g : ∀ gs, (grow w6 gs).cell? ⟨tb, tof + 1, none⟩ = some (.slice ra rl rcc) := fun gs => bkeep gs.below d1
                repeat (go_big_quiet_step ((first | (go_at_call 17; exact grow_of (oc _ (Grows.below _))) | fail)))
                refine wpQuiet_nil ?_
                intro w7 hb7
                clear c0g
                clear c1g
                clear i0g
                clear sb0g
                clear rd0g
                clear s0g
                clear q0g
                clear d0g
                clear d1g
                have c0 : w7.cell? ⟨B, 0, none⟩ = some (.bool nb) := bkeep hb7 (by first | assumption | exact cell_new (by with_reducible first | rfl | (simp; done) | (simp; omega)) rfl | (repeat (first | assumption | exact cell_new (by with_reducible first | rfl | (simp; done) | (simp; omega)) rfl | refine cell_alloc ?_ _ | refine cell_drew ?_ | refine cell_drewN ?_ _ | refine cell_far ?_ (by simp) _ | (refine cell_far ?_ (by simp <;> omega) _))) | simp [go_sem, *])
                have zc0 := cell_lt c0
                have c1 : w7.cell? ⟨B, 1, none⟩ = some (.slice ad bn bc) := bkeep hb7 (by first | assumption | exact cell_new (by with_reducible first | rfl | (simp; done) | (simp; omega)) rfl | (repeat (first | assumption | exact cell_new (by with_reducible first | rfl | (simp; done) | (simp; omega)) rfl | refine cell_alloc ?_ _ | refine cell_drew ?_ | refine cell_drewN ?_ _ | refine cell_far ?_ (by simp) _ | (refine cell_far ?_ (by simp <;> omega) _))) | simp [go_sem, *])
                have i0 : w7.cell? ⟨ibA, 0, none⟩ = some (.int .i64 (k : Int)) := bkeep hb7 (by first | assumption | exact cell_new (by with_reducible first | rfl | (simp; done) | (simp; omega)) rfl | (repeat (first | assumption | exact cell_new (by with_reducible first | rfl | (simp; done) | (simp; omega)) rfl | refine cell_alloc ?_ _ | refine cell_drew ?_ | refine cell_drewN ?_ _ | refine cell_far ?_ (by simp) _ | (refine cell_far ?_ (by simp <;> omega) _))) | simp [go_sem, *])
                have zi0 := cell_lt i0
                have i0f : w7.frozen? ⟨ibA, 0, none⟩ = false := bkeepf (v := .int .i64 (k : Int)) hb7 (by first | assumption | exact cell_new (by with_reducible first | rfl | (simp; done) | (simp; omega)) rfl | (repeat (first | assumption | exact cell_new (by with_reducible first | rfl | (simp; done) | (simp; omega)) rfl | refine cell_alloc ?_ _ | refine cell_drew ?_ | refine cell_drewN ?_ _ | refine cell_far ?_ (by simp) _ | (refine cell_far ?_ (by simp <;> omega) _))) | simp [go_sem, *]) (by first | assumption | (simp <;> assumption) | simp [go_sem, *])
                have sb0 : w7.cell? ⟨stb, 0, none⟩ = some (.slice (some ⟨sb, so, none⟩) M sc) := bkeep hb7 (by first | assumption | exact cell_new (by with_reducible first | rfl | (simp; done) | (simp; omega)) rfl | (repeat (first | assumption | exact cell_new (by with_reducible first | rfl | (simp; done) | (simp; omega)) rfl | refine cell_alloc ?_ _ | refine cell_drew ?_ | refine cell_drewN ?_ _ | refine cell_far ?_ (by simp) _ | (refine cell_far ?_ (by simp <;> omega) _))) | simp [go_sem, *])
                have zsb0 := cell_lt sb0
                have rd0 : w7.cell? ⟨rdbA, 0, none⟩ = some (.int .i64 0) := bkeep hb7 (by first | assumption | exact cell_new (by with_reducible first | rfl | (simp; done) | (simp; omega)) rfl | (repeat (first | assumption | exact cell_new (by with_reducible first | rfl | (simp; done) | (simp; omega)) rfl | refine cell_alloc ?_ _ | refine cell_drew ?_ | refine cell_drewN ?_ _ | refine cell_far ?_ (by simp) _ | (refine cell_far ?_ (by simp <;> omega) _))) | simp [go_sem, *])
                have zrd0 := cell_lt rd0
                have s0 : w7.cell? ⟨w.heap.size + 1, 0, none⟩ = some (.int .i64 st) := bkeep hb7 (by first | assumption | exact cell_new (by with_reducible first | rfl | (simp; done) | (simp; omega)) rfl | (repeat (first | assumption | exact cell_new (by with_reducible first | rfl | (simp; done) | (simp; omega)) rfl | refine cell_alloc ?_ _ | refine cell_drew ?_ | refine cell_drewN ?_ _ | refine cell_far ?_ (by simp) _ | (refine cell_far ?_ (by simp <;> omega) _))) | simp [go_sem, *])
                have zs0 := cell_lt s0
                have q0 : w7.cell? ⟨sb, so + k, none⟩ = some (.slice (some ⟨tb, tof, none⟩) 1 tcc) := bkeep hb7 (by first | assumption | exact cell_new (by with_reducible first | rfl | (simp; done) | (simp; omega)) rfl | (repeat (first | assumption | exact cell_new (by with_reducible first | rfl | (simp; done) | (simp; omega)) rfl | refine cell_alloc ?_ _ | refine cell_drew ?_ | refine cell_drewN ?_ _ | refine cell_far ?_ (by simp) _ | (refine cell_far ?_ (by simp <;> omega) _))) | simp [go_sem, *])
                have zq0 := cell_lt q0
                have d0 : w7.cell? ⟨tb, tof, none⟩ = some (.bool nr) := bkeep hb7 (by first | assumption | exact cell_new (by with_reducible first | rfl | (simp; done) | (simp; omega)) rfl | (repeat (first | assumption | exact cell_new (by with_reducible first | rfl | (simp; done) | (simp; omega)) rfl | refine cell_alloc ?_ _ | refine cell_drew ?_ | refine cell_drewN ?_ _ | refine cell_far ?_ (by simp) _ | (refine cell_far ?_ (by simp <;> omega) _))) | simp [go_sem, *])
                have zd0 := cell_lt d0
                have d1 : w7.cell? ⟨tb, tof + 1, none⟩ = some (.slice ra rl rcc) := bkeep hb7 (by first | assumption | exact cell_new (by with_reducible first | rfl | (simp; done) | (simp; omega)) rfl | (repeat (first | assumption | exact cell_new (by with_reducible first | rfl | (simp; done) | (simp; omega)) rfl | refine cell_alloc ?_ _ | refine cell_drew ?_ | refine cell_drewN ?_ _ | refine cell_far ?_ (by simp) _ | (refine cell_far ?_ (by simp <;> omega) _))) | simp [go_sem, *])
                have hB : Below w.heap.size w w7 := bthen (by repeat (first | exact Below.refl _ _ | exact hB | refine Below.drew ?_ | refine below_drewN ?_ _ | refine bset ?_ (by simp <;> omega) _ | refine bal ?_ _)) hb7
                have hz : w.heap.size ≤ w7.heap.size := hB.size
                gi_wp2
                have hstp := HI.out.step hb7
                exact ⟨hstp.2, hstp.1⟩
            case doneA =>
              intro D0 w11 hDs hi hK0
              obtain ⟨i0, i0f, hout⟩ := hi
              obtain ⟨hb911, sb0, rd0⟩ := HXA.out w11 hout
              have s11 := bkeep hb911 s0
              have hD0l := (Array.getElem?_eq_some_iff.1 hK0).1
              have hD0g : w9.heap.size ≤ D0 := Nat.le_trans hb9w10.size hDs
              have zi0 := cell_lt i0
              have zsb0 := cell_lt sb0
              have zrd0 := cell_lt rd0
              have zs11 := cell_lt s11
              clear hout
              go_wp2
              rw [rounds_succ]
              go_wp2
              refine wp_name fun w12 hW12 => ?_
              obtain ⟨rdbB, hrdB⟩ : ∃ b, b = w11.heap.size := ⟨_, rfl⟩
              obtain ⟨ibB, hiB⟩ : ∃ b, b = w11.heap.size + 1 := ⟨_, rfl⟩
              have hb1112 : Below w11.heap.size w11 w12 := by rw [hW12]; exact bal (bal (Below.refl _ _) _) _
              have hb9w12 : Below w9.heap.size w9 w12 := bthen hb911 hb1112
              have hiw12 : w12.cell? ⟨ibB, 0, none⟩ = some (.int .i64 ((0 : Nat) : Int)) := by rw [hW12, hiB]; exact cell_new (by simp) rfl
              have hiw12f : w12.frozen? ⟨ibB, 0, none⟩ = false := by rw [hW12, hiB, World.frozen?_alloc_at (hn := by simp)]
              have htw12 : Hid (typOf w12 ibB = some 3) := Lib.hid (by rw [hW12, hiB]; exact typ_fresh (by simp))
              have hrdw12 : w12.cell? ⟨rdbB, 0, none⟩ = some (.int .i64 1) := by rw [hW12, hrdB]; exact cell_alloc (cell_new rfl rfl) _
              have hstw12 := bkeep hb1112 sb0
              rw [← hiB, ← hrdB]
              have HK12 := Lib.hid ((hb1112.block D0 hD0l).trans hK0)
              have hDne : D0 < ibB := by omega
              have hz1112 := hb1112.size
              have hDl12 : D0 < w12.heap.size := by omega
              have HW11 := Lib.hid (And.intro hrdB hiB)
              clear hW12 hK0 hb1112 hz1112 sb0 rd0 i0 i0f s11 zi0 zsb0 zs11
              have hstb := HST.out
              have hb9X : Below w9.heap.size w9 w12 := hb9w12
              have hBX := bthen hB9 hb9X
              have hibX : ibB < w12.heap.size := cell_lt hiw12
              have HTNB := Lib.hid (show TraceIn w12.heap.size (fun q => q = ibB) pb xb ins R ca oa cc oc code outs (.slice a3 l.length c3) l w12 from by
                have hb510 : Below w5.heap.size w5 w12 := bthen hb59 hb9X
                refine ⟨bkeep hb510 HTC.out.1, bkeep hb510 HTC.out.2.1, bkeep hb510 HTC.out.2.2.1, bkeep hb510 HTC.out.2.2.2.1, bkeep hb510 HTC.out.2.2.2.2, HC.out.1.keep hBX, HC.out.2.keep hBX, HA.out.keep lims_int (bthen hb39 hb9X), (fun q hq => by subst hq; exact hibX), Nat.le_refl _, (fun q hq => by subst hq; exact htw12.out), fun b off e hl hq => ?_⟩
                rcases HC.out.1 with h0 | ⟨b', off', h1, _, h3⟩
                · rw [h0] at hl; simp at hl
                · rw [e] at h1; cases h1
                  have := cell_lt (h3 0 hl).c0
                  have := hB9.size
                  omega)
              have HINB := Lib.hid (show RunInv w12 ibB 0 w12 from ⟨hiw12, hiw12f, Out.refl _ _⟩)
              have HXB := Lib.hid (show ∀ W, Out (fun q => q = ibB) w12 W → Below w9.heap.size w9 W ∧ W.cell? ⟨stb, 0, none⟩ = some (.slice sa M sc) ∧ W.cell? ⟨rdbB, 0, none⟩ = some (.int .i64 1) from fun W h =>
                ⟨hb9X.trans (h.to_below (fun q hq _ e => by omega) hb9X.size), okeep h hstw12 (by omega), okeep h hrdw12 (by omega)⟩)
              have HADB := Lib.hid (And.intro hrdB hiB)
              clear hiw12 hiw12f hstw12 hrdw12 hb9X hBX hrdB hiB hstb
              refine wp_rangeV (gf := 60) (lb := #[.pointer (some ⟨pb, 0, none⟩), .pointer (some ⟨xb, 0, none⟩)]) (by simp [Act.eval]) (enters_of Tryz.func60 (by kernel_rfl) rfl)
                (trace_yes (n0 := w12.heap.size) (X0 := fun q => q = ibB) (M := M) (K := 64) HOK.out HLE.out (by rw [Int.toNat_natCast]; exact HM.out) HBD.out (by omega)) (fun X o h => (Below.refl _ _).alloc h o) (fun X l o o' h1 h2 h3 h4 => belowK_b (Nat.le_refl _) X l o o' h1 h2 h3 h4)
                (fun W h => HTNB.out.keep h) (fun _ _ _ h => by obtain ⟨v, rfl, _⟩ := h; rfl)
                (fun k W => RunInv w12 ibB k W) (fun c k W => False) (fun k X Y h c => h.low hibX c) (fun c k X Y h d => h.elim) HINB.out
                (fun T k args a' X => BoxAt code (startN l R) T k args a' X) (fun k args a' X l o o' _ h1 h2 b => BoxAt.put h1 h2 b) (fun k args X q h _ hq => by subst hq; exact cells_of_cell h.i0)
                ?assignB ?bodyB ?doneB ?stopB
              case assignB =>
                rintro y k args X K hk hi ⟨v, rfl, hv⟩ hK
                rw [Int.toNat_natCast] at hv
                have HVV := Lib.hid hv
                obtain ⟨n1, a1, c1, l1, rfl, -⟩ := hv
                unfold iv at *
                gi_wp2
                refine hK _ _ (bal (Below.refl _ _) _) (hi.low hibX (bal (Below.refl _ _) _ |>.mono (by have := hi.out.size; omega))) ⟨X.heap.size, n1, a1, l1.length, c1, cell_new rfl rfl, cell_new rfl rfl, HVV.out.keep (bal (Below.refl _ _) _), by simp⟩
              case bodyB =>
                rintro y k args a' w6 hk hi ⟨B, nb, ad, bn, bc, c0, c1, hbi, rfl⟩
                have HI := Lib.hid hi
                obtain ⟨i0, i0f, hout⟩ := hi
                obtain ⟨hb9w, sb0, rd0⟩ := HXB.out w6 hout
                have hB := bthen hB9 hb9w
                replace s0 := bkeep hb9w s0
                obtain ⟨sb, so, tb, tof, tcc, nr, ra, rl, rcc, rfl, q0, d0, d1, hri⟩ := HROW.out k hk
                replace q0 := bkeep hb9w q0
                replace d0 := bkeep hb9w d0
                replace d1 := bkeep hb9w d1
                have hki : (k : Int) < (M : Int) := by omega
                have hkd : decide (M ≤ k) = false := by simp; omega
                have hri := hri.keep hb9w
                have htb := HTB.out k (by omega)
                obtain ⟨t, htE⟩ : ∃ t, toldN code (startN l R) k = t := ⟨_, rfl⟩
                rw [htE] at hri hbi htb
                have oc := fun W (h : Below w6.heap.size w6 W) => one_c _ _ t t 8192 W (hbi.keep h) (hri.keep h) htb (by omega)
                rw [show decide (t = t) = true by simp] at oc
                simp only [List.setIfInBounds_toArray, List.set_cons_succ, List.set_cons_zero]
                have zi0 := cell_lt i0
                have zsb0 := cell_lt sb0
                have zrd0 := cell_lt rd0
                have zs0 := cell_lt s0
                have zq0 := cell_lt q0
                have zd0 := cell_lt d0
                have zc0 := cell_lt c0
                clear hri hbi htb htE hout
                have hkk : ((k : Int) != (k : Int)) = false := by simp
                have hn1 : rdbB ≠ ibB := by have := HADB.out; omega
                have hn2 : ibB ≠ rdbB := by have := HADB.out; omega
                have hn3 : w.heap.size + 1 ≠ ibB := by have := HADB.out; have := HSZ.out; omega
                have hn4 : ibB ≠ w.heap.size + 1 := by have := HADB.out; have := HSZ.out; omega
                gi_wp2
                refine wpInR_region_grow (w := w6) (by kernel_rfl) (by kernel_rfl) (by kernel_rfl) ?_
                have c0g : ∀ gs, (grow w6 gs).cell? ⟨B, 0, none⟩ = some (.bool nb) := fun gs => bkeep gs.below c0
                have c1g : ∀ gs, (grow w6 gs).cell? ⟨B, 1, none⟩ = some (.slice ad bn bc) := fun gs => bkeep gs.below c1
                have i0g : ∀ gs, (grow w6 gs).cell? ⟨ibB, 0, none⟩ = some (.int .i64 (k : Int)) := fun gs => bkeep gs.below i0
                have sb0g : ∀ gs, (grow w6 gs).cell? ⟨stb, 0, none⟩ = some (.slice (some ⟨sb, so, none⟩) M sc) := fun gs => bkeep gs.below sb0
                have rd0g : ∀ gs, (grow w6 gs).cell? ⟨rdbB, 0, none⟩ = some (.int .i64 1) := fun gs => bkeep gs.below rd0
                have s0g : ∀ gs, (grow w6 gs).cell? ⟨w.heap.size + 1, 0, none⟩ = some (.int .i64 st) := fun gs => bkeep gs.below s0
                have q0g : ∀ gs, (grow w6 gs).cell? ⟨sb, so + k, none⟩ = some (.slice (some ⟨tb, tof, none⟩) 1 tcc) := fun gs => bkeep gs.below q0
                have d0g : ∀ gs, (grow w6 gs).cell? ⟨tb, tof, none⟩ = some (.bool nr) := fun gs => bkeep gs.below d0
                have d1g : ∀ gs, (grow w6 gs).cell? ⟨tb, tof + 1, none⟩ = some (.slice ra rl rcc) := fun gs => bkeep gs.below d1
                repeat (go_big_quiet_step ((first | (go_at_call 17; exact grow_of (oc _ (Grows.below _))) | fail)))
                refine wpQuiet_nil ?_
                intro w7 hb7
                clear c0g
                clear c1g
                clear i0g
                clear sb0g
                clear rd0g
                clear s0g
                clear q0g
                clear d0g
                clear d1g
                have c0 : w7.cell? ⟨B, 0, none⟩ = some (.bool nb) := bkeep hb7 (by first | assumption | exact cell_new (by with_reducible first | rfl | (simp; done) | (simp; omega)) rfl | (repeat (first | assumption | exact cell_new (by with_reducible first | rfl | (simp; done) | (simp; omega)) rfl | refine cell_alloc ?_ _ | refine cell_drew ?_ | refine cell_drewN ?_ _ | refine cell_far ?_ (by simp) _ | (refine cell_far ?_ (by simp <;> omega) _))) | simp [go_sem, *])
                have zc0 := cell_lt c0
                have c1 : w7.cell? ⟨B, 1, none⟩ = some (.slice ad bn bc) := bkeep hb7 (by first | assumption | exact cell_new (by with_reducible first | rfl | (simp; done) | (simp; omega)) rfl | (repeat (first | assumption | exact cell_new (by with_reducible first | rfl | (simp; done) | (simp; omega)) rfl | refine cell_alloc ?_ _ | refine cell_drew ?_ | refine cell_drewN ?_ _ | refine cell_far ?_ (by simp) _ | (refine cell_far ?_ (by simp <;> omega) _))) | simp [go_sem, *])
                have i0 : w7.cell? ⟨ibB, 0, none⟩ = some (.int .i64 (k : Int)) := bkeep hb7 (by first | assumption | exact cell_new (by with_reducible first | rfl | (simp; done) | (simp; omega)) rfl | (repeat (first | assumption | exact cell_new (by with_reducible first | rfl | (simp; done) | (simp; omega)) rfl | refine cell_alloc ?_ _ | refine cell_drew ?_ | refine cell_drewN ?_ _ | refine cell_far ?_ (by simp) _ | (refine cell_far ?_ (by simp <;> omega) _))) | simp [go_sem, *])
                have zi0 := cell_lt i0
                have i0f : w7.frozen? ⟨ibB, 0, none⟩ = false := bkeepf (v := .int .i64 (k : Int)) hb7 (by first | assumption | exact cell_new (by with_reducible first | rfl | (simp; done) | (simp; omega)) rfl | (repeat (first | assumption | exact cell_new (by with_reducible first | rfl | (simp; done) | (simp; omega)) rfl | refine cell_alloc ?_ _ | refine cell_drew ?_ | refine cell_drewN ?_ _ | refine cell_far ?_ (by simp) _ | (refine cell_far ?_ (by simp <;> omega) _))) | simp [go_sem, *]) (by first | assumption | (simp <;> assumption) | simp [go_sem, *])
                have sb0 : w7.cell? ⟨stb, 0, none⟩ = some (.slice (some ⟨sb, so, none⟩) M sc) := bkeep hb7 (by first | assumption | exact cell_new (by with_reducible first | rfl | (simp; done) | (simp; omega)) rfl | (repeat (first | assumption | exact cell_new (by with_reducible first | rfl | (simp; done) | (simp; omega)) rfl | refine cell_alloc ?_ _ | refine cell_drew ?_ | refine cell_drewN ?_ _ | refine cell_far ?_ (by simp) _ | (refine cell_far ?_ (by simp <;> omega) _))) | simp [go_sem, *])
                have zsb0 := cell_lt sb0
                have rd0 : w7.cell? ⟨rdbB, 0, none⟩ = some (.int .i64 1) := bkeep hb7 (by first | assumption | exact cell_new (by with_reducible first | rfl | (simp; done) | (simp; omega)) rfl | (repeat (first | assumption | exact cell_new (by with_reducible first | rfl | (simp; done) | (simp; omega)) rfl | refine cell_alloc ?_ _ | refine cell_drew ?_ | refine cell_drewN ?_ _ | refine cell_far ?_ (by simp) _ | (refine cell_far ?_ (by simp <;> omega) _))) | simp [go_sem, *])
                have zrd0 := cell_lt rd0
                have s0 : w7.cell? ⟨w.heap.size + 1, 0, none⟩ = some (.int .i64 st) := bkeep hb7 (by first | assumption | exact cell_new (by with_reducible first | rfl | (simp; done) | (simp; omega)) rfl | (repeat (first | assumption | exact cell_new (by with_reducible first | rfl | (simp; done) | (simp; omega)) rfl | refine cell_alloc ?_ _ | refine cell_drew ?_ | refine cell_drewN ?_ _ | refine cell_far ?_ (by simp) _ | (refine cell_far ?_ (by simp <;> omega) _))) | simp [go_sem, *])
                have zs0 := cell_lt s0
                have q0 : w7.cell? ⟨sb, so + k, none⟩ = some (.slice (some ⟨tb, tof, none⟩) 1 tcc) := bkeep hb7 (by first | assumption | exact cell_new (by with_reducible first | rfl | (simp; done) | (simp; omega)) rfl | (repeat (first | assumption | exact cell_new (by with_reducible first | rfl | (simp; done) | (simp; omega)) rfl | refine cell_alloc ?_ _ | refine cell_drew ?_ | refine cell_drewN ?_ _ | refine cell_far ?_ (by simp) _ | (refine cell_far ?_ (by simp <;> omega) _))) | simp [go_sem, *])
                have zq0 := cell_lt q0
                have d0 : w7.cell? ⟨tb, tof, none⟩ = some (.bool nr) := bkeep hb7 (by first | assumption | exact cell_new (by with_reducible first | rfl | (simp; done) | (simp; omega)) rfl | (repeat (first | assumption | exact cell_new (by with_reducible first | rfl | (simp; done) | (simp; omega)) rfl | refine cell_alloc ?_ _ | refine cell_drew ?_ | refine cell_drewN ?_ _ | refine cell_far ?_ (by simp) _ | (refine cell_far ?_ (by simp <;> omega) _))) | simp [go_sem, *])
                have zd0 := cell_lt d0
                have d1 : w7.cell? ⟨tb, tof + 1, none⟩ = some (.slice ra rl rcc) := bkeep hb7 (by first | assumption | exact cell_new (by with_reducible first | rfl | (simp; done) | (simp; omega)) rfl | (repeat (first | assumption | exact cell_new (by with_reducible first | rfl | (simp; done) | (simp; omega)) rfl | refine cell_alloc ?_ _ | refine cell_drew ?_ | refine cell_drewN ?_ _ | refine cell_far ?_ (by simp) _ | (refine cell_far ?_ (by simp <;> omega) _))) | simp [go_sem, *])
                have hB : Below w.heap.size w w7 := bthen (by repeat (first | exact Below.refl _ _ | exact hB | refine Below.drew ?_ | refine below_drewN ?_ _ | refine bset ?_ (by simp <;> omega) _ | refine bal ?_ _)) hb7
                have hz : w.heap.size ≤ w7.heap.size := hB.size
                gi_wp2
                have hstp := HI.out.step hb7
                exact ⟨hstp.2, hstp.1⟩
              case doneB =>
                intro D1 w13 hDs1 hi hK1
                obtain ⟨i0, i0f, hout⟩ := hi
                obtain ⟨hb913, sb1, rd1⟩ := HXB.out w13 hout
                have HK03 := Lib.hid ((hout.block D0 hDl12 (by omega)).trans HK12.out)
                have HK1 := Lib.hid hK1
                have hD1l := (Array.getElem?_eq_some_iff.1 hK1).1
                have hz13 := hout.size
                have r1 := bkeep hb913 r0
                have r1f := bkeepf hb913 r0 r0f
                have hB13 := bthen hB9 hb913
                have zi1 := cell_lt i0
                have zsb1 := cell_lt sb1
                have zrd1 := cell_lt rd1
                have zr1 := cell_lt r1
                have hDD : D1 ≠ D0 := by omega
                have hD0g2 : w.heap.size + 1 + 1 < D0 := by have := HSZ.out; omega
                have hD1g2 : w.heap.size + 1 + 1 < D1 := by have := HSZ.out; omega
                have hwz := hB13.size
                clear hout hK1
                rcases HE.out with ⟨e1, e2, e3, e4⟩ | ⟨e1, e2, e3, L, e4, e5, e6, e7, e8, e9⟩
                · subst e1 e2 e3 e4
                  go_wp2
                  rw [rounds_succ]
                  go_wp2
                  refine ⟨by simp, .inl ⟨_, _, rfl, run_takeDeferred (b := D1) (ds := []) ?_, by simp, .inl ⟨_, _, rfl, run_takeDeferred (b := D0) (ds := []) ?_, ?_⟩⟩⟩
                  · exact (Below.heap_alloc _ _ D1 (by simp; omega)).trans ((Below.heap_setCell _ _ _ D1 (by simp; omega)).trans HK1.out)
                  · exact (put_other _ (by omega)).trans ((Below.heap_alloc _ _ D0 (by simp; omega)).trans ((Below.heap_setCell _ _ _ D0 (by simp; omega)).trans HK03.out))
                  · have hfin := cell_put (D := D0) (cell_put (D := D1) (cell_alloc (cell_here r1 (.bool true)) (.cells #[.int .i64 2] 3)) (by simp; omega) (.deferred none)) (by simp; omega) (.deferred none)
                    refine ⟨.bool true, ?_, rfl, b_put (b_put (bal (bset hB13 (by show w.heap.size ≤ w.heap.size + 1 + 1; omega) _) _) (by omega) _) (by omega) _⟩
                    simp [results, Tryz.results3, go_sem, hfin]
                · subst e1 e2 e3 e4 e5
                  have HL8 := Lib.hid e8
                  have HL9 := Lib.hid e9
                  have HL7 := Lib.hid e7
                  clear e7 e8 e9
                  go_wp2
                  rw [rounds_succ]
                  go_wp2
                  refine wp_name fun w14 hW14 => ?_
                  have hb14 : Below w13.heap.size w13 w14 := by rw [hW14]; exact bal (Below.refl _ _) _
                  have r2 := bkeep hb14 r1
                  have r2f := bkeepf hb14 r1 r1f
                  have zr2 := cell_lt r2
                  clear hW14 i0 i0f rd1 zi1 zrd1
                  go_loopw [23] (fun x wr => ∃ j : Nat, j ≤ L.length ∧ x = .int .i64 j ∧ Hid (Below w14.heap.size w14 wr)) (fun x _ => L.length - (intOf x).toNat)
                  case atStart => exact ⟨0, Nat.zero_le _, rfl, Lib.hid (Below.refl _ _)⟩
                  case round =>
                    obtain ⟨j, hj, rfl, hO⟩ := hrel
                    obtain ⟨w15, rfl⟩ : ∃ w15, w15 = wr := ⟨_, rfl⟩
                    have hb15 : Below w13.heap.size w13 w15 := bthen hb14 hO.out
                    by_cases hlt : j < L.length
                    · have hltI : (j : Int) < (L.length : Int) := by omega
                      have hb415 : Below w4.heap.size w4 w15 := (hb49.trans (hb913.mono hb49.size)).trans (hb15.mono (by have := hb49.size; have := hb913.size; omega))
                      have hb915 : Below w9.heap.size w9 w15 := bthen hb913 hb15
                      obtain ⟨a', c', heq, -, vr⟩ := (HL8.out.keep lims_int hb415).view
                      obtain ⟨rfl, -, rfl⟩ := Value.slice.inj heq
                      obtain ⟨xb0, xo0, xn, xa, xl, xc, rfl, c0, c1, hxi⟩ := vr j hlt
                      obtain ⟨b, o, rb, ro, tc, nb, na, nl, nc, rfl, q0, d0, d1, hri⟩ := HL9.out j hlt
                      replace q0 := bkeep hb915 q0
                      replace d0 := bkeep hb915 d0
                      replace d1 := bkeep hb915 d1
                      replace hri := hri.keep hb915
                      have htb := HL7.out j
                      obtain ⟨t, htE⟩ : ∃ t, L.getD j 0 = t := ⟨_, rfl⟩
                      rw [htE] at hri hxi htb
                      have oc := fun W (h : Below w15.heap.size w15 W) => one_c _ _ t t 8192 W (hxi.keep h) (hri.keep h) htb (by omega)
                      rw [show decide (t = t) = true by simp] at oc
                      have zc0 := cell_lt c0
                      have zq0 := cell_lt q0
                      have zd0 := cell_lt d0
                      clear hri hxi htb htE vr heq
                      have hB := bthen hB13 hb15
                      go_wp2
                      refine wp_region_grow (w := w15) (by kernel_rfl) (by kernel_rfl) ?_
                      have c0g : ∀ gs, (grow w15 gs).cell? ⟨xb0, xo0 + j * 2, none⟩ = some (.bool xn) := fun gs => bkeep gs.below c0
                      have c1g : ∀ gs, (grow w15 gs).cell? ⟨xb0, xo0 + j * 2 + 1, none⟩ = some (.slice xa xl xc) := fun gs => bkeep gs.below c1
                      have q0g : ∀ gs, (grow w15 gs).cell? ⟨b, o + j, none⟩ = some (.slice (some ⟨rb, ro, none⟩) 1 tc) := fun gs => bkeep gs.below q0
                      have d0g : ∀ gs, (grow w15 gs).cell? ⟨rb, ro, none⟩ = some (.bool nb) := fun gs => bkeep gs.below d0
                      have d1g : ∀ gs, (grow w15 gs).cell? ⟨rb, ro + 1, none⟩ = some (.slice na nl nc) := fun gs => bkeep gs.below d1
                      repeat (go_big_quiet_step ((first | (go_at_call 17; exact grow_of (oc _ (Grows.below _))) | fail)))
                      refine wpQuiet_nil ?_
                      intro w17 hb17
                      clear c0g
                      clear c1g
                      clear q0g
                      clear d0g
                      clear d1g
                      have c0 : w17.cell? ⟨xb0, xo0 + j * 2, none⟩ = some (.bool xn) := bkeep hb17 (by first | assumption | exact cell_new (by with_reducible first | rfl | (simp; done) | (simp; omega)) rfl | (repeat (first | assumption | exact cell_new (by with_reducible first | rfl | (simp; done) | (simp; omega)) rfl | refine cell_alloc ?_ _ | refine cell_drew ?_ | refine cell_drewN ?_ _ | refine cell_far ?_ (by simp) _ | (refine cell_far ?_ (by simp <;> omega) _))) | simp [go_sem, *])
                      have zc0 := cell_lt c0
                      have c1 : w17.cell? ⟨xb0, xo0 + j * 2 + 1, none⟩ = some (.slice xa xl xc) := bkeep hb17 (by first | assumption | exact cell_new (by with_reducible first | rfl | (simp; done) | (simp; omega)) rfl | (repeat (first | assumption | exact cell_new (by with_reducible first | rfl | (simp; done) | (simp; omega)) rfl | refine cell_alloc ?_ _ | refine cell_drew ?_ | refine cell_drewN ?_ _ | refine cell_far ?_ (by simp) _ | (refine cell_far ?_ (by simp <;> omega) _))) | simp [go_sem, *])
                      have q0 : w17.cell? ⟨b, o + j, none⟩ = some (.slice (some ⟨rb, ro, none⟩) 1 tc) := bkeep hb17 (by first | assumption | exact cell_new (by with_reducible first | rfl | (simp; done) | (simp; omega)) rfl | (repeat (first | assumption | exact cell_new (by with_reducible first | rfl | (simp; done) | (simp; omega)) rfl | refine cell_alloc ?_ _ | refine cell_drew ?_ | refine cell_drewN ?_ _ | refine cell_far ?_ (by simp) _ | (refine cell_far ?_ (by simp <;> omega) _))) | simp [go_sem, *])
                      have zq0 := cell_lt q0
                      have d0 : w17.cell? ⟨rb, ro, none⟩ = some (.bool nb) := bkeep hb17 (by first | assumption | exact cell_new (by with_reducible first | rfl | (simp; done) | (simp; omega)) rfl | (repeat (first | assumption | exact cell_new (by with_reducible first | rfl | (simp; done) | (simp; omega)) rfl | refine cell_alloc ?_ _ | refine cell_drew ?_ | refine cell_drewN ?_ _ | refine cell_far ?_ (by simp) _ | (refine cell_far ?_ (by simp <;> omega) _))) | simp [go_sem, *])
                      have zd0 := cell_lt d0
                      have d1 : w17.cell? ⟨rb, ro + 1, none⟩ = some (.slice na nl nc) := bkeep hb17 (by first | assumption | exact cell_new (by with_reducible first | rfl | (simp; done) | (simp; omega)) rfl | (repeat (first | assumption | exact cell_new (by with_reducible first | rfl | (simp; done) | (simp; omega)) rfl | refine cell_alloc ?_ _ | refine cell_drew ?_ | refine cell_drewN ?_ _ | refine cell_far ?_ (by simp) _ | (refine cell_far ?_ (by simp <;> omega) _))) | simp [go_sem, *])
                      have hB : Below w.heap.size w w17 := bthen (by repeat (first | exact Below.refl _ _ | exact hB | refine Below.drew ?_ | refine below_drewN ?_ _ | refine bset ?_ (by simp <;> omega) _ | refine bal ?_ _)) hb17
                      have hz : w.heap.size ≤ w17.heap.size := hB.size
                      go_wp2
                      exact ⟨⟨j + 1, by omega, by go_num, Lib.hid (bthen hO.out hb17)⟩, by simp [intOf]; omega⟩
                    · obtain rfl : j = L.length := by omega
                      have r3 := bkeep hb15 r1
                      have zr3 := cell_lt r3
                      have hB15 := bthen hB13 hb15
                      have ic := fun W (h : Below w15.heap.size w15 W) => is_c (.slice a3 l.length c3) (.slice a4 l.length c4) l 64 W (HA.out.keep lims_int ((hb39.trans (hb913.mono hb39.size)).trans ((bthen hb15 h).mono (by have := hb39.size; have := hb913.size; omega)))) (HQ.out.keep lims_ref ((hb39.trans (hb913.mono hb39.size)).trans ((bthen hb15 h).mono (by have := hb39.size; have := hb913.size; omega)))) HBD.out (by omega) (by omega)
                      have hw15 := Below.refl w15.heap.size w15
                      go_wp2_with fail
                      refine (ic _ (by repeat (first | exact Below.refl _ _ | exact hw15 | refine Below.drew ?_ | refine below_drewN ?_ _ | refine bset ?_ (by simp <;> omega) _ | refine bal ?_ _))).mono ?_
                      rintro e w16 ⟨rfl, hb16⟩
                      have HBF := Lib.hid (bthen hb15 (bthen (by repeat (first | exact Below.refl _ _ | exact hw15 | refine Below.drew ?_ | refine below_drewN ?_ _ | refine bset ?_ (by simp <;> omega) _ | refine bal ?_ _)) hb16))
                      have zb16 := HBF.out.size
                      have r4 := bkeep HBF.out r1
                      have r4f := bkeepf HBF.out r1 r1f
                      clear ic
                      go_wp2
                      refine ⟨by simp, .inl ⟨_, _, rfl, run_takeDeferred (b := D1) (ds := []) ?_, by simp, .inl ⟨_, _, rfl, run_takeDeferred (b := D0) (ds := []) ?_, ?_⟩⟩⟩
                      · exact (Below.heap_setCell _ _ _ D1 (by simp; omega)).trans ((HBF.out.block D1 (by omega)).trans HK1.out)
                      · exact (put_other _ (by omega)).trans ((Below.heap_setCell _ _ _ D0 (by simp; omega)).trans ((HBF.out.block D0 (by omega)).trans HK03.out))
                      · have hfin := cell_put (D := D0) (cell_put (D := D1) (cell_here (bkeep HBF.out r1) (.bool true)) (by simp; omega) (.deferred none)) (by simp; omega) (.deferred none)
                        refine ⟨.bool true, ?_, rfl, b_put (b_put (bset (bthen hB13 HBF.out) (by show w.heap.size ≤ w.heap.size + 1 + 1; omega) _) (by omega) _) (by omega) _⟩
                        simp [results, Tryz.results3, go_sem, hfin]
              case stopB =>
                intro D1 c k w13 _ _ hi _
                exact hi.elim
            case stopA =>
              intro D0 cx k w11 hDs hkM hix hK0
              obtain ⟨rfl, hks, hi⟩ := hix
              obtain ⟨i0, i0f, hout⟩ := hi
              obtain ⟨hb911, sb0, rd0⟩ := HXA.out w11 hout
              have s11 := bkeep hb911 s0
              have hD0l := (Array.getElem?_eq_some_iff.1 hK0).1
              have hD0g : w9.heap.size ≤ D0 := Nat.le_trans hb9w10.size hDs
              have zi0 := cell_lt i0
              have zsb0 := cell_lt sb0
              have zrd0 := cell_lt rd0
              have zs11 := cell_lt s11
              clear hout
              by_cases hkn : M = k
              · subst hkn
                clear hks
                go_wp2
                rw [rounds_succ]
                go_wp2
                refine wp_name fun w12 hW12 => ?_
                obtain ⟨rdbB, hrdB⟩ : ∃ b, b = w11.heap.size := ⟨_, rfl⟩
                obtain ⟨ibB, hiB⟩ : ∃ b, b = w11.heap.size + 1 := ⟨_, rfl⟩
                have hb1112 : Below w11.heap.size w11 w12 := by rw [hW12]; exact bal (bal (Below.refl _ _) _) _
                have hb9w12 : Below w9.heap.size w9 w12 := bthen hb911 hb1112
                have hiw12 : w12.cell? ⟨ibB, 0, none⟩ = some (.int .i64 ((0 : Nat) : Int)) := by rw [hW12, hiB]; exact cell_new (by simp) rfl
                have hiw12f : w12.frozen? ⟨ibB, 0, none⟩ = false := by rw [hW12, hiB, World.frozen?_alloc_at (hn := by simp)]
                have htw12 : Hid (typOf w12 ibB = some 3) := Lib.hid (by rw [hW12, hiB]; exact typ_fresh (by simp))
                have hrdw12 : w12.cell? ⟨rdbB, 0, none⟩ = some (.int .i64 1) := by rw [hW12, hrdB]; exact cell_alloc (cell_new rfl rfl) _
                have hstw12 := bkeep hb1112 sb0
                rw [← hiB, ← hrdB]
                have HK12 := Lib.hid ((hb1112.block D0 hD0l).trans hK0)
                have hDne : D0 < ibB := by omega
                have hz1112 := hb1112.size
                have hDl12 : D0 < w12.heap.size := by omega
                have HW11 := Lib.hid (And.intro hrdB hiB)
                clear hW12 hK0 hb1112 hz1112 sb0 rd0 i0 i0f s11 zi0 zsb0 zs11
                have hstb := HST.out
                have hb9X : Below w9.heap.size w9 w12 := hb9w12
                have hBX := bthen hB9 hb9X
                have hibX : ibB < w12.heap.size := cell_lt hiw12
                have HTNB := Lib.hid (show TraceIn w12.heap.size (fun q => q = ibB) pb xb ins R ca oa cc oc code outs (.slice a3 l.length c3) l w12 from by
                  have hb510 : Below w5.heap.size w5 w12 := bthen hb59 hb9X
                  refine ⟨bkeep hb510 HTC.out.1, bkeep hb510 HTC.out.2.1, bkeep hb510 HTC.out.2.2.1, bkeep hb510 HTC.out.2.2.2.1, bkeep hb510 HTC.out.2.2.2.2, HC.out.1.keep hBX, HC.out.2.keep hBX, HA.out.keep lims_int (bthen hb39 hb9X), (fun q hq => by subst hq; exact hibX), Nat.le_refl _, (fun q hq => by subst hq; exact htw12.out), fun b off e hl hq => ?_⟩
                  rcases HC.out.1 with h0 | ⟨b', off', h1, _, h3⟩
                  · rw [h0] at hl; simp at hl
                  · rw [e] at h1; cases h1
                    have := cell_lt (h3 0 hl).c0
                    have := hB9.size
                    omega)
                have HINB := Lib.hid (show RunInv w12 ibB 0 w12 from ⟨hiw12, hiw12f, Out.refl _ _⟩)
                have HXB := Lib.hid (show ∀ W, Out (fun q => q = ibB) w12 W → Below w9.heap.size w9 W ∧ W.cell? ⟨stb, 0, none⟩ = some (.slice sa M sc) ∧ W.cell? ⟨rdbB, 0, none⟩ = some (.int .i64 1) from fun W h =>
                  ⟨hb9X.trans (h.to_below (fun q hq _ e => by omega) hb9X.size), okeep h hstw12 (by omega), okeep h hrdw12 (by omega)⟩)
                have HADB := Lib.hid (And.intro hrdB hiB)
                clear hiw12 hiw12f hstw12 hrdw12 hb9X hBX hrdB hiB hstb
                refine wp_rangeV (gf := 60) (lb := #[.pointer (some ⟨pb, 0, none⟩), .pointer (some ⟨xb, 0, none⟩)]) (by simp [Act.eval]) (enters_of Tryz.func60 (by kernel_rfl) rfl)
                  (trace_yes (n0 := w12.heap.size) (X0 := fun q => q = ibB) (M := M) (K := 64) HOK.out HLE.out (by rw [Int.toNat_natCast]; exact HM.out) HBD.out (by omega)) (fun X o h => (Below.refl _ _).alloc h o) (fun X l o o' h1 h2 h3 h4 => belowK_b (Nat.le_refl _) X l o o' h1 h2 h3 h4)
                  (fun W h => HTNB.out.keep h) (fun _ _ _ h => by obtain ⟨v, rfl, _⟩ := h; rfl)
                  (fun k W => RunInv w12 ibB k W) (fun c k W => False) (fun k X Y h c => h.low hibX c) (fun c k X Y h d => h.elim) HINB.out
                  (fun T k args a' X => BoxAt code (startN l R) T k args a' X) (fun k args a' X l o o' _ h1 h2 b => BoxAt.put h1 h2 b) (fun k args X q h _ hq => by subst hq; exact cells_of_cell h.i0)
                  ?assignB ?bodyB ?doneB ?stopB
                case assignB =>
                  rintro y k args X K hk hi ⟨v, rfl, hv⟩ hK
                  rw [Int.toNat_natCast] at hv
                  have HVV := Lib.hid hv
                  obtain ⟨n1, a1, c1, l1, rfl, -⟩ := hv
                  unfold iv at *
                  gi_wp2
                  refine hK _ _ (bal (Below.refl _ _) _) (hi.low hibX (bal (Below.refl _ _) _ |>.mono (by have := hi.out.size; omega))) ⟨X.heap.size, n1, a1, l1.length, c1, cell_new rfl rfl, cell_new rfl rfl, HVV.out.keep (bal (Below.refl _ _) _), by simp⟩
                case bodyB =>
                  rintro y k args a' w6 hk hi ⟨B, nb, ad, bn, bc, c0, c1, hbi, rfl⟩
                  have HI := Lib.hid hi
                  obtain ⟨i0, i0f, hout⟩ := hi
                  obtain ⟨hb9w, sb0, rd0⟩ := HXB.out w6 hout
                  have hB := bthen hB9 hb9w
                  replace s0 := bkeep hb9w s0
                  obtain ⟨sb, so, tb, tof, tcc, nr, ra, rl, rcc, rfl, q0, d0, d1, hri⟩ := HROW.out k hk
                  replace q0 := bkeep hb9w q0
                  replace d0 := bkeep hb9w d0
                  replace d1 := bkeep hb9w d1
                  have hki : (k : Int) < (M : Int) := by omega
                  have hkd : decide (M ≤ k) = false := by simp; omega
                  have hri := hri.keep hb9w
                  have htb := HTB.out k (by omega)
                  obtain ⟨t, htE⟩ : ∃ t, toldN code (startN l R) k = t := ⟨_, rfl⟩
                  rw [htE] at hri hbi htb
                  have oc := fun W (h : Below w6.heap.size w6 W) => one_c _ _ t t 8192 W (hbi.keep h) (hri.keep h) htb (by omega)
                  rw [show decide (t = t) = true by simp] at oc
                  simp only [List.setIfInBounds_toArray, List.set_cons_succ, List.set_cons_zero]
                  have zi0 := cell_lt i0
                  have zsb0 := cell_lt sb0
                  have zrd0 := cell_lt rd0
                  have zs0 := cell_lt s0
                  have zq0 := cell_lt q0
                  have zd0 := cell_lt d0
                  have zc0 := cell_lt c0
                  clear hri hbi htb htE hout
                  have hkk : ((k : Int) != (k : Int)) = false := by simp
                  have hn1 : rdbB ≠ ibB := by have := HADB.out; omega
                  have hn2 : ibB ≠ rdbB := by have := HADB.out; omega
                  have hn3 : w.heap.size + 1 ≠ ibB := by have := HADB.out; have := HSZ.out; omega
                  have hn4 : ibB ≠ w.heap.size + 1 := by have := HADB.out; have := HSZ.out; omega
                  gi_wp2
                  refine wpInR_region_grow (w := w6) (by kernel_rfl) (by kernel_rfl) (by kernel_rfl) ?_
                  have c0g : ∀ gs, (grow w6 gs).cell? ⟨B, 0, none⟩ = some (.bool nb) := fun gs => bkeep gs.below c0
                  have c1g : ∀ gs, (grow w6 gs).cell? ⟨B, 1, none⟩ = some (.slice ad bn bc) := fun gs => bkeep gs.below c1
                  have i0g : ∀ gs, (grow w6 gs).cell? ⟨ibB, 0, none⟩ = some (.int .i64 (k : Int)) := fun gs => bkeep gs.below i0
                  have sb0g : ∀ gs, (grow w6 gs).cell? ⟨stb, 0, none⟩ = some (.slice (some ⟨sb, so, none⟩) M sc) := fun gs => bkeep gs.below sb0
                  have rd0g : ∀ gs, (grow w6 gs).cell? ⟨rdbB, 0, none⟩ = some (.int .i64 1) := fun gs => bkeep gs.below rd0
                  have s0g : ∀ gs, (grow w6 gs).cell? ⟨w.heap.size + 1, 0, none⟩ = some (.int .i64 st) := fun gs => bkeep gs.below s0
                  have q0g : ∀ gs, (grow w6 gs).cell? ⟨sb, so + k, none⟩ = some (.slice (some ⟨tb, tof, none⟩) 1 tcc) := fun gs => bkeep gs.below q0
                  have d0g : ∀ gs, (grow w6 gs).cell? ⟨tb, tof, none⟩ = some (.bool nr) := fun gs => bkeep gs.below d0
                  have d1g : ∀ gs, (grow w6 gs).cell? ⟨tb, tof + 1, none⟩ = some (.slice ra rl rcc) := fun gs => bkeep gs.below d1
                  repeat (go_big_quiet_step ((first | (go_at_call 17; exact grow_of (oc _ (Grows.below _))) | fail)))
                  refine wpQuiet_nil ?_
                  intro w7 hb7
                  clear c0g
                  clear c1g
                  clear i0g
                  clear sb0g
                  clear rd0g
                  clear s0g
                  clear q0g
                  clear d0g
                  clear d1g
                  have c0 : w7.cell? ⟨B, 0, none⟩ = some (.bool nb) := bkeep hb7 (by first | assumption | exact cell_new (by with_reducible first | rfl | (simp; done) | (simp; omega)) rfl | (repeat (first | assumption | exact cell_new (by with_reducible first | rfl | (simp; done) | (simp; omega)) rfl | refine cell_alloc ?_ _ | refine cell_drew ?_ | refine cell_drewN ?_ _ | refine cell_far ?_ (by simp) _ | (refine cell_far ?_ (by simp <;> omega) _))) | simp [go_sem, *])
                  have zc0 := cell_lt c0
                  have c1 : w7.cell? ⟨B, 1, none⟩ = some (.slice ad bn bc) := bkeep hb7 (by first | assumption | exact cell_new (by with_reducible first | rfl | (simp; done) | (simp; omega)) rfl | (repeat (first | assumption | exact cell_new (by with_reducible first | rfl | (simp; done) | (simp; omega)) rfl | refine cell_alloc ?_ _ | refine cell_drew ?_ | refine cell_drewN ?_ _ | refine cell_far ?_ (by simp) _ | (refine cell_far ?_ (by simp <;> omega) _))) | simp [go_sem, *])
                  have i0 : w7.cell? ⟨ibB, 0, none⟩ = some (.int .i64 (k : Int)) := bkeep hb7 (by first | assumption | exact cell_new (by with_reducible first | rfl | (simp; done) | (simp; omega)) rfl | (repeat (first | assumption | exact cell_new (by with_reducible first | rfl | (simp; done) | (simp; omega)) rfl | refine cell_alloc ?_ _ | refine cell_drew ?_ | refine cell_drewN ?_ _ | refine cell_far ?_ (by simp) _ | (refine cell_far ?_ (by simp <;> omega) _))) | simp [go_sem, *])
                  have zi0 := cell_lt i0
                  have i0f : w7.frozen? ⟨ibB, 0, none⟩ = false := bkeepf (v := .int .i64 (k : Int)) hb7 (by first | assumption | exact cell_new (by with_reducible first | rfl | (simp; done) | (simp; omega)) rfl | (repeat (first | assumption | exact cell_new (by with_reducible first | rfl | (simp; done) | (simp; omega)) rfl | refine cell_alloc ?_ _ | refine cell_drew ?_ | refine cell_drewN ?_ _ | refine cell_far ?_ (by simp) _ | (refine cell_far ?_ (by simp <;> omega) _))) | simp [go_sem, *]) (by first | assumption | (simp <;> assumption) | simp [go_sem, *])
                  have sb0 : w7.cell? ⟨stb, 0, none⟩ = some (.slice (some ⟨sb, so, none⟩) M sc) := bkeep hb7 (by first | assumption | exact cell_new (by with_reducible first | rfl | (simp; done) | (simp; omega)) rfl | (repeat (first | assumption | exact cell_new (by with_reducible first | rfl | (simp; done) | (simp; omega)) rfl | refine cell_alloc ?_ _ | refine cell_drew ?_ | refine cell_drewN ?_ _ | refine cell_far ?_ (by simp) _ | (refine cell_far ?_ (by simp <;> omega) _))) | simp [go_sem, *])
                  have zsb0 := cell_lt sb0
                  have rd0 : w7.cell? ⟨rdbB, 0, none⟩ = some (.int .i64 1) := bkeep hb7 (by first | assumption | exact cell_new (by with_reducible first | rfl | (simp; done) | (simp; omega)) rfl | (repeat (first | assumption | exact cell_new (by with_reducible first | rfl | (simp; done) | (simp; omega)) rfl | refine cell_alloc ?_ _ | refine cell_drew ?_ | refine cell_drewN ?_ _ | refine cell_far ?_ (by simp) _ | (refine cell_far ?_ (by simp <;> omega) _))) | simp [go_sem, *])
                  have zrd0 := cell_lt rd0
                  have s0 : w7.cell? ⟨w.heap.size + 1, 0, none⟩ = some (.int .i64 st) := bkeep hb7 (by first | assumption | exact cell_new (by with_reducible first | rfl | (simp; done) | (simp; omega)) rfl | (repeat (first | assumption | exact cell_new (by with_reducible first | rfl | (simp; done) | (simp; omega)) rfl | refine cell_alloc ?_ _ | refine cell_drew ?_ | refine cell_drewN ?_ _ | refine cell_far ?_ (by simp) _ | (refine cell_far ?_ (by simp <;> omega) _))) | simp [go_sem, *])
                  have zs0 := cell_lt s0
                  have q0 : w7.cell? ⟨sb, so + k, none⟩ = some (.slice (some ⟨tb, tof, none⟩) 1 tcc) := bkeep hb7 (by first | assumption | exact cell_new (by with_reducible first | rfl | (simp; done) | (simp; omega)) rfl | (repeat (first | assumption | exact cell_new (by with_reducible first | rfl | (simp; done) | (simp; omega)) rfl | refine cell_alloc ?_ _ | refine cell_drew ?_ | refine cell_drewN ?_ _ | refine cell_far ?_ (by simp) _ | (refine cell_far ?_ (by simp <;> omega) _))) | simp [go_sem, *])
                  have zq0 := cell_lt q0
                  have d0 : w7.cell? ⟨tb, tof, none⟩ = some (.bool nr) := bkeep hb7 (by first | assumption | exact cell_new (by with_reducible first | rfl | (simp; done) | (simp; omega)) rfl | (repeat (first | assumption | exact cell_new (by with_reducible first | rfl | (simp; done) | (simp; omega)) rfl | refine cell_alloc ?_ _ | refine cell_drew ?_ | refine cell_drewN ?_ _ | refine cell_far ?_ (by simp) _ | (refine cell_far ?_ (by simp <;> omega) _))) | simp [go_sem, *])
                  have zd0 := cell_lt d0
                  have d1 : w7.cell? ⟨tb, tof + 1, none⟩ = some (.slice ra rl rcc) := bkeep hb7 (by first | assumption | exact cell_new (by with_reducible first | rfl | (simp; done) | (simp; omega)) rfl | (repeat (first | assumption | exact cell_new (by with_reducible first | rfl | (simp; done) | (simp; omega)) rfl | refine cell_alloc ?_ _ | refine cell_drew ?_ | refine cell_drewN ?_ _ | refine cell_far ?_ (by simp) _ | (refine cell_far ?_ (by simp <;> omega) _))) | simp [go_sem, *])
                  have hB : Below w.heap.size w w7 := bthen (by repeat (first | exact Below.refl _ _ | exact hB | refine Below.drew ?_ | refine below_drewN ?_ _ | refine bset ?_ (by simp <;> omega) _ | refine bal ?_ _)) hb7
                  have hz : w.heap.size ≤ w7.heap.size := hB.size
                  gi_wp2
                  have hstp := HI.out.step hb7
                  exact ⟨hstp.2, hstp.1⟩
                case doneB =>
                  intro D1 w13 hDs1 hi hK1
                  obtain ⟨i0, i0f, hout⟩ := hi
                  obtain ⟨hb913, sb1, rd1⟩ := HXB.out w13 hout
                  have HK03 := Lib.hid ((hout.block D0 hDl12 (by omega)).trans HK12.out)
                  have HK1 := Lib.hid hK1
                  have hD1l := (Array.getElem?_eq_some_iff.1 hK1).1
                  have hz13 := hout.size
                  have r1 := bkeep hb913 r0
                  have r1f := bkeepf hb913 r0 r0f
                  have hB13 := bthen hB9 hb913
                  have zi1 := cell_lt i0
                  have zsb1 := cell_lt sb1
                  have zrd1 := cell_lt rd1
                  have zr1 := cell_lt r1
                  have hDD : D1 ≠ D0 := by omega
                  have hD0g2 : w.heap.size + 1 + 1 < D0 := by have := HSZ.out; omega
                  have hD1g2 : w.heap.size + 1 + 1 < D1 := by have := HSZ.out; omega
                  have hwz := hB13.size
                  clear hout hK1
                  rcases HE.out with ⟨e1, e2, e3, e4⟩ | ⟨e1, e2, e3, L, e4, e5, e6, e7, e8, e9⟩
                  · subst e1 e2 e3 e4
                    go_wp2
                    rw [rounds_succ]
                    go_wp2
                    refine ⟨by simp, .inl ⟨_, _, rfl, run_takeDeferred (b := D1) (ds := []) ?_, by simp, .inl ⟨_, _, rfl, run_takeDeferred (b := D0) (ds := []) ?_, ?_⟩⟩⟩
                    · exact (Below.heap_alloc _ _ D1 (by simp; omega)).trans ((Below.heap_setCell _ _ _ D1 (by simp; omega)).trans HK1.out)
                    · exact (put_other _ (by omega)).trans ((Below.heap_alloc _ _ D0 (by simp; omega)).trans ((Below.heap_setCell _ _ _ D0 (by simp; omega)).trans HK03.out))
                    · have hfin := cell_put (D := D0) (cell_put (D := D1) (cell_alloc (cell_here r1 (.bool true)) (.cells #[.int .i64 2] 3)) (by simp; omega) (.deferred none)) (by simp; omega) (.deferred none)
                      refine ⟨.bool true, ?_, rfl, b_put (b_put (bal (bset hB13 (by show w.heap.size ≤ w.heap.size + 1 + 1; omega) _) _) (by omega) _) (by omega) _⟩
                      simp [results, Tryz.results3, go_sem, hfin]
                  · subst e1 e2 e3 e4 e5
                    have HL8 := Lib.hid e8
                    have HL9 := Lib.hid e9
                    have HL7 := Lib.hid e7
                    clear e7 e8 e9
                    go_wp2
                    rw [rounds_succ]
                    go_wp2
                    refine wp_name fun w14 hW14 => ?_
                    have hb14 : Below w13.heap.size w13 w14 := by rw [hW14]; exact bal (Below.refl _ _) _
                    have r2 := bkeep hb14 r1
                    have r2f := bkeepf hb14 r1 r1f
                    have zr2 := cell_lt r2
                    clear hW14 i0 i0f rd1 zi1 zrd1
                    go_loopw [23] (fun x wr => ∃ j : Nat, j ≤ L.length ∧ x = .int .i64 j ∧ Hid (Below w14.heap.size w14 wr)) (fun x _ => L.length - (intOf x).toNat)
                    case atStart => exact ⟨0, Nat.zero_le _, rfl, Lib.hid (Below.refl _ _)⟩
                    case round =>
                      obtain ⟨j, hj, rfl, hO⟩ := hrel
                      obtain ⟨w15, rfl⟩ : ∃ w15, w15 = wr := ⟨_, rfl⟩
                      have hb15 : Below w13.heap.size w13 w15 := bthen hb14 hO.out
                      by_cases hlt : j < L.length
                      · have hltI : (j : Int) < (L.length : Int) := by omega
                        have hb415 : Below w4.heap.size w4 w15 := (hb49.trans (hb913.mono hb49.size)).trans (hb15.mono (by have := hb49.size; have := hb913.size; omega))
                        have hb915 : Below w9.heap.size w9 w15 := bthen hb913 hb15
                        obtain ⟨a', c', heq, -, vr⟩ := (HL8.out.keep lims_int hb415).view
                        obtain ⟨rfl, -, rfl⟩ := Value.slice.inj heq
                        obtain ⟨xb0, xo0, xn, xa, xl, xc, rfl, c0, c1, hxi⟩ := vr j hlt
                        obtain ⟨b, o, rb, ro, tc, nb, na, nl, nc, rfl, q0, d0, d1, hri⟩ := HL9.out j hlt
                        replace q0 := bkeep hb915 q0
                        replace d0 := bkeep hb915 d0
                        replace d1 := bkeep hb915 d1
                        replace hri := hri.keep hb915
                        have htb := HL7.out j
                        obtain ⟨t, htE⟩ : ∃ t, L.getD j 0 = t := ⟨_, rfl⟩
                        rw [htE] at hri hxi htb
                        have oc := fun W (h : Below w15.heap.size w15 W) => one_c _ _ t t 8192 W (hxi.keep h) (hri.keep h) htb (by omega)
                        rw [show decide (t = t) = true by simp] at oc
                        have zc0 := cell_lt c0
                        have zq0 := cell_lt q0
                        have zd0 := cell_lt d0
                        clear hri hxi htb htE vr heq
                        have hB := bthen hB13 hb15
                        go_wp2
                        refine wp_region_grow (w := w15) (by kernel_rfl) (by kernel_rfl) ?_
                        have c0g : ∀ gs, (grow w15 gs).cell? ⟨xb0, xo0 + j * 2, none⟩ = some (.bool xn) := fun gs => bkeep gs.below c0
                        have c1g : ∀ gs, (grow w15 gs).cell? ⟨xb0, xo0 + j * 2 + 1, none⟩ = some (.slice xa xl xc) := fun gs => bkeep gs.below c1
                        have q0g : ∀ gs, (grow w15 gs).cell? ⟨b, o + j, none⟩ = some (.slice (some ⟨rb, ro, none⟩) 1 tc) := fun gs => bkeep gs.below q0
                        have d0g : ∀ gs, (grow w15 gs).cell? ⟨rb, ro, none⟩ = some (.bool nb) := fun gs => bkeep gs.below d0
                        have d1g : ∀ gs, (grow w15 gs).cell? ⟨rb, ro + 1, none⟩ = some (.slice na nl nc) := fun gs => bkeep gs.below d1
                        repeat (go_big_quiet_step ((first | (go_at_call 17; exact grow_of (oc _ (Grows.below _))) | fail)))
                        refine wpQuiet_nil ?_
                        intro w17 hb17
                        clear c0g
                        clear c1g
                        clear q0g
                        clear d0g
                        clear d1g
                        have c0 : w17.cell? ⟨xb0, xo0 + j * 2, none⟩ = some (.bool xn) := bkeep hb17 (by first | assumption | exact cell_new (by with_reducible first | rfl | (simp; done) | (simp; omega)) rfl | (repeat (first | assumption | exact cell_new (by with_reducible first | rfl | (simp; done) | (simp; omega)) rfl | refine cell_alloc ?_ _ | refine cell_drew ?_ | refine cell_drewN ?_ _ | refine cell_far ?_ (by simp) _ | (refine cell_far ?_ (by simp <;> omega) _))) | simp [go_sem, *])
                        have zc0 := cell_lt c0
                        have c1 : w17.cell? ⟨xb0, xo0 + j * 2 + 1, none⟩ = some (.slice xa xl xc) := bkeep hb17 (by first | assumption | exact cell_new (by with_reducible first | rfl | (simp; done) | (simp; omega)) rfl | (repeat (first | assumption | exact cell_new (by with_reducible first | rfl | (simp; done) | (simp; omega)) rfl | refine cell_alloc ?_ _ | refine cell_drew ?_ | refine cell_drewN ?_ _ | refine cell_far ?_ (by simp) _ | (refine cell_far ?_ (by simp <;> omega) _))) | simp [go_sem, *])
                        have q0 : w17.cell? ⟨b, o + j, none⟩ = some (.slice (some ⟨rb, ro, none⟩) 1 tc) := bkeep hb17 (by first | assumption | exact cell_new (by with_reducible first | rfl | (simp; done) | (simp; omega)) rfl | (repeat (first | assumption | exact cell_new (by with_reducible first | rfl | (simp; done) | (simp; omega)) rfl | refine cell_alloc ?_ _ | refine cell_drew ?_ | refine cell_drewN ?_ _ | refine cell_far ?_ (by simp) _ | (refine cell_far ?_ (by simp <;> omega) _))) | simp [go_sem, *])
                        have zq0 := cell_lt q0
                        have d0 : w17.cell? ⟨rb, ro, none⟩ = some (.bool nb) := bkeep hb17 (by first | assumption | exact cell_new (by with_reducible first | rfl | (simp; done) | (simp; omega)) rfl | (repeat (first | assumption | exact cell_new (by with_reducible first | rfl | (simp; done) | (simp; omega)) rfl | refine cell_alloc ?_ _ | refine cell_drew ?_ | refine cell_drewN ?_ _ | refine cell_far ?_ (by simp) _ | (refine cell_far ?_ (by simp <;> omega) _))) | simp [go_sem, *])
                        have zd0 := cell_lt d0
                        have d1 : w17.cell? ⟨rb, ro + 1, none⟩ = some (.slice na nl nc) := bkeep hb17 (by first | assumption | exact cell_new (by with_reducible first | rfl | (simp; done) | (simp; omega)) rfl | (repeat (first | assumption | exact cell_new (by with_reducible first | rfl | (simp; done) | (simp; omega)) rfl | refine cell_alloc ?_ _ | refine cell_drew ?_ | refine cell_drewN ?_ _ | refine cell_far ?_ (by simp) _ | (refine cell_far ?_ (by simp <;> omega) _))) | simp [go_sem, *])
                        have hB : Below w.heap.size w w17 := bthen (by repeat (first | exact Below.refl _ _ | exact hB | refine Below.drew ?_ | refine below_drewN ?_ _ | refine bset ?_ (by simp <;> omega) _ | refine bal ?_ _)) hb17
                        have hz : w.heap.size ≤ w17.heap.size := hB.size
                        go_wp2
                        exact ⟨⟨j + 1, by omega, by go_num, Lib.hid (bthen hO.out hb17)⟩, by simp [intOf]; omega⟩
                      · obtain rfl : j = L.length := by omega
                        have r3 := bkeep hb15 r1
                        have zr3 := cell_lt r3
                        have hB15 := bthen hB13 hb15
                        have ic := fun W (h : Below w15.heap.size w15 W) => is_c (.slice a3 l.length c3) (.slice a4 l.length c4) l 64 W (HA.out.keep lims_int ((hb39.trans (hb913.mono hb39.size)).trans ((bthen hb15 h).mono (by have := hb39.size; have := hb913.size; omega)))) (HQ.out.keep lims_ref ((hb39.trans (hb913.mono hb39.size)).trans ((bthen hb15 h).mono (by have := hb39.size; have := hb913.size; omega)))) HBD.out (by omega) (by omega)
                        have hw15 := Below.refl w15.heap.size w15
                        go_wp2_with fail
                        refine (ic _ (by repeat (first | exact Below.refl _ _ | exact hw15 | refine Below.drew ?_ | refine below_drewN ?_ _ | refine bset ?_ (by simp <;> omega) _ | refine bal ?_ _))).mono ?_
                        rintro e w16 ⟨rfl, hb16⟩
                        have HBF := Lib.hid (bthen hb15 (bthen (by repeat (first | exact Below.refl _ _ | exact hw15 | refine Below.drew ?_ | refine below_drewN ?_ _ | refine bset ?_ (by simp <;> omega) _ | refine bal ?_ _)) hb16))
                        have zb16 := HBF.out.size
                        have r4 := bkeep HBF.out r1
                        have r4f := bkeepf HBF.out r1 r1f
                        clear ic
                        go_wp2
                        refine ⟨by simp, .inl ⟨_, _, rfl, run_takeDeferred (b := D1) (ds := []) ?_, by simp, .inl ⟨_, _, rfl, run_takeDeferred (b := D0) (ds := []) ?_, ?_⟩⟩⟩
                        · exact (Below.heap_setCell _ _ _ D1 (by simp; omega)).trans ((HBF.out.block D1 (by omega)).trans HK1.out)
                        · exact (put_other _ (by omega)).trans ((Below.heap_setCell _ _ _ D0 (by simp; omega)).trans ((HBF.out.block D0 (by omega)).trans HK03.out))
                        · have hfin := cell_put (D := D0) (cell_put (D := D1) (cell_here (bkeep HBF.out r1) (.bool true)) (by simp; omega) (.deferred none)) (by simp; omega) (.deferred none)
                          refine ⟨.bool true, ?_, rfl, b_put (b_put (bset (bthen hB13 HBF.out) (by show w.heap.size ≤ w.heap.size + 1 + 1; omega) _) (by omega) _) (by omega) _⟩
                          simp [results, Tryz.results3, go_sem, hfin]
                case stopB =>
                  intro D1 c k w13 _ _ hi _
                  exact hi.elim
              · have tne : (st != (M : Int)) = true := by simp; omega
                rw [hks] at i0
                clear hks hkn
                go_wp2
                rw [rounds_succ]
                go_wp2
                refine wp_name fun w12 hW12 => ?_
                obtain ⟨rdbB, hrdB⟩ : ∃ b, b = w11.heap.size := ⟨_, rfl⟩
                obtain ⟨ibB, hiB⟩ : ∃ b, b = w11.heap.size + 1 := ⟨_, rfl⟩
                have hb1112 : Below w11.heap.size w11 w12 := by rw [hW12]; exact bal (bal (Below.refl _ _) _) _
                have hb9w12 : Below w9.heap.size w9 w12 := bthen hb911 hb1112
                have hiw12 : w12.cell? ⟨ibB, 0, none⟩ = some (.int .i64 ((0 : Nat) : Int)) := by rw [hW12, hiB]; exact cell_new (by simp) rfl
                have hiw12f : w12.frozen? ⟨ibB, 0, none⟩ = false := by rw [hW12, hiB, World.frozen?_alloc_at (hn := by simp)]
                have htw12 : Hid (typOf w12 ibB = some 3) := Lib.hid (by rw [hW12, hiB]; exact typ_fresh (by simp))
                have hrdw12 : w12.cell? ⟨rdbB, 0, none⟩ = some (.int .i64 1) := by rw [hW12, hrdB]; exact cell_alloc (cell_new rfl rfl) _
                have hstw12 := bkeep hb1112 sb0
                rw [← hiB, ← hrdB]
                have HK12 := Lib.hid ((hb1112.block D0 hD0l).trans hK0)
                have hDne : D0 < ibB := by omega
                have hz1112 := hb1112.size
                have hDl12 : D0 < w12.heap.size := by omega
                have HW11 := Lib.hid (And.intro hrdB hiB)
                clear hW12 hK0 hb1112 hz1112 sb0 rd0 i0 i0f s11 zi0 zsb0 zs11
                have hstb := HST.out
                have hb9X : Below w9.heap.size w9 w12 := hb9w12
                have hBX := bthen hB9 hb9X
                have hibX : ibB < w12.heap.size := cell_lt hiw12
                have HTNB := Lib.hid (show TraceIn w12.heap.size (fun q => q = ibB) pb xb ins R ca oa cc oc code outs (.slice a3 l.length c3) l w12 from by
                  have hb510 : Below w5.heap.size w5 w12 := bthen hb59 hb9X
                  refine ⟨bkeep hb510 HTC.out.1, bkeep hb510 HTC.out.2.1, bkeep hb510 HTC.out.2.2.1, bkeep hb510 HTC.out.2.2.2.1, bkeep hb510 HTC.out.2.2.2.2, HC.out.1.keep hBX, HC.out.2.keep hBX, HA.out.keep lims_int (bthen hb39 hb9X), (fun q hq => by subst hq; exact hibX), Nat.le_refl _, (fun q hq => by subst hq; exact htw12.out), fun b off e hl hq => ?_⟩
                  rcases HC.out.1 with h0 | ⟨b', off', h1, _, h3⟩
                  · rw [h0] at hl; simp at hl
                  · rw [e] at h1; cases h1
                    have := cell_lt (h3 0 hl).c0
                    have := hB9.size
                    omega)
                have HINB := Lib.hid (show RunInv w12 ibB 0 w12 from ⟨hiw12, hiw12f, Out.refl _ _⟩)
                have HXB := Lib.hid (show ∀ W, Out (fun q => q = ibB) w12 W → Below w9.heap.size w9 W ∧ W.cell? ⟨stb, 0, none⟩ = some (.slice sa M sc) ∧ W.cell? ⟨rdbB, 0, none⟩ = some (.int .i64 1) from fun W h =>
                  ⟨hb9X.trans (h.to_below (fun q hq _ e => by omega) hb9X.size), okeep h hstw12 (by omega), okeep h hrdw12 (by omega)⟩)
                have HADB := Lib.hid (And.intro hrdB hiB)
                clear hiw12 hiw12f hstw12 hrdw12 hb9X hBX hrdB hiB hstb
                refine wp_rangeV (gf := 60) (lb := #[.pointer (some ⟨pb, 0, none⟩), .pointer (some ⟨xb, 0, none⟩)]) (by simp [Act.eval]) (enters_of Tryz.func60 (by kernel_rfl) rfl)
                  (trace_yes (n0 := w12.heap.size) (X0 := fun q => q = ibB) (M := M) (K := 64) HOK.out HLE.out (by rw [Int.toNat_natCast]; exact HM.out) HBD.out (by omega)) (fun X o h => (Below.refl _ _).alloc h o) (fun X l o o' h1 h2 h3 h4 => belowK_b (Nat.le_refl _) X l o o' h1 h2 h3 h4)
                  (fun W h => HTNB.out.keep h) (fun _ _ _ h => by obtain ⟨v, rfl, _⟩ := h; rfl)
                  (fun k W => RunInv w12 ibB k W) (fun c k W => False) (fun k X Y h c => h.low hibX c) (fun c k X Y h d => h.elim) HINB.out
                  (fun T k args a' X => BoxAt code (startN l R) T k args a' X) (fun k args a' X l o o' _ h1 h2 b => BoxAt.put h1 h2 b) (fun k args X q h _ hq => by subst hq; exact cells_of_cell h.i0)
                  ?assignB ?bodyB ?doneB ?stopB
                case assignB =>
                  rintro y k args X K hk hi ⟨v, rfl, hv⟩ hK
                  rw [Int.toNat_natCast] at hv
                  have HVV := Lib.hid hv
                  obtain ⟨n1, a1, c1, l1, rfl, -⟩ := hv
                  unfold iv at *
                  gi_wp2
                  refine hK _ _ (bal (Below.refl _ _) _) (hi.low hibX (bal (Below.refl _ _) _ |>.mono (by have := hi.out.size; omega))) ⟨X.heap.size, n1, a1, l1.length, c1, cell_new rfl rfl, cell_new rfl rfl, HVV.out.keep (bal (Below.refl _ _) _), by simp⟩
                case bodyB =>
                  rintro y k args a' w6 hk hi ⟨B, nb, ad, bn, bc, c0, c1, hbi, rfl⟩
                  have HI := Lib.hid hi
                  obtain ⟨i0, i0f, hout⟩ := hi
                  obtain ⟨hb9w, sb0, rd0⟩ := HXB.out w6 hout
                  have hB := bthen hB9 hb9w
                  replace s0 := bkeep hb9w s0
                  obtain ⟨sb, so, tb, tof, tcc, nr, ra, rl, rcc, rfl, q0, d0, d1, hri⟩ := HROW.out k hk
                  replace q0 := bkeep hb9w q0
                  replace d0 := bkeep hb9w d0
                  replace d1 := bkeep hb9w d1
                  have hki : (k : Int) < (M : Int) := by omega
                  have hkd : decide (M ≤ k) = false := by simp; omega
                  have hri := hri.keep hb9w
                  have htb := HTB.out k (by omega)
                  obtain ⟨t, htE⟩ : ∃ t, toldN code (startN l R) k = t := ⟨_, rfl⟩
                  rw [htE] at hri hbi htb
                  have oc := fun W (h : Below w6.heap.size w6 W) => one_c _ _ t t 8192 W (hbi.keep h) (hri.keep h) htb (by omega)
                  rw [show decide (t = t) = true by simp] at oc
                  simp only [List.setIfInBounds_toArray, List.set_cons_succ, List.set_cons_zero]
                  have zi0 := cell_lt i0
                  have zsb0 := cell_lt sb0
                  have zrd0 := cell_lt rd0
                  have zs0 := cell_lt s0
                  have zq0 := cell_lt q0
                  have zd0 := cell_lt d0
                  have zc0 := cell_lt c0
                  clear hri hbi htb htE hout
                  have hkk : ((k : Int) != (k : Int)) = false := by simp
                  have hn1 : rdbB ≠ ibB := by have := HADB.out; omega
                  have hn2 : ibB ≠ rdbB := by have := HADB.out; omega
                  have hn3 : w.heap.size + 1 ≠ ibB := by have := HADB.out; have := HSZ.out; omega
                  have hn4 : ibB ≠ w.heap.size + 1 := by have := HADB.out; have := HSZ.out; omega
                  gi_wp2
                  refine wpInR_region_grow (w := w6) (by kernel_rfl) (by kernel_rfl) (by kernel_rfl) ?_
                  have c0g : ∀ gs, (grow w6 gs).cell? ⟨B, 0, none⟩ = some (.bool nb) := fun gs => bkeep gs.below c0
                  have c1g : ∀ gs, (grow w6 gs).cell? ⟨B, 1, none⟩ = some (.slice ad bn bc) := fun gs => bkeep gs.below c1
                  have i0g : ∀ gs, (grow w6 gs).cell? ⟨ibB, 0, none⟩ = some (.int .i64 (k : Int)) := fun gs => bkeep gs.below i0
                  have sb0g : ∀ gs, (grow w6 gs).cell? ⟨stb, 0, none⟩ = some (.slice (some ⟨sb, so, none⟩) M sc) := fun gs => bkeep gs.below sb0
                  have rd0g : ∀ gs, (grow w6 gs).cell? ⟨rdbB, 0, none⟩ = some (.int .i64 1) := fun gs => bkeep gs.below rd0
                  have s0g : ∀ gs, (grow w6 gs).cell? ⟨w.heap.size + 1, 0, none⟩ = some (.int .i64 st) := fun gs => bkeep gs.below s0
                  have q0g : ∀ gs, (grow w6 gs).cell? ⟨sb, so + k, none⟩ = some (.slice (some ⟨tb, tof, none⟩) 1 tcc) := fun gs => bkeep gs.below q0
                  have d0g : ∀ gs, (grow w6 gs).cell? ⟨tb, tof, none⟩ = some (.bool nr) := fun gs => bkeep gs.below d0
                  have d1g : ∀ gs, (grow w6 gs).cell? ⟨tb, tof + 1, none⟩ = some (.slice ra rl rcc) := fun gs => bkeep gs.below d1
                  repeat (go_big_quiet_step ((first | (go_at_call 17; exact grow_of (oc _ (Grows.below _))) | fail)))
                  refine wpQuiet_nil ?_
                  intro w7 hb7
                  clear c0g
                  clear c1g
                  clear i0g
                  clear sb0g
                  clear rd0g
                  clear s0g
                  clear q0g
                  clear d0g
                  clear d1g
                  have c0 : w7.cell? ⟨B, 0, none⟩ = some (.bool nb) := bkeep hb7 (by first | assumption | exact cell_new (by with_reducible first | rfl | (simp; done) | (simp; omega)) rfl | (repeat (first | assumption | exact cell_new (by with_reducible first | rfl | (simp; done) | (simp; omega)) rfl | refine cell_alloc ?_ _ | refine cell_drew ?_ | refine cell_drewN ?_ _ | refine cell_far ?_ (by simp) _ | (refine cell_far ?_ (by simp <;> omega) _))) | simp [go_sem, *])
                  have zc0 := cell_lt c0
                  have c1 : w7.cell? ⟨B, 1, none⟩ = some (.slice ad bn bc) := bkeep hb7 (by first | assumption | exact cell_new (by with_reducible first | rfl | (simp; done) | (simp; omega)) rfl | (repeat (first | assumption | exact cell_new (by with_reducible first | rfl | (simp; done) | (simp; omega)) rfl | refine cell_alloc ?_ _ | refine cell_drew ?_ | refine cell_drewN ?_ _ | refine cell_far ?_ (by simp) _ | (refine cell_far ?_ (by simp <;> omega) _))) | simp [go_sem, *])
                  have i0 : w7.cell? ⟨ibB, 0, none⟩ = some (.int .i64 (k : Int)) := bkeep hb7 (by first | assumption | exact cell_new (by with_reducible first | rfl | (simp; done) | (simp; omega)) rfl | (repeat (first | assumption | exact cell_new (by with_reducible first | rfl | (simp; done) | (simp; omega)) rfl | refine cell_alloc ?_ _ | refine cell_drew ?_ | refine cell_drewN ?_ _ | refine cell_far ?_ (by simp) _ | (refine cell_far ?_ (by simp <;> omega) _))) | simp [go_sem, *])
                  have zi0 := cell_lt i0
                  have i0f : w7.frozen? ⟨ibB, 0, none⟩ = false := bkeepf (v := .int .i64 (k : Int)) hb7 (by first | assumption | exact cell_new (by with_reducible first | rfl | (simp; done) | (simp; omega)) rfl | (repeat (first | assumption | exact cell_new (by with_reducible first | rfl | (simp; done) | (simp; omega)) rfl | refine cell_alloc ?_ _ | refine cell_drew ?_ | refine cell_drewN ?_ _ | refine cell_far ?_ (by simp) _ | (refine cell_far ?_ (by simp <;> omega) _))) | simp [go_sem, *]) (by first | assumption | (simp <;> assumption) | simp [go_sem, *])
                  have sb0 : w7.cell? ⟨stb, 0, none⟩ = some (.slice (some ⟨sb, so, none⟩) M sc) := bkeep hb7 (by first | assumption | exact cell_new (by with_reducible first | rfl | (simp; done) | (simp; omega)) rfl | (repeat (first | assumption | exact cell_new (by with_reducible first | rfl | (simp; done) | (simp; omega)) rfl | refine cell_alloc ?_ _ | refine cell_drew ?_ | refine cell_drewN ?_ _ | refine cell_far ?_ (by simp) _ | (refine cell_far ?_ (by simp <;> omega) _))) | simp [go_sem, *])
                  have zsb0 := cell_lt sb0
                  have rd0 : w7.cell? ⟨rdbB, 0, none⟩ = some (.int .i64 1) := bkeep hb7 (by first | assumption | exact cell_new (by with_reducible first | rfl | (simp; done) | (simp; omega)) rfl | (repeat (first | assumption | exact cell_new (by with_reducible first | rfl | (simp; done) | (simp; omega)) rfl | refine cell_alloc ?_ _ | refine cell_drew ?_ | refine cell_drewN ?_ _ | refine cell_far ?_ (by simp) _ | (refine cell_far ?_ (by simp <;> omega) _))) | simp [go_sem, *])
                  have zrd0 := cell_lt rd0
                  have s0 : w7.cell? ⟨w.heap.size + 1, 0, none⟩ = some (.int .i64 st) := bkeep hb7 (by first | assumption | exact cell_new (by with_reducible first | rfl | (simp; done) | (simp; omega)) rfl | (repeat (first | assumption | exact cell_new (by with_reducible first | rfl | (simp; done) | (simp; omega)) rfl | refine cell_alloc ?_ _ | refine cell_drew ?_ | refine cell_drewN ?_ _ | refine cell_far ?_ (by simp) _ | (refine cell_far ?_ (by simp <;> omega) _))) | simp [go_sem, *])
                  have zs0 := cell_lt s0
                  have q0 : w7.cell? ⟨sb, so + k, none⟩ = some (.slice (some ⟨tb, tof, none⟩) 1 tcc) := bkeep hb7 (by first | assumption | exact cell_new (by with_reducible first | rfl | (simp; done) | (simp; omega)) rfl | (repeat (first | assumption | exact cell_new (by with_reducible first | rfl | (simp; done) | (simp; omega)) rfl | refine cell_alloc ?_ _ | refine cell_drew ?_ | refine cell_drewN ?_ _ | refine cell_far ?_ (by simp) _ | (refine cell_far ?_ (by simp <;> omega) _))) | simp [go_sem, *])
                  have zq0 := cell_lt q0
                  have d0 : w7.cell? ⟨tb, tof, none⟩ = some (.bool nr) := bkeep hb7 (by first | assumption | exact cell_new (by with_reducible first | rfl | (simp; done) | (simp; omega)) rfl | (repeat (first | assumption | exact cell_new (by with_reducible first | rfl | (simp; done) | (simp; omega)) rfl | refine cell_alloc ?_ _ | refine cell_drew ?_ | refine cell_drewN ?_ _ | refine cell_far ?_ (by simp) _ | (refine cell_far ?_ (by simp <;> omega) _))) | simp [go_sem, *])
                  have zd0 := cell_lt d0
                  have d1 : w7.cell? ⟨tb, tof + 1, none⟩ = some (.slice ra rl rcc) := bkeep hb7 (by first | assumption | exact cell_new (by with_reducible first | rfl | (simp; done) | (simp; omega)) rfl | (repeat (first | assumption | exact cell_new (by with_reducible first | rfl | (simp; done) | (simp; omega)) rfl | refine cell_alloc ?_ _ | refine cell_drew ?_ | refine cell_drewN ?_ _ | refine cell_far ?_ (by simp) _ | (refine cell_far ?_ (by simp <;> omega) _))) | simp [go_sem, *])
                  have hB : Below w.heap.size w w7 := bthen (by repeat (first | exact Below.refl _ _ | exact hB | refine Below.drew ?_ | refine below_drewN ?_ _ | refine bset ?_ (by simp <;> omega) _ | refine bal ?_ _)) hb7
                  have hz : w.heap.size ≤ w7.heap.size := hB.size
                  gi_wp2
                  have hstp := HI.out.step hb7
                  exact ⟨hstp.2, hstp.1⟩
                case doneB =>
                  intro D1 w13 hDs1 hi hK1
                  obtain ⟨i0, i0f, hout⟩ := hi
                  obtain ⟨hb913, sb1, rd1⟩ := HXB.out w13 hout
                  have HK03 := Lib.hid ((hout.block D0 hDl12 (by omega)).trans HK12.out)
                  have HK1 := Lib.hid hK1
                  have hD1l := (Array.getElem?_eq_some_iff.1 hK1).1
                  have hz13 := hout.size
                  have r1 := bkeep hb913 r0
                  have r1f := bkeepf hb913 r0 r0f
                  have hB13 := bthen hB9 hb913
                  have zi1 := cell_lt i0
                  have zsb1 := cell_lt sb1
                  have zrd1 := cell_lt rd1
                  have zr1 := cell_lt r1
                  have hDD : D1 ≠ D0 := by omega
                  have hD0g2 : w.heap.size + 1 + 1 < D0 := by have := HSZ.out; omega
                  have hD1g2 : w.heap.size + 1 + 1 < D1 := by have := HSZ.out; omega
                  have hwz := hB13.size
                  clear hout hK1
                  rcases HE.out with ⟨e1, e2, e3, e4⟩ | ⟨e1, e2, e3, L, e4, e5, e6, e7, e8, e9⟩
                  · subst e1 e2 e3 e4
                    go_wp2
                    rw [rounds_succ]
                    go_wp2
                    refine ⟨by simp, .inl ⟨_, _, rfl, run_takeDeferred (b := D1) (ds := []) ?_, by simp, .inl ⟨_, _, rfl, run_takeDeferred (b := D0) (ds := []) ?_, ?_⟩⟩⟩
                    · exact (Below.heap_alloc _ _ D1 (by simp; omega)).trans ((Below.heap_setCell _ _ _ D1 (by simp; omega)).trans HK1.out)
                    · exact (put_other _ (by omega)).trans ((Below.heap_alloc _ _ D0 (by simp; omega)).trans ((Below.heap_setCell _ _ _ D0 (by simp; omega)).trans HK03.out))
                    · have hfin := cell_put (D := D0) (cell_put (D := D1) (cell_alloc (cell_here r1 (.bool true)) (.cells #[.int .i64 2] 3)) (by simp; omega) (.deferred none)) (by simp; omega) (.deferred none)
                      refine ⟨.bool true, ?_, rfl, b_put (b_put (bal (bset hB13 (by show w.heap.size ≤ w.heap.size + 1 + 1; omega) _) _) (by omega) _) (by omega) _⟩
                      simp [results, Tryz.results3, go_sem, hfin]
                  · subst e1 e2 e3 e4 e5
                    have HL8 := Lib.hid e8
                    have HL9 := Lib.hid e9
                    have HL7 := Lib.hid e7
                    clear e7 e8 e9
                    go_wp2
                    rw [rounds_succ]
                    go_wp2
                    refine wp_name fun w14 hW14 => ?_
                    have hb14 : Below w13.heap.size w13 w14 := by rw [hW14]; exact bal (Below.refl _ _) _
                    have r2 := bkeep hb14 r1
                    have r2f := bkeepf hb14 r1 r1f
                    have zr2 := cell_lt r2
                    clear hW14 i0 i0f rd1 zi1 zrd1
                    go_loopw [23] (fun x wr => ∃ j : Nat, j ≤ L.length ∧ x = .int .i64 j ∧ Hid (Below w14.heap.size w14 wr)) (fun x _ => L.length - (intOf x).toNat)
                    case atStart => exact ⟨0, Nat.zero_le _, rfl, Lib.hid (Below.refl _ _)⟩
                    case round =>
                      obtain ⟨j, hj, rfl, hO⟩ := hrel
                      obtain ⟨w15, rfl⟩ : ∃ w15, w15 = wr := ⟨_, rfl⟩
                      have hb15 : Below w13.heap.size w13 w15 := bthen hb14 hO.out
                      by_cases hlt : j < L.length
                      · have hltI : (j : Int) < (L.length : Int) := by omega
                        have hb415 : Below w4.heap.size w4 w15 := (hb49.trans (hb913.mono hb49.size)).trans (hb15.mono (by have := hb49.size; have := hb913.size; omega))
                        have hb915 : Below w9.heap.size w9 w15 := bthen hb913 hb15
                        obtain ⟨a', c', heq, -, vr⟩ := (HL8.out.keep lims_int hb415).view
                        obtain ⟨rfl, -, rfl⟩ := Value.slice.inj heq
                        obtain ⟨xb0, xo0, xn, xa, xl, xc, rfl, c0, c1, hxi⟩ := vr j hlt
                        obtain ⟨b, o, rb, ro, tc, nb, na, nl, nc, rfl, q0, d0, d1, hri⟩ := HL9.out j hlt
                        replace q0 := bkeep hb915 q0
                        replace d0 := bkeep hb915 d0
                        replace d1 := bkeep hb915 d1
                        replace hri := hri.keep hb915
                        have htb := HL7.out j
                        obtain ⟨t, htE⟩ : ∃ t, L.getD j 0 = t := ⟨_, rfl⟩
                        rw [htE] at hri hxi htb
                        have oc := fun W (h : Below w15.heap.size w15 W) => one_c _ _ t t 8192 W (hxi.keep h) (hri.keep h) htb (by omega)
                        rw [show decide (t = t) = true by simp] at oc
                        have zc0 := cell_lt c0
                        have zq0 := cell_lt q0
                        have zd0 := cell_lt d0
                        clear hri hxi htb htE vr heq
                        have hB := bthen hB13 hb15
                        go_wp2
                        refine wp_region_grow (w := w15) (by kernel_rfl) (by kernel_rfl) ?_
                        have c0g : ∀ gs, (grow w15 gs).cell? ⟨xb0, xo0 + j * 2, none⟩ = some (.bool xn) := fun gs => bkeep gs.below c0
                        have c1g : ∀ gs, (grow w15 gs).cell? ⟨xb0, xo0 + j * 2 + 1, none⟩ = some (.slice xa xl xc) := fun gs => bkeep gs.below c1
                        have q0g : ∀ gs, (grow w15 gs).cell? ⟨b, o + j, none⟩ = some (.slice (some ⟨rb, ro, none⟩) 1 tc) := fun gs => bkeep gs.below q0
                        have d0g : ∀ gs, (grow w15 gs).cell? ⟨rb, ro, none⟩ = some (.bool nb) := fun gs => bkeep gs.below d0
                        have d1g : ∀ gs, (grow w15 gs).cell? ⟨rb, ro + 1, none⟩ = some (.slice na nl nc) := fun gs => bkeep gs.below d1
                        repeat (go_big_quiet_step ((first | (go_at_call 17; exact grow_of (oc _ (Grows.below _))) | fail)))
                        refine wpQuiet_nil ?_
                        intro w17 hb17
                        clear c0g
                        clear c1g
                        clear q0g
                        clear d0g
                        clear d1g
                        have c0 : w17.cell? ⟨xb0, xo0 + j * 2, none⟩ = some (.bool xn) := bkeep hb17 (by first | assumption | exact cell_new (by with_reducible first | rfl | (simp; done) | (simp; omega)) rfl | (repeat (first | assumption | exact cell_new (by with_reducible first | rfl | (simp; done) | (simp; omega)) rfl | refine cell_alloc ?_ _ | refine cell_drew ?_ | refine cell_drewN ?_ _ | refine cell_far ?_ (by simp) _ | (refine cell_far ?_ (by simp <;> omega) _))) | simp [go_sem, *])
                        have zc0 := cell_lt c0
                        have c1 : w17.cell? ⟨xb0, xo0 + j * 2 + 1, none⟩ = some (.slice xa xl xc) := bkeep hb17 (by first | assumption | exact cell_new (by with_reducible first | rfl | (simp; done) | (simp; omega)) rfl | (repeat (first | assumption | exact cell_new (by with_reducible first | rfl | (simp; done) | (simp; omega)) rfl | refine cell_alloc ?_ _ | refine cell_drew ?_ | refine cell_drewN ?_ _ | refine cell_far ?_ (by simp) _ | (refine cell_far ?_ (by simp <;> omega) _))) | simp [go_sem, *])
                        have q0 : w17.cell? ⟨b, o + j, none⟩ = some (.slice (some ⟨rb, ro, none⟩) 1 tc) := bkeep hb17 (by first | assumption | exact cell_new (by with_reducible first | rfl | (simp; done) | (simp; omega)) rfl | (repeat (first | assumption | exact cell_new (by with_reducible first | rfl | (simp; done) | (simp; omega)) rfl | refine cell_alloc ?_ _ | refine cell_drew ?_ | refine cell_drewN ?_ _ | refine cell_far ?_ (by simp) _ | (refine cell_far ?_ (by simp <;> omega) _))) | simp [go_sem, *])
                        have zq0 := cell_lt q0
                        have d0 : w17.cell? ⟨rb, ro, none⟩ = some (.bool nb) := bkeep hb17 (by first | assumption | exact cell_new (by with_reducible first | rfl | (simp; done) | (simp; omega)) rfl | (repeat (first | assumption | exact cell_new (by with_reducible first | rfl | (simp; done) | (simp; omega)) rfl | refine cell_alloc ?_ _ | refine cell_drew ?_ | refine cell_drewN ?_ _ | refine cell_far ?_ (by simp) _ | (refine cell_far ?_ (by simp <;> omega) _))) | simp [go_sem, *])
                        have zd0 := cell_lt d0
                        have d1 : w17.cell? ⟨rb, ro + 1, none⟩ = some (.slice na nl nc) := bkeep hb17 (by first | assumption | exact cell_new (by with_reducible first | rfl | (simp; done) | (simp; omega)) rfl | (repeat (first | assumption | exact cell_new (by with_reducible first | rfl | (simp; done) | (simp; omega)) rfl | refine cell_alloc ?_ _ | refine cell_drew ?_ | refine cell_drewN ?_ _ | refine cell_far ?_ (by simp) _ | (refine cell_far ?_ (by simp <;> omega) _))) | simp [go_sem, *])
                        have hB : Below w.heap.size w w17 := bthen (by repeat (first | exact Below.refl _ _ | exact hB | refine Below.drew ?_ | refine below_drewN ?_ _ | refine bset ?_ (by simp <;> omega) _ | refine bal ?_ _)) hb17
                        have hz : w.heap.size ≤ w17.heap.size := hB.size
                        go_wp2
                        exact ⟨⟨j + 1, by omega, by go_num, Lib.hid (bthen hO.out hb17)⟩, by simp [intOf]; omega⟩
                      · obtain rfl : j = L.length := by omega
                        have r3 := bkeep hb15 r1
                        have zr3 := cell_lt r3
                        have hB15 := bthen hB13 hb15
                        have ic := fun W (h : Below w15.heap.size w15 W) => is_c (.slice a3 l.length c3) (.slice a4 l.length c4) l 64 W (HA.out.keep lims_int ((hb39.trans (hb913.mono hb39.size)).trans ((bthen hb15 h).mono (by have := hb39.size; have := hb913.size; omega)))) (HQ.out.keep lims_ref ((hb39.trans (hb913.mono hb39.size)).trans ((bthen hb15 h).mono (by have := hb39.size; have := hb913.size; omega)))) HBD.out (by omega) (by omega)
                        have hw15 := Below.refl w15.heap.size w15
                        go_wp2_with fail
                        refine (ic _ (by repeat (first | exact Below.refl _ _ | exact hw15 | refine Below.drew ?_ | refine below_drewN ?_ _ | refine bset ?_ (by simp <;> omega) _ | refine bal ?_ _))).mono ?_
                        rintro e w16 ⟨rfl, hb16⟩
                        have HBF := Lib.hid (bthen hb15 (bthen (by repeat (first | exact Below.refl _ _ | exact hw15 | refine Below.drew ?_ | refine below_drewN ?_ _ | refine bset ?_ (by simp <;> omega) _ | refine bal ?_ _)) hb16))
                        have zb16 := HBF.out.size
                        have r4 := bkeep HBF.out r1
                        have r4f := bkeepf HBF.out r1 r1f
                        clear ic
                        go_wp2
                        refine ⟨by simp, .inl ⟨_, _, rfl, run_takeDeferred (b := D1) (ds := []) ?_, by simp, .inl ⟨_, _, rfl, run_takeDeferred (b := D0) (ds := []) ?_, ?_⟩⟩⟩
                        · exact (Below.heap_setCell _ _ _ D1 (by simp; omega)).trans ((HBF.out.block D1 (by omega)).trans HK1.out)
                        · exact (put_other _ (by omega)).trans ((Below.heap_setCell _ _ _ D0 (by simp; omega)).trans ((HBF.out.block D0 (by omega)).trans HK03.out))
                        · have hfin := cell_put (D := D0) (cell_put (D := D1) (cell_here (bkeep HBF.out r1) (.bool true)) (by simp; omega) (.deferred none)) (by simp; omega) (.deferred none)
                          refine ⟨.bool true, ?_, rfl, b_put (b_put (bset (bthen hB13 HBF.out) (by show w.heap.size ≤ w.heap.size + 1 + 1; omega) _) (by omega) _) (by omega) _⟩
                          simp [results, Tryz.results3, go_sem, hfin]
                case stopB =>
                  intro D1 c k w13 _ _ hi _
                  exact hi.elim
            -- END ROUNDS
      · have hleI : ((l.length : Int) != ins) = true := by simp; exact hle
        have HNO := Lib.hid (show ¬ ProgOk ins regs code outs ∨ (l.length : Int) ≠ ins from .inr hle)
        have HNX := Lib.hid (show n5 = 0 ∧ q5 = 0 ∧ x5 = 5 by
          rcases HR.out with ⟨h, _⟩ | ⟨_, _, h⟩ | ⟨_, h, _⟩ | ⟨_, h, _⟩
          · exact absurd HOK.out h
          · exact h
          · exact absurd h hle
          · exact absurd h hle)
        clear hle
        go_wp2
        obtain ⟨hnx, hqx, hxx⟩ := HNX.out
        refine wp_rangeV (gf := 60) (lb := #[.pointer (some ⟨pb, 0, none⟩), .pointer (some ⟨xb, 0, none⟩)]) (by simp [Act.eval]) (enters_of Tryz.func60 (by kernel_rfl) rfl)
          (trace_no (n0 := w7.heap.size) (X0 := fun _ => False) HNO.out) (fun X o h => (Below.refl _ _).alloc h o) (fun X l o o' h1 h2 h3 h4 => belowK_b (Nat.le_refl _) X l o o' h1 h2 h3 h4)
          (fun W h => (HTI.out _ (fun q hq => hq.elim) (fun q hq => hq.elim) (fun _ _ _ _ hq => hq.elim)).keep h) (fun _ _ _ h => h.elim)
          (fun _ W => Below w7.heap.size w7 W) (fun _ _ _ => False) (fun _ X Y h c => h.trans c) (fun _ _ _ _ h _ => h.elim) (Below.refl _ _)
          (fun _ _ _ _ _ => True) (fun _ _ _ _ _ _ _ _ _ _ _ => trivial) (fun _ _ _ _ _ h _ => h.elim) (fun _ _ _ _ _ h => absurd h (by omega)) (fun _ _ _ _ _ h => absurd h (by omega)) ?_ (fun _ _ _ _ _ _ h => h.elim)
        intro D Y hD hI hK
        replace r0f := bkeepf hI r0 r0f
        replace r0 := bkeep hI r0
        replace p0 := bkeep hI p0
        have hBY := bthen hB hI
        have hDl := (Array.getElem?_eq_some_iff.1 hK).1
        have zr0 := cell_lt r0
        have zbs := hB.size
        subst hnx hqx hxx
        go_wp2
        refine ⟨by simp, .inl ⟨_, _, rfl, run_takeDeferred (b := D) (ds := []) ?_, ?_⟩⟩
        · exact (Below.heap_setCell _ _ _ D (by simp; omega)).trans hK
        · have hfin := cell_put (D := D) (cell_here r0 (.bool true)) (by simp; omega) (.deferred none)
          refine ⟨.bool true, ?_, rfl, b_put (bset hBY (by show w.heap.size ≤ w.heap.size + 1 + 1; omega) _) (by omega) _⟩
          simp [results, Tryz.results3, go_sem, hfin]
end Go.Proofs.YtannhpadoooedaaGreatDoor

