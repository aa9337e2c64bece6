/- Texts of this seat, laid together: ExP, ExD. Each opens with its own remark, which says what it proves, and under which conditions. -/
import Derived.Test.YtannhpadoooedaaGreatDoorG36
import Derived.Test.YtannhpadoooedaaGreatDoorG12
import Derived.Test.YtannhpadoooedaaGreatDoorG33
import Derived.Test.YtannhpadoooedaaGreatDoorG09
import Derived.Laws.CopyRow
import Derived.Laws.Rows
import Derived.Laws.Tables
set_option linter.unusedVariables false
set_option linter.unusedSimpArgs false
/- exact, in plain Lean: what a program makes of numbers; columns of a grid. -/
namespace Go.Proofs.YtannhpadoooedaaGreatDoor
open Num
set_option linter.unusedVariables false
set_option linter.unusedSimpArgs false
/-- the registers behind n instructions, each of which holds a number; none: one of them has failed -/
def afterN (code : List Ins) (r : List Int) : Nat → Option (List Int)
  | 0 => some r
  | n + 1 => (afterN code r n).bind fun s => (opI (code.getD n default) (s.getD (code.getD n default).a.toNat 0) (s.getD (code.getD n default).b.toNat 0)).map fun x => s.set (code.getD n default).to.toNat x
theorem afterN_succ {code : List Ins} {r s : List Int} {n : Nat} (e : afterN code r n = some s) : afterN code r (n + 1) = (opI (code.getD n default) (s.getD (code.getD n default).a.toNat 0) (s.getD (code.getD n default).b.toNat 0)).map fun x => s.set (code.getD n default).to.toNat x := by
  rw [afterN, e]; rfl
theorem afterN_len {code : List Ins} {r : List Int} : ∀ {n : Nat} {s : List Int}, afterN code r n = some s → s.length = r.length := by
  intro n
  induction n with
  | zero => intro s e; cases e; rfl
  | succ n ih =>
    intro s e
    unfold afterN at e
    cases e1 : afterN code r n with
    | none => rw [e1] at e; cases e
    | some s1 =>
      rw [e1, Option.bind_some] at e
      obtain ⟨x, _, rfl⟩ := Option.map_eq_some_iff.1 e
      rw [List.length_set]; exact ih e1
theorem afterN_mono {code : List Ins} {r : List Int} {n m : Nat} (h : afterN code r n = none) (hm : n ≤ m) : afterN code r m = none := by
  induction m with
  | zero => obtain rfl : n = 0 := by omega
            exact h
  | succ m ih =>
    by_cases e : n = m + 1
    · subst e; exact h
    · unfold afterN; rw [ih (by omega)]; rfl
theorem afterN_uniq {code : List Ins} {r : List Int} {n m : Nat} (h1 : ∃ h, afterN code r n = some h) (h2 : afterN code r (n + 1) = none) (k1 : ∃ h, afterN code r m = some h) (k2 : afterN code r (m + 1) = none) : n = m := by
  obtain ⟨h, h1⟩ := h1
  obtain ⟨k, k1⟩ := k1
  rcases Nat.lt_trichotomy n m with e | e | e
  · rw [afterN_mono h2 (show n + 1 ≤ m by omega)] at k1; cases k1
  · exact e
  · rw [afterN_mono k2 (show m + 1 ≤ n by omega)] at h1; cases h1
theorem set_bd {s : List Int} {k t : Nat} {x : Int} (hs : ∀ j, Bd k (s.getD j 0)) (hx : Bd k x) : ∀ j, Bd k ((s.set t x).getD j 0) := by
  intro j
  by_cases e : t = j
  · subst e
    by_cases hl : t < s.length
    · have : (s.set t x).getD t 0 = x := by simp [hl]
      rw [this]; exact hx
    · rw [List.set_eq_of_length_le (by omega)]; exact hs t
  · have : (s.set t x).getD j 0 = s.getD j 0 := by simp [List.getElem?_set_ne e]
    rw [this]; exact hs j
theorem afterN_bd {code : List Ins} {r : List Int} {k : Nat} (hr : ∀ j, Bd k (r.getD j 0)) (hc : Cs code) : ∀ {n : Nat} {s : List Int}, n ≤ code.length → afterN code r n = some s → ∀ j, Bd (k + 65 * n) (s.getD j 0) := by
  intro n
  induction n with
  | zero => intro s _ e; cases e; exact hr
  | succ n ih =>
    intro s hn e
    unfold afterN at e
    cases e1 : afterN code r n with
    | none => rw [e1] at e; cases e
    | some s1 =>
      rw [e1, Option.bind_some] at e
      obtain ⟨x, hx, rfl⟩ := Option.map_eq_some_iff.1 e
      have h2 := ih (by omega) e1
      have h3 := opI_bd hx (h2 _) (h2 _) (hc n (by omega)).1 (hc n (by omega)).2
      exact set_bd (fun j => (h2 j).mono (by omega)) (h3.mono (by omega))
/-- a column of a grid -/
def colG (g : Grid) (k : Nat) : List Int := g.map fun r => r.getD k 0
theorem colG_len (g : Grid) (k : Nat) : (colG g k).length = g.length := by simp [colG]
theorem colG_get (g : Grid) (k j : Nat) : (colG g k).getD j 0 = (g.getD j []).getD k 0 := by
  unfold colG
  by_cases h : j < g.length
  · simp [List.getD_eq_getElem?_getD, h]
  · simp [List.getD_eq_getElem?_getD, List.getElem?_eq_none (Nat.le_of_not_lt h)]
theorem colG_set (g : Grid) (k t : Nat) (r : List Int) : colG (g.set t r) k = (colG g k).set t (r.getD k 0) := by
  unfold colG
  rw [List.map_set]
/-- a step on rows, at a place -/
theorem col_step {code : List Ins} {h : Grid} {m n k : Nat} {r : List Int} (hR : (h.getD (code.getD n default).a.toNat []).length = m) (hk : k < m) (e : stepR (code.getD n default) (h.getD (code.getD n default).a.toNat []) (h.getD (code.getD n default).b.toNat []) = some r) :
    opI (code.getD n default) ((colG h k).getD (code.getD n default).a.toNat 0) ((colG h k).getD (code.getD n default).b.toNat 0) = some (r.getD k 0) := by
  rw [colG_get, colG_get]
  exact stepR_get e k (by omega)
/-- a run on rows is a run at each place -/
theorem col_after {code : List Ins} {g : Grid} {m k regs : Nat} (hg : Rect m g) (hlen : g.length = regs) (ha : ∀ n, n < code.length → (code.getD n default).a.toNat < regs) (hk : k < m) : ∀ {n : Nat} {h : Grid}, n ≤ code.length → after code g n = some h → afterN code (colG g k) n = some (colG h k) := by
  intro n
  induction n with
  | zero => intro h _ e; cases e; rfl
  | succ n ih =>
    intro h hn e
    unfold after at e
    cases e1 : after code g n with
    | none => rw [e1] at e; cases e
    | some h1 =>
      rw [e1, Option.bind_some] at e
      obtain ⟨r, hr, rfl⟩ := Option.map_eq_some_iff.1 e
      have hR := after_rect hg hlen ha (by omega) e1
      have h2 := hR (code.getD n default).a.toNat (by rw [after_len e1, hlen]; exact ha n (by omega))
      rw [afterN_succ (ih (by omega) e1), col_step h2 hk hr, Option.map_some, colG_set]
/-- where a run on rows fails, one at a place fails -/
theorem col_fail {code : List Ins} {g h : Grid} {m n regs : Nat} (hg : Rect m g) (hlen : g.length = regs) (ha : ∀ n, n < code.length → (code.getD n default).a.toNat < regs) (hn : n < code.length) (e : after code g n = some h) (e2 : after code g (n + 1) = none) : ∃ k, k < m ∧ afterN code (colG g k) (n + 1) = none := by
  have hs : stepR (code.getD n default) (h.getD (code.getD n default).a.toNat []) (h.getD (code.getD n default).b.toNat []) = none := by
    unfold after at e2
    rw [e, Option.bind_some] at e2
    exact Option.map_eq_none_iff.1 e2
  obtain ⟨k, hk, ho⟩ := stepR_none hs
  have hR := after_rect hg hlen ha (by omega) e
  have h2 := hR (code.getD n default).a.toNat (by rw [after_len e, hlen]; exact ha n (by omega))
  refine ⟨k, by omega, ?_⟩
  rw [afterN_succ (col_after hg hlen ha (by omega) (by omega) e), colG_get, colG_get, ho]; rfl
end Go.Proofs.YtannhpadoooedaaGreatDoor
/- exact: a new row of noughts, into which a row of numbers is copied. -/
namespace Go.Proofs.YtannhpadoooedaaGreatDoor
open Num
open Go.ChangeShapes Go.WideShapes Go.ChangeAt Go.RowKit
set_option linter.unusedVariables false
set_option linter.unusedSimpArgs false
/-- the registers at first -/
def startN (l : List Int) (R : Nat) : List Int := l ++ List.replicate (R - l.length) 0
theorem startN_len {l : List Int} {R : Nat} (h : l.length ≤ R) : (startN l R).length = R := by simp [startN]; omega
theorem startN_lt {l : List Int} {R j : Nat} (h : j < l.length) : (startN l R).getD j 0 = l.getD j 0 := by
  unfold startN; simp [List.getD_eq_getElem?_getD, List.getElem?_append_left h]
theorem startN_ge {l : List Int} {R j : Nat} (h : l.length ≤ j) : (startN l R).getD j 0 = 0 := by
  unfold startN
  rw [List.getD_eq_getElem?_getD, List.getElem?_append_right h]
  by_cases e : j - l.length < R - l.length
  · simp [e]
  · simp [List.getElem?_replicate, e]
/-- what the outs hold -/
def outsN (outs : List Int) (s : List Int) : List Int := outs.map fun k => s.getD k.toNat 0
section
variable {ops : Array Oper} {o : Oper} {a : Act} {Q : Exit → Act → World → Prop} {w : World} {d x : Operand}
set_option maxRecDepth 100000 in
/-- copy of a row into a new one -/
theorem copy_ints {rest : List Oper} (hgd : o.guard = none) (ho : o.op = .call { callee := .builtin .copy, args := #[d, x], argTypes := #[29, 29] }) {g R c base : Nat} {ad : Option Addr} {l : List Int}
    (hd : a.eval d = .slice (some ⟨g, 0, none⟩) R R) (hs : a.eval x = .slice ad l.length c) (hv : PRow base w (.slice ad l.length c) l) (hl : l.length ≤ R) (hg : w.heap[g]? = some (Obj.cells (zcel R) 48 (0, 0)))
    (h : ∀ n w', IntsF IsInt w' g 0 R (fun j => (startN l R).getD j 0) → Free w' g → typOf w' g = some 48 → Out (fun k => k = g) w w' → wpList Tryz.prog ops Q rest (a.put o.dst n) w') : wpList Tryz.prog ops Q (o :: rest) a w := by
  obtain ⟨i0, z0, hi, hz0, hz1, hz2, hz3⟩ := elInt.info
  obtain ⟨a', c', he, h2, h3, h4⟩ := hv
  obtain ⟨rfl, -, rfl⟩ := Value.slice.inj he
  have hty : typOf w g = some 48 := by unfold typOf; rw [hg]
  have hzs : (zcel R).size = R * 2 := by simp [zcel, size_madeCells]
  have hm : Nat.min l.length R = l.length := Nat.min_eq_left hl
  have key : ∃ n w', (Builtin.copy_ #[29, 29] o.type #[.slice (some ⟨g, 0, none⟩) R R, .slice ad l.length c]).run Tryz.prog w = .ok n w' ∧ IntsF IsInt w' g 0 R (fun j => (startN l R).getD j 0) ∧ Free w' g ∧ typOf w' g = some 48 ∧ Out (fun k => k = g) w w' := by
    rcases h4 with rfl | ⟨b, off, rfl, hb, ht, hi'⟩
    · refine ⟨goInt 0, w, ?_, ?_, ?_, hty, Out.refl _ _⟩
      · cases ad with
        | none => simp [Builtin.copy_, run_underlying Tryz.underlying29, Builtin.lenOf, Builtin.firstCells, sizeOf, typeInfo, hi, storeCells]
        | some q => simp [Builtin.copy_, run_underlying Tryz.underlying29, Builtin.lenOf, Builtin.firstCells, sizeOf, typeInfo, hi, storeCells, loadCells, loadCellsFrom]
      · intro k hk
        obtain ⟨e1, e2⟩ := zcel_at hk
        refine ⟨false, none, 0, 0, by simp [World.cell?, hg, e1], by simp [World.cell?, hg, e2], ?_⟩
        show IsInt w _ ((startN [] R).getD k 0)
        rw [startN_ge (by simp)]; exact isInt_zero _
      · exact ⟨(Array.getElem?_eq_some_iff.1 hg).1, fun j => by simp [World.frozen?, hg]⟩
    · have hl2 : (cellsAt w b off (l.length * 2)).length = l.length * i0.size := by rw [cellsAt_len, hz1]
      have hsrc : ∀ j u, (cellsAt w b off (l.length * 2))[j]? = some u → w.cell? ((⟨b, off, none⟩ : Addr).add j) = some u := cellsAt_at (Below.refl _ _) fun j hj => by obtain ⟨v, hv, _⟩ := intsF_cells hi' j hj; exact ⟨v, hv⟩
      have hf := run_firstCells_some (P := Tryz.prog) w i0.size l.length ⟨b, off, none⟩ l.length c _ hl2 hsrc
      have hst := run_storeCells_at Tryz.prog g 0 _ (cellsAt w b off (l.length * 2)) 0 (zcel R) w hg (by rw [cellsAt_len, hzs]; omega) (cellsAt_all (intsF_cells hi'))
      refine ⟨goInt l.length, w.setRow g ((zcel R).toList.take (0 + 0) ++ cellsAt w b off (l.length * 2) ++ (zcel R).toList.drop (0 + 0 + (cellsAt w b off (l.length * 2)).length)).toArray, by simp [Builtin.copy_, run_underlying Tryz.underlying29, Builtin.lenOf, sizeOf, typeInfo, hi, hm, hf, hst], ?_⟩
      have hh := setRow_heap w g (zcel R) ((zcel R).toList.take (0 + 0) ++ cellsAt w b off (l.length * 2) ++ (zcel R).toList.drop (0 + 0 + (cellsAt w b off (l.length * 2)).length)).toArray _ _ hg
      have hO : Out (fun k => k = g) w (w.setRow g ((zcel R).toList.take (0 + 0) ++ cellsAt w b off (l.length * 2) ++ (zcel R).toList.drop (0 + 0 + (cellsAt w b off (l.length * 2)).length)).toArray) := ⟨rfl, rfl, rfl, by simp [World.setRow], fun k hk hx => setRow_other w g k _ hx⟩
      have hLim : Lim w (w.setRow g ((zcel R).toList.take (0 + 0) ++ cellsAt w b off (l.length * 2) ++ (zcel R).toList.drop (0 + 0 + (cellsAt w b off (l.length * 2)).length)).toArray) := (Kp.out (S := (· ≠ 48)) hO (fun q t hq ht k => by subst hq; rw [hty] at ht; exact k (Option.some.inj ht).symm)).lim (by decide)
      refine ⟨fun k hk => ?_, ⟨(Array.getElem?_eq_some_iff.1 hh).1, fun j => by unfold World.frozen?; rw [show (World.setRow w g _).heap[(⟨g, j, none⟩ : Addr).block]? = _ from hh]; simp⟩, by unfold typOf; rw [hh], hO⟩
      have cel : ∀ j, (w.setRow g ((zcel R).toList.take (0 + 0) ++ cellsAt w b off (l.length * 2) ++ (zcel R).toList.drop (0 + 0 + (cellsAt w b off (l.length * 2)).length)).toArray).cell? ⟨g, j, none⟩ = (cellsAt w b off (l.length * 2) ++ (zcel R).toList.drop (l.length * 2))[j]? := fun j => by
        rw [cell_of_row _ g j _ _ _ hh]; simp [cellsAt_len]
      by_cases e : k < l.length
      · obtain ⟨nb, q, len, cq, k1, k2, k3⟩ := hi' k e
        refine ⟨nb, q, len, cq, ?_, ?_, ?_⟩
        · rw [cel, Nat.zero_add, List.getElem?_append_left (by rw [cellsAt_len]; omega)]; exact cellsAt_get (by omega) k1
        · rw [cel, Nat.zero_add, List.getElem?_append_left (by rw [cellsAt_len]; omega)]; exact cellsAt_get (by omega) k2
        · show IsInt _ _ ((startN l R).getD k 0)
          rw [startN_lt e]; exact lims_int _ _ _ _ k3 hLim
      · obtain ⟨e1, e2⟩ := zcel_at hk
        refine ⟨false, none, 0, 0, ?_, ?_, ?_⟩
        · rw [cel, Nat.zero_add, List.getElem?_append_right (by rw [cellsAt_len]; omega), cellsAt_len, List.getElem?_drop, show l.length * 2 + (k * 2 - l.length * 2) = k * 2 by omega, Array.getElem?_toList]; exact e1
        · rw [cel, Nat.zero_add, List.getElem?_append_right (by rw [cellsAt_len]; omega), cellsAt_len, List.getElem?_drop, show l.length * 2 + (k * 2 + 1 - l.length * 2) = k * 2 + 1 by omega, Array.getElem?_toList]; exact e2
        · show IsInt _ _ ((startN l R).getD k 0)
          rw [startN_ge (by omega)]; exact isInt_zero _
  obtain ⟨n, w', hr, h1, h2, h3, h4⟩ := key
  refine wpList_plain hgd fun K hK => ?_
  unfold Oper.wp
  simp [execOp, ho, resolve, invoke, builtin, hd, hs, hr, Result.andThen]
  exact hK _ _ (h n w' h1 h2 h3 h4)
end
end Go.Proofs.YtannhpadoooedaaGreatDoor
