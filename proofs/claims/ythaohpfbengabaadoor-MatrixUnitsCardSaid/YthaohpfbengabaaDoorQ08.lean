/- Texts of this seat, laid together: Rnh, VwE, VwB, EwA, EwB, RefN, RefS, RefO, RefQ, RtA, RtB, RtC. Each opens with its own remark, which says what it proves, and under which conditions. -/
import Derived.Test.YthaohpfbengabaaDoorQ07
import Derived.Test.YthaohpfbengabaaDoorQ02
import Derived.Test.YthaohpfbengabaaDoorQ06
import Derived.Deep.DeepFit
import Derived.Deep.RegionLaw
import Derived.Deep.DrawnRows
import Derived.Test.YthaohpfbengabaaDoorQ05
import Derived.Deep.DeepCutAuto
set_option linter.unusedVariables false
set_option linter.unusedSimpArgs false
/- Ranges over functions whose bodies write blocks of their own: which blocks these are may change from round to round; what the iterator holds never lies in them. -/
namespace Go.Proofs.YthaohpfbengabaaDoor
open Go.ChangeShapes Go.WideShapes Go.ChangeAt Go.RowKit
set_option linter.unusedVariables false
set_option linter.unusedSimpArgs false
/-- blocks below n0, those of S and those of limbs lie as they lay -/
structure Clo (n0 : Nat) (S : Nat → Prop) (a b : World) : Prop where
  os : b.os = a.os
  tape : b.tape = a.tape
  output : b.output = a.output
  size : a.heap.size ≤ b.heap.size
  block : ∀ q, q < a.heap.size → (q < n0 ∨ S q ∨ typOf a q = some 89) → b.heap[q]? = a.heap[q]?
section
variable {n0 : Nat} {S : Nat → Prop} {a b c : World}
theorem Clo.refl (n0 : Nat) (S : Nat → Prop) (a : World) : Clo n0 S a a := ⟨rfl, rfl, rfl, Nat.le_refl _, fun _ _ _ => rfl⟩
theorem Clo.trans (h : Clo n0 S a b) (k : Clo n0 S b c) : Clo n0 S a c :=
  ⟨k.os.trans h.os, k.tape.trans h.tape, k.output.trans h.output, Nat.le_trans h.size k.size, fun q hq hs =>
    (k.block q (Nat.lt_of_lt_of_le hq h.size) (hs.imp id (Or.imp id fun ht => by unfold typOf; rw [h.block q hq hs]; exact ht))).trans (h.block q hq hs)⟩
theorem Clo.of_below (h : Below a.heap.size a b) : Clo n0 S a b := ⟨h.os, h.tape, h.output, h.size, fun q hq _ => h.block q hq⟩
theorem Clo.below (h : Clo n0 S a b) (k : Below b.heap.size b c) : Clo n0 S a c := h.trans (.of_below k)
theorem Clo.low (h : Clo n0 S a b) (hn : n0 ≤ a.heap.size) : Below n0 a b := ⟨h.os, h.tape, h.output, h.size, fun q hq => h.block q (by omega) (.inl hq)⟩
theorem Clo.lim (h : Clo n0 S a b) : Lim a b := fun q ht => by
  have hq : q < a.heap.size := by
    unfold typOf at ht
    rcases Nat.lt_or_ge q a.heap.size with h1 | h1
    · exact h1
    · rw [Array.getElem?_eq_none h1] at ht; cases ht
  have e := h.block q hq (.inr (.inr ht))
  exact ⟨by unfold typOf; rw [e]; exact ht, fun o n hc => by rw [World.cell?_of_block (w := a) e]; exact hc⟩
theorem Clo.cell (h : Clo n0 S a b) {p : Addr} {v : Value} (hp : p.block < n0 ∨ S p.block) (hc : a.cell? p = some v) : b.cell? p = some v := by
  have hq : p.block < a.heap.size := by
    unfold World.cell? at hc
    rcases Nat.lt_or_ge p.block a.heap.size with h1 | h1
    · exact h1
    · rw [Array.getElem?_eq_none h1] at hc; cases hc
  rw [World.cell?_of_block (w := a) (h.block p.block hq (hp.imp id .inl))]; exact hc
theorem Clo.frz (h : Clo n0 S a b) {p : Addr} {v : Value} (hp : p.block < n0 ∨ S p.block) (hc : a.cell? p = some v) (hf : a.frozen? p = false) : b.frozen? p = false := by
  have hq : p.block < a.heap.size := by
    unfold World.cell? at hc
    rcases Nat.lt_or_ge p.block a.heap.size with h1 | h1
    · exact h1
    · rw [Array.getElem?_eq_none h1] at hc; cases hc
  rw [World.frozen?_of_block (w := a) (h.block p.block hq (hp.imp id .inl))]; exact hf
theorem Clo.typ (h : Clo n0 S a b) {q : Nat} {t : TypeId} (hp : q < n0 ∨ S q) (ht : typOf a q = some t) : typOf b q = some t := by
  have hq : q < a.heap.size := by
    unfold typOf at ht
    rcases Nat.lt_or_ge q a.heap.size with h1 | h1
    · exact h1
    · rw [Array.getElem?_eq_none h1] at ht; cases ht
  unfold typOf; rw [h.block q hq (hp.imp id .inl)]; exact ht
end
/-- what the body's blocks are: cells, and no limbs -/
def Soil (S : Nat → Prop) (X : World) : Prop := ∀ q, S q → ∃ t, typOf X q = some t ∧ t ≠ 89
/-- the body's blocks behind a round: those that it had, and new ones -/
def Grew (S S' : Nat → Prop) (X : World) : Prop := ∀ q, S' q → S q ∨ X.heap.size ≤ q
theorem Grew.same (S : Nat → Prop) (X : World) : Grew S S X := fun _ h => .inl h
end Go.Proofs.YthaohpfbengabaaDoor

/- vm's laws: long; the document's example. -/
namespace Go.Proofs.YthaohpfbengabaaDoor
open Num
open Go.ChangeShapes Go.WideShapes Go.ChangeAt Go.RowKit
set_option linter.unusedVariables false
set_option linter.unusedSimpArgs false
end Go.Proofs.YthaohpfbengabaaDoor

/- vm's laws: the numbers that come in, as the reference's blocks. -/
namespace Go.Proofs.YthaohpfbengabaaDoor
open Num
open Go.ChangeShapes Go.WideShapes Go.ChangeAt Go.RowKit
set_option linter.unusedVariables false
set_option linter.unusedSimpArgs false
end Go.Proofs.YthaohpfbengabaaDoor

/- exact's laws: long; numbers that come in as rows of both. -/
namespace Go.Proofs.YthaohpfbengabaaDoor
open Num
open Go.ChangeShapes Go.WideShapes Go.ChangeAt Go.RowKit
set_option linter.unusedVariables false
set_option linter.unusedSimpArgs false
end Go.Proofs.YthaohpfbengabaaDoor

/- exact's laws: numbers that come in, as rows of both; grids of both. -/
namespace Go.Proofs.YthaohpfbengabaaDoor
open Num
open Go.ChangeShapes Go.WideShapes Go.ChangeAt Go.RowKit
set_option linter.unusedVariables false
set_option linter.unusedSimpArgs false
attribute [local go_sem ↓] Go.wp_at_zero Go.wp_at_succ
theorem OwnF.kp {R : World → Value → Int → Prop} {E : TypeId} {w0 wr w' : World} {v : Value} {n : Nat} {f : Nat → Int} {S : TypeId → Prop} (hR : Lims R) (h : OwnF R E w0 wr v n f) (k : Kp S wr w') (hs : S 89) (hE : S E) (hb : Below w0.heap.size w0 w') : OwnF R E w0 w' v n f := by
  obtain ⟨xs, ⟨h1, _⟩, h2⟩ := h
  refine ⟨xs, ⟨owns_kp h1 k hE, hb⟩, fun j hj => ?_⟩
  obtain ⟨nb, a, len, c, k1, k2, k3⟩ := h2 j hj
  exact ⟨nb, a, len, c, k1, k2, hR _ _ _ _ k3 (k.lim hs)⟩
theorem OwnF.grown {R : World → Value → Int → Prop} {E : TypeId} {w0 wr w' : World} {v : Value} {n : Nat} {f : Nat → Int} (h : OwnF R E w0 wr v n f) (ho : Out (fun k => v.ownBlock = some k) wr w') : Kp (· ≠ E) wr w' :=
  Kp.out ho (fun q t hq ht hne => by
    obtain ⟨xs, h1, _⟩ := h
    rw [own_typ h1 hq] at ht
    exact hne (Option.some.inj ht).symm)
theorem OwnL.kp {α : Type} {S S' : TypeId → Prop} {T : TypeId} {Pr : World → Value → α → Prop} {w0 wr w' : World} {v : Value} {g : List α} (hP : Prs S Pr) (h : OwnL T Pr w0 wr v g) (k : Kp S' wr w') (hs : ∀ t, S t → S' t) (hT : S' T) (hb : Below w0.heap.size w0 w') : OwnL T Pr w0 w' v g := by
  obtain ⟨xs, ⟨h1, _⟩, h2⟩ := h
  refine ⟨xs, ⟨owns_kp h1 k hT, hb⟩, fun j hj => ?_⟩
  obtain ⟨u, hu, hr⟩ := h2 j hj
  exact ⟨u, hu, hP.kp hr (k.weak hs)⟩
end Go.Proofs.YthaohpfbengabaaDoor

/- The reference's numbers: norm, with the world that it leaves. -/
namespace Go.Proofs.YthaohpfbengabaaDoor
open Num
open Go.ChangeShapes Go.WideShapes Go.ChangeAt Go.RowKit
set_option linter.unusedVariables false
set_option linter.unusedSimpArgs false
end Go.Proofs.YthaohpfbengabaaDoor

/- The reference's numbers: Sub; Add and Sub of numbers no greater than one of so many digits. -/
namespace Go.Proofs.YthaohpfbengabaaDoor
open Num
open Go.ChangeShapes Go.WideShapes Go.ChangeAt Go.RowKit
set_option linter.unusedVariables false
set_option linter.unusedSimpArgs false
end Go.Proofs.YthaohpfbengabaaDoor

/- The reference's numbers: DivMod. -/
namespace Go.Proofs.YthaohpfbengabaaDoor
open Num
open Go.ChangeShapes Go.WideShapes Go.ChangeAt Go.RowKit
set_option linter.unusedVariables false
set_option linter.unusedSimpArgs false
theorem Free.al {w : World} {g : Nat} (h : Free w g) (o : Obj) : Free (w.alloc o) g := h.keep (bal (Below.refl _ _) _)
theorem Free.dr {w : World} {g : Nat} (h : Free w g) : Free w.drew g := h
end Go.Proofs.YthaohpfbengabaaDoor

/- The reference's numbers: DivMod, by values; Over. -/
namespace Go.Proofs.YthaohpfbengabaaDoor
open Num
open Go.ChangeShapes Go.WideShapes Go.ChangeAt Go.RowKit
set_option linter.unusedVariables false
set_option linter.unusedSimpArgs false
end Go.Proofs.YthaohpfbengabaaDoor

/- The reference's rows: Combine, Add, Sub, Scale, Zero. -/
namespace Go.Proofs.YthaohpfbengabaaDoor
open Num
open Go.ChangeShapes Go.WideShapes Go.ChangeAt Go.RowKit
set_option linter.unusedVariables false
set_option linter.unusedSimpArgs false
attribute [local go_sem ↓] Go.wp_at_zero Go.wp_at_succ
theorem RowO.makeRef (w : World) (n : Nat) (hn : n ≤ maxLen) : RowO IsRef 84 w.heap.size (w.alloc (.cells (zcel n) 84)) (.slice (some ⟨w.heap.size, 0, none⟩) n n) (List.replicate n 0) := by
  have hs : (zcel n).size = n * 2 := by simp [zcel, size_madeCells]
  have hl : (zcel n).toList.length = n * 2 := by rw [Array.length_toList, hs]
  refine ⟨(zcel n).toList, ⟨by rw [List.length_replicate]; exact hl, .inr ⟨w.heap.size, n, zcel n, by rw [List.length_replicate], Nat.le_refl _, (MapKept.heap_alloc w _).1, by rw [List.length_replicate]; exact Nat.le_refl _, hn, hs, ?_⟩⟩, fun k hk => ?_⟩
  · rw [List.length_replicate, ← hl, List.take_length]
  · rw [List.length_replicate] at hk
    obtain ⟨h1, h2⟩ := zcel_at hk
    refine ⟨false, none, 0, 0, by rw [Array.getElem?_toList]; exact h1, by rw [Array.getElem?_toList]; exact h2, ?_⟩
    have : (List.replicate n (0 : Int)).getD k 0 = 0 := by simp [hk]
    rw [this]; exact isRef_zero _
abbrev RowQ (base : Nat) := RowO IsRef 84 base
theorem mkRw (n : Nat) (hn : n ≤ 1099511627776) (w : World) : (Instr.makeSlice 81 (.int .i64 (n : Int)) (.int .i64 (n : Int))).run Tryd.prog w = .ok (.slice (some ⟨w.heap.size, 0, none⟩) n n) (w.alloc (.cells (zcel n) 84)) := by
  obtain ⟨i0, hi, hz0, hz1, hz2⟩ := info_parts infoRef
  rw [run_make w _ _ i0 _ Tryd.underlying81 hi hz0 .i64 .i64 n n (by omega) (by omega) (by rw [hz2]; omega) (by omega), hz1]
  rfl
set_option maxRecDepth 100000 in
set_option maxHeartbeats 2000000 in
theorem rzero_c (n : Nat) (w : World) (hn : n ≤ 1099511627776) :
    Calls Tryd.prog 47 #[.int .i64 (n : Int)] w fun e w' => (∃ a c, e = .returned (.slice a n c) ∧ RowQ w.heap.size w' (.slice a n c) (List.replicate n 0)) ∧ Below w.heap.size w w' := by
  have hmk := mkRw n hn
  have hB := Below.refl w.heap.size w
  have HR := Lib.hid (RowO.makeRef w n (by unfold maxLen; omega))
  go_enter Tryd.func47, Tryd.ntmps47
  go_wp2
  go_ret
  exact ⟨⟨_, _, rfl, HR.out⟩, by repeat (first | exact Below.refl _ _ | exact hB | refine Below.drew ?_ | refine below_drewN ?_ _ | refine bset ?_ (by simp <;> omega) _ | refine bal ?_ _)⟩
end Go.Proofs.YthaohpfbengabaaDoor

/- The reference's rows: Over; what an instruction makes of rows (do). -/
namespace Go.Proofs.YthaohpfbengabaaDoor
open Num
open Go.ChangeShapes Go.WideShapes Go.ChangeAt Go.RowKit
set_option linter.unusedVariables false
set_option linter.unusedSimpArgs false
attribute [local go_sem ↓] Go.wp_at_zero Go.wp_at_succ
end Go.Proofs.YthaohpfbengabaaDoor

/- The reference's rows: constant; what an instruction makes of rows (do). -/
namespace Go.Proofs.YthaohpfbengabaaDoor
open Num
open Go.ChangeShapes Go.WideShapes Go.ChangeAt Go.RowKit
set_option linter.unusedVariables false
set_option linter.unusedSimpArgs false
attribute [local go_sem ↓] Go.wp_at_zero Go.wp_at_succ
/-- the reference's registers in a block that may be written -/
structure RegsQ (w : World) (rb : Nat) (g : Grid) : Prop where
  free : Free w rb
  ty : typOf w rb = some 81
  cell : ∀ k, k < g.length → ∃ u, w.cell? ⟨rb, k, none⟩ = some u ∧ RRow 0 w u (g.getD k [])
theorem RegsQ.keep {rb : Nat} {w w' : World} {g : Grid} (h : RegsQ w rb g) (k : Below w.heap.size w w') : RegsQ w' rb g :=
  ⟨h.free.keep k, typ_keep h.ty k, fun j hj => by obtain ⟨u, hu, hr⟩ := h.cell j hj; exact ⟨u, bkeep k hu, hr.keep lims_ref k⟩⟩
theorem RegsQ.step {rb nt : Nat} {w : World} {g : Grid} {v : Value} {r : List Int} (h : RegsQ w rb g) (hv : RRow 0 w v r) (ht : nt < g.length) : RegsQ (w.setCell ⟨rb, nt, none⟩ v) rb (g.set nt r) := by
  have hk : Kp (· ≠ 81) w (w.setCell ⟨rb, nt, none⟩ v) := (Kp.refl _ w).set (fun t ht => by rw [h.ty] at ht; cases ht; exact fun k => k rfl) _
  refine ⟨h.free.set _ _, by rw [typ_set]; exact h.ty, fun k hk' => ?_⟩
  rw [List.length_set] at hk'
  by_cases e : nt = k
  · subst e
    obtain ⟨u, hu, _⟩ := h.cell nt hk'
    refine ⟨v, cell_here hu _, ?_⟩
    have : (g.set nt r).getD nt [] = r := by simp [hk']
    rw [this]
    exact hv.kp lims_ref hk (by decide) (by decide)
  · obtain ⟨u, hu, hr⟩ := h.cell k hk'
    refine ⟨u, cell_far hu (fun e2 => e (by cases e2; rfl)) _, ?_⟩
    have : (g.set nt r).getD k [] = g.getD k [] := by simp [List.getElem?_set_ne e]
    rw [this]
    exact hr.kp lims_ref hk (by decide) (by decide)
end Go.Proofs.YthaohpfbengabaaDoor

