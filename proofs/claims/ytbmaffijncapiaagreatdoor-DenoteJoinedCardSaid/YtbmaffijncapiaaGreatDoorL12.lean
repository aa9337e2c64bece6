/- Texts of this seat, laid together: ExC, ExK, Rnh, VwE, VwB, EwA, EwB, RtA, RtB, RtC, ExD, VmF. Each opens with its own remark, which says what it proves, and under which conditions. -/
import Derived.Test.YtbmaffijncapiaaGreatDoorL11
import Derived.Test.YtbmaffijncapiaaGreatDoorL02
import Derived.Deep.LoopGhost
import Derived.Test.YtbmaffijncapiaaGreatDoorL08
import Derived.Test.YtbmaffijncapiaaGreatDoorL03
import Derived.Test.YtbmaffijncapiaaGreatDoorL10
import Derived.Deep.DeepFit
import Derived.Deep.RegionLaw
import Derived.Deep.DrawnRows
import Derived.Test.YtbmaffijncapiaaGreatDoorL07
import Derived.Laws.CopyRow
import Derived.Laws.Rows
import Derived.Laws.Tables
import Derived.Deep.Cut
import Derived.Deep.DeepCutAuto
set_option linter.unusedVariables false
set_option linter.unusedSimpArgs false
/- exact: run on numbers. -/
namespace Go.Proofs.YtbmaffijncapiaaGreatDoor
open Num
open Go.ChangeShapes Go.WideShapes Go.ChangeAt Go.RowKit
set_option linter.unusedVariables false
set_option linter.unusedSimpArgs false
attribute [local go_sem ↓] Go.wp_at_zero Go.wp_at_succ
end Go.Proofs.YtbmaffijncapiaaGreatDoor

/- exact: run on numbers, told to a loop's body. -/
namespace Go.Proofs.YtbmaffijncapiaaGreatDoor
open Num
open Go.ChangeShapes Go.WideShapes Go.ChangeAt Go.RowKit
set_option linter.unusedVariables false
set_option linter.unusedSimpArgs false
attribute [local go_sem ↓] Go.wp_at_zero Go.wp_at_succ
theorem out_others {X : Nat → Prop} {a b : World} (h : Out X a b) (hx : ∀ q, X q → q < a.heap.size → ∃ o : Obj, a.heap[q]? = some o ∧ o.isCells = true) : KeepsOthers a b :=
  ⟨h.size, fun k o hk ho => by
    have hl := (Array.getElem?_eq_some_iff.1 hk).1
    rw [h.block k hl (fun hX => by
      obtain ⟨o', ho', hc⟩ := hx k hX hl
      rw [hk] at ho'; cases ho'; rw [ho] at hc; cases hc)]
    exact hk⟩
theorem typ_cells {w : World} {q : Nat} {t : TypeId} (h : typOf w q = some t) : ∃ o : Obj, w.heap[q]? = some o ∧ o.isCells = true := by
  unfold typOf at h
  cases e : w.heap[q]? with
  | none => rw [e] at h; cases h
  | some o =>
    rw [e] at h
    cases o with
    | cells c t' f => exact ⟨_, rfl, rfl⟩
    | _ => cases h
theorem typ_outK {X : Nat → Prop} {a b : World} {g : Nat} {t : TypeId} (h : typOf a g = some t) (ho : Out X a b) (hx : ¬ X g) : typOf b g = some t := by
  rw [typ_of_block (w := a) (ho.block g (typ_lt h) hx)]; exact h
end Go.Proofs.YtbmaffijncapiaaGreatDoor

/- Ranges over functions whose bodies write blocks of their own: which blocks these are may change from round to round; what the iterator holds never lies in them. -/
namespace Go.Proofs.YtbmaffijncapiaaGreatDoor
open Go.ChangeShapes Go.WideShapes Go.ChangeAt Go.RowKit
set_option linter.unusedVariables false
set_option linter.unusedSimpArgs false
structure Clo (n0 : Nat) (S : Nat → Prop) (a b : World) : Prop where
  os : b.os = a.os
  tape : b.tape = a.tape
  output : b.output = a.output
  size : a.heap.size ≤ b.heap.size
  block : ∀ q, q < a.heap.size → (q < n0 ∨ S q ∨ typOf a q = some 177) → b.heap[q]? = a.heap[q]?
section
variable {n0 : Nat} {S : Nat → Prop} {a b c : World}
theorem Clo.refl (n0 : Nat) (S : Nat → Prop) (a : World) : Clo n0 S a a := ⟨rfl, rfl, rfl, Nat.le_refl _, fun _ _ _ => rfl⟩
theorem Clo.trans (h : Clo n0 S a b) (k : Clo n0 S b c) : Clo n0 S a c :=
  ⟨k.os.trans h.os, k.tape.trans h.tape, k.output.trans h.output, Nat.le_trans h.size k.size, fun q hq hs =>
    (k.block q (Nat.lt_of_lt_of_le hq h.size) (hs.imp id (Or.imp id fun ht => by unfold typOf; rw [h.block q hq hs]; exact ht))).trans (h.block q hq hs)⟩
theorem Clo.of_below (h : Below a.heap.size a b) : Clo n0 S a b := ⟨h.os, h.tape, h.output, h.size, fun q hq _ => h.block q hq⟩
theorem Clo.below (h : Clo n0 S a b) (k : Below b.heap.size b c) : Clo n0 S a c := h.trans (.of_below k)
theorem Clo.of_out {X : Nat → Prop} (h : Out X a b) (hx : ∀ q, X q → q < a.heap.size → n0 ≤ q ∧ ¬ S q ∧ typOf a q ≠ some 177) : Clo n0 S a b :=
  ⟨h.os, h.tape, h.output, h.size, fun q hq hs => h.block q hq fun hX => by
    obtain ⟨h1, h2, h3⟩ := hx q hX hq
    rcases hs with h | h | h
    · omega
    · exact h2 h
    · exact h3 h⟩
theorem Clo.low (h : Clo n0 S a b) (hn : n0 ≤ a.heap.size) : Below n0 a b := ⟨h.os, h.tape, h.output, h.size, fun q hq => h.block q (by omega) (.inl hq)⟩
theorem Clo.lim (h : Clo n0 S a b) : Lim a b := fun q ht => by
  have hq : q < a.heap.size := by
    unfold typOf at ht
    rcases Nat.lt_or_ge q a.heap.size with h1 | h1
    · exact h1
    · rw [Array.getElem?_eq_none h1] at ht; cases ht
  have e := h.block q hq (.inr (.inr ht))
  exact ⟨by unfold typOf; rw [e]; exact ht, fun o n hc => by rw [World.cell?_of_block (w := a) e]; exact hc⟩
theorem Clo.cell (h : Clo n0 S a b) {p : Addr} {v : Value} (hp : p.block < n0 ∨ S p.block) (hc : a.cell? p = some v) : b.cell? p = some v := by
  have hq : p.block < a.heap.size := by
    unfold World.cell? at hc
    rcases Nat.lt_or_ge p.block a.heap.size with h1 | h1
    · exact h1
    · rw [Array.getElem?_eq_none h1] at hc; cases hc
  rw [World.cell?_of_block (w := a) (h.block p.block hq (hp.imp id .inl))]; exact hc
theorem Clo.frz (h : Clo n0 S a b) {p : Addr} {v : Value} (hp : p.block < n0 ∨ S p.block) (hc : a.cell? p = some v) (hf : a.frozen? p = false) : b.frozen? p = false := by
  have hq : p.block < a.heap.size := by
    unfold World.cell? at hc
    rcases Nat.lt_or_ge p.block a.heap.size with h1 | h1
    · exact h1
    · rw [Array.getElem?_eq_none h1] at hc; cases hc
  rw [World.frozen?_of_block (w := a) (h.block p.block hq (hp.imp id .inl))]; exact hf
theorem Clo.typ (h : Clo n0 S a b) {q : Nat} {t : TypeId} (hp : q < n0 ∨ S q) (ht : typOf a q = some t) : typOf b q = some t := by
  have hq : q < a.heap.size := by
    unfold typOf at ht
    rcases Nat.lt_or_ge q a.heap.size with h1 | h1
    · exact h1
    · rw [Array.getElem?_eq_none h1] at ht; cases ht
  unfold typOf; rw [h.block q hq (hp.imp id .inl)]; exact ht
end
theorem typ_none {X : World} {q : Nat} {o : Obj} (h : X.heap[q]? = some o) (hc : o.isCells = false) : typOf X q = none := by
  unfold typOf; rw [h]
  cases o with
  | cells _ _ _ => cases hc
  | _ => rfl
def Soil (S : Nat → Prop) (X : World) : Prop := ∀ q, S q → ∃ t, typOf X q = some t ∧ t ≠ 177
def Grew (S S' : Nat → Prop) (X : World) : Prop := ∀ q, S' q → S q ∨ X.heap.size ≤ q
theorem Grew.same (S : Nat → Prop) (X : World) : Grew S S X := fun _ h => .inl h
def IterD (P : Program) (gf : Nat) (lb : Array Value) (A : Nat → Array Value → World → Prop) (m : Nat) (Xs : Array Value → Nat → Prop) (n0 : Nat) (S0 : Nat → Prop) (G : World → Prop) : Prop :=
  ∀ (l : Nat) (J Jx : Nat → (Nat → Prop) → World → Prop) (W : World), G W → (∀ k S X Y, J k S X → Clo n0 S X Y → KeepsOthers X Y → J k S Y) → (∀ k S X Y, Jx k S X → Clo n0 S X Y → KeepsOthers X Y → Jx k S Y) →
    (∀ k S X, J k S X → Soil S X) →
    (∀ k args S X, k < m → J k S X → A k args X → (∀ q, Xs args q → ¬ S q) → YieldAt Fence.wide 7 P l args X fun e Y => (e = .returned (.bool true) ∧ ∃ S', Grew S S' X ∧ J (k + 1) S' Y ∧ OutT (fun q => S q ∨ Xs args q) X Y) ∨ (e = .returned (.bool false) ∧ ∃ S', Jx (k + 1) S' Y)) →
    J 0 S0 W → CallsIn Fence.wide 8 P gf (#[.func (.yield l) #[] #[]] ++ lb) W fun e Y => (∃ v, e = .returned v) ∧ ((∃ S, J m S Y) ∨ ∃ k S, k ≤ m ∧ Jx k S Y)
def postD (X0 S : Nat → Prop) (I : Nat → (Nat → Prop) → World → Prop) (Ix : Code → Nat → (Nat → Prop) → World → Prop) (k : Nat) (X : World) : Exit → Act → World → Prop
  | .normal, _, Y => OutT X0 X Y ∧ ∃ S', Grew S S' X ∧ I k S' Y
  | .ret, _, Y => OutT X0 X Y ∧ ∃ S', Ix .ret k S' Y
  | .exit id, _, Y => OutT X0 X Y ∧ ∃ S', Ix (.exit id) k S' Y
  | .goto t, _, Y => OutT X0 X Y ∧ ∃ S', Ix (.goto t) k S' Y
  | .panic _, _, _ => False
  | .outgrown, _, _ => False
theorem wp_rangeD {P : Program} {g : Operand} {ps : Array Tmp} {assign body : Code} {Q : Exit → Act → World → Prop} {a : Act} {w : World}
    {gf : Nat} {lb : Array Value} (hg : a.eval g = .func (.func gf) #[] lb) (eg : ∀ args w, (callFunc gf args).run P w = .ok (.enter gf args) w)
    {A : Nat → Array Value → World → Prop} {m n0 : Nat} {Xs : Array Value → Nat → Prop} {S0 : Nat → Prop} {G : World → Prop} (hseq : IterD P gf lb A m Xs n0 S0 G)
    (hn0 : n0 ≤ w.heap.size) (hG : ∀ W, Below w.heap.size w W → G W) (hps : ∀ k args X, A k args X → args.size = ps.size)
    (I : Nat → (Nat → Prop) → World → Prop) (Ix : Code → Nat → (Nat → Prop) → World → Prop) (hI : ∀ k S X Y, I k S X → Clo n0 S X Y → I k S Y) (hIx : ∀ c k S X Y, Ix c k S X → Clo n0 S X Y → Ix c k S Y)
    (hS : ∀ k S X, I k S X → Soil S X) (hSx : ∀ c k S X, Ix c k S X → Soil S X) (h0 : I 0 S0 w)
    (Ax : Array Value → Nat → Array Value → (Nat → Prop) → Act → World → Prop) (hAx : ∀ k args S a' (X : World) (l : Nat) (o o' : Obj), w.heap.size ≤ l → X.heap[l]? = some o → o.isCells = false → Ax a.tmps k args S a' X → Ax a.tmps k args S a' (X.putObj l o'))
    (hXs : ∀ k args X q, A k args X → Xs args q → ∃ o, X.heap[q]? = some o ∧ o.isCells = true)
    (hassign : ∀ (l k : Nat) (args : Array Value) (S : Nat → Prop) (X : World) (K : Act → World → Prop), k < m → I k S X → A k args X → (∀ q, Xs args q → ¬ S q) → (∀ a' Y, Below X.heap.size X Y → I k S Y → Ax a.tmps k args S a' Y → K a' Y) →
      assign.wpIn (Fence.wide.inRound l) 7 P (Exit.then K (fun _ _ _ => False)) { tmps := (ps.zip args).foldl (fun t (p, v) => t.setIfInBounds p v) a.tmps, defers := [] } X)
    (hbody : ∀ (l k : Nat) (args : Array Value) (S : Nat → Prop) (a' : Act) (X : World), k < m → I k S X → Ax a.tmps k args S a' X → body.wpIn (Fence.wide.inRound l) 7 P (postD (fun q => S q ∨ Xs args q) S I Ix (k + 1) X) a' X)
    (hdone : ∀ (D : Nat) (S : Nat → Prop) (Y : World), w.heap.size ≤ D → I m S Y → Y.heap[D]? = some (.deferred (some [])) → Q .normal { a with defers := { target := .collected D, args := #[] } :: a.defers } Y)
    (hstop : ∀ (D : Nat) (c : Code) (k : Nat) (S : Nat → Prop) (Y : World), w.heap.size ≤ D → k ≤ m → Ix c k S Y → Y.heap[D]? = some (.deferred (some [])) → c.wp P Q { a with defers := { target := .collected D, args := #[] } :: a.defers } Y) :
    (Code.rangeFunc g ps assign body).wp P Q a w := by
  refine (wpIn_wide (n := 9)).1 (wpIn_rangeFunc fun fn hfn => ?_)
  let R : LoopState → Option Code → Loop := fun st pe => { state := st, pending := pe, fn, tmps := a.tmps, params := ps, assign, body, defers := w.heap.size }
  generalize hl : w.heap.size + 1 = l
  have hlw : w.heap.size ≤ l := by omega
  let V : World := (w.alloc (.deferred (some []))).alloc (.loop (R .ready none))
  have rec0 : V.heap[l]? = some (.loop (R .ready none)) := by
    have h := World.alloc_heap_new (w.alloc (.deferred (some []))) (.loop (R .ready none))
    rw [World.size_alloc, hl] at h
    exact h
  have put0 : V.heap[w.heap.size]? = some (.deferred (some [])) := (Below.heap_alloc _ _ _ (by simp)).trans (World.alloc_heap_new w _)
  have bV : Below w.heap.size w V := bal (bal (Below.refl _ _) _) _
  -- the loop's record is set: nothing of the body's, no limbs
  have cP : ∀ (S : Nat → Prop) (X : World) (o o' : Obj), Soil S X → X.heap[l]? = some o → o.isCells = false → Clo n0 S X (X.putObj l o') := fun S X o o' hs ho hc => by
    refine ⟨rfl, rfl, rfl, by simp [World.putObj], fun q hq h => World.putObj_heap_other (fun e => ?_)⟩
    subst e
    have ht : ∀ t, typOf X q ≠ some t := fun t h => by rw [typ_none ho hc] at h; cases h
    rcases h with h | h | h
    · omega
    · obtain ⟨t, h1, _⟩ := hs q h
      exact ht t h1
    · exact ht _ h
  refine ⟨l, [{ target := .collected w.heap.size, args := #[] }], V, { target := .fn (.func gf) lb, args := #[.func (.yield l) #[] #[]] }, V, gf, #[.func (.yield l) #[] #[]] ++ lb, V, ?_, ?_, fun f' _ => trivial, ?_, fun _ => by omega, ?_⟩
  · have h := run_enterLoop_outer (P := P) (w := w) fn a.tmps ps assign body
    rw [hl] at h
    exact h
  · simp only [resolve, hg]
    simp [go_sem]
  · simp [invoke, go_sem, eg]
  let J : Nat → (Nat → Prop) → World → Prop := fun k S X => I k S X ∧ X.heap[l]? = some (.loop (R .ready none)) ∧ X.heap[w.heap.size]? = some (.deferred (some []))
  let Jx : Nat → (Nat → Prop) → World → Prop := fun k S X => ∃ c, Ix c k S X ∧ X.heap[l]? = some (.loop (R .done (some c))) ∧ X.heap[w.heap.size]? = some (.deferred (some []))
  refine (hseq l J Jx V (hG V bV) ?_ ?_ ?_ ?_ ⟨hI 0 S0 _ _ h0 (.of_below bV), rec0, put0⟩).mono ?_
  · rintro k S X Y ⟨h1, h2, h3⟩ hc hk
    exact ⟨hI k S X Y h1 hc, hk.same _ _ h2 rfl, hk.same _ _ h3 rfl⟩
  · rintro k S X Y ⟨c, h1, h2, h3⟩ hc hk
    exact ⟨c, hIx c k S X Y h1 hc, hk.same _ _ h2 rfl, hk.same _ _ h3 rfl⟩
  · rintro k S X ⟨h1, _⟩
    exact hS k S X h1
  · -- one round
    rintro k args S X hkm ⟨h1, h2, h3⟩ hA hxs
    have nX : ∀ q o, X.heap[q]? = some o → o.isCells = false → ¬ (S q ∨ Xs args q) := fun q o hq ho hx => by
      rcases hx with hx | hx
      · obtain ⟨t, ht, _⟩ := hS k S X h1 q hx
        rw [typ_none hq ho] at ht; cases ht
      · obtain ⟨o', ho', hc⟩ := hXs k args X q hA hx
        rw [hq] at ho'; cases ho'; rw [ho] at hc; cases hc
    have nl : ¬ (S l ∨ Xs args l) := nX _ _ h2 rfl
    have nd : ¬ (S w.heap.size ∨ Xs args w.heap.size) := nX _ _ h3 rfl
    have hy := run_yield (P := P) (args := args) h2 (hps k args X hA)
    refine ⟨fn, _, assign, body, hy, roundIn_of_wpIn hfn (hassign l k args S X _ hkm h1 hA hxs ?_)⟩
    intro a' X1 hb i1 ax
    have hlX : l < X.heap.size := (Array.getElem?_eq_some_iff.1 h2).1
    have l1 : X1.heap[l]? = some (.loop (R .ready none)) := (hb.block _ hlX).trans h2
    have d1 : X1.heap[w.heap.size]? = some (.deferred (some [])) := (hb.block _ (Array.getElem?_eq_some_iff.1 h3).1).trans h3
    have hl1 : l < X1.heap.size := (Array.getElem?_eq_some_iff.1 l1).1
    refine ⟨_, run_beginRound l1 rfl, ?_⟩
    have cb : Clo n0 S X1 (X1.putObj l (.loop { R .ready none with state := .busy })) := cP _ _ _ _ (hS _ _ _ i1) l1 rfl
    have l2 : (X1.putObj l (.loop { R .ready none with state := .busy })).heap[l]? = some (.loop { R .ready none with state := .busy }) := World.putObj_heap_same hl1
    have o2 : ∀ b, b ≠ l → (X1.putObj l (.loop { R .ready none with state := .busy })).heap[b]? = X1.heap[b]? := fun b hb => World.putObj_heap_other hb
    have s2 : (X1.putObj l (.loop { R .ready none with state := .busy })).heap.size = X1.heap.size := by simp [World.putObj]
    refine wpIn_mono (hbody l k args S a' _ hkm (hI k S _ _ i1 cb) (hAx k args S a' _ _ _ _ hlw l1 rfl ax)) ?_
    have fin : ∀ (jump : Option Code) (Y : World) (S' : Nat → Prop), OutT (fun q => S q ∨ Xs args q) (X1.putObj l (.loop { R .ready none with state := .busy })) Y → Soil S' Y →
        (Instr.endRound l jump).run P Y = .ok (.bool jump.isNone) (Y.putObj l (.loop (R (if jump.isNone then .ready else .done) jump))) ∧ Clo n0 S' Y (Y.putObj l (.loop (R (if jump.isNone then .ready else .done) jump))) ∧
        (Y.putObj l (.loop (R (if jump.isNone then .ready else .done) jump))).heap[l]? = some (.loop (R (if jump.isNone then .ready else .done) jump)) ∧ (Y.putObj l (.loop (R (if jump.isNone then .ready else .done) jump))).heap[w.heap.size]? = some (.deferred (some [])) := fun jump Y S' hoT hs => by
      have ho := hoT.1
      have lY : Y.heap[l]? = some (.loop { R .ready none with state := .busy }) := (ho.block _ (by rw [s2]; exact hl1) nl).trans l2
      refine ⟨run_endRound (P := P) jump lY, cP _ _ _ _ hs lY rfl, World.putObj_heap_same (Array.getElem?_eq_some_iff.1 lY).1, ?_⟩
      rw [World.putObj_heap_other (by omega), ho.block _ (by rw [s2]; exact (Array.getElem?_eq_some_iff.1 d1).1) nd, o2 _ (by omega), d1]
    rintro e a3 Y hp
    cases e with
    | normal =>
      obtain ⟨ho, S', hg', i3⟩ := hp
      obtain ⟨hr, hc, e1, e2⟩ := fin none Y S' ho (hS _ _ _ i3)
      obtain ⟨ho, ht⟩ := ho
      refine ⟨_, _, hr, .inl ⟨rfl, S', fun q hq => (hg' q hq).imp id fun h => Nat.le_trans hb.size (by rw [s2] at h; exact h), ⟨hI _ _ _ _ i3 hc, e1, e2⟩, ⟨ho.os.trans hb.os, ho.tape.trans hb.tape, ho.output.trans hb.output, ?_, fun i hi hx => ?_⟩, fun q hq hqs => ?_⟩⟩
      · have := ho.size; have := hb.size; simp [World.putObj] at *; omega
      · by_cases e : i = l
        · subst e; exact e1.trans h2.symm
        · rw [World.putObj_heap_other e, ho.block _ (by rw [s2]; have := hb.size; omega) hx, o2 _ e, hb.block _ hi]
      · have e : q ≠ l := fun e => nl (e ▸ hq)
        have t1 : typOf (Y.putObj l (.loop (R (if (none : Option Code).isNone then .ready else .done) none))) q = typOf Y q := by unfold typOf; rw [World.putObj_heap_other e]
        have t2 := ht q hq (by rw [s2]; have := hb.size; omega)
        have t3 : typOf (X1.putObj l (.loop { R .ready none with state := .busy })) q = typOf X1 q := by unfold typOf; rw [o2 _ e]
        have t4 : typOf X1 q = typOf X q := by unfold typOf; rw [hb.block _ hqs]
        exact (t1.trans t2).trans (t3.trans t4)
    | ret =>
      obtain ⟨ho, S', i3⟩ := hp
      obtain ⟨hr, hc, e1, e2⟩ := fin (some .ret) Y S' ho (hSx _ _ _ _ i3)
      exact ⟨_, _, hr, .inr ⟨rfl, S', .ret, hIx _ _ _ _ _ i3 hc, e1, e2⟩⟩
    | exit id =>
      obtain ⟨ho, S', i3⟩ := hp
      obtain ⟨hr, hc, e1, e2⟩ := fin (some (.exit id)) Y S' ho (hSx _ _ _ _ i3)
      exact ⟨_, _, hr, .inr ⟨rfl, S', .exit id, hIx _ _ _ _ _ i3 hc, e1, e2⟩⟩
    | goto t =>
      obtain ⟨ho, S', i3⟩ := hp
      obtain ⟨hr, hc, e1, e2⟩ := fin (some (.goto t)) Y S' ho (hSx _ _ _ _ i3)
      exact ⟨_, _, hr, .inr ⟨rfl, S', .goto t, hIx _ _ _ _ _ i3 hc, e1, e2⟩⟩
    | panic ch => exact hp.elim
    | outgrown => exact hp.elim
  · -- behind it
    rintro e Y ⟨⟨v, rfl⟩, h⟩
    rcases h with ⟨S, i1, l1, d1⟩ | ⟨k, S, hk, c, i1, l1, d1⟩
    · refine ⟨none, _, run_endLoop (P := P) l1 (by simp [R]), hdone _ S _ (Nat.le_refl _) (hI _ _ _ _ i1 (cP _ _ _ _ (hS _ _ _ i1) l1 rfl)) ?_⟩
      rw [World.putObj_heap_other (by omega)]; exact d1
    · refine ⟨some c, _, run_endLoop (P := P) l1 (by simp [R]), wpIn_wide.2 (hstop _ c k S _ (Nat.le_refl _) hk (hIx _ _ _ _ _ i1 (cP _ _ _ _ (hSx _ _ _ _ i1) l1 rfl)) ?_)⟩
      rw [World.putObj_heap_other (by omega)]; exact d1
end Go.Proofs.YtbmaffijncapiaaGreatDoor

/- vm's laws: long; the document's example. -/
namespace Go.Proofs.YtbmaffijncapiaaGreatDoor
open Num
open Go.ChangeShapes Go.WideShapes Go.ChangeAt Go.RowKit
set_option linter.unusedVariables false
set_option linter.unusedSimpArgs false
end Go.Proofs.YtbmaffijncapiaaGreatDoor

/- vm's laws: the numbers that come in, as the reference's blocks. -/
namespace Go.Proofs.YtbmaffijncapiaaGreatDoor
open Num
open Go.ChangeShapes Go.WideShapes Go.ChangeAt Go.RowKit
set_option linter.unusedVariables false
set_option linter.unusedSimpArgs false
end Go.Proofs.YtbmaffijncapiaaGreatDoor

/- exact's laws: long; numbers that come in as rows of both. -/
namespace Go.Proofs.YtbmaffijncapiaaGreatDoor
open Num
open Go.ChangeShapes Go.WideShapes Go.ChangeAt Go.RowKit
set_option linter.unusedVariables false
set_option linter.unusedSimpArgs false
end Go.Proofs.YtbmaffijncapiaaGreatDoor

/- exact's laws: numbers that come in, as rows of both; grids of both. -/
namespace Go.Proofs.YtbmaffijncapiaaGreatDoor
open Num
open Go.ChangeShapes Go.WideShapes Go.ChangeAt Go.RowKit
set_option linter.unusedVariables false
set_option linter.unusedSimpArgs false
attribute [local go_sem ↓] Go.wp_at_zero Go.wp_at_succ
end Go.Proofs.YtbmaffijncapiaaGreatDoor

/- The reference's rows: Combine, Add, Sub, Scale, Zero. -/
namespace Go.Proofs.YtbmaffijncapiaaGreatDoor
open Num
open Go.ChangeShapes Go.WideShapes Go.ChangeAt Go.RowKit
set_option linter.unusedVariables false
set_option linter.unusedSimpArgs false
attribute [local go_sem ↓] Go.wp_at_zero Go.wp_at_succ
end Go.Proofs.YtbmaffijncapiaaGreatDoor

/- The reference's rows: Over; what an instruction makes of rows (do). -/
namespace Go.Proofs.YtbmaffijncapiaaGreatDoor
open Num
open Go.ChangeShapes Go.WideShapes Go.ChangeAt Go.RowKit
set_option linter.unusedVariables false
set_option linter.unusedSimpArgs false
attribute [local go_sem ↓] Go.wp_at_zero Go.wp_at_succ
end Go.Proofs.YtbmaffijncapiaaGreatDoor

/- The reference's rows: constant; what an instruction makes of rows (do). -/
namespace Go.Proofs.YtbmaffijncapiaaGreatDoor
open Num
open Go.ChangeShapes Go.WideShapes Go.ChangeAt Go.RowKit
set_option linter.unusedVariables false
set_option linter.unusedSimpArgs false
attribute [local go_sem ↓] Go.wp_at_zero Go.wp_at_succ
structure RegsQ (w : World) (rb : Nat) (g : Grid) : Prop where
  free : Free w rb
  ty : typOf w rb = some 110
  cell : ∀ k, k < g.length → ∃ u, w.cell? ⟨rb, k, none⟩ = some u ∧ RRow 0 w u (g.getD k [])
theorem RegsQ.keep {rb : Nat} {w w' : World} {g : Grid} (h : RegsQ w rb g) (k : Below w.heap.size w w') : RegsQ w' rb g :=
  ⟨h.free.keep k, typ_keep h.ty k, fun j hj => by obtain ⟨u, hu, hr⟩ := h.cell j hj; exact ⟨u, bkeep k hu, hr.keep lims_ref k⟩⟩
end Go.Proofs.YtbmaffijncapiaaGreatDoor

/- exact: a new row of noughts, into which a row of numbers is copied. -/
namespace Go.Proofs.YtbmaffijncapiaaGreatDoor
open Num
open Go.ChangeShapes Go.WideShapes Go.ChangeAt Go.RowKit
set_option linter.unusedVariables false
set_option linter.unusedSimpArgs false
section
variable {ops : Array Oper} {o : Oper} {a : Act} {Q : Exit → Act → World → Prop} {w : World} {d x : Operand}
end
end Go.Proofs.YtbmaffijncapiaaGreatDoor

/- vm: New. -/
namespace Go.Proofs.YtbmaffijncapiaaGreatDoor
open Num
open Go.ChangeShapes Go.WideShapes Go.ChangeAt Go.RowKit
set_option linter.unusedVariables false
set_option linter.unusedSimpArgs false
attribute [local go_sem ↓] Go.wp_at_zero Go.wp_at_succ
abbrev GridV (w : World) (v : Value) (g : Grid) : Prop := IsL 68 (PRow 0) 0 w v g
end Go.Proofs.YtbmaffijncapiaaGreatDoor

