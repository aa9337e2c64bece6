/- Texts of this seat, laid together (what the earlier ones leave out): VmG, Iter, RwD, Rng, ExK, ExL, EwK, RwG, ExS, EwP, Col, RtG, RtH, NumU. Each opens with its own remark, which says what it proves, and under which conditions. -/
import Derived.Test.YtannhpadoooedaaGreatDoorQ01
import Derived.Test.YtannhpadoooedaaGreatDoorQ02
import Derived.Test.YtannhpadoooedaaGreatDoorQ03
import Derived.Test.YtannhpadoooedaaGreatDoorQ04
import Derived.Test.YtannhpadoooedaaGreatDoorQ05
import Derived.Test.YtannhpadoooedaaGreatDoorQ06
import Derived.Test.YtannhpadoooedaaGreatDoorQ07
import Derived.Test.YtannhpadoooedaaGreatDoorQ08
import Derived.Test.YtannhpadoooedaaGreatDoorQ09
import Derived.Test.YtannhpadoooedaaGreatDoorQ10
import Derived.Test.YtannhpadoooedaaGreatDoorQ11
import Derived.Test.YtannhpadoooedaaGreatDoorQ12
import Derived.Test.YtannhpadoooedaaGreatDoorQ13
import Derived.WalkKit
import Derived.ProofKit
import Derived.OpenShut
import Derived.Deep.QuietTactic
import Derived.BigQuiet
import Derived.Outline
import Derived.Lib.Hide
import Derived.WalkSmall
import Derived.WalkSpells
import Derived.WalkLawsBesides
import Derived.Deep.RegionWith
import Derived.Deep.RegionHeld3
import Derived.Laws.CopyOwn
import Derived.Shelf.Small.Bits
import Derived.Laws.AppendOwn
import Derived.Deep.AppendLies
import Derived.OneCell
import Derived.Laws.BitsAllLaws
import Derived.Shelf.Spec.TrailingZeros
import Derived.Shelf.Strings.Builder1
import Derived.Shelf.Strings.Trim
import Derived.Deep.Cut
import Derived.Deep.DeepCutAuto
import Derived.ArgAppend
import Derived.Deep.DeepFit
import Derived.RegionTactic
import Derived.ChangeAlike
import Derived.Laws.OwnMore
import Derived.Deep.Onto
import Derived.Deep.RegionLaw
import Derived.Deep.DrawnRows
import Derived.Shelf.Abstract
import Derived.Laws.EntriesVeiled
import Derived.Deep.LoopGhost
import Derived.Laws.CopyRow
import Derived.Laws.Rows
import Derived.Laws.Tables
import Derived.Laws.IdiomStrings
import Derived.Laws.BytesArg
import Derived.RangeFuncNested
import Derived.RangeFuncBound
import Derived.RangeFuncCalls
import Derived.RangeFuncLeaves
import Derived.Shelf.RegionOpen
import Derived.OwnWalkIn
import Derived.TacticsInMore
import Derived.LoopNIn
import Derived.LoopIn
import Derived.Laws.RangeString
import Derived.Lib.OthersKept
import Derived.Maps.AppendAt
import Derived.Lib.SmallJoins
import Derived.Deep.Slices
import Derived.Deep.Matrix
import Derived.Deep.Fields
import Derived.ChangeSame
import Derived.DataShut
import Derived.SizedLaws
set_option linter.unusedVariables false
set_option linter.unusedSimpArgs false
namespace Go.Proofs.YtannhpadoooedaaGreatDoor
open Go.ChangeShapes Go.WideShapes Go.ChangeAt Go.RowKit
theorem belA {B : Nat} {a b : World} (h : Below B a b := by repeat (first | exact Below.refl _ _ | assumption | refine Below.drew ?_ | refine below_drewN ?_ _ | refine bset ?_ (by simp <;> omega) _ | refine bal ?_ _)) : Below B a b := h
end Go.Proofs.YtannhpadoooedaaGreatDoor
/- vm: Next, Done, Outs. -/
namespace Go.Proofs.YtannhpadoooedaaGreatDoor
open Num
open Go.ChangeShapes Go.WideShapes Go.ChangeAt Go.RowKit
attribute [local go_sem ↓] Go.wp_at_zero Go.wp_at_succ
section
variable {base b rb rc : Nat} {ins regs : Int} {code : List Ins} {outs : List Int} {g : Grid} {n : Nat}
def doneB (n l : Nat) : Bool := decide (n = l)
end
end Go.Proofs.YtannhpadoooedaaGreatDoor

/- Ranges over functions, in the plain walk: a law in the wide fence, and what its users need. -/
namespace Go.Proofs.YtannhpadoooedaaGreatDoor
open Go.ChangeShapes Go.WideShapes Go.ChangeAt Go.RowKit

/-! what a round's body keeps -/
/-! ### A region that draws its order, in a round: one walk in the text's order -/
section
variable {P : Program} {ops : Array Oper} {C : World → Prop} {l n : Nat}
def noDefer (o : Oper) : Bool := match o.op with | .defer _ => false | _ => true
theorem noDefer_spec {o : Oper} (h : noDefer o = true) : ∀ c, o.op ≠ .defer c := by
  intro c e; unfold noDefer at h; rw [e] at h; cases h
theorem wpInR_of_quiet {o : Oper} {a : Act} {K : Act → Prop} {K' : Act → World → Prop} {Q' : Exit → Act → World → Prop} {w : World} (hnd : noDefer o = true) (hw : C w) (h : ∀ a w', C w' → K a → K' a w') (hh : o.quiet P a C K) : o.wpIn (Fence.wide.inRound l) n P a w K' Q' := by
  obtain ⟨v, h1, h2⟩ := hh
  have h3 := h1 w hw
  refine ⟨fun _ _ => trivial, ?_⟩
  rw [Fence.inRound_round, Oper.semAt_some l _ _ (noDefer_spec hnd)]
  unfold Oper.quietAt at h3
  generalize (execOp a.eval o).run P w = r at *
  cases r with
  | ok n w' =>
    cases n <;> simp only [Oper.quietUpon] at h3 <;> simp only [Oper.uponIn]
    case value u =>
      obtain ⟨e1, e2⟩ := h3
      rw [e1, e2]
      exact h _ _ hw h2
    case skip =>
      obtain ⟨e1, e2⟩ := h3
      rw [e1, ← e2]
      exact h _ _ hw h2
    case enter f args =>
      obtain ⟨e1, hc⟩ := h3
      rw [e1]
      refine ⟨fun hd => by simp [Fence.wide] at hd, ?_⟩
      exact CallsIn.inRound l (callsIn_wide.2 (hc.mono fun e w'' ⟨he, hw''⟩ => by subst he; exact h _ _ hw'' h2))
  | halt x w' => simp only [Oper.quietUpon] at h3
theorem wpOpInR_of_qOp {i : Nat} {a : Act} {K : Act → Prop} {K' : Act → World → Prop} {Q' : Exit → Act → World → Prop} {w : World} (hnd : ops.all noDefer = true) (hC : C w) (h : ∀ a w', C w' → K a → K' a w') (hh : qOp P ops C i K a) : wpOpIn (Fence.wide.inRound l) n P ops Q' i K' a w := by
  unfold qOp at hh
  unfold wpOpIn
  split
  · rename_i ho; simp only [ho] at hh; exact h _ _ hC hh
  · rename_i o ho
    simp only [ho] at hh
    have hno : noDefer o = true := by
      rw [Array.all_eq_true] at hnd
      obtain ⟨hi, he⟩ := Array.getElem?_eq_some_iff.1 ho
      rw [← he]; exact hnd i hi
    split
    · rename_i hw; simp only [hw, if_true] at hh; exact wpInR_of_quiet hno hC h hh
    · rename_i hw; simp only [hw] at hh; exact ⟨fun _ _ => trivial, h _ _ hC hh⟩
theorem wpAnyInR_of_quiet {md : Region.Mode} {Q : Act → Prop} {Q' : Exit → Act → World → Prop} (hnd : ops.all noDefer = true) (hQ : ∀ a w, C w → Q a → Q' .normal a w) : ∀ (fuel : Nat) (listed : Array Bool) (a : Act) (w : World), C w →
    wpAnyQ P md ops C Q fuel listed a → wpAnyIn (Fence.wide.inRound l) n P md ops Q' fuel listed a w
  | 0, _, _, _, hw, h => ⟨h.1, hQ _ _ hw h.2⟩
  | fuel + 1, _, _, _, hw, h => ⟨fun h0 => hQ _ _ hw (h.1 h0), fun i hi => wpOpInR_of_qOp hnd hw (fun a' w' hw' => wpAnyInR_of_quiet hnd hQ fuel _ a' w' hw') (h.2 i hi)⟩
theorem wpInR_region_quiet {id : Nat} {Q : Exit → Act → World → Prop} {a : Act} {w : World} (hm : P.follows .mixedOrders = true) (hB : Region.lexB .any ops = true) (hnd : ops.all noDefer = true) (hC : C { w with drawn := w.drawn + 1 })
    (h : wpQuiet P ops C (fun a' => ∀ w', C w' → Q .normal a' w') ops.toList a) : (Code.region id ops true).wpIn (Fence.wide.inRound l) n P Q a w := by
  simp only [Region.lexB, Bool.and_eq_true] at hB
  refine wpIn_region_any hm (wpAnyInR_of_quiet (Q := fun a' => ∀ w', C w' → Q .normal a' w') hnd (fun _ w' hw' h => h w' hw') _ _ _ _ hC ?_)
  have := wpAnyQ_lex (C := C) (md := .any) hB.1 ops.toList 0 (Array.replicate ops.size false) a (by simp) (by simpa using hB.2) h
  simpa using this
theorem wpInR_region_grow {id : Nat} {Q : Exit → Act → World → Prop} {a : Act} {w : World} {L : List Oper} (hm : P.follows .mixedOrders = true) (hB : Region.lexB .any L.toArray = true) (hnd : L.toArray.all noDefer = true)
    (h : wpQuiet P L.toArray (fun w' => ∃ s, w' = grow w s) (fun a' => ∀ w', Below w.heap.size w w' → Q .normal a' w') L a) : (Code.region id L.toArray true).wpIn (Fence.wide.inRound l) n P Q a w := by
  have e : (fun a' => ∀ w', Below w.heap.size w w' → Q .normal a' w') = (fun a' => ∀ w', (∃ s, w' = grow w s) → Q .normal a' w') := by
    funext a'
    exact propext ⟨fun h w' ⟨s, hs⟩ => h w' (hs ▸ s.below), fun h w' hb => h w' ⟨⟨w', hb⟩, rfl⟩⟩
  rw [e] at h
  exact wpInR_region_quiet (C := fun w' => ∃ s, w' = grow w s) hm hB hnd ⟨⟨w.drew, (Below.refl _ _).drew⟩, rfl⟩ (by simpa using h)
end
end Go.Proofs.YtannhpadoooedaaGreatDoor

/- row: both, Add, Sub. -/
namespace Go.Proofs.YtannhpadoooedaaGreatDoor
open Num
open Go.ChangeShapes Go.WideShapes Go.ChangeAt Go.RowKit
attribute [local go_sem ↓] Go.wp_at_zero Go.wp_at_succ
set_option maxRecDepth 100000 in
set_option maxHeartbeats 4000000 in
theorem both_no (va vb : Value) (la lb : List Int) (F : Nat) (bnd caps : Array Value) (w : World) (ha : PRow 0 w va la) (hb : PRow 0 w vb lb) (hl : la.length ≤ 1099511627775) (hl2 : lb.length ≤ 1099511627775) (he : la.length ≠ lb.length) :
    Calls Tryz.prog 95 #[va, vb, .func (.func F) bnd caps] w fun e w' => e = .returned (.tuple #[.slice none 0 0, .int .i64 5]) ∧ Below w.heap.size w w' := by
  obtain ⟨aa, ca, rfl, -⟩ := ha
  obtain ⟨ab, cb, rfl, -⟩ := hb
  have hneI : ((la.length : Int) != (lb.length : Int)) = true := by simp; omega
  have hne : (la.length != lb.length) = true := by simp; omega
  have hB := Below.refl w.heap.size w
  clear he
  go_enter Tryz.func95, Tryz.ntmps95
  go_wp2
  go_ret2
  exact ⟨rfl, by repeat (first | exact Below.refl _ _ | exact hB | refine Below.drew ?_ | refine below_drewN ?_ _ | refine bset ?_ (by simp <;> omega) _ | refine bal ?_ _)⟩
end Go.Proofs.YtannhpadoooedaaGreatDoor

/- Ranges over functions whose told values lie in memory: what is told is known to be right where it is told. -/
namespace Go.Proofs.YtannhpadoooedaaGreatDoor
open Go.ChangeShapes Go.WideShapes Go.ChangeAt Go.RowKit
def IterV (P : Program) (gf : Nat) (lb : Array Value) (A : Nat → Array Value → World → Prop) (m : Nat) (Xs : Array Value → Nat → Prop) (Cl : World → World → Prop) (G : World → Prop) : Prop :=
  ∀ (l : Nat) (J Jx : Nat → World → Prop) (W : World), G W → (∀ k X Y, J k X → Cl X Y → KeepsOthers X Y → J k Y) → (∀ k X Y, Jx k X → Cl X Y → KeepsOthers X Y → Jx k Y) →
    (∀ k args X, k < m → J k X → A k args X → YieldAt Fence.wide 7 P l args X fun e Y => (e = .returned (.bool true) ∧ J (k + 1) Y ∧ OutT (Xs args) X Y) ∨ (e = .returned (.bool false) ∧ Jx (k + 1) Y)) →
    J 0 W → CallsIn Fence.wide 8 P gf (#[.func (.yield l) #[] #[]] ++ lb) W fun e Y => (∃ v, e = .returned v) ∧ (J m Y ∨ ∃ k, k ≤ m ∧ Jx k Y)
def postV (X0 : Nat → Prop) (I : Nat → World → Prop) (Ix : Code → Nat → World → Prop) (k : Nat) (X : World) : Exit → Act → World → Prop
  | .normal, _, Y => OutT X0 X Y ∧ I k Y
  | .ret, _, Y => OutT X0 X Y ∧ Ix .ret k Y
  | .exit id, _, Y => OutT X0 X Y ∧ Ix (.exit id) k Y
  | .goto t, _, Y => OutT X0 X Y ∧ Ix (.goto t) k Y
  | .panic _, _, _ => False
  | .outgrown, _, _ => False
theorem wp_rangeV {P : Program} {g : Operand} {ps : Array Tmp} {assign body : Code} {Q : Exit → Act → World → Prop} {a : Act} {w : World}
    {gf : Nat} {lb : Array Value} (hg : a.eval g = .func (.func gf) #[] lb) (eg : ∀ args w, (callFunc gf args).run P w = .ok (.enter gf args) w)
    {A : Nat → Array Value → World → Prop} {m : Nat} {Xs : Array Value → Nat → Prop} {Cl : World → World → Prop} {G : World → Prop} (hseq : IterV P gf lb A m Xs Cl G)
    (cA : ∀ (X : World) (o : Obj), w.heap.size ≤ X.heap.size → Cl X (X.alloc o))
    (cP : ∀ (X : World) (l : Nat) (o o' : Obj), w.heap.size ≤ l → X.heap[l]? = some o → o.isCells = false → o.isWalk = false → Cl X (X.putObj l o'))
    (hG : ∀ W, Below w.heap.size w W → G W) (hps : ∀ k args X, A k args X → args.size = ps.size)
    (I : Nat → World → Prop) (Ix : Code → Nat → World → Prop) (hI : ∀ k X Y, I k X → Cl X Y → I k Y) (hIx : ∀ c k X Y, Ix c k X → Cl X Y → Ix c k Y) (h0 : I 0 w)
    (Ax : Array Value → Nat → Array Value → Act → World → Prop) (hAx : ∀ k args a' (X : World) (l : Nat) (o o' : Obj), w.heap.size ≤ l → X.heap[l]? = some o → o.isCells = false → Ax a.tmps k args a' X → Ax a.tmps k args a' (X.putObj l o'))
    (hXs : ∀ k args X q, I k X → A k args X → Xs args q → ∃ o, X.heap[q]? = some o ∧ o.isCells = true)
    (hassign : ∀ (l k : Nat) (args : Array Value) (X : World) (K : Act → World → Prop), k < m → I k X → A k args X → (∀ a' Y, Below X.heap.size X Y → I k Y → Ax a.tmps k args a' Y → K a' Y) →
      assign.wpIn (Fence.wide.inRound l) 7 P (Exit.then K (fun _ _ _ => False)) { tmps := (ps.zip args).foldl (fun t (p, v) => t.setIfInBounds p v) a.tmps, defers := [] } X)
    (hbody : ∀ (l k : Nat) (args : Array Value) (a' : Act) (X : World), k < m → I k X → Ax a.tmps k args a' X → body.wpIn (Fence.wide.inRound l) 7 P (postV (Xs args) I Ix (k + 1) X) a' X)
    (hdone : ∀ (D : Nat) (Y : World), w.heap.size ≤ D → I m Y → Y.heap[D]? = some (.deferred (some [])) → Q .normal { a with defers := { target := .collected D, args := #[] } :: a.defers } Y)
    (hstop : ∀ (D : Nat) (c : Code) (k : Nat) (Y : World), w.heap.size ≤ D → k ≤ m → Ix c k Y → Y.heap[D]? = some (.deferred (some [])) → c.wp P Q { a with defers := { target := .collected D, args := #[] } :: a.defers } Y) :
    (Code.rangeFunc g ps assign body).wp P Q a w := by
  refine (wpIn_wide (n := 9)).1 (wpIn_rangeFunc fun fn hfn => ?_)
  -- the record of the loop, and the block for what is put off
  let R : LoopState → Option Code → Loop := fun st pe => { state := st, pending := pe, fn, tmps := a.tmps, params := ps, assign, body, defers := w.heap.size }
  have eR : ∀ st pe, R st pe = { state := st, pending := pe, fn, tmps := a.tmps, params := ps, assign, body, defers := w.heap.size } := fun _ _ => rfl
  generalize hl : w.heap.size + 1 = l
  have hlw : w.heap.size ≤ l := by omega
  let V : World := (w.alloc (.deferred (some []))).alloc (.loop (R .ready none))
  have rec0 : V.heap[l]? = some (.loop (R .ready none)) := by
    have h := World.alloc_heap_new (w.alloc (.deferred (some []))) (.loop (R .ready none))
    rw [World.size_alloc, hl] at h
    exact h
  have put0 : V.heap[w.heap.size]? = some (.deferred (some [])) := (Below.heap_alloc _ _ _ (by simp)).trans (World.alloc_heap_new w _)
  have bV : Below w.heap.size w V := bal (bal (Below.refl _ _) _) _
  refine ⟨l, [{ target := .collected w.heap.size, args := #[] }], V, { target := .fn (.func gf) lb, args := #[.func (.yield l) #[] #[]] }, V, gf, #[.func (.yield l) #[] #[]] ++ lb, V, ?_, ?_, fun f' _ => trivial, ?_, fun _ => by omega, ?_⟩
  · have h := run_enterLoop_outer (P := P) (w := w) fn a.tmps ps assign body
    rw [hl] at h
    exact h
  · simp only [resolve, hg]
    simp [go_sem]
  · simp [invoke, go_sem, eg]
  let J : Nat → World → Prop := fun k X => I k X ∧ X.heap[l]? = some (.loop (R .ready none)) ∧ X.heap[w.heap.size]? = some (.deferred (some []))
  let Jx : Nat → World → Prop := fun k X => ∃ c, Ix c k X ∧ X.heap[l]? = some (.loop (R .done (some c))) ∧ X.heap[w.heap.size]? = some (.deferred (some []))
  refine (hseq l J Jx V (hG V bV) ?_ ?_ ?_ ⟨hI 0 _ _ (hI 0 _ _ h0 (cA _ _ (Nat.le_refl _))) (cA _ _ (by simp)), rec0, put0⟩).mono ?_
  · rintro k X Y ⟨h1, h2, h3⟩ hc hk
    exact ⟨hI k X Y h1 hc, hk.same _ _ h2 rfl, hk.same _ _ h3 rfl⟩
  · rintro k X Y ⟨c, h1, h2, h3⟩ hc hk
    exact ⟨c, hIx c k X Y h1 hc, hk.same _ _ h2 rfl, hk.same _ _ h3 rfl⟩
  · -- one round
    rintro k args X hkm ⟨h1, h2, h3⟩ hA
    have nX : ∀ q o, X.heap[q]? = some o → o.isCells = false → ¬ Xs args q := fun q o hq ho hx => by
      obtain ⟨o', ho', hc⟩ := hXs k args X q h1 hA hx
      rw [hq] at ho'; cases ho'; rw [ho] at hc; cases hc
    have nl : ¬ Xs args l := nX _ _ h2 rfl
    have nd : ¬ Xs args w.heap.size := nX _ _ h3 rfl
    have hy := run_yield (P := P) (args := args) h2 (hps k args X hA)
    refine ⟨fn, _, assign, body, hy, roundIn_of_wpIn hfn (hassign l k args X _ hkm h1 hA ?_)⟩
    intro a' X1 hb i1 ax
    have hlX : l < X.heap.size := (Array.getElem?_eq_some_iff.1 h2).1
    have l1 : X1.heap[l]? = some (.loop (R .ready none)) := (hb.block _ hlX).trans h2
    have d1 : X1.heap[w.heap.size]? = some (.deferred (some [])) := (hb.block _ (Array.getElem?_eq_some_iff.1 h3).1).trans h3
    have hl1 : l < X1.heap.size := (Array.getElem?_eq_some_iff.1 l1).1
    refine ⟨_, run_beginRound l1 rfl, ?_⟩
    have cb : Cl X1 (X1.putObj l (.loop { R .ready none with state := .busy })) := cP _ _ _ _ hlw l1 rfl rfl
    have l2 : (X1.putObj l (.loop { R .ready none with state := .busy })).heap[l]? = some (.loop { R .ready none with state := .busy }) := World.putObj_heap_same hl1
    have o2 : ∀ b, b ≠ l → (X1.putObj l (.loop { R .ready none with state := .busy })).heap[b]? = X1.heap[b]? := fun b hb => World.putObj_heap_other hb
    have s2 : (X1.putObj l (.loop { R .ready none with state := .busy })).heap.size = X1.heap.size := by simp [World.putObj]
    refine wpIn_mono (hbody l k args a' _ hkm (hI k _ _ i1 cb) (hAx k args a' _ _ _ _ hlw l1 rfl ax)) ?_
    have fin : ∀ (jump : Option Code) (Y : World), OutT (Xs args) (X1.putObj l (.loop { R .ready none with state := .busy })) Y →
        (Instr.endRound l jump).run P Y = .ok (.bool jump.isNone) (Y.putObj l (.loop (R (if jump.isNone then .ready else .done) jump))) ∧ Cl Y (Y.putObj l (.loop (R (if jump.isNone then .ready else .done) jump))) ∧
        (Y.putObj l (.loop (R (if jump.isNone then .ready else .done) jump))).heap[l]? = some (.loop (R (if jump.isNone then .ready else .done) jump)) ∧ (Y.putObj l (.loop (R (if jump.isNone then .ready else .done) jump))).heap[w.heap.size]? = some (.deferred (some [])) := fun jump Y hoT => by
      have ho := hoT.1
      have lY : Y.heap[l]? = some (.loop { R .ready none with state := .busy }) := (ho.block _ (by rw [s2]; exact hl1) nl).trans l2
      refine ⟨run_endRound (P := P) jump lY, cP _ _ _ _ hlw lY rfl rfl, World.putObj_heap_same (Array.getElem?_eq_some_iff.1 lY).1, ?_⟩
      rw [World.putObj_heap_other (by omega), ho.block _ (by rw [s2]; exact (Array.getElem?_eq_some_iff.1 d1).1) nd, o2 _ (by omega), d1]
    rintro e a3 Y hp
    cases e with
    | normal =>
      obtain ⟨ho, i3⟩ := hp
      obtain ⟨hr, hc, e1, e2⟩ := fin none Y ho
      obtain ⟨ho, ht⟩ := ho
      refine ⟨_, _, hr, .inl ⟨rfl, ⟨hI _ _ _ i3 hc, e1, e2⟩, ⟨ho.os.trans hb.os, ho.tape.trans hb.tape, ho.output.trans hb.output, ?_, fun i hi hx => ?_⟩, fun q hq hqs => ?_⟩⟩
      · have := ho.size; have := hb.size; simp [World.putObj] at *; omega
      · by_cases e : i = l
        · subst e; exact e1.trans h2.symm
        · rw [World.putObj_heap_other e, ho.block _ (by rw [s2]; have := hb.size; omega) hx, o2 _ e, hb.block _ hi]
      · have e : q ≠ l := fun e => nl (e ▸ hq)
        have t1 : typOf (Y.putObj l (.loop (R (if (none : Option Code).isNone then .ready else .done) none))) q = typOf Y q := by unfold typOf; rw [World.putObj_heap_other e]
        have t2 := ht q hq (by rw [s2]; have := hb.size; omega)
        have t3 : typOf (X1.putObj l (.loop { R .ready none with state := .busy })) q = typOf X1 q := by unfold typOf; rw [o2 _ e]
        have t4 : typOf X1 q = typOf X q := by unfold typOf; rw [hb.block _ hqs]
        exact (t1.trans t2).trans (t3.trans t4)
    | ret =>
      obtain ⟨ho, i3⟩ := hp
      obtain ⟨hr, hc, e1, e2⟩ := fin (some .ret) Y ho
      exact ⟨_, _, hr, .inr ⟨rfl, .ret, hIx _ _ _ _ i3 hc, e1, e2⟩⟩
    | exit id =>
      obtain ⟨ho, i3⟩ := hp
      obtain ⟨hr, hc, e1, e2⟩ := fin (some (.exit id)) Y ho
      exact ⟨_, _, hr, .inr ⟨rfl, .exit id, hIx _ _ _ _ i3 hc, e1, e2⟩⟩
    | goto t =>
      obtain ⟨ho, i3⟩ := hp
      obtain ⟨hr, hc, e1, e2⟩ := fin (some (.goto t)) Y ho
      exact ⟨_, _, hr, .inr ⟨rfl, .goto t, hIx _ _ _ _ i3 hc, e1, e2⟩⟩
    | panic ch => exact hp.elim
    | outgrown => exact hp.elim
  · -- behind it
    rintro e Y ⟨⟨v, rfl⟩, h⟩
    rcases h with ⟨i1, l1, d1⟩ | ⟨k, hk, c, i1, l1, d1⟩
    · refine ⟨none, _, run_endLoop (P := P) l1 (by simp [R]), hdone _ _ (Nat.le_refl _) (hI _ _ _ i1 (cP _ _ _ _ hlw l1 rfl rfl)) ?_⟩
      rw [World.putObj_heap_other (by omega)]; exact d1
    · refine ⟨some c, _, run_endLoop (P := P) l1 (by simp [R]), wpIn_wide.2 (hstop _ c k _ (Nat.le_refl _) hk (hIx _ _ _ _ i1 (cP _ _ _ _ hlw l1 rfl rfl)) ?_)⟩
      rw [World.putObj_heap_other (by omega)]; exact d1
end Go.Proofs.YtannhpadoooedaaGreatDoor

/- exact: run on numbers, told to a loop's body. -/
namespace Go.Proofs.YtannhpadoooedaaGreatDoor
open Num
open Go.ChangeShapes Go.WideShapes Go.ChangeAt Go.RowKit
attribute [local go_sem ↓] Go.wp_at_zero Go.wp_at_succ
def toldN (code : List Ins) (r : List Int) (n : Nat) : Int :=
  match afterN code r n with
  | some s => (opI (code.getD n default) (s.getD (code.getD n default).a.toNat 0) (s.getD (code.getD n default).b.toNat 0)).getD 0
  | none => 0
theorem toldN_eq {code : List Ins} {r s : List Int} {n : Nat} {x : Int} (e : afterN code r n = some s) (e2 : opI (code.getD n default) (s.getD (code.getD n default).a.toNat 0) (s.getD (code.getD n default).b.toNat 0) = some x) : toldN code r n = x := by
  unfold toldN; rw [e]; dsimp only; rw [e2]; rfl
def AN (code : List Ins) (r : List Int) (k : Nat) (args : Array Value) (X : World) : Prop := ∃ v, args = #[.int .i64 (k : Int), v] ∧ IsInt X v (toldN code r k)
def YieldsV (l m : Nat) (X0 : Nat → Prop) (A : Nat → Array Value → World → Prop) (J Jx : Nat → World → Prop) : Prop :=
  ∀ k args X, k < m → J k X → A k args X → YieldAt Fence.wide 3 Tryz.prog l args X fun e Y => (e = .returned (.bool true) ∧ J (k + 1) Y ∧ OutT X0 X Y) ∨ (e = .returned (.bool false) ∧ Jx (k + 1) Y)
def RunYPost (m : Nat) (J Jx : Nat → World → Prop) (e : Ending) (w' : World) : Prop := (∃ q : Int, e = .returned (.int .i64 q)) ∧ (J m w' ∨ ∃ k, k ≤ m ∧ Jx k w')
set_option maxRecDepth 100000 in
set_option maxHeartbeats 16000000 in
theorem runY_c (l n0 M : Nat) (X0 : Nat → Prop) (J Jx : Nat → World → Prop) (hJ : ∀ k X Y, J k X → Below n0 X Y → KeepsOthers X Y → J k Y) (hX0 : ∀ q, X0 q → q < n0) (ins regs : Int) (ca oa : Option Addr) (cc ol oc : Nat) (code : List Ins) (r : List Int) (K rb : Nat) (w : World) (hc : InsV w ca cc code) (hcs : ∀ n, n < code.length → InsOk (code.getD n default) r.length) (hcl : code.length ≤ 16384) (hCs : Cs code) (hr128 : r.length ≤ 128)
    (hI : IntsF IsInt w rb 0 r.length (fun j => r.getD j 0)) (hF : Free w rb) (hT : typOf w rb = some 48) (hb : ∀ j, Bd K (r.getD j 0)) (hK : K ≤ 2147483648) (hne : ∀ b off, ca = some ⟨b, off, none⟩ → 0 < code.length → b ≠ rb ∧ ¬ X0 b) (hM : ToldM code r M) (hY : YieldsV l M X0 (AN code r) J Jx) (hn0 : n0 ≤ rb) (hXT : ∀ q, X0 q → typOf w q = some 3) (h00 : J 0 w) :
    Calls Tryz.prog 57 #[numV, .agg #[.int .i64 ins, .int .i64 regs, .slice ca code.length cc, .slice oa ol oc], .slice (some ⟨rb, 0, none⟩) r.length r.length, .func (.yield l) #[] #[]] w (RunYPost M J Jx) := by
  have HC := Lib.hid hc
  have HCS := Lib.hid hcs
  have HCs := Lib.hid hCs
  have HBD := Lib.hid hb
  have HYY := Lib.hid hY
  have HJ := Lib.hid hJ
  have HX0 := Lib.hid (And.intro hX0 hXT)
  have HM := Lib.hid hM
  have H00 := Lib.hid h00
  have HNE := Lib.hid hne
  have HI := Lib.hid (And.intro hI (And.intro hF hT))
  have zrb := hF.1
  clear hc hcs hCs hb hI hF hT hne hY hJ hX0 hXT hM h00
  have hB := Below.refl w.heap.size w
  unfold numV
  obtain ⟨R, hR⟩ : ∃ R, r.length = R := ⟨_, rfl⟩
  rw [hR] at HI HCS hr128 ⊢
  have HR := Lib.hid hR
  clear hR
  go_enter Tryz.func57, Tryz.ntmps57
  go_wp2
  go_step3
  go_wp2
  go_step3
  go_wp2
  refine wp_name fun w0 hW0 => ?_
  have f0 : w0.cell? ⟨w.heap.size, 0, none⟩ = some (.func (.func 101) #[] #[]) := by rw [hW0]; exact (by first | assumption | exact cell_new (by with_reducible first | rfl | (simp; done) | (simp; omega)) rfl | (repeat (first | assumption | exact cell_new (by with_reducible first | rfl | (simp; done) | (simp; omega)) rfl | refine cell_alloc ?_ _ | refine cell_drew ?_ | refine cell_drewN ?_ _ | refine cell_far ?_ (by simp) _ | (refine cell_far ?_ (by simp <;> omega) _))) | simp [go_sem, *])
  have zf0 := cell_lt f0
  have f1 : w0.cell? ⟨w.heap.size, 1, none⟩ = some (.func (.func 102) #[] #[]) := by rw [hW0]; exact (by first | assumption | exact cell_new (by with_reducible first | rfl | (simp; done) | (simp; omega)) rfl | (repeat (first | assumption | exact cell_new (by with_reducible first | rfl | (simp; done) | (simp; omega)) rfl | refine cell_alloc ?_ _ | refine cell_drew ?_ | refine cell_drewN ?_ _ | refine cell_far ?_ (by simp) _ | (refine cell_far ?_ (by simp <;> omega) _))) | simp [go_sem, *])
  have f2 : w0.cell? ⟨w.heap.size, 2, none⟩ = some (.func (.func 103) #[] #[]) := by rw [hW0]; exact (by first | assumption | exact cell_new (by with_reducible first | rfl | (simp; done) | (simp; omega)) rfl | (repeat (first | assumption | exact cell_new (by with_reducible first | rfl | (simp; done) | (simp; omega)) rfl | refine cell_alloc ?_ _ | refine cell_drew ?_ | refine cell_drewN ?_ _ | refine cell_far ?_ (by simp) _ | (refine cell_far ?_ (by simp <;> omega) _))) | simp [go_sem, *])
  have f3 : w0.cell? ⟨w.heap.size, 3, none⟩ = some (.func (.func 96) #[] #[]) := by rw [hW0]; exact (by first | assumption | exact cell_new (by with_reducible first | rfl | (simp; done) | (simp; omega)) rfl | (repeat (first | assumption | exact cell_new (by with_reducible first | rfl | (simp; done) | (simp; omega)) rfl | refine cell_alloc ?_ _ | refine cell_drew ?_ | refine cell_drewN ?_ _ | refine cell_far ?_ (by simp) _ | (refine cell_far ?_ (by simp <;> omega) _))) | simp [go_sem, *])
  have f4 : w0.cell? ⟨w.heap.size, 4, none⟩ = some (.func (.func 104) #[] #[]) := by rw [hW0]; exact (by first | assumption | exact cell_new (by with_reducible first | rfl | (simp; done) | (simp; omega)) rfl | (repeat (first | assumption | exact cell_new (by with_reducible first | rfl | (simp; done) | (simp; omega)) rfl | refine cell_alloc ?_ _ | refine cell_drew ?_ | refine cell_drewN ?_ _ | refine cell_far ?_ (by simp) _ | (refine cell_far ?_ (by simp <;> omega) _))) | simp [go_sem, *])
  have p2 : w0.cell? ⟨w.heap.size + 1, 2, none⟩ = some (.slice ca code.length cc) := by rw [hW0]; exact (by first | assumption | exact cell_new (by with_reducible first | rfl | (simp; done) | (simp; omega)) rfl | (repeat (first | assumption | exact cell_new (by with_reducible first | rfl | (simp; done) | (simp; omega)) rfl | refine cell_alloc ?_ _ | refine cell_drew ?_ | refine cell_drewN ?_ _ | refine cell_far ?_ (by simp) _ | (refine cell_far ?_ (by simp <;> omega) _))) | simp [go_sem, *])
  have zp2 := cell_lt p2
  have hB : Below w.heap.size w w0 := by rw [hW0]; repeat (first | exact Below.refl _ _ | exact hB | refine Below.drew ?_ | refine below_drewN ?_ _ | refine bset ?_ (by simp <;> omega) _ | refine bal ?_ _)
  have hz : w.heap.size ≤ w0.heap.size := hB.size
  clear hW0
  have HP := Lib.hid (show ∀ W, Out (fun k => k = rb ∨ X0 k) w0 W → W.cell? ⟨w.heap.size, 0, none⟩ = some (.func (.func 101) #[] #[]) ∧ W.cell? ⟨w.heap.size, 1, none⟩ = some (.func (.func 102) #[] #[]) ∧ W.cell? ⟨w.heap.size, 2, none⟩ = some (.func (.func 103) #[] #[]) ∧ W.cell? ⟨w.heap.size, 3, none⟩ = some (.func (.func 96) #[] #[]) ∧ W.cell? ⟨w.heap.size, 4, none⟩ = some (.func (.func 104) #[] #[]) ∧ W.cell? ⟨w.heap.size + 1, 2, none⟩ = some (.slice ca code.length cc) from fun W h =>
    have hne : ¬ (w.heap.size = rb ∨ X0 w.heap.size) := fun h => by rcases h with h | h; (omega); (have := HX0.out.1 _ h; omega)
    have hne1 : ¬ (w.heap.size + 1 = rb ∨ X0 (w.heap.size + 1)) := fun h => by rcases h with h | h; (omega); (have := HX0.out.1 _ h; omega)
    ⟨okeep h f0 hne, okeep h f1 hne, okeep h f2 hne, okeep h f3 hne, okeep h f4 hne, okeep h p2 hne1⟩)
  have hO0 := Out.of_below (fun k => k = rb ∨ X0 k) hB
  clear f0 f1 f2 f3 f4 p2
  go_loopw [16] (fun x wr => ∃ n : Nat, n ≤ code.length ∧ x = .int .i64 n ∧ Out (fun k => k = rb ∨ X0 k) w0 wr ∧ Hid (∃ s, afterN code r n = some s ∧ IntsF IsInt wr rb 0 R (fun j => s.getD j 0) ∧ Free wr rb ∧ typOf wr rb = some 48) ∧ n ≤ M ∧ Hid (J n wr) ∧ Hid (∀ q, X0 q → typOf wr q = some 3)) (fun x _ => code.length - (intOf x).toNat)
  case atStart => exact ⟨0, Nat.zero_le _, rfl, Out.refl _ _, Lib.hid ⟨r, rfl, HI.out.1.keep lims_int hB, HI.out.2.1.keep hB, typ_keep HI.out.2.2 hB⟩, Nat.zero_le _, Lib.hid (HJ.out 0 _ _ H00.out (hB.mono (by omega)) (out_others (Out.of_below (fun _ => False) hB) fun _ h => h.elim)), Lib.hid fun q hq => typ_keep (HX0.out.2 q hq) hB⟩
  case round =>
    obtain ⟨n, hn, rfl, hOr, hrel, hnM, hJn, hXt⟩ := hrel
    obtain ⟨s, hs, hI, hF, hT⟩ := hrel.out
    have HS := Lib.hid (And.intro hs (And.intro hI (And.intro hF hT)))
    have hOw : Out (fun k => k = rb ∨ X0 k) w wr := hO0.trans hOr
    have hsl := afterN_len hs
    have hbd := afterN_bd HBD.out HCs.out hn hs
    have HBN := Lib.hid (And.intro hsl hbd)
    have hz0 : w0.heap.size ≤ wr.heap.size := hOr.size
    obtain ⟨f0, f1, f2, f3, f4, p2⟩ := HP.out wr hOr
    clear hs hI hF hT hsl hbd hrel
    by_cases hlt : n < code.length
    · have hltI : (n : Int) < (code.length : Int) := by omega
      rcases HC.out with h0 | ⟨cb, co, rfl, hcap, hcell⟩
      · rw [h0] at hlt; simp at hlt
      have hcb : ¬ (cb = rb ∨ X0 cb) := fun h => by rcases h with h | h; exact (HNE.out cb co rfl (by omega)).1 h; exact (HNE.out cb co rfl (by omega)).2 h
      obtain ⟨q0, q1, q2, q3, q4⟩ := hcell n hlt
      replace q0 := okeep hOw q0 hcb
      replace q1 := okeep hOw q1 hcb
      replace q2 := okeep hOw q2 hcb
      replace q3 := okeep hOw q3 hcb
      replace q4 := okeep hOw q4 hcb
      have zq := cell_lt q0
      have zf := cell_lt f0
      have zp := cell_lt p2
      have hio := HCS.out n hlt
      have dc := fun W (k : Below wr.heap.size wr W) => doN_c (code.getD n default) (K + 65 * n) rb R (fun j => s.getD j 0) W (HS.out.2.1.keep lims_int k) hio (fun j _ => HBN.out.2 j) (by omega) hr128
      have HNX := Lib.hid (fun (s : List Int) (e : afterN code r n = some s) => afterN_succ e)
      have t0 := hio.t0
      have t1 := hio.t1
      obtain ⟨Z, hZ⟩ : ∃ Z, opI (code.getD n default) (s.getD (code.getD n default).a.toNat 0) (s.getD (code.getD n default).b.toNat 0) = Z := ⟨_, rfl⟩
      rw [hZ] at dc
      have HZ := Lib.hid hZ
      obtain ⟨i, hi⟩ : ∃ i, i = code.getD n default := ⟨_, rfl⟩
      rw [← hi] at q0 q1 q2 q3 q4 dc t0 t1
      have HIN := Lib.hid hi
      clear hi hcell hio hZ
      obtain ⟨op, it, ia, ib, ic⟩ := i
      dsimp only at q0 q1 q2 q3 q4 t0 t1
      obtain ⟨nt, rfl⟩ : ∃ x : Nat, it = x := ⟨it.toNat, by omega⟩
      have t1' : nt < R := by omega
      unfold Ins.v numV at dc
      dsimp only at dc
      unfold AnsP at dc
      have hBw := Below.refl wr.heap.size wr
      cases Z with
      | none =>
        dsimp only at dc
        go_wp2_with fail
        refine (dc _ belA).mono ?_
        rintro e w5 ⟨⟨v5, x5, rfl, hi5⟩, hb5⟩
        have hB5 : Below wr.heap.size wr w5 := bthen belA hb5
        obtain ⟨n5, a5, c5, l5, rfl, -⟩ := hi5
        unfold iv at *
        clear dc
        go_wp2
        go_ret
        have hfa : afterN code r (n + 1) = none := by rw [HNX.out s HS.out.1, HZ.out]; rfl
        obtain rfl : n = M := HM.out.eq hfa hnM
        have hB6 : Below wr.heap.size wr (w5.alloc (.cells #[.bool n5, .slice a5 l5.length c5] 48)) := bal hB5 _
        exact ⟨⟨_, rfl⟩, .inl (HJ.out _ _ _ hJn.out (hB6.mono (by omega)) (out_others (Out.of_below (fun _ => False) hB6) fun _ h => h.elim))⟩
      | some z =>
        dsimp only at dc
        go_wp2_with fail
        refine (dc _ belA).mono ?_
        rintro e w5 ⟨⟨v5, rfl, hi5⟩, hb5⟩
        have i1 : w5.cell? ⟨wr.heap.size, 1, none⟩ = some (.int .i64 nt) := bkeep hb5 (by first | exact cell_new rfl rfl | exact cell_drew (cell_new rfl rfl))
        have hB5 : Below wr.heap.size wr w5 := bthen belA hb5
        have HV5 := Lib.hid hi5
        obtain ⟨n5, a5, c5, l5, rfl, -⟩ := hi5
        unfold iv at *
        clear dc
        have hI5 := HS.out.2.1.keep lims_int hB5
        have hF5 := HS.out.2.2.1.keep hB5
        obtain ⟨nx, ax, lx, cx, o0, o1, -⟩ := hI5.at0 t1'
        have of0 := hF5.2 (nt * 2)
        have of1 := hF5.2 (nt * 2 + 1)
        have zo := cell_lt o0
        have zi := cell_lt i1
        have HI5 := Lib.hid (And.intro hI5 (And.intro hF5 (typ_keep HS.out.2.2.2 hB5)))
        clear hI5 hF5
        have hN : Hid (∀ W, W = ((w5.setCell ⟨rb, nt * 2, none⟩ (.bool n5)).setCell ⟨rb, nt * 2 + 1, none⟩ (.slice a5 l5.length c5)).alloc (.cells #[.bool n5, .slice a5 l5.length c5] 48) → IntsF IsInt W rb 0 R (fun j => (s.set nt z).getD j 0) ∧ Free W rb ∧ typOf W rb = some 48 ∧ IsInt W (.agg #[.bool n5, .slice a5 l5.length c5]) z ∧ Out (fun k => k = rb ∨ X0 k) w0 W ∧ W.cell? ⟨w5.heap.size, 0, none⟩ = some (.bool n5) ∧ W.cell? ⟨w5.heap.size, 1, none⟩ = some (.slice a5 l5.length c5) ∧ Out (fun k => k = rb) wr W) := Lib.hid fun W hW => by
          subst hW
          have ka : Below ((w5.setCell ⟨rb, nt * 2, none⟩ (.bool n5)).setCell ⟨rb, nt * 2 + 1, none⟩ (.slice a5 l5.length c5)).heap.size ((w5.setCell ⟨rb, nt * 2, none⟩ (.bool n5)).setCell ⟨rb, nt * 2 + 1, none⟩ (.slice a5 l5.length c5)) (((w5.setCell ⟨rb, nt * 2, none⟩ (.bool n5)).setCell ⟨rb, nt * 2 + 1, none⟩ (.slice a5 l5.length c5)).alloc (.cells #[.bool n5, .slice a5 l5.length c5] 48)) := bal (Below.refl _ _) _
          have oa : Out (fun k => k = rb ∨ X0 k) w0 ((w5.setCell ⟨rb, nt * 2, none⟩ (.bool n5)).setCell ⟨rb, nt * 2 + 1, none⟩ (.slice a5 l5.length c5)) := Out.set (Out.set (hOr.below hB5) (p := ⟨rb, nt * 2, none⟩) (fun _ => Or.inl rfl) _) (p := ⟨rb, nt * 2 + 1, none⟩) (fun _ => Or.inl rfl) _
          have ob : Out (fun k => k = rb) wr ((w5.setCell ⟨rb, nt * 2, none⟩ (.bool n5)).setCell ⟨rb, nt * 2 + 1, none⟩ (.slice a5 l5.length c5)) := Out.set (Out.set (Out.of_below (fun k => k = rb) hB5) (p := ⟨rb, nt * 2, none⟩) (fun _ => rfl) _) (p := ⟨rb, nt * 2 + 1, none⟩) (fun _ => rfl) _
          refine ⟨((IntsF.store0 lims_int HI5.out.1 t1' HV5.out).keep lims_int ka).congr fun j hj => ?_, ((HI5.out.2.1.set _ _).set _ _).keep ka, typ_keep (by rw [typ_set, typ_set]; exact HI5.out.2.2) ka, ((HV5.out).lim (Lim.set2 o0 o1 _ _)).keep ka, oa.below ka, cell_new (by simp) rfl, cell_new (by simp) rfl, ob.below ka⟩
          by_cases e : j = nt
          · subst e; simp [HBN.out.1, HR.out, t1']
          · have : (s.set nt z)[j]? = s[j]? := List.getElem?_set_ne (fun h => e h.symm)
            simp [e, List.getD_eq_getElem?_getD, this]
        have HST := Lib.hid (show afterN code r (n + 1) = some (s.set nt z) by rw [HNX.out s HS.out.1, HZ.out, ← HIN.out, Option.map_some]; dsimp only; rw [Int.toNat_natCast])
        go_upto_region 8 with (fail)
        refine wp_name fun w6 hW6 => ?_
        have HN6 := Lib.hid (hN.out w6 hW6)
        have y0 := HN6.out.2.2.2.2.2.1
        have y1 := HN6.out.2.2.2.2.2.2.1
        have z6 := cell_lt y0
        have hO8 := HN6.out.2.2.2.2.2.2.2
        have hTW := HS.out.2.2.2
        have hlM : n < M := HM.out.lt hlt HST.out hnM
        have hJ6 : J n w6 := HJ.out _ _ _ hJn.out (hO8.to_below (fun q hq _ e => by omega) (by omega)) (out_others hO8 fun q hq _ => by subst hq; exact typ_cells hTW)
        have hX6 : ∀ q, X0 q → typOf w6 q = some 3 := fun q hq => typ_outK (hXt.out q hq) hO8 (fun e => by have := HX0.out.1 q hq; omega)
        have HTO := Lib.hid (toldN_eq HS.out.1 HZ.out)
        have HA6 : AN code r n #[.int .i64 (n : Int), .agg #[.bool n5, .slice a5 l5.length c5]] w6 := ⟨_, rfl, by rw [HTO.out]; exact HN6.out.2.2.2.1⟩
        obtain ⟨fn, tmps, asg, body, hy, hRd⟩ := HYY.out n _ w6 hlM hJ6 HA6
        have HX6 := Lib.hid hX6
        clear hW6 hN o0 o1 of0 of1 i1 HI5 HV5 q0 q1 q2 q3 q4 f0 f1 f2 f3 f4 p2 hO8 hTW hJ6 hX6 HTO HA6
        refine (wpIn_wide (n := 4)).1 ?_
        gi_wp2
        refine hRd.mono ?_
        rintro e W3 (⟨rfl, hJ3, ho3, ht3⟩ | ⟨rfl, hx3⟩)
        · have hk : Kp (· ≠ 3) w6 W3 := Kp.out ho3 (fun q t hq ht hne => by rw [HX6.out q hq] at ht; exact hne (Option.some.inj ht).symm)
          have hnr : ¬ X0 rb := fun h => by have := HX0.out.1 rb h; omega
          have HNEXT := Lib.hid (show ∃ s', afterN code r (n + 1) = some s' ∧ IntsF IsInt W3 rb 0 R (fun j => s'.getD j 0) ∧ Free W3 rb ∧ typOf W3 rb = some 48 from ⟨_, HST.out, HN6.out.1.stay lims_int (hk rb _ HN6.out.2.2.1 (by decide)) (hk.lim (by decide)), HN6.out.2.1.out ho3 hnr, hk.typ HN6.out.2.2.1 (by decide)⟩)
          have hO7 : Out (fun k => k = rb ∨ X0 k) w0 W3 := HN6.out.2.2.2.2.1.trans (ho3.mono fun _ _ h => .inr h)
          have HX7 := Lib.hid (show ∀ q, X0 q → typOf W3 q = some 3 from fun q hq => (ht3 q hq (typ_lt (HX6.out q hq))).trans (HX6.out q hq))
          have HJ7 := Lib.hid hJ3
          clear HN6 y0 y1 hk hy hRd hJ3 ho3 ht3
          gi_wp2
          go_wp2
          exact ⟨⟨n + 1, by omega, by go_num, hO7, HNEXT, by omega, HJ7, HX7⟩, by simp [intOf]; omega⟩
        · have HX7 := Lib.hid hx3
          clear HN6 y0 y1 hy hRd hx3
          gi_wp2
          go_wp2
          go_ret
          exact ⟨⟨_, rfl⟩, .inr ⟨n + 1, by omega, HX7.out⟩⟩
    · obtain rfl : n = code.length := by omega
      go_wp2
      go_ret
      obtain rfl : M = code.length := Nat.le_antisymm HM.out.le hnM
      exact ⟨⟨_, rfl⟩, .inl hJn.out⟩
end Go.Proofs.YtannhpadoooedaaGreatDoor

/- exact: Trace: what its iterator tells. -/
namespace Go.Proofs.YtannhpadoooedaaGreatDoor
open Num
open Go.ChangeShapes Go.WideShapes Go.ChangeAt Go.RowKit
attribute [local go_sem ↓] Go.wp_at_zero Go.wp_at_succ
section
variable {n0 : Nat} {X0 : Nat → Prop} {pb xb : Nat} {ins regs : Int} {ca oa : Option Addr} {cc oc : Nat} {code : List Ins} {outs : List Int} {v : Value} {l : List Int} {W W' : World}
set_option maxRecDepth 100000 in
set_option maxHeartbeats 8000000 in
theorem trace_yes {M K : Nat} (hok : ProgOk ins regs code outs) (hle : (l.length : Int) = ins) (hM : ToldM code (startN l regs.toNat) M) (hb : ∀ j, Bd K (l.getD j 0)) (hK : K ≤ 2147483648) :
    IterV Tryz.prog 60 #[.pointer (some ⟨pb, 0, none⟩), .pointer (some ⟨xb, 0, none⟩)] (AN code (startN l regs.toNat)) M (fun _ => X0) (Below n0) (TraceIn n0 X0 pb xb ins regs ca oa cc oc code outs v l) := by
  intro y J Jx W hG hJ hJx hY h0
  refine callsIn_wide.2 ?_
  show Calls Tryz.prog 60 #[.func (.yield y) #[] #[], .pointer (some ⟨pb, 0, none⟩), .pointer (some ⟨xb, 0, none⟩)] W _
  have kr := fun V (h : Below W.heap.size W V) => right_c ins regs ca oa cc oc code outs l.length V (hG.hc.keep h) (hG.ho.keep h)
  have HJ := Lib.hid (fun V (h : Below W.heap.size W V) => hJ 0 W V h0 (h.mono hG.le) (others_of_below h))
  have HJJ := Lib.hid hJ
  have HY := Lib.hid (show YieldsV y M X0 (AN code (startN l regs.toNat)) J Jx from fun k args X hk hj ha => yieldAt_wide (hY k args X hk hj ha))
  have HG := Lib.hid hG
  have HOK := Lib.hid hok
  have HM := Lib.hid hM
  have HBD := Lib.hid hb
  obtain ⟨R, hR⟩ : ∃ R : Nat, regs = R := ⟨regs.toNat, by have := hok.i1; have := hok.i2; omega⟩
  have hlR : l.length ≤ R := by have := hok.i2; omega
  have hR128 : R ≤ 128 := by have := hok.r1; omega
  have p0 := hG.p0
  have p1 := hG.p1
  have p2 := hG.p2
  have p3 := hG.p3
  have x0 := hG.x0
  have hn0 := hG.le
  obtain ⟨va, vc, rfl, -⟩ := hG.hv
  have zp0 := cell_lt p0
  have zx0 := cell_lt x0
  have HLE := Lib.hid hle
  clear hG hJ hJx hY h0 hok hle hM hb
  subst hR
  rw [Int.toNat_natCast] at HY HM
  have hB := Below.refl W.heap.size W
  go_enter Tryz.func60, Tryz.ntmps60
  go_wp2_with fail
  refine (kr _ belA).mono ?_
  rintro e w1 ⟨hp, hb1⟩
  have hB1 : Below W.heap.size W w1 := bthen belA hb1
  clear kr
  rcases hp with ⟨h1, rfl⟩ | ⟨h1, h2, rfl⟩ | ⟨h1, h2, rfl⟩
  · exact absurd HOK.out h1
  · exact absurd HLE.out h2
  · clear h1 h2
    replace p0 := bkeep hB1 p0
    replace p1 := bkeep hB1 p1
    replace p2 := bkeep hB1 p2
    replace p3 := bkeep hB1 p3
    replace x0 := bkeep hB1 x0
    have zp1 := cell_lt p0
    have zx1 := cell_lt x0
    have hmk := mkInts R (by omega)
    go_wp2_with (refine copy_ints (o := ⟨some 15, _, _, _, _, _⟩) (g := w1.heap.size) (R := R) (ad := va) (l := l) (c := vc) (base := 0) rfl rfl rfl rfl (HG.out.hv.keep lims_int (bal hB1 _)) hlR (MapKept.heap_alloc w1 _).1 ?_)
    intro nn w2 hI2 hF2 hT2 hO2
    have hO1 : Out (fun k => k = w1.heap.size) w1 w2 := ((Out.refl _ w1).alloc _).trans hO2
    have hB2 : Below W.heap.size W w2 := hB1.trans (hO1.to_below (fun q hq _ e => by have := hB1.size; omega) hB1.size)
    have HP := Lib.hid (show ∀ V, Below w2.heap.size w2 V → V.cell? ⟨pb, 0, none⟩ = some (.int .i64 ins) ∧ V.cell? ⟨pb, 1, none⟩ = some (.int .i64 (R : Int)) ∧ V.cell? ⟨pb, 2, none⟩ = some (.slice ca code.length cc) ∧ V.cell? ⟨pb, 3, none⟩ = some (.slice oa outs.length oc) from fun V h => by
      have hG := HG.out.keep (bthen hB2 h)
      exact ⟨hG.p0, hG.p1, hG.p2, hG.p3⟩)
    have HI2 := Lib.hid (And.intro hI2 (And.intro hF2 hT2))
    have HSL := Lib.hid (startN_len hlR)
    have hsz : W.heap.size ≤ w1.heap.size := hB1.size
    have rx := fun V (k : Below w2.heap.size w2 V) => runY_c y n0 M X0 J Jx HJJ.out HG.out.lt ins (R : Int) ca oa cc outs.length oc code (startN l R) K w1.heap.size V (HG.out.hc.keep (bthen hB2 k)) (fun n hn => by rw [HSL.out]; exact ins_of HOK.out hn) HOK.out.c1 (cs_of HOK.out) (by rw [HSL.out]; exact hR128) (by rw [HSL.out]; exact HI2.out.1.keep lims_int k) (HI2.out.2.1.keep k) (typ_keep HI2.out.2.2 k) (fun j => by
      by_cases e : j < l.length
      · rw [startN_lt e]; exact HBD.out j
      · rw [startN_ge (by omega)]; exact bd_zero) hK (fun b off e hl => ⟨fun e2 => by
      rcases HG.out.hc with h0 | ⟨b', off', h1, _, h3⟩
      · rw [h0] at hl; simp at hl
      · rw [e] at h1; cases h1
        have := cell_lt (h3 0 hl).c0
        omega, HG.out.nc b off e hl⟩) HM.out HY.out (by omega) (fun q hq => (HG.out.keep (bthen hB2 k)).ty q hq) (HJ.out V (bthen hB2 k))
    rw [HSL.out] at rx
    have RX := Lib.hid rx
    clear hI2 hF2 hT2 hO2 hmk p0 p1 p2 p3 x0 rx
    obtain ⟨p0, p1, p2, p3⟩ := HP.out w2 (Below.refl _ _)
    have zp2 := cell_lt p0
    have hBc := Below.refl w2.heap.size w2
    go_wp2
    go_region_law (go_simp; go_wp2_with (first
      | (go_at_call 58; refine (numbers_c _).mono ?_; rintro e w3 ⟨rfl, hb3⟩; (have hBd : Below w2.heap.size w2 w3 := bthen belA hb3; clear hBc; have hBc := hBd; clear hBd); obtain ⟨p0, p1, p2, p3⟩ := HP.out w3 hBc; have zp3 := cell_lt p0)
      | (go_at_call 57; refine (RX.out _ ?_).mono ?_; (repeat (first | exact Below.refl _ _ | exact hBc | refine Below.drew ?_ | refine below_drewN ?_ _ | refine bset ?_ (by simp <;> omega) _ | refine bal ?_ _)); rintro e w4 ⟨⟨q, rfl⟩, hres⟩; have HRES := Lib.hid hres; clear hres)
      | fail))
    all_goals
      go_wp2
      refine bodyPost_end (results_none rfl _ _ _) rfl ?_
      exact ⟨⟨_, rfl⟩, HRES.out⟩
end
end Go.Proofs.YtannhpadoooedaaGreatDoor

/- ExactFollows: what exact's functions answer, told together; helpers. -/
namespace Go.Proofs.YtannhpadoooedaaGreatDoor
open Num
open Go.ChangeShapes Go.WideShapes Go.ChangeAt Go.RowKit
theorem RunV.low {w0 X Y : World} {ib k : Nat} (h : RunV w0 ib k X) (hi : ib < w0.heap.size) (c : Below w0.heap.size X Y) : RunV w0 ib k Y :=
  ⟨(c.cell (p := ⟨ib, 0, none⟩) hi).trans h.i0, by rw [World.frozen?_of_block (w := X) (c.block ib hi)]; exact h.i0f, by unfold typOf; rw [c.block ib hi]; exact h.ty, out_low h.out c⟩
theorem RunV.step {w0 X Y : World} {ib k : Nat} (h : RunV w0 ib k X) (hb : Below X.heap.size X Y) : RunV w0 ib (k + 1) (Y.setCell ⟨ib, 0, none⟩ (.int .i64 ((k : Int) + 1))) ∧ OutT (fun q => q = ib) X (Y.setCell ⟨ib, 0, none⟩ (.int .i64 ((k : Int) + 1))) := by
  have i1 := bkeep hb h.i0
  have o1 : Out (fun q => q = ib) X (Y.setCell ⟨ib, 0, none⟩ (.int .i64 ((k : Int) + 1))) := Out.set (Out.of_below (fun q => q = ib) hb) (p := ⟨ib, 0, none⟩) (fun _ => rfl) _
  refine ⟨⟨cell_here i1 _, by rw [World.frozen?_setCell]; exact bkeepf hb h.i0 h.i0f, by rw [typ_set]; exact typ_keep h.ty hb, h.out.trans o1⟩, o1, fun q hq hl => ?_⟩
  rw [typ_set]; unfold typOf; rw [hb.block q hl]
section
variable {W : World} {a : Option Addr} {n c B i q : Nat} {gs : List (List Int × Nat × Nat)}
end
end Go.Proofs.YtannhpadoooedaaGreatDoor

/- integer: Sum; row: Dot. -/
namespace Go.Proofs.YtannhpadoooedaaGreatDoor
open Num
open Go.ChangeShapes Go.WideShapes Go.ChangeAt Go.RowKit
attribute [local go_sem ↓] Go.wp_at_zero Go.wp_at_succ
def sumL (l : List Int) : Int := l.foldl (· + ·) 0
theorem sumL_snoc (l : List Int) (x : Int) : sumL (l ++ [x]) = sumL l + x := by simp [sumL]
theorem sumL_take {l : List Int} {j : Nat} (hj : j < l.length) : sumL (l.take (j + 1)) = sumL (l.take j) + l.getD j 0 := by
  rw [List.take_succ_eq_append_getElem hj, sumL_snoc]; simp [hj]
theorem sumL_bd {l : List Int} {k : Nat} (h : ∀ j, Bd k (l.getD j 0)) : ∀ j, j ≤ l.length → Bd (k + j) (sumL (l.take j)) := by
  intro j
  induction j with
  | zero => intro _; exact bd_zero
  | succ j ih =>
    intro hj
    rw [sumL_take (by omega)]
    exact (Bd.add (ih (by omega)) ((h j).mono (by omega))).mono (by omega)
def dotL (a b : List Int) : Int := sumL (List.zipWith (fun x y => x * y) a b)
set_option maxRecDepth 100000 in
set_option maxHeartbeats 4000000 in
theorem sum_c (v : Value) (l : List Int) (k : Nat) (w : World) (hv : PRow 0 w v l) (hl : l.length ≤ 1099511627775) (hb : ∀ j, Bd k (l.getD j 0)) (hk : k + l.length ≤ 17179869184) :
    Calls Tryz.prog 97 #[v] w fun e w' => (∃ u, e = .returned u ∧ IsInt w' u (sumL l)) ∧ Below w.heap.size w w' := by
  have HV := Lib.hid hv
  have HBD := Lib.hid hb
  obtain ⟨va, vc, rfl, -⟩ := hv
  clear hb
  have hB := Below.refl w.heap.size w
  go_enter Tryz.func97, Tryz.ntmps97
  go_wp2
  refine wp_name fun w0 hW0 => ?_
  have hB0 : Below w.heap.size w w0 := by rw [hW0]; repeat (first | exact Below.refl _ _ | exact hB | refine Below.drew ?_ | refine below_drewN ?_ _ | refine bset ?_ (by simp <;> omega) _ | refine bal ?_ _)
  have HR0 := Lib.hid (show w0.cell? ⟨w.heap.size, 0, none⟩ = some (.bool false) ∧ w0.cell? ⟨w.heap.size, 1, none⟩ = some (.slice none 0 0) ∧ w0.frozen? ⟨w.heap.size, 0, none⟩ = false ∧ w0.frozen? ⟨w.heap.size, 1, none⟩ = false from by rw [hW0]; simp [go_sem])
  have HM0 := Lib.hid (show VarI (w.heap.size + 1) 0 w0 from by rw [hW0]; exact ⟨typ_fresh (by simp), false, none, 0, 0, by simp [go_sem], by simp [go_sem], by simp [go_sem], by simp [go_sem], isInt_zero _⟩)
  clear hW0
  go_loopw [8] (fun x wr => ∃ j : Nat, j ≤ l.length ∧ x = .int .i64 j ∧ Below w.heap.size w wr ∧ Hid (wr.cell? ⟨w.heap.size, 0, none⟩ = some (.bool false) ∧ wr.cell? ⟨w.heap.size, 1, none⟩ = some (.slice none 0 0) ∧ wr.frozen? ⟨w.heap.size, 0, none⟩ = false ∧ wr.frozen? ⟨w.heap.size, 1, none⟩ = false) ∧ Hid (VarI (w.heap.size + 1) (sumL (l.take j)) wr)) (fun x _ => l.length - (intOf x).toNat)
  case atStart => exact ⟨0, Nat.zero_le _, rfl, hB0, HR0, HM0⟩
  case round =>
    obtain ⟨j, hj, rfl, hBr, HR, hM⟩ := hrel
    obtain ⟨-, n0, a0, ln0, c0, m0, m1, m0f, m1f, hi0⟩ := hM.out
    obtain ⟨r0, r1, r0f, r1f⟩ := HR.out
    have HI0 := Lib.hid hi0
    have zm := cell_lt m0
    have zr := cell_lt r0
    have HR' := HR
    clear hi0 HR
    by_cases hlt : j < l.length
    · have hltI : (j : Int) < (l.length : Int) := by omega
      obtain ⟨a', c', he, -, vr⟩ := (HV.out.keep lims_int hBr).view
      obtain ⟨rfl, -, rfl⟩ := Value.slice.inj he
      obtain ⟨b, off, n2, a2, l2, cc2, rfl, d0, d1, hi⟩ := vr j hlt
      have HW := Lib.hid (sumL_take hlt)
      have bs := sumL_bd HBD.out j (by omega)
      have bj := (HBD.out j).mono (show k ≤ k + j by omega)
      obtain ⟨x, hx⟩ : ∃ x, l.getD j 0 = x := ⟨_, rfl⟩
      rw [hx] at hi HW bj
      obtain ⟨m, hm⟩ : ∃ m, sumL (l.take j) = m := ⟨_, rfl⟩
      rw [hm] at HI0 HW hM bs
      have zd := cell_lt d0
      have ac := fun W (h : Below wr.heap.size wr W) => addI_c _ _ m x (k + j) W (HI0.out.keep h) (hi.keep h) bs bj (by omega)
      clear hx hm he vr hi
      have hBw := Below.refl wr.heap.size wr
      go_wp2_with fail
      refine (ac _ belA).mono ?_
      rintro e w2 ⟨⟨u, rfl, hu⟩, hb2⟩
      have hb2' : Below wr.heap.size wr w2 := bthen belA hb2
      have HU := Lib.hid hu
      obtain ⟨nu, au, cu, lu, rfl, -⟩ := hu
      unfold iv at *
      have HV2 := Lib.hid ((hM.out.keep hb2').put HU.out)
      replace r0f := bkeepf hb2' r0 r0f
      replace r1f := bkeepf hb2' r1 r1f
      replace m0f := bkeepf hb2' m0 m0f
      replace m1f := bkeepf hb2' m1 m1f
      replace r0 := bkeep hb2' r0
      replace r1 := bkeep hb2' r1
      replace m0 := bkeep hb2' m0
      replace m1 := bkeep hb2' m1
      have hB2 := bthen hBr hb2'
      clear ac d0 d1 bs bj hb2
      go_wp2
      refine ⟨⟨j + 1, by omega, by go_num, bset (bset hB2 (by show w.heap.size ≤ w.heap.size + 1; omega) _) (by show w.heap.size ≤ w.heap.size + 1; omega) _, Lib.hid ⟨cell_far (cell_far r0 (addr_ne (by omega)) _) (addr_ne (by omega)) _, cell_far (cell_far r1 (addr_ne (by omega)) _) (addr_ne (by omega)) _, ?_, ?_⟩, Lib.hid (by rw [HW.out]; exact HV2.out)⟩, by simp [intOf]; omega⟩
      · rw [World.frozen?_setCell, World.frozen?_setCell]; exact r0f
      · rw [World.frozen?_setCell, World.frozen?_setCell]; exact r1f
    · obtain rfl : j = l.length := by omega
      rw [List.take_length] at HI0
      have hp := Lib.hid (HI0.out.put2 r0 r1)
      go_wp2
      refine bodyPost_ret (v := .agg #[.bool n0, .slice a0 ln0 c0]) (by simp [results, Tryz.results97, go_sem, *]) rfl ⟨⟨_, rfl, hp.out _ _⟩, ?_⟩
      repeat (first | exact Below.refl _ _ | exact hBr | refine Below.drew ?_ | refine below_drewN ?_ _ | refine bset ?_ (by simp <;> omega) _ | refine bal ?_ _)
theorem zip_bd {la lb : List Int} {k m : Nat} (ba : ∀ j, Bd k (la.getD j 0)) (bb : ∀ j, Bd m (lb.getD j 0)) : ∀ j, Bd (k + m) ((List.zipWith (fun x y => x * y) la lb).getD j 0) := fun j => by
  by_cases h : j < la.length ∧ j < lb.length
  · rw [zip_getD h.1 h.2]; exact Bd.mul (ba j) (bb j)
  · rw [List.getD_eq_getElem?_getD, List.getElem?_eq_none (by simp; omega)]; exact bd_zero
set_option maxRecDepth 100000 in
set_option maxHeartbeats 2000000 in
theorem dot_c (va vb : Value) (la lb : List Int) (k m : Nat) (w : World) (ha : PRow 0 w va la) (hb : PRow 0 w vb lb) (hl : la.length ≤ 1099511627775) (he : la.length = lb.length) (ba : ∀ j, Bd k (la.getD j 0)) (bb : ∀ j, Bd m (lb.getD j 0)) (hk : k + m + la.length ≤ 17179869184) :
    Calls Tryz.prog 52 #[va, vb] w fun e w' => (∃ u, e = .returned (.tuple #[u, .int .i64 0]) ∧ IsInt w' u (dotL la lb)) ∧ Below w.heap.size w w' := by
  have eF : Enters Tryz.prog 96 := ens Tryz.func96 (by kernel_rfl) rfl
  have hz : (List.zipWith (fun x y => x * y) la lb).length = la.length := by rw [List.length_zipWith]; omega
  have bc := fun W (hB : Below w.heap.size w W) => both_yes va vb la lb (List.zipWith (fun x y => x * y) la lb) 96 #[] #[] W (ha.keep lims_int hB) (hb.keep lims_int hB) hl he hz eF (fun j W1 u1 u2 hj _ h1 h2 => by
    have hc := mul_c u1 u2 (la.getD j 0) (lb.getD j 0) k m W1 h1 h2 (ba j) (bb j) (by omega) (by omega)
    rw [zip_getD hj (by omega)]
    exact hc)
  have HBC := Lib.hid bc
  have HZB := Lib.hid (zip_bd ba bb)
  have HZ := Lib.hid hz
  obtain ⟨aa, ca, rfl, -⟩ := ha
  obtain ⟨ab, cb, rfl, -⟩ := hb
  obtain ⟨L, hL⟩ : ∃ L, List.zipWith (fun x y => x * y) la lb = L := ⟨_, rfl⟩
  unfold dotL
  rw [hL] at HBC HZB HZ ⊢
  clear bc hz eF ba bb he hL
  have hB := Below.refl w.heap.size w
  go_enter Tryz.func52, Tryz.ntmps52
  go_wp2_with fail
  refine (HBC.out _ belA).mono ?_
  rintro e w1 ⟨⟨u, rfl, hu⟩, hb1⟩
  have r0 : w1.cell? ⟨w.heap.size, 0, none⟩ = some (.bool false) := bkc hb1
  have zr0 := cell_lt r0
  have r0f : w1.frozen? ⟨w.heap.size, 0, none⟩ = false := bkcf (v := .bool false) hb1
  have r1 : w1.cell? ⟨w.heap.size, 1, none⟩ = some (.slice none 0 0) := bkc hb1
  have r1f : w1.frozen? ⟨w.heap.size, 1, none⟩ = false := bkcf (v := .slice none 0 0) hb1
  have hB : Below w.heap.size w w1 := bthen belA hb1
  have hz : w.heap.size ≤ w1.heap.size := hB.size
  have sc := fun W (h : Below w1.heap.size w1 W) => sum_c u L (k + m) W ((hu.row.rebase (Nat.zero_le _)).keep lims_int h) (by rw [HZ.out]; omega) HZB.out (by rw [HZ.out]; omega)
  obtain ⟨ua, un, uc, rfl⟩ : ∃ a n c, u = Value.slice a n c := by obtain ⟨a, c, h⟩ := hu.ex; exact ⟨a, _, c, h⟩
  have hw1 := Below.refl w1.heap.size w1
  clear HBC hu
  go_wp2_with fail
  refine (sc _ belA).mono ?_
  rintro e w2 ⟨⟨u2, rfl, hu2⟩, hb2⟩
  have r0 : w2.cell? ⟨w.heap.size, 0, none⟩ = some (.bool false) := bkc hb2
  have zr0 := cell_lt r0
  have r0f : w2.frozen? ⟨w.heap.size, 0, none⟩ = false := bkcf (v := .bool false) hb2
  have r1 : w2.cell? ⟨w.heap.size, 1, none⟩ = some (.slice none 0 0) := bkc hb2
  have r1f : w2.frozen? ⟨w.heap.size, 1, none⟩ = false := bkcf (v := .slice none 0 0) hb2
  have hB : Below w.heap.size w w2 := bthen belA hb2
  have hz : w.heap.size ≤ w2.heap.size := hB.size
  have hp := Lib.hid (hu2.put2 r0 r1)
  obtain ⟨n2, a2, c2, l2, rfl, -⟩ := hu2
  unfold iv at *
  clear sc
  go_wp2
  refine bodyPost_ret (v := .tuple #[.agg #[.bool n2, .slice a2 l2.length c2], .int .i64 0]) (by simp [results, Tryz.results52, go_sem, *]) rfl ⟨⟨_, rfl, hp.out _ _⟩, ?_⟩
  repeat (first | exact Below.refl _ _ | exact hB | refine Below.drew ?_ | refine below_drewN ?_ _ | refine bset ?_ (by simp <;> omega) _ | refine bal ?_ _)
set_option maxRecDepth 100000 in
set_option maxHeartbeats 2000000 in
theorem dot_no (va vb : Value) (la lb : List Int) (w : World) (ha : PRow 0 w va la) (hb : PRow 0 w vb lb) (hl : la.length ≤ 1099511627775) (hl2 : lb.length ≤ 1099511627775) (he : la.length ≠ lb.length) :
    Calls Tryz.prog 52 #[va, vb] w fun e w' => (∃ u, e = .returned (.tuple #[u, .int .i64 5]) ∧ IsInt w' u 0) ∧ Below w.heap.size w w' := by
  have bc := fun W (hB : Below w.heap.size w W) => both_no va vb la lb 96 #[] #[] W (ha.keep lims_int hB) (hb.keep lims_int hB) hl hl2 he
  obtain ⟨aa, ca, rfl, -⟩ := ha
  obtain ⟨ab, cb, rfl, -⟩ := hb
  clear he
  have hB := Below.refl w.heap.size w
  go_enter Tryz.func52, Tryz.ntmps52
  go_wp2_with fail
  refine (bc _ belA).mono ?_
  rintro e w1 ⟨rfl, hb1⟩
  have r0 : w1.cell? ⟨w.heap.size, 0, none⟩ = some (.bool false) := bkc hb1
  have zr0 := cell_lt r0
  have r0f : w1.frozen? ⟨w.heap.size, 0, none⟩ = false := bkcf (v := .bool false) hb1
  have r1 : w1.cell? ⟨w.heap.size, 1, none⟩ = some (.slice none 0 0) := bkc hb1
  have r1f : w1.frozen? ⟨w.heap.size, 1, none⟩ = false := bkcf (v := .slice none 0 0) hb1
  have hB : Below w.heap.size w w1 := bthen belA hb1
  have hz : w.heap.size ≤ w1.heap.size := hB.size
  have sc := fun W (h : Below w1.heap.size w1 W) => sum_c (.slice none 0 0) [] 0 W (IsRow.nil _ _ _ _) (by simp) (fun j => by simp [bd_zero]) (by simp)
  have hw1 := Below.refl w1.heap.size w1
  clear bc
  go_wp2_with fail
  refine (sc _ belA).mono ?_
  rintro e w2 ⟨⟨u2, rfl, hu2⟩, hb2⟩
  have r0 : w2.cell? ⟨w.heap.size, 0, none⟩ = some (.bool false) := bkc hb2
  have zr0 := cell_lt r0
  have r0f : w2.frozen? ⟨w.heap.size, 0, none⟩ = false := bkcf (v := .bool false) hb2
  have r1 : w2.cell? ⟨w.heap.size, 1, none⟩ = some (.slice none 0 0) := bkc hb2
  have r1f : w2.frozen? ⟨w.heap.size, 1, none⟩ = false := bkcf (v := .slice none 0 0) hb2
  have hB : Below w.heap.size w w2 := bthen belA hb2
  have hz : w.heap.size ≤ w2.heap.size := hB.size
  have hp := Lib.hid (hu2.put2 r0 r1)
  obtain ⟨n2, a2, c2, l2, rfl, -⟩ := hu2
  unfold iv at *
  clear sc
  go_wp2
  refine bodyPost_ret (v := .tuple #[.agg #[.bool n2, .slice a2 l2.length c2], .int .i64 5]) (by simp [results, Tryz.results52, go_sem, *]) rfl ⟨⟨_, rfl, hp.out _ _⟩, ?_⟩
  repeat (first | exact Below.refl _ _ | exact hB | refine Below.drew ?_ | refine below_drewN ?_ _ | refine bset ?_ (by simp <;> omega) _ | refine bal ?_ _)
end Go.Proofs.YtannhpadoooedaaGreatDoor

/- exact: Made. -/
namespace Go.Proofs.YtannhpadoooedaaGreatDoor
open Num
open Go.ChangeShapes Go.WideShapes Go.ChangeAt Go.RowKit
attribute [local go_sem ↓] Go.wp_at_zero Go.wp_at_succ
def dotsG (g : Grid) (c : List Int) : List Int := g.map fun l => dotL l c
theorem dotsG_len (g : Grid) (c : List Int) : (dotsG g c).length = g.length := by simp [dotsG]
theorem dotsG_get (g : Grid) (c : List Int) (k : Nat) : (dotsG g c).getD k 0 = dotL (g.getD k []) c := by
  unfold dotsG
  by_cases h : k < g.length
  · simp [h]
  · rw [List.getD_eq_getElem?_getD, List.getElem?_eq_none (by simp; omega), List.getD_eq_getElem?_getD, List.getElem?_eq_none (by omega)]; simp [dotL, sumL]
def MadePost (g : Grid) (c : List Int) (w : World) (e : Ending) (w' : World) : Prop :=
  (((∀ i, i < g.length → (g.getD i []).length = c.length) ∧ ∃ u, e = .returned (.tuple #[u, .int .i64 0]) ∧ RowO IsInt 48 w.heap.size w' u (dotsG g c)) ∨
   ((∃ i, i < g.length ∧ (g.getD i []).length ≠ c.length) ∧ e = .returned (.tuple #[.slice none 0 0, .int .i64 5]))) ∧ Below w.heap.size w w'
set_option maxRecDepth 100000 in
set_option maxHeartbeats 8000000 in
theorem exMade_c (vg vc : Value) (g : Grid) (c : List Int) (k m : Nat) (w : World) (hg : GridV w vg g) (hc : PRow 0 w vc c) (hgl : g.length ≤ 1099511627775) (hr : ∀ i, i < g.length → (g.getD i []).length ≤ 1099511627775) (hcl : c.length ≤ 1099511627775) (hb : BdG k g) (bc : ∀ j, Bd m (c.getD j 0)) (hk : k + m + c.length ≤ 17179869184) :
    Calls Tryz.prog 50 #[vg, vc] w (MadePost g c w) := by
  have HG := Lib.hid hg
  have HC := Lib.hid hc
  have HR := Lib.hid hr
  have HBD := Lib.hid (And.intro hb bc)
  obtain ⟨ga, gc, rfl, hgc, -⟩ := hg.view
  obtain ⟨ca, cc, rfl, -⟩ := hc
  clear hg hr hb bc
  have hB := Below.refl w.heap.size w
  go_enter Tryz.func50, Tryz.ntmps50
  go_wp2
  refine wp_name fun w1 hW1 => ?_
  have hB1 : Below w.heap.size w w1 := by rw [hW1]; repeat (first | exact Below.refl _ _ | exact hB | refine Below.drew ?_ | refine below_drewN ?_ _ | refine bset ?_ (by simp <;> omega) _ | refine bal ?_ _)
  clear hW1
  go_loopw [6, 13] (fun v x wr => ∃ j : Nat, j ≤ g.length ∧ x = .int .i64 j ∧ Hid (OwnF IsInt 48 w1 wr v j (fun i => dotL (g.getD i []) c)) ∧ Hid (∀ i, i < j → (g.getD i []).length = c.length)) (fun _ x _ => g.length - (intOf x).toNat)
  case atStart => exact ⟨0, Nat.zero_le _, rfl, Lib.hid (OwnF.nil _ _ _ (Below.refl _ _)), Lib.hid (fun i hi => by omega)⟩
  case round =>
    obtain ⟨j, hj, rfl, hF, hA⟩ := hrel
    have hbr := hF.out.bel
    obtain ⟨fa, fc, hfv⟩ : ∃ a c, _ = Value.slice a j c := by obtain ⟨a, c, h, _⟩ := hF.out.view; exact ⟨a, c, h⟩
    subst hfv
    have hBr := bthen hB1 hbr
    by_cases hlt : j < g.length
    · have hltI : (j : Int) < (g.length : Int) := by omega
      obtain ⟨a', c', he, -, vr⟩ := (HG.out.keep (prs_row lims_int _ _) hBr).view
      obtain ⟨rfl, -, rfl⟩ := Value.slice.inj he
      obtain ⟨b, off, u, rfl, d0, hru⟩ := vr j hlt
      rw [show (g[j]'hlt) = g.getD j [] by simp [hlt]] at hru
      have hlr := HR.out j hlt
      have hbr' := HBD.out.1 j
      have HSN := Lib.hid (show ∀ q z, z = dotL (g.getD j []) c → q < j + 1 → (fun i => if i = j then z else dotL (g.getD i []) c) q = dotL (g.getD q []) c from fun q z hz hq => by dsimp only; split; (subst_vars; rfl); rfl)
      have HAN := Lib.hid (show (g.getD j []).length = c.length → ∀ i, i < j + 1 → (g.getD i []).length = c.length from fun h i hi => by
        by_cases e : i = j
        · subst e; exact h
        · exact hA.out i (by omega))
      have HNO := Lib.hid (show (g.getD j []).length ≠ c.length → ∃ i, i < g.length ∧ (g.getD i []).length ≠ c.length from fun h => ⟨j, hlt, h⟩)
      obtain ⟨l, hl⟩ : ∃ l, g.getD j [] = l := ⟨_, rfl⟩
      rw [hl] at hru hlr hbr' HSN HAN HNO
      have zd := cell_lt d0
      have hBw := Below.refl wr.heap.size wr
      have HHR := Lib.hid hru
      have HBR := Lib.hid hbr'
      clear he vr hl hbr'
      by_cases hlc : l.length = c.length
      · have HAN' := Lib.hid (HAN.out hlc)
        have dc := fun W (h : Below wr.heap.size wr W) => dot_c u (.slice ca c.length cc) l c k m W (HHR.out.keep lims_int h) ((HC.out.keep lims_int hBr).keep lims_int h) hlr hlc HBR.out HBD.out.2 (by omega)
        obtain ⟨ua, uc, rfl, -⟩ := hru
        obtain ⟨z, hz⟩ : ∃ z, dotL l c = z := ⟨_, rfl⟩
        rw [hz] at dc HSN
        clear hlc HNO HAN hz
        go_wp2_with fail
        refine (dc _ belA).mono ?_
        rintro e w2 ⟨⟨v2, rfl, hv2⟩, hb2⟩
        have hb2' : Below wr.heap.size wr w2 := bthen belA hb2
        have HV2 := Lib.hid hv2
        obtain ⟨n2, a2, c2, l2, rfl, -⟩ := hv2
        unfold iv at *
        clear dc hb2 d0
        go_upto_region 8 with (fail)
        refine wp_name fun w3 hW3 => ?_
        have hb23 : Below w2.heap.size w2 w3 := by
          rw [hW3]
          have hBq := Below.refl w2.heap.size w2
          repeat (first | exact Below.refl _ _ | exact hBq | refine Below.drew ?_ | refine below_drewN ?_ _ | refine bset ?_ (by simp <;> omega) _ | refine bal ?_ _)
        have q0 : w3.cell? ⟨w2.heap.size, 0, none⟩ = some (.bool n2) := by rw [hW3]; simp [go_sem]
        have q1 : w3.cell? ⟨w2.heap.size, 1, none⟩ = some (.slice a2 l2.length c2) := by rw [hW3]; simp [go_sem]
        have zq := cell_lt q0
        have hF3 := Lib.hid (hF.out.below lims_int (bthen hb2' hb23))
        have HV3 := Lib.hid (HV2.out.keep hb23)
        clear hW3
        go_wp2_with (at_builtin; refine app_num elInt (by decide) lims_int (by rfl) (by rfl) hF3.out HV3.out (by rfl) (by rfl) (by omega) ?_)
        intro v' w8 hF8 _ _
        have HF8 := Lib.hid (hF8.congr' (fun i hi => HSN.out i _ rfl hi))
        clear hF8
        go_wp2
        exact ⟨⟨j + 1, by omega, by go_num, HF8, HAN'⟩, by simp [intOf]; omega⟩
      · have HNO' := Lib.hid (HNO.out hlc)
        have dc := fun W (h : Below wr.heap.size wr W) => dot_no u (.slice ca c.length cc) l c W (HHR.out.keep lims_int h) ((HC.out.keep lims_int hBr).keep lims_int h) hlr hcl hlc
        obtain ⟨ua, uc, rfl, -⟩ := hru
        clear hlc HNO HAN HSN
        go_wp2_with fail
        refine (dc _ belA).mono ?_
        rintro e w2 ⟨⟨v2, rfl, hv2⟩, hb2⟩
        have hb2' : Below wr.heap.size wr w2 := bthen belA hb2
        obtain ⟨n2, a2, c2, l2, rfl, -⟩ := hv2
        unfold iv at *
        have hB2 := bthen hBr hb2'
        clear dc hb2
        go_wp2
        go_ret2
        exact ⟨.inr ⟨HNO'.out, rfl⟩, by repeat (first | exact Below.refl _ _ | exact hB2 | refine Below.drew ?_ | refine below_drewN ?_ _ | refine bset ?_ (by simp <;> omega) _ | refine bal ?_ _)⟩
    · obtain rfl : j = g.length := by omega
      have HFIN := Lib.hid (show RowO IsInt 48 w.heap.size wr (.slice fa g.length fc) (dotsG g c) from by
        refine RowO.rebase (OwnF.rowO (w0 := w1) (l := dotsG g c) ?_) hB1.size
        rw [dotsG_len]
        exact hF.out.congr' (fun k hk => (dotsG_get g c k).symm))
      go_wp2
      go_ret2
      exact ⟨.inl ⟨hA.out, _, rfl, HFIN.out⟩, hBr⟩
end Go.Proofs.YtannhpadoooedaaGreatDoor

/- exact, in plain Lean: what a program makes of what a grid makes of numbers. -/
namespace Go.Proofs.YtannhpadoooedaaGreatDoor
open Num
theorem foldl_add (l : List Int) (a : Int) : l.foldl (· + ·) a = a + l.foldl (· + ·) 0 := by
  induction l generalizing a with
  | nil => simp
  | cons x l ih => rw [List.foldl_cons, ih, List.foldl_cons, ih (0 + x)]; omega
theorem sumL_cons (x : Int) (l : List Int) : sumL (x :: l) = x + sumL l := by unfold sumL; rw [List.foldl_cons, foldl_add]; omega
theorem dotL_cons (x y : Int) (a b : List Int) : dotL (x :: a) (y :: b) = x * y + dotL a b := by unfold dotL; rw [List.zipWith_cons_cons, sumL_cons]
theorem dotL_zero (n : Nat) (c : List Int) : dotL (List.replicate n 0) c = 0 := by
  induction n generalizing c with
  | zero => simp [dotL, sumL]
  | succ n ih =>
    cases c with
    | nil => simp [dotL, sumL]
    | cons y c => rw [List.replicate_succ, dotL_cons, ih]; omega
theorem dot_lin {P : Int → Int → Int → Prop} (h0 : P 0 0 0) (ha : ∀ u v w u' v' w', P u v w → P u' v' w' → P (u + u') (v + v') (w + w')) (hs : ∀ u v w x, P u v w → P (u * x) (v * x) (w * x)) :
    ∀ (c a b r : List Int), a.length = c.length → b.length = c.length → r.length = c.length → (∀ k, k < c.length → P (a.getD k 0) (b.getD k 0) (r.getD k 0)) → P (dotL a c) (dotL b c) (dotL r c) := by
  intro c
  induction c with
  | nil =>
    intro a b r h1 h2 h3 _
    obtain rfl := List.length_eq_zero_iff.1 h1
    obtain rfl := List.length_eq_zero_iff.1 h2
    obtain rfl := List.length_eq_zero_iff.1 h3
    exact h0
  | cons y c ih =>
    intro a b r h1 h2 h3 h
    match a, b, r, h1, h2, h3 with
    | x1 :: a, x2 :: b, x3 :: r, h1, h2, h3 =>
      rw [dotL_cons, dotL_cons, dotL_cons]
      refine ha _ _ _ _ _ _ (hs _ _ _ y (by simpa using h 0 (by simp))) (ih a b r (by simpa using h1) (by simpa using h2) (by simpa using h3) fun k hk => ?_)
      have := h (k + 1) (by simp; omega)
      simpa using this
def opRel (i : Ins) (u v w : Int) : Prop :=
  if i.op = 2 then w = -u
  else if i.op = 3 then w = u + v
  else if i.op = 4 then w = u - v
  else if i.op = 5 then w = u * i.c
  else if i.op = 6 then u = w * i.c
  else if i.op = 7 then w = u * 2 ^ i.c.toNat
  else if i.op = 8 then u = w * 2 ^ i.c.toNat
  else w = u
theorem opRel_of {i : Ins} {u v w : Int} (h : opI i u v = some w) : opRel i u v w := by
  unfold opI at h
  unfold opRel
  split
  · rename_i e; rw [if_pos e] at h; cases h; rfl
  rename_i e2; rw [if_neg e2] at h
  split
  · rename_i e; rw [if_pos e] at h; cases h; rfl
  rename_i e3; rw [if_neg e3] at h
  split
  · rename_i e; rw [if_pos e] at h; cases h; rfl
  rename_i e4; rw [if_neg e4] at h
  split
  · rename_i e; rw [if_pos e] at h; cases h; rfl
  rename_i e5; rw [if_neg e5] at h
  split
  · rename_i e; rw [if_pos e] at h
    split at h
    · rename_i hm; cases h; exact (Int.ediv_mul_cancel (Int.dvd_of_emod_eq_zero hm)).symm
    · cases h
  rename_i e6; rw [if_neg e6] at h
  split
  · rename_i e; rw [if_pos e] at h; cases h; rfl
  rename_i e7; rw [if_neg e7] at h
  split
  · rename_i e; rw [if_pos e] at h
    split at h
    · rename_i hm; cases h; exact (Int.ediv_mul_cancel (Int.dvd_of_emod_eq_zero hm)).symm
    · cases h
  rename_i e8; rw [if_neg e8] at h
  cases h; rfl
theorem pow2_ne (n : Nat) : (2 : Int) ^ n ≠ 0 := Int.pow_ne_zero (by omega)
theorem opRel_to {i : Ins} {u v w : Int} (hc : i.op = 6 → i.c ≠ 0) (h : opRel i u v w) : opI i u v = some w := by
  unfold opRel at h
  unfold opI
  split
  · rename_i e; rw [if_pos e] at h; rw [h]
  rename_i e2; rw [if_neg e2] at h
  split
  · rename_i e; rw [if_pos e] at h; rw [h]
  rename_i e3; rw [if_neg e3] at h
  split
  · rename_i e; rw [if_pos e] at h; rw [h]
  rename_i e4; rw [if_neg e4] at h
  split
  · rename_i e; rw [if_pos e] at h; rw [h]
  rename_i e5; rw [if_neg e5] at h
  split
  · rename_i e; rw [if_pos e] at h
    rw [h, if_pos (Int.mul_emod_left w i.c), Int.mul_ediv_cancel w (hc e)]
  rename_i e6; rw [if_neg e6] at h
  split
  · rename_i e; rw [if_pos e] at h; rw [h]
  rename_i e7; rw [if_neg e7] at h
  split
  · rename_i e; rw [if_pos e] at h
    rw [h, if_pos (Int.mul_emod_left w _), Int.mul_ediv_cancel w (pow2_ne _)]
  rename_i e8; rw [if_neg e8] at h
  rw [h]
theorem opRel_add (i : Ins) (u v w u' v' w' : Int) (h : opRel i u v w) (h' : opRel i u' v' w') : opRel i (u + u') (v + v') (w + w') := by
  unfold opRel at *
  repeat' split at h
  all_goals simp_all
  all_goals first | omega | (rw [Int.add_mul])
theorem opRel_mul (i : Ins) (u v w x : Int) (h : opRel i u v w) : opRel i (u * x) (v * x) (w * x) := by
  unfold opRel at *
  repeat' split at h
  all_goals simp_all
  all_goals first | (rw [Int.neg_mul]; done) | (rw [Int.add_mul]; done) | (rw [Int.sub_mul]; done) | (rw [Int.mul_right_comm]; done) | omega
theorem opRel_zero (i : Ins) : opRel i 0 0 0 := by unfold opRel; repeat' split <;> simp
theorem stepR_dot {i : Ins} {a b r c : List Int} (h : stepR i a b = some r) (ha : a.length = c.length) (hb : b.length = c.length) (hc : i.op = 6 → i.c ≠ 0) : opI i (dotL a c) (dotL b c) = some (dotL r c) := by
  refine opRel_to hc (dot_lin (P := opRel i) (opRel_zero i) (opRel_add i) (opRel_mul i) c a b r ha hb ((stepR_len h).trans ha) fun k hk => ?_)
  exact opRel_of (stepR_get h k (by omega))
theorem dotsG_set (g : Grid) (k : Nat) (r c : List Int) : dotsG (g.set k r) c = (dotsG g c).set k (dotL r c) := by unfold dotsG; rw [List.map_set]
theorem dotsG_start {g : Grid} {c : List Int} {R m : Nat} : dotsG (startG g R m) c = startN (dotsG g c) R := by
  unfold dotsG startG startN
  rw [List.map_append, List.map_replicate, dotL_zero, List.length_map]
section
variable {code : List Ins} {G : Grid} {c : List Int} {R m : Nat}
theorem after_dot (hr : Rect m G) (hl : G.length = R) (hm : c.length = m) (hi : ∀ n, n < code.length → InsOk (code.getD n default) R) : ∀ {n : Nat} {h : Grid}, n ≤ code.length → after code G n = some h → afterN code (dotsG G c) n = some (dotsG h c) := by
  intro n
  induction n with
  | zero => intro h _ e; cases e; rfl
  | succ n ih =>
    intro h hn e
    cases e1 : after code G n with
    | none => rw [after_mono e1 (show n ≤ n + 1 by omega)] at e; cases e
    | some g1 =>
      have hio := hi n (by omega)
      have hR := after_rect hr hl (fun n hn => by have := (hi n hn).a0; have := (hi n hn).a1; omega) (show n ≤ code.length by omega) e1
      have hl1 : g1.length = R := by rw [after_len e1, hl]
      rw [after, e1, Option.bind_some] at e
      obtain ⟨r, h2, rfl⟩ := Option.map_eq_some_iff.1 e
      have hc6 : (code.getD n default).op = 6 → (code.getD n default).c ≠ 0 := fun e6 => by
        have := hio.c
        rw [constB_mul (.inr e6)] at this
        exact (of_decide_eq_true this).1
      have hA := hR (code.getD n default).a.toNat (by rw [hl1]; have := hio.a0; have := hio.a1; omega)
      have hBb := hR (code.getD n default).b.toNat (by rw [hl1]; have := hio.b0; have := hio.b1; omega)
      rw [afterN_succ (ih (by omega) e1), dotsG_get, dotsG_get, stepR_dot h2 (hA.trans hm.symm) (hBb.trans hm.symm) hc6, Option.map_some, dotsG_set]
theorem told_dot (hr : Rect m G) (hl : G.length = R) (hm : c.length = m) (hi : ∀ n, n < code.length → InsOk (code.getD n default) R) {h : Grid} (e : after code G code.length = some h) {k : Nat} (hk : k < code.length) : toldN code (dotsG G c) k = dotL (toldR code G k) c := by
  cases e1 : after code G k with
  | none => rw [after_mono e1 (show k ≤ code.length by omega)] at e; cases e
  | some g1 =>
    cases e2 : stepR (code.getD k default) (g1.getD (code.getD k default).a.toNat []) (g1.getD (code.getD k default).b.toNat []) with
    | none =>
      have : after code G (k + 1) = none := by rw [after, e1, Option.bind_some, e2]; rfl
      rw [after_mono this (show k + 1 ≤ code.length by omega)] at e; cases e
    | some r =>
      have hio := hi k hk
      have hR := after_rect hr hl (fun n hn => by have := (hi n hn).a0; have := (hi n hn).a1; omega) (show k ≤ code.length by omega) e1
      have hl1 : g1.length = R := by rw [after_len e1, hl]
      have hc6 : (code.getD k default).op = 6 → (code.getD k default).c ≠ 0 := fun e6 => by
        have := hio.c
        rw [constB_mul (.inr e6)] at this
        exact (of_decide_eq_true this).1
      have hA := hR (code.getD k default).a.toNat (by rw [hl1]; have := hio.a0; have := hio.a1; omega)
      have hBb := hR (code.getD k default).b.toNat (by rw [hl1]; have := hio.b0; have := hio.b1; omega)
      rw [toldR_eq e1 e2]
      exact toldN_eq (after_dot hr hl hm hi (by omega) e1) (by rw [dotsG_get, dotsG_get]; exact stepR_dot e2 (hA.trans hm.symm) (hBb.trans hm.symm) hc6)
end
theorem outsN_dot (outs : List Int) (h : Grid) (c : List Int) : outsN outs (dotsG h c) = dotsG (outsG outs h) c := by
  have e : dotsG (outsG outs h) c = outs.map fun k => dotL (h.getD k.toNat []) c := by unfold dotsG outsG; rw [List.map_map]; rfl
  rw [e]
  unfold outsN
  apply List.map_congr_left
  intro k _
  exact dotsG_get h c k.toNat
theorem dotL_bd {a b : List Int} {k m n : Nat} (ha : ∀ j, Bd k (a.getD j 0)) (hb : ∀ j, Bd m (b.getD j 0)) (hn : b.length ≤ n) : Bd (k + m + n) (dotL a b) := by
  have h := sumL_bd (zip_bd ha hb) (List.zipWith (fun x y => x * y) a b).length (Nat.le_refl _)
  rw [List.take_length] at h
  exact h.mono (by rw [List.length_zipWith]; omega)
end Go.Proofs.YtannhpadoooedaaGreatDoor

/- Numbers as a grid of one column. -/
namespace Go.Proofs.YtannhpadoooedaaGreatDoor
open Num
open Go.ChangeShapes Go.WideShapes Go.ChangeAt Go.RowKit
def colOf (l : List Int) : Grid := l.map fun x => [x]
theorem colOf_len (l : List Int) : (colOf l).length = l.length := by simp [colOf]
theorem colOf_get {l : List Int} {k : Nat} (h : k < l.length) : (colOf l).getD k [] = [l.getD k 0] := by simp [colOf, h]
theorem row1 {w : World} {B n c : Nat} {nb : Bool} {a : Option Addr} {x : Int} (c0 : w.cell? ⟨B, 0, none⟩ = some (.bool nb)) (c1 : w.cell? ⟨B, 1, none⟩ = some (.slice a n c)) (ht : typOf w B = some 44) (hx : IsRef w (.agg #[.bool nb, .slice a n c]) x) : RRow 0 w (.slice (some ⟨B, 0, none⟩) 1 1) [x] :=
  ⟨_, 1, rfl, Nat.le_refl _, by unfold maxLen; omega, .inr ⟨B, 0, rfl, Nat.zero_le _, ht, fun k hk => by
    have : k < 1 := hk
    obtain rfl : k = 0 := by omega
    exact ⟨nb, a, n, c, c0, c1, hx⟩⟩⟩
end Go.Proofs.YtannhpadoooedaaGreatDoor

/- The reference: Dot of two rows; Made. -/
namespace Go.Proofs.YtannhpadoooedaaGreatDoor
open Num
open Go.ChangeShapes Go.WideShapes Go.ChangeAt Go.RowKit
attribute [local go_sem ↓] Go.wp_at_zero Go.wp_at_succ
def VarQ (ub : Nat) (m : Int) (W : World) : Prop := ∃ n a ln c, W.cell? ⟨ub, 0, none⟩ = some (.bool n) ∧ W.cell? ⟨ub, 1, none⟩ = some (.slice a ln c) ∧ W.frozen? ⟨ub, 0, none⟩ = false ∧ W.frozen? ⟨ub, 1, none⟩ = false ∧ IsRef W (.agg #[.bool n, .slice a ln c]) m
theorem VarQ.put {ub : Nat} {m z : Int} {W : World} {n : Bool} {a : Option Addr} {ln c : Nat} (h : VarQ ub m W) (hi : IsRef W (.agg #[.bool n, .slice a ln c]) z) : VarQ ub z ((W.setCell ⟨ub, 0, none⟩ (.bool n)).setCell ⟨ub, 1, none⟩ (.slice a ln c)) := by
  obtain ⟨n', a', ln', c', h0, h1, f0, f1, _⟩ := h
  refine ⟨n, a, ln, c, cell_far (cell_here h0 _) (by simp) _, cell_here (cell_far h1 (by simp) _) _, ?_, ?_, hi.put2 h0 h1 _ _⟩
  · rw [World.frozen?_setCell, World.frozen?_setCell]; exact f0
  · rw [World.frozen?_setCell, World.frozen?_setCell]; exact f1
theorem VarQ.keep {ub : Nat} {m : Int} {W V : World} (h : VarQ ub m W) (k : Below W.heap.size W V) : VarQ ub m V := by
  obtain ⟨n, a, ln, c, h0, h1, f0, f1, hi⟩ := h
  exact ⟨n, a, ln, c, bkeep k h0, bkeep k h1, bkeepf k h0 f0, bkeepf k h1 f1, hi.keep k⟩
set_option maxRecDepth 100000 in
set_option maxHeartbeats 8000000 in
theorem rdot_c (va vb : Value) (la lb : List Int) (k m : Nat) (w : World) (ha : RRow 0 w va la) (hb : RRow 0 w vb lb) (hl : la.length ≤ 1099511627775) (he : la.length = lb.length) (ba : ∀ j, Bd k (la.getD j 0)) (bb : ∀ j, Bd m (lb.getD j 0)) (hk : k + m + la.length ≤ 17179869184) :
    Calls Tryz.prog 94 #[va, vb] w fun e w' => (∃ u, e = .returned u ∧ IsRef w' u (dotL la lb)) ∧ Below w.heap.size w w' := by
  have HA := Lib.hid ha
  have HBB := Lib.hid hb
  have HBD := Lib.hid (And.intro ba (And.intro bb (zip_bd ba bb)))
  obtain ⟨aa, ca, rfl, -⟩ := ha
  obtain ⟨ab, cb, rfl, -⟩ := hb
  have HE := Lib.hid he
  have hzl : (List.zipWith (fun x y => x * y) la lb).length = la.length := by rw [List.length_zipWith]; omega
  have HZL := Lib.hid hzl
  have HZG := Lib.hid (fun j (hj : j < la.length) => (zip_getD (f := fun x y => x * y) hj (by omega : j < lb.length)))
  unfold dotL
  obtain ⟨L, hL⟩ : ∃ L, List.zipWith (fun x y => x * y) la lb = L := ⟨_, rfl⟩
  rw [hL] at HBD HZL HZG ⊢
  clear ba bb he hzl hL
  have hB := Below.refl w.heap.size w
  go_enter Tryz.func94, Tryz.ntmps94
  go_wp2
  refine wp_name fun w0 hW0 => ?_
  have hB0 : Below w.heap.size w w0 := by rw [hW0]; repeat (first | exact Below.refl _ _ | exact hB | refine Below.drew ?_ | refine below_drewN ?_ _ | refine bset ?_ (by simp <;> omega) _ | refine bal ?_ _)
  have HR0 := Lib.hid (show w0.cell? ⟨w.heap.size, 0, none⟩ = some (.bool false) ∧ w0.cell? ⟨w.heap.size, 1, none⟩ = some (.slice none 0 0) ∧ w0.frozen? ⟨w.heap.size, 0, none⟩ = false ∧ w0.frozen? ⟨w.heap.size, 1, none⟩ = false from by rw [hW0]; simp [go_sem])
  have HM0 := Lib.hid (show VarQ (w.heap.size + 1) 0 w0 from by rw [hW0]; exact ⟨false, none, 0, 0, by simp [go_sem], by simp [go_sem], by simp [go_sem], by simp [go_sem], isRef_zero _⟩)
  clear hW0
  go_loopw [6] (fun x wr => ∃ j : Nat, j ≤ la.length ∧ x = .int .i64 j ∧ Below w.heap.size w wr ∧ Hid (wr.cell? ⟨w.heap.size, 0, none⟩ = some (.bool false) ∧ wr.cell? ⟨w.heap.size, 1, none⟩ = some (.slice none 0 0) ∧ wr.frozen? ⟨w.heap.size, 0, none⟩ = false ∧ wr.frozen? ⟨w.heap.size, 1, none⟩ = false) ∧ Hid (VarQ (w.heap.size + 1) (sumL (L.take j)) wr)) (fun x _ => la.length - (intOf x).toNat)
  case atStart => exact ⟨0, Nat.zero_le _, rfl, hB0, HR0, HM0⟩
  case round =>
    obtain ⟨j, hj, rfl, hBr, HR, hM⟩ := hrel
    obtain ⟨n0, a0, ln0, c0, m0, m1, m0f, m1f, hi0⟩ := hM.out
    obtain ⟨r0, r1, r0f, r1f⟩ := HR.out
    have HI0 := Lib.hid hi0
    have zm := cell_lt m0
    have zr := cell_lt r0
    clear hi0
    by_cases hlt : j < la.length
    · have hltI : (j : Int) < (la.length : Int) := by omega
      have hltB : (j : Int) < (lb.length : Int) := by have := HE.out; omega
      obtain ⟨a', c', he, -, vr⟩ := (HA.out.keep lims_ref hBr).view
      obtain ⟨rfl, -, rfl⟩ := Value.slice.inj he
      obtain ⟨b, off, n2, a2, l2, cc2, rfl, d0, d1, hi⟩ := vr j hlt
      obtain ⟨a', c', he2, -, vr2⟩ := (HBB.out.keep lims_ref hBr).view
      obtain ⟨rfl, -, rfl⟩ := Value.slice.inj he2
      obtain ⟨bb, offb, n3, a3, l3, cc3, rfl, f0, f1, hi2⟩ := vr2 j (by have := HE.out; omega)
      have HW := Lib.hid (sumL_take (show j < L.length by rw [HZL.out]; exact hlt))
      have bs := sumL_bd HBD.out.2.2 j (by rw [HZL.out]; omega)
      have bp := (HBD.out.2.2 j).mono (show k + m ≤ k + m + j by omega)
      have bx := HBD.out.1 j
      have by' := HBD.out.2.1 j
      have hzg := HZG.out j hlt
      obtain ⟨x, hx⟩ : ∃ x, la.getD j 0 = x := ⟨_, rfl⟩
      obtain ⟨y, hy⟩ : ∃ y, lb.getD j 0 = y := ⟨_, rfl⟩
      rw [hx] at hi bx hzg
      rw [hy] at hi2 by' hzg
      rw [hzg] at HW bp
      obtain ⟨s, hs⟩ : ∃ s, sumL (L.take j) = s := ⟨_, rfl⟩
      rw [hs] at HI0 HW hM bs
      have zd := cell_lt d0
      have zf := cell_lt f0
      have HX := Lib.hid (And.intro hi hi2)
      have HBP := Lib.hid (And.intro bs (And.intro bp (And.intro bx by')))
      have mc := fun W (h : Below wr.heap.size wr W) => rmul_c _ _ x y k m W (HX.out.1.keep h) (HX.out.2.keep h) HBP.out.2.2.1 HBP.out.2.2.2 (by omega) (by omega)
      have ac := fun u W (h : Below wr.heap.size wr W) (hu : IsRef W u (x * y)) => radd_c _ u s (x * y) (k + m + j) W (HI0.out.keep h) hu HBP.out.1 HBP.out.2.1 (by omega)
      have HS := Lib.hid (show ∀ W, Below wr.heap.size wr W → W.cell? ⟨b, off + j * 2, none⟩ = some (.bool n2) ∧ W.cell? ⟨b, off + j * 2 + 1, none⟩ = some (.slice a2 l2 cc2) ∧ W.cell? ⟨bb, offb + j * 2, none⟩ = some (.bool n3) ∧ W.cell? ⟨bb, offb + j * 2 + 1, none⟩ = some (.slice a3 l3 cc3) ∧ W.cell? ⟨w.heap.size + 1, 0, none⟩ = some (.bool n0) ∧ W.cell? ⟨w.heap.size + 1, 1, none⟩ = some (.slice a0 ln0 c0) ∧ W.frozen? ⟨w.heap.size + 1, 0, none⟩ = false ∧ W.frozen? ⟨w.heap.size + 1, 1, none⟩ = false from fun W h => ⟨bkeep h d0, bkeep h d1, bkeep h f0, bkeep h f1, bkeep h m0, bkeep h m1, bkeepf h m0 m0f, bkeepf h m1 m1f⟩)
      clear hx hy hs he vr he2 vr2 hi hi2 bs bp bx by' hzg
      have hBw := Below.refl wr.heap.size wr
      go_wp2
      go_region_law (go_simp; go_wp2_with (first
        | (go_at_call 148; refine (mc _ ?_).mono ?_; (repeat (first | exact Below.refl _ _ | exact hBw | refine Below.drew ?_ | refine below_drewN ?_ _ | refine bset ?_ (by simp <;> omega) _ | refine bal ?_ _)); rintro e w5 ⟨⟨v5, rfl, hv5⟩, hb5⟩; (have hBd : Below wr.heap.size wr w5 := bthen belA hb5; clear hBw; have hBw := hBd; clear hBd); obtain ⟨d0, d1, f0, f1, m0, m1, m0f, m1f⟩ := HS.out w5 hBw; have zm5 := cell_lt m0; have zd5 := cell_lt d0; have zf5 := cell_lt f0; have HV5 := Lib.hid hv5; obtain ⟨n5, a5, c5, l5, rfl, -⟩ := hv5; unfold iv at *)
        | (go_at_call 147; refine (ac _ _ ?_ ?_).mono ?_; (repeat (first | exact Below.refl _ _ | exact hBw | refine Below.drew ?_ | refine below_drewN ?_ _ | refine bset ?_ (by simp <;> omega) _ | refine bal ?_ _)); (refine HV5.out.keep ?_; have hBz := Below.refl w5.heap.size w5; (repeat (first | exact Below.refl _ _ | exact hBz | refine Below.drew ?_ | refine below_drewN ?_ _ | refine bset ?_ (by simp <;> omega) _ | refine bal ?_ _))); rintro e w6 ⟨⟨v6, rfl, hv6⟩, hb6⟩; (have hBd : Below wr.heap.size wr w6 := bthen belA hb6; clear hBw; have hBw := hBd; clear hBd); obtain ⟨d0, d1, f0, f1, m0, m1, m0f, m1f⟩ := HS.out w6 hBw; have zm6 := cell_lt m0; have HV6 := Lib.hid hv6; obtain ⟨n6, a6, c6, l6, rfl, -⟩ := hv6; unfold iv at *)
        | fail))
      all_goals
        have HV2 := Lib.hid ((hM.out.keep hBw).put HV6.out)
        have hB2 := bthen hBr hBw
        have r0' := bkeep hBw r0
        have r1' := bkeep hBw r1
        have r0f' := bkeepf hBw r0 r0f
        have r1f' := bkeepf hBw r1 r1f
        clear mc ac HS
        go_wp2
        refine ⟨⟨j + 1, by omega, by go_num, bset (bset hB2 (by show w.heap.size ≤ w.heap.size + 1; omega) _) (by show w.heap.size ≤ w.heap.size + 1; omega) _, Lib.hid ⟨cell_far (cell_far r0' (addr_ne (by omega)) _) (addr_ne (by omega)) _, cell_far (cell_far r1' (addr_ne (by omega)) _) (addr_ne (by omega)) _, ?_, ?_⟩, Lib.hid (by rw [HW.out]; exact HV2.out)⟩, by simp [intOf]; omega⟩
        · rw [World.frozen?_setCell, World.frozen?_setCell]; exact r0f'
        · rw [World.frozen?_setCell, World.frozen?_setCell]; exact r1f'
    · obtain rfl : j = la.length := by omega
      rw [← HZL.out, List.take_length] at HI0
      have hp := Lib.hid (HI0.out.put2 r0 r1)
      go_wp2
      refine bodyPost_ret (v := .agg #[.bool n0, .slice a0 ln0 c0]) (by simp [results, Tryz.results94, go_sem, *]) rfl ⟨⟨_, rfl, hp.out _ _⟩, ?_⟩
      repeat (first | exact Below.refl _ _ | exact hBr | refine Below.drew ?_ | refine below_drewN ?_ _ | refine bset ?_ (by simp <;> omega) _ | refine bal ?_ _)
end Go.Proofs.YtannhpadoooedaaGreatDoor

/- The reference: Made. -/
namespace Go.Proofs.YtannhpadoooedaaGreatDoor
open Num
open Go.ChangeShapes Go.WideShapes Go.ChangeAt Go.RowKit
attribute [local go_sem ↓] Go.wp_at_zero Go.wp_at_succ
set_option maxRecDepth 100000 in
set_option maxHeartbeats 8000000 in
theorem rmade_c (vg vc : Value) (g : Grid) (c : List Int) (k m : Nat) (w : World) (hg : GridQ w vg g) (hc : RRow 0 w vc c) (hgl : g.length ≤ 1099511627775) (hr : ∀ i, i < g.length → (g.getD i []).length = c.length) (hcl : c.length ≤ 1099511627775) (hb : BdG k g) (bc : ∀ j, Bd m (c.getD j 0)) (hk : k + m + c.length ≤ 17179869184) :
    Calls Tryz.prog 51 #[vg, vc] w fun e w' => (∃ u, e = .returned u ∧ OwnL 31 (RRow 0) w w' u (colOf (dotsG g c))) ∧ Below w.heap.size w w' := by
  have HG := Lib.hid hg
  have HC := Lib.hid hc
  have HR := Lib.hid hr
  have HBD := Lib.hid (And.intro hb bc)
  obtain ⟨ga, gc, rfl, hgc, -⟩ := hg.view
  obtain ⟨ca, cc, rfl, -⟩ := hc
  clear hg hr hb bc
  have hB := Below.refl w.heap.size w
  go_enter Tryz.func51, Tryz.ntmps51
  go_wp2
  refine wp_name fun w1 hW1 => ?_
  have hB1 : Below w.heap.size w w1 := by rw [hW1]; repeat (first | exact Below.refl _ _ | exact hB | refine Below.drew ?_ | refine below_drewN ?_ _ | refine bset ?_ (by simp <;> omega) _ | refine bal ?_ _)
  clear hW1
  go_loopw [5, 6] (fun v x wr => ∃ j : Nat, j ≤ g.length ∧ x = .int .i64 j ∧ Hid (OwnL 31 (RRow 0) w1 wr v ((colOf (dotsG g c)).take j))) (fun _ x _ => g.length - (intOf x).toNat)
  case atStart => exact ⟨0, Nat.zero_le _, rfl, Lib.hid (OwnL.nil _ _ (Below.refl _ _))⟩
  case round =>
    obtain ⟨j, hj, rfl, hO⟩ := hrel
    have hbr := hO.out.bel
    have hlen : ((colOf (dotsG g c)).take j).length = j := by rw [List.length_take, colOf_len, dotsG_len]; omega
    obtain ⟨fa, fc, hfv⟩ := hO.out.ex
    rw [hlen] at hfv
    subst hfv
    have HLEN := Lib.hid hlen
    have hBr := bthen hB1 hbr
    clear hlen
    by_cases hlt : j < g.length
    · have hltI : (j : Int) < (g.length : Int) := by omega
      obtain ⟨a', c', he, -, vr⟩ := (HG.out.keep (prs_row lims_ref _ _) hBr).view
      obtain ⟨rfl, -, rfl⟩ := Value.slice.inj he
      obtain ⟨b, off, u, rfl, d0, hru⟩ := vr j hlt
      rw [show (g[j]'hlt) = g.getD j [] by simp [hlt]] at hru
      have hlr := HR.out j hlt
      have HT := Lib.hid (take_getD (l := colOf (dotsG g c)) [] (show j < (colOf (dotsG g c)).length by rw [colOf_len, dotsG_len]; exact hlt))
      rw [colOf_get (by rw [dotsG_len]; exact hlt), dotsG_get] at HT
      have hbr' := HBD.out.1 j
      obtain ⟨l, hl⟩ : ∃ l, g.getD j [] = l := ⟨_, rfl⟩
      rw [hl] at hru hlr hbr' HT
      have zd := cell_lt d0
      have HBR := Lib.hid hbr'
      have HHR := Lib.hid hru
      have HLR := Lib.hid hlr
      have dc := fun W (h : Below wr.heap.size wr W) => rdot_c u (.slice ca c.length cc) l c k m W (HHR.out.keep lims_ref h) ((HC.out.keep lims_ref hBr).keep lims_ref h) (by rw [HLR.out]; exact hcl) HLR.out HBR.out HBD.out.2 (by rw [HLR.out]; exact hk)
      obtain ⟨ua, uc, rfl, -⟩ := hru
      obtain ⟨z, hz⟩ : ∃ z, dotL l c = z := ⟨_, rfl⟩
      rw [hz] at dc HT
      have hBw := Below.refl wr.heap.size wr
      clear he vr hl hbr' hz hlr
      go_wp2_with fail
      refine (dc _ belA).mono ?_
      rintro e w2 ⟨⟨v2, rfl, hv2⟩, hb2⟩
      have hb2' : Below wr.heap.size wr w2 := bthen belA hb2
      have HV2 := Lib.hid hv2
      have HO2 := Lib.hid (hO.out.below (prs_row lims_ref _ _) hb2')
      obtain ⟨n2, a2, c2, l2, rfl, -⟩ := hv2
      unfold iv at *
      clear dc hb2 d0
      go_wp2_with (at_builtin; refine appL elRws (prs_row lims_ref _ _) (by decide) (by rfl) (by rfl) (HO2.out.below (prs_row lims_ref _ _) (bal (bal (Below.refl _ _) _) _)) (row1 (cell_alloc (cell_new rfl rfl) _) (cell_alloc (cell_new rfl rfl) _) (typ_keep (typ_fresh rfl) (bal (Below.refl _ _) _)) (HV2.out.keep (bal (bal (Below.refl _ _) _) _))) (by rfl) (by rfl) (cell_new (by simp) rfl) (by rw [HLEN.out]; omega) (by rw [HLEN.out]; unfold maxLen; omega) ?_)
      intro v' w8 hO8 hk8
      rw [← HT.out] at hO8
      have HO8 := Lib.hid hO8
      clear hO8 hk8
      go_wp2
      exact ⟨⟨j + 1, by omega, by go_num, HO8⟩, by simp [intOf]; omega⟩
    · obtain rfl : j = g.length := by omega
      have hall : (colOf (dotsG g c)).take g.length = colOf (dotsG g c) := by rw [← dotsG_len g c, ← colOf_len (dotsG g c), List.take_length]
      rw [hall] at hO
      have HFIN := Lib.hid (hO.out.rebase hB1)
      go_wp2
      go_ret
      exact ⟨⟨_, rfl, HFIN.out⟩, hBr⟩
end Go.Proofs.YtannhpadoooedaaGreatDoor

/- A row of numbers in a variable in memory, that grows in the rounds of a range over a function. -/
namespace Go.Proofs.YtannhpadoooedaaGreatDoor
open Num
open Go.ChangeShapes Go.WideShapes Go.ChangeAt Go.RowKit
theorem app_blk (ty : TypeId) {W : World} {v : Value} {n base : Nat} {xs : List Value} (h : W.ownsRow base 48 2 v n xs) (hm : n ≤ 1099511627776) {gb cc : Nat} {y z : Value} (hy : W.cell? ⟨gb, 0, none⟩ = some y) (hz : W.cell? ⟨gb, 1, none⟩ = some z) (oy : y.oneCell' = true) (oz : z.oneCell' = true) :
    ∃ v' w', (Builtin.append_ #[29, 29] ty #[v, .slice (some ⟨gb, 0, none⟩) 1 cc]).run Tryz.prog W = .ok v' w' ∧ (∀ q, q < W.heap.size → typOf w' q = typOf W q) ∧ ∀ q, v'.ownBlock = some q → v.ownBlock = some q ∨ W.heap.size ≤ q := by
  have tyb : ∀ {b : World}, Below W.heap.size W b → ∀ q, q < W.heap.size → typOf b q = typOf W q := fun h q hq => by unfold typOf; rw [h.block q hq]
  obtain ⟨i0, z0, hi, hz0, hz1, hz2, hz3⟩ := elInt.info
  have hl : ([y, z] : List Value).length = 1 * i0.size := by rw [hz1]; rfl
  have hnews : ∀ j u, ([y, z] : List Value)[j]? = some u → W.cell? ((⟨gb, 0, none⟩ : Addr).add j) = some u := by
    intro j u hj
    have hj2 : j < 2 := (List.getElem?_eq_some_iff.1 hj).1
    have hj3 : j = 0 ∨ j = 1 := by omega
    rcases hj3 with rfl | rfl
    · simp at hj; subst hj; simpa [Addr.add] using hy
    · simp at hj; subst hj; simpa [Addr.add] using hz
  rcases h.2 with ⟨rfl, rfl⟩ | ⟨g, cap, cs, rfl, hg, hh, h1, h2, h3, h4⟩
  · refine ⟨_, _, run_append_nil W _ _ _ i0 z0 Tryz.underlying29 hi hz0 ⟨gb, 0, none⟩ 1 cc [y, z] hl hnews (by omega) (by omega) (by rw [hz2]; omega), tyb (bal (Below.refl W.heap.size W).drew _), fun q hq => ?_⟩
    simp [Value.ownBlock] at hq
    right; omega
  · by_cases hroom : n + 1 ≤ cap
    · refine ⟨_, _, run_append_room W _ _ _ i0 Tryz.underlying29 hi g n cap cs hh ⟨gb, 0, none⟩ 1 cc [y, z] hl hnews (fun u hu => by simp at hu; rcases hu with rfl | rfl <;> assumption) hroom (by rw [hz1, h3]; simp; omega), fun q hq => ?_, fun q hq => ?_⟩
      · by_cases e : q = g
        · subst e; unfold typOf; rw [setRow_heap W q cs _ _ _ hh, hh]
        · unfold typOf; rw [setRow_other W g q _ e]
      · simp [Value.ownBlock] at hq ⊢
        left; exact hq
    · have holds : ∀ j u, (cs.toList.take (n * 2))[j]? = some u → W.cell? ((⟨g, 0, none⟩ : Addr).add j) = some u := by
        intro j u hj
        have hj2 : j < n * 2 := by have := (List.getElem?_eq_some_iff.1 hj).1; rw [List.length_take] at this; omega
        rw [List.getElem?_take_of_lt hj2] at hj
        have e : (⟨g, 0, none⟩ : Addr).add j = ⟨g, j, none⟩ := by unfold Addr.add; split <;> simp_all
        rw [e, cell_of_row W g j cs _ _ hh]
        simpa using hj
      refine ⟨_, _, run_append_grow W _ _ _ i0 z0 Tryz.underlying29 hi hz0 ⟨g, 0, none⟩ n cap (cs.toList.take (n * 2)) (by rw [List.length_take, Array.length_toList, h3, hz1]; omega) holds ⟨gb, 0, none⟩ 1 cc [y, z] hl hnews (by omega) (by omega) (by rw [hz2]; exact growslice_fits (by omega) (by omega)), tyb (bal (Below.refl W.heap.size W).drew _), fun q hq => ?_⟩
      simp [Value.ownBlock] at hq
      right; omega
def NumsAt (W : World) (xs : List Value) (n : Nat) (f : Nat → Int) : Prop := ∀ k, k < n → ∃ nb a len c, xs[k * 2]? = some (.bool nb) ∧ xs[k * 2 + 1]? = some (.slice a len c) ∧ IsInt W (.agg #[.bool nb, .slice a len c]) (f k)
section
variable {F : Fence} {n' : Nat} {ops : Array Oper} {o : Oper} {a : Act} {Q : Exit → Act → World → Prop} {W : World} {v : Value} {n base gb cc : Nat} {f : Nat → Int} {s x : Operand} {nb : Bool} {ad : Option Addr} {len c : Nat} {z : Int} {xs : List Value}
theorem app_numIn {rest : List Oper} (hgd : o.guard = none) (ho : o.op = .call { callee := .builtin .append, args := #[s, x], argTypes := #[29, 29] })
    (hO : W.ownsRow base 48 2 v n xs) (hE : NumsAt W xs n f) (hv : IsInt W (.agg #[.bool nb, .slice ad len c]) z) (hs : a.eval s = v)
    (hx : a.eval x = .slice (some ⟨gb, 0, none⟩) 1 cc) (hy : W.cell? ⟨gb, 0, none⟩ = some (.bool nb)) (hz : W.cell? ⟨gb, 1, none⟩ = some (.slice ad len c)) (hb : base ≤ W.heap.size) (hn : n + 1 ≤ 1099511627776)
    (h : ∀ v' w' xs', w'.ownsRow base 48 2 v' (n + 1) xs' → NumsAt w' xs' (n + 1) (fun i => if i = n then z else f i) → W.grownBy w' v.ownBlock → Lim W w' → (∀ q, q < W.heap.size → typOf w' q = typOf W q) → (∀ q, v'.ownBlock = some q → v.ownBlock = some q ∨ W.heap.size ≤ q) → wpListIn F n' Tryz.prog ops Q rest (a.put o.dst v') w') : wpListIn F n' Tryz.prog ops Q (o :: rest) a W := by
  obtain ⟨i0, z0, hi, hz0, hsize, hby, hzs⟩ := elInt.info
  have hnews : ∀ j u, ([.bool nb, .slice ad len c] : List Value)[j]? = some u → W.cell? ((⟨gb, 0, none⟩ : Addr).add j) = some u := by
    intro j u hj
    have hj2 : j < 2 := (List.getElem?_eq_some_iff.1 hj).1
    have hj3 : j = 0 ∨ j = 1 := by omega
    rcases hj3 with rfl | rfl
    · simp at hj; subst hj; simpa [Addr.add] using hy
    · simp at hj; subst hj; simpa [Addr.add] using hz
  obtain ⟨v', w', hrun, r1, r2, r3⟩ := run_append_own (P := Tryz.prog) W base 29 o.type 48 i0 z0 2 32 elInt.ht hi hz0 hsize hby hzs elInt.pos v n xs hO ⟨gb, 0, none⟩ 1 cc [.bool nb, .slice ad len c] rfl hnews (fun u hu => by simp at hu; rcases hu with rfl | rfl <;> rfl) (by unfold maxLen; omega) (by omega) hb
  obtain ⟨v2, w2, hrun2, hty, hq⟩ := app_blk o.type hO (by omega) (cc := cc) hy hz rfl rfl
  rw [hrun] at hrun2
  cases hrun2
  have hl : Lim W w' := (Lim.refl W).grown r2 fun g hg' ht => by
    rw [own_typ' hO hg'] at ht
    exact absurd (Option.some.inj ht) (by decide)
  have hE' : NumsAt w' (xs ++ [.bool nb, .slice ad len c]) (n + 1) (fun i => if i = n then z else f i) := by
    intro k hk
    by_cases e : k = n
    · subst e
      refine ⟨nb, ad, len, c, ?_, ?_, ?_⟩
      · rw [List.getElem?_append_right (by rw [hO.1]; omega), hO.1]; simp
      · rw [List.getElem?_append_right (by rw [hO.1]; omega), hO.1]; simp
      · simp only [if_true]; exact lims_int _ _ _ _ hv hl
    · obtain ⟨nb1, a1, len1, c1, k1, k2, k3⟩ := hE k (by omega)
      refine ⟨nb1, a1, len1, c1, ?_, ?_, ?_⟩
      · rw [List.getElem?_append_left (by rw [hO.1]; omega)]; exact k1
      · rw [List.getElem?_append_left (by rw [hO.1]; omega)]; exact k2
      · show IsInt _ _ (if k = n then z else f k)
        rw [if_neg e]; exact lims_int _ _ _ _ k3 hl
  refine wpListIn_plain hgd fun K hK' => ?_
  unfold Oper.wpIn
  refine ⟨?_, ?_⟩
  · simp [Oper.about, ho, resolve, Target.leads, Sem.run_pure]
  · rw [Oper.semAt_plain F _ _ (by rw [ho]; intro c hc'; cases hc')]
    simp [execOp, ho, resolve, invoke, builtin, hs, hx, hrun, Result.andThen]
    exact hK' _ _ (h v' w' _ r1 hE' r2 hl hty hq)
end
theorem NumsAt.lim {W W' : World} {xs : List Value} {n : Nat} {f : Nat → Int} (h : NumsAt W xs n f) (k : Lim W W') : NumsAt W' xs n f := fun j hj => by
  obtain ⟨nb, a, len, c, k1, k2, k3⟩ := h j hj
  exact ⟨nb, a, len, c, k1, k2, lims_int _ _ _ _ k3 k⟩
theorem own_ex2 {W : World} {base n size : Nat} {T : TypeId} {v : Value} {xs : List Value} (h : W.ownsRow base T size v n xs) : ∃ a c, v = .slice a n c := by
  rcases h.2 with ⟨rfl, rfl⟩ | ⟨g, cap, cur, rfl, _⟩
  · exact ⟨none, 0, rfl⟩
  · exact ⟨_, _, rfl⟩
theorem OutT.or {S X : Nat → Prop} {a b : World} (h : OutT S a b) : OutT (fun q => S q ∨ X q) a b :=
  ⟨h.1.mono fun _ _ h => .inl h, fun q _ hl => by
    by_cases e : S q
    · exact h.2 q e hl
    · unfold typOf; rw [h.1.block q hl e]⟩
structure DotV (w0 : World) (db : Nat) (f : Nat → Int) (k : Nat) (v : Value) (W : World) : Prop where
  c0 : W.cell? ⟨db, 0, none⟩ = some v
  f0 : W.frozen? ⟨db, 0, none⟩ = false
  ty : typOf W db = some 29
  own : ∃ xs, W.ownsRow w0.heap.size 48 2 v k xs ∧ NumsAt W xs k f
  out : Out (fun q => q = db) w0 W
def DotS (w0 : World) (db : Nat) (f : Nat → Int) (k : Nat) (S : Nat → Prop) (W : World) : Prop := ∃ v, S = (fun q => q = db ∨ v.ownBlock = some q) ∧ DotV w0 db f k v W
section
variable {w0 W W' : World} {db k : Nat} {f : Nat → Int} {v : Value} {S : Nat → Prop}
theorem DotV.ex (h : DotV w0 db f k v W) : ∃ a c, v = .slice a k c := by
  obtain ⟨xs, ⟨_, h1⟩, _⟩ := h.own
  rcases h1 with ⟨rfl, rfl⟩ | ⟨g, cap, cur, rfl, _⟩
  · exact ⟨none, 0, rfl⟩
  · exact ⟨_, _, rfl⟩
theorem DotV.keep (h : DotV w0 db f k v W) (b : Below W.heap.size W W') : DotV w0 db f k v W' := by
  obtain ⟨xs, h1, h2⟩ := h.own
  exact ⟨bkeep b h.c0, bkeepf b h.c0 h.f0, typ_keep h.ty b, ⟨xs, own_below (w0 := w0) h1 b, h2.lim (.of_below b)⟩, h.out.below b⟩
theorem DotS.soil (h : DotS w0 db f k S W) : Soil S W := by
  obtain ⟨v, rfl, h⟩ := h
  rintro q (rfl | hq)
  · exact ⟨_, h.ty, by decide⟩
  · obtain ⟨xs, h1, _⟩ := h.own
    exact ⟨_, own_typ' h1 hq, by decide⟩
theorem DotS.clo (h : DotS w0 db f k S W) (c : Clo w0.heap.size S W W') : DotS w0 db f k S W' := by
  obtain ⟨v, rfl, h⟩ := h
  obtain ⟨xs, h1, h2⟩ := h.own
  refine ⟨v, rfl, c.cell (.inr (.inl rfl)) h.c0, c.frz (.inr (.inl rfl)) h.c0 h.f0, c.typ (.inr (.inl rfl)) h.ty, ⟨xs, ⟨h1.1, ?_⟩, h2.lim c.lim⟩, ?_⟩
  · rcases h1.2 with h3 | ⟨g, cap, cur, rfl, hg, hh, r⟩
    · exact .inl h3
    · exact .inr ⟨g, cap, cur, rfl, hg, by rw [c.block g (Array.getElem?_eq_some_iff.1 hh).1 (.inr (.inl (.inr (by simp [Value.ownBlock]))))]; exact hh, r⟩
  · have hl := c.low h.out.size
    exact ⟨hl.os.trans h.out.os, hl.tape.trans h.out.tape, hl.output.trans h.out.output, Nat.le_trans h.out.size hl.size, fun i hi hx => (hl.block i hi).trans (h.out.block i hi hx)⟩
theorem DotV.next {W4 w' : World} {v' : Value} {xs' : List Value} {z : Int} (h : DotV w0 db f k v W) (hdb : db < w0.heap.size) (hb : Below W.heap.size W W4) (h1 : w'.ownsRow w0.heap.size 48 2 v' (k + 1) xs') (h2 : NumsAt w' xs' (k + 1) (fun i => if i = k then z else f i)) (hz : z = f k)
    (hg : W4.grownBy w' v.ownBlock) (hl : Lim W4 w') (hty : ∀ q, q < W4.heap.size → typOf w' q = typOf W4 q) (hq : ∀ q, v'.ownBlock = some q → v.ownBlock = some q ∨ W4.heap.size ≤ q) :
    (w'.cell? ⟨db, 0, none⟩ = some v ∧ w'.frozen? ⟨db, 0, none⟩ = false) ∧ OutT (fun q => q = db ∨ v.ownBlock = some q) W (w'.setCell ⟨db, 0, none⟩ v') ∧ ∃ S', Grew (fun q => q = db ∨ v.ownBlock = some q) S' W ∧ DotS w0 db f (k + 1) S' (w'.setCell ⟨db, 0, none⟩ v') := by
  obtain ⟨xs, k1, k2⟩ := h.own
  have h4 := h.keep hb
  have hne : some db ≠ v.ownBlock := fun e => by
    rcases k1.2 with ⟨h0, _⟩ | ⟨g, cap, cur, rfl, hg', _⟩
    · rw [h0] at e; simp [Value.ownBlock] at e
    · simp [Value.ownBlock] at e; omega
  have hs := hg.size
  have c0 : w'.cell? ⟨db, 0, none⟩ = some v := hg.cell h4.c0 hne
  have cf : w'.frozen? ⟨db, 0, none⟩ = false := by
    rw [World.frozen?_of_block (hg.block db (cell_lt h4.c0) hne)]; exact h4.f0
  have ht : typOf w' db = some 29 := by
    rw [typ_of_block (w := W4) (hg.block db (cell_lt h4.c0) hne)]; exact h4.ty
  have ho4 : Out (fun q => v.ownBlock = some q) W4 w' := ⟨hg.os, hg.tape, hg.output, hg.size, fun q hq' hx => hg.block q hq' fun e => hx e.symm⟩
  have hno : ∀ q, v.ownBlock = some q → w0.heap.size ≤ q := fun q e => by
    rcases k1.2 with ⟨h0, _⟩ | ⟨g, cap, cur, rfl, hg', _⟩
    · rw [h0] at e; simp [Value.ownBlock] at e
    · simp [Value.ownBlock] at e; omega
  refine ⟨⟨c0, cf⟩, ⟨?_, fun q hq' hl' => ?_⟩, _, ?_, ⟨v', rfl, cell_here c0 _, by rw [World.frozen?_setCell]; exact cf, by rw [typ_set]; exact ht, ⟨xs', ?_, ?_⟩, ?_⟩⟩
  · exact ((Out.of_below _ hb).trans (ho4.mono fun _ _ h => .inr h)).set (fun _ => .inl rfl) _
  · rw [typ_set]
    rw [hty q (Nat.lt_of_lt_of_le hl' hb.size)]
    unfold typOf; rw [hb.block q hl']
  · intro q hq'
    rcases hq' with hq' | hq'
    · exact .inl (.inl hq')
    · rcases hq q hq' with h5 | h5
      · exact .inl (.inr h5)
      · exact .inr (Nat.le_trans hb.size h5)
  · refine ⟨h1.1, ?_⟩
    rcases h1.2 with h3 | ⟨g, cap, cur, rfl, hg', hh, r⟩
    · exact .inl h3
    · exact .inr ⟨g, cap, cur, rfl, hg', (Below.heap_setCell _ _ _ _ (by show g ≠ db; omega)).trans hh, r⟩
  · have hl2 : Lim w' (w'.setCell ⟨db, 0, none⟩ v') := ((Kp.refl (· ≠ 29) w').set (fun t ht' => by rw [ht] at ht'; cases ht'; exact fun k => k rfl) _).lim (by decide)
    intro j hj
    have := (h2.lim hl2) j hj
    by_cases e : j = k
    · subst e
      obtain ⟨nb, a, len, c, y1, y2, y3⟩ := this
      exact ⟨nb, a, len, c, y1, y2, by simpa [hz] using y3⟩
    · obtain ⟨nb, a, len, c, y1, y2, y3⟩ := this
      exact ⟨nb, a, len, c, y1, y2, by simpa [e] using y3⟩
  · exact ((h4.out.then ho4 fun i hi h5 => by have := hno i h5; omega)).set (fun _ => rfl) _
end
end Go.Proofs.YtannhpadoooedaaGreatDoor

