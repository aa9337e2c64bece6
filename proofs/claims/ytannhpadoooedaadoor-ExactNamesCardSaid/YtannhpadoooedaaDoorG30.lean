/- Texts of this seat, laid together: Iter, TxtI. Each opens with its own remark, which says what it proves, and under which conditions. -/
import Derived.Test.YtannhpadoooedaaDoorG02
import Derived.RangeFuncNested
import Derived.RangeFuncBound
import Derived.RangeFuncCalls
import Derived.RangeFuncLeaves
import Derived.Shelf.Abstract
import Derived.Shelf.RegionOpen
import Derived.OwnWalkIn
import Derived.TacticsInMore
import Derived.LoopNIn
import Derived.LoopIn
import Derived.Deep.Cut
import Derived.Deep.DeepCutAuto
import Derived.Test.YtannhpadoooedaaDoorG29
import Derived.Laws.RangeString
import Derived.Lib.OthersKept
/- Ranges over functions, in the plain walk: a law in the wide fence, and what its users need. -/
namespace Go.Proofs.YtannhpadoooedaaDoor
open Go.ChangeShapes Go.WideShapes Go.ChangeAt Go.RowKit
set_option linter.unusedVariables false

theorem grown_of_below {W W' : World} (h : Below W.heap.size W W') : W.grownBy W' none := by
  constructor
  · exact h.os
  · exact h.tape
  · exact h.output
  · exact h.size
  · intro k hk _; exact h.block k hk
theorem calls_of_wp_marks {P : Program} {f : FuncId} {fn : Func} {c : Code} {args : Array Value} {w : World} {R : Ending → World → Prop}
    (hf : P.funcs[f]? = some fn) (hb : fn.body = some c)
    (h : c.wp P (bodyPostM Fence.wide 9 P fn R) { tmps := args ++ Array.replicate (fn.ntmps - args.size) undef, defers := [] } w) : Calls P f args w R :=
  callsIn_wide.1 (callsIn_of_wp_marks (F := Fence.wide) (n := 9) hf hb trivial (wpIn_wide.2 h) rfl)
theorem roundIn_wide {n m : Nat} {P : Program} {l : Nat} {f : FuncId} {tmps : Array Value} {assign body : Code} {w : World} {R : Ending → World → Prop} (h : RoundIn Fence.wide n P l f tmps assign body w R) : RoundIn Fence.wide m P l f tmps assign body w R :=
  ⟨h.1, fun c cs _ => h.2 c cs (room_wide _)⟩
theorem yieldAt_wide {n m : Nat} {P : Program} {l : Nat} {args : Array Value} {W : World} {R : Ending → World → Prop} (h : YieldAt Fence.wide n P l args W R) : YieldAt Fence.wide m P l args W R := by
  obtain ⟨fn, tmps, assign, body, hy, hR⟩ := h
  exact ⟨fn, tmps, assign, body, hy, roundIn_wide hR⟩

/-- every row of cells lies as it lay; below B everything -/
structure Soft (B : Nat) (W W' : World) : Prop where
  below : Below B W W'
  cells : ∀ (k : Nat) (o : Obj), W.heap[k]? = some o → o.isCells = true → W'.heap[k]? = some o
theorem soft_of_grown {B : Nat} {W W' : World} {row : Option Nat} (hB : B ≤ W.heap.size) (hg : W.grownBy W' row) (hr : ∀ r, row = some r → B ≤ r ∧ ∃ o : Obj, W.heap[r]? = some o ∧ o.isCells = false) : Soft B W W' := by
  refine ⟨(Below.refl B W).grown hg hB (fun k e => (hr k e).1), fun k o hk ho => ?_⟩
  refine (hg.block k (Array.getElem?_eq_some_iff.1 hk).1 (fun e => ?_)).trans hk
  obtain ⟨_, o', ho', hc⟩ := hr k e.symm
  rw [hk] at ho'; cases ho'; rw [ho] at hc; cases hc
theorem Soft.block {B : Nat} {W W' : World} (h : Soft B W W') {p : Addr} {v : Value} (hv : W.cell? p = some v) : W'.heap[p.block]? = W.heap[p.block]? := by
  unfold World.cell? at hv
  split at hv
  · rename_i c t f e
    rw [e]; exact h.cells _ _ e rfl
  · cases hv
theorem Soft.cell {B : Nat} {W W' : World} (h : Soft B W W') {p : Addr} {v : Value} (hv : W.cell? p = some v) : W'.cell? p = some v :=
  (World.cell?_of_block (h.block hv)).trans hv
theorem Soft.frozen {B : Nat} {W W' : World} (h : Soft B W W') {p : Addr} {v : Value} (hv : W.cell? p = some v) (hf : W.frozen? p = false) : W'.frozen? p = false :=
  (World.frozen?_of_block (h.block hv)).trans hf

/-! what a round's body keeps -/
theorem kf_below {B : Nat} {W X Y : World} (h : KeepsFrom B W X) (k : Below X.heap.size X Y) : KeepsFrom B W Y :=
  h.trans ⟨k.size, fun i o _ hi _ => (k.block i (Array.getElem?_eq_some_iff.1 hi).1).trans hi⟩
theorem kf_alloc {B : Nat} {W X : World} (h : KeepsFrom B W X) (o : Obj) : KeepsFrom B W (X.alloc o) := h.trans ((KeepsOthers.alloc X o).from B)
theorem kf_set {B : Nat} {W X : World} (h : KeepsFrom B W X) (p : Addr) (v : Value) : KeepsFrom B W (X.setCell p v) := h.trans ((KeepsOthers.setCell X p v).from B)
theorem kf_drew {B : Nat} {W X : World} (h : KeepsFrom B W X) : KeepsFrom B W X.drew := h.trans ⟨Nat.le_refl _, fun i o _ hi _ => hi⟩
theorem kf_drewN {B : Nat} {W X : World} (h : KeepsFrom B W X) (n : Nat) : KeepsFrom B W (X.drewN n) := h.trans ⟨Nat.le_refl _, fun i o _ hi _ => hi⟩

/-- THE LAW: an iterator that tells the list L, or is left; the loop's variable may be boxed (Ax). -/
theorem wp_rangeK {P : Program} {α : Type} {g : Operand} {ps : Array Tmp} {assign body : Code} {Q : Exit → Act → World → Prop} {a : Act} {w : World}
    {gf : Nat} {lb : Array Value} (hg : a.eval g = .func (.func gf) #[] lb) (eg : ∀ args w, (callFunc gf args).run P w = .ok (.enter gf args) w)
    {encs : α → Array Value} {L : List α} {N : Nat} {Kp : World → World → Prop} {w0 : World} (hseq : SeqStopsK Fence.wide 8 P gf lb encs Kp (· = L) (· <+: L) N w0)
    (hKt : ∀ {A B C : World}, Kp A B → Kp B C → Kp A C) (hKb : ∀ (W : World) (l : Nat) (o o' : Obj), w.heap.size ≤ l → W.heap[l]? = some o → o.isCells = false → o.isWalk = false → Kp W (W.putObj l o'))
    (hb0 : Below w0.heap.size w0 w) (hps : ∀ x, (encs x).size = ps.size)
    (I : List α → World → Prop) (Ix : Code → List α → World → Prop) (hI : ∀ pre W W', I pre W → Soft w.heap.size W W' → I pre W') (hIx : ∀ c pre W W', Ix c pre W → Soft w.heap.size W W' → Ix c pre W')
    (hsz : ∀ pre W, I pre W → w.heap.size ≤ W.heap.size) (hszx : ∀ c pre W, Ix c pre W → w.heap.size ≤ W.heap.size) (h0 : I [] w)
    (Ax : Array Value → α → Act → World → Prop) (hAx : ∀ x a' W W', Ax a.tmps x a' W → Soft w.heap.size W W' → Ax a.tmps x a' W') (hAsz : ∀ x a' W, Ax a.tmps x a' W → w.heap.size ≤ W.heap.size)
    (hassign : ∀ (l : Nat) (pre : List α) (x : α) (W : World) (K : Act → World → Prop), I pre W → (∀ a' W', KeepsFrom w.heap.size W W' → Kp W W' → I pre W' → Ax a.tmps x a' W' → K a' W') →
      assign.wpIn (Fence.wide.inRound l) 7 P (Exit.then K (fun _ _ _ => False)) { tmps := (ps.zip (encs x)).foldl (fun t (p, v) => t.setIfInBounds p v) a.tmps, defers := [] } W)
    (hbody : ∀ (l : Nat) (pre : List α) (x : α) (a' : Act) (W : World), I pre W → Ax a.tmps x a' W → pre.length < N → body.wpIn (Fence.wide.inRound l) 7 P (ownPostG w.heap.size Kp I Ix (pre ++ [x]) W) a' W)
    (hdone : ∀ (D : Nat) (W : World), w.heap.size ≤ D → I L W → W.heap[D]? = some (.deferred (some [])) → Q .normal { a with defers := { target := .collected D, args := #[] } :: a.defers } W)
    (hstop : ∀ (D : Nat) (c : Code) (pre : List α) (W : World), w.heap.size ≤ D → pre <+: L → Ix c pre W → W.heap[D]? = some (.deferred (some [])) → c.wp P Q { a with defers := { target := .collected D, args := #[] } :: a.defers } W) :
    (Code.rangeFunc g ps assign body).wp P Q a w := by
  refine (wpIn_wide (n := 9)).1 ?_
  refine wpIn_rangeFunc_ownH (F := Fence.wide) rfl (by omega) hg trivial eg hseq hKt hKb hb0 hps I Ix ?_ ?_ h0 (Ax a.tmps) ?_ hassign
    (fun l pre x a' W _ _ hi hax hl => hbody l pre x a' W hi hax hl) (fun D xs W hD hx hi hk => by subst hx; exact hdone D W hD hi hk) (fun D c pre W hD hp hi hk => wpIn_wide.2 (hstop D c pre W hD hp hi hk))
  · intro pre W W' row hi hg' hr
    exact hI pre W W' hi (soft_of_grown (hsz _ _ hi) hg' hr)
  · intro c pre W W' row hi hg' hr
    exact hIx c pre W W' hi (soft_of_grown (hszx _ _ _ hi) hg' hr)
  · intro x a' u W W' row hi hg' hr
    exact hAx x a' W W' hi (soft_of_grown (hAsz _ _ _ hi) hg' hr)

/-- THE LAW: an iterator that tells the list L, or is left; the loop's variable may be boxed (Ax). -/
theorem wp_range {P : Program} {α : Type} {g : Operand} {ps : Array Tmp} {assign body : Code} {Q : Exit → Act → World → Prop} {a : Act} {w : World}
    {gf : Nat} {lb : Array Value} (hg : a.eval g = .func (.func gf) #[] lb) (eg : ∀ args w, (callFunc gf args).run P w = .ok (.enter gf args) w)
    {encs : α → Array Value} {L : List α} {N n0 : Nat} {w0 : World} (hseq : SeqStopsK Fence.wide 8 P gf lb encs (Below n0) (· = L) (· <+: L) N w0)
    (hb0 : Below w0.heap.size w0 w) (hn0 : n0 ≤ w.heap.size) (hps : ∀ x, (encs x).size = ps.size)
    (I : List α → World → Prop) (Ix : Code → List α → World → Prop) (hI : ∀ pre W W', I pre W → Soft w.heap.size W W' → I pre W') (hIx : ∀ c pre W W', Ix c pre W → Soft w.heap.size W W' → Ix c pre W')
    (hsz : ∀ pre W, I pre W → w.heap.size ≤ W.heap.size) (hszx : ∀ c pre W, Ix c pre W → w.heap.size ≤ W.heap.size) (h0 : I [] w)
    (Ax : Array Value → α → Act → World → Prop) (hAx : ∀ x a' W W', Ax a.tmps x a' W → Soft w.heap.size W W' → Ax a.tmps x a' W') (hAsz : ∀ x a' W, Ax a.tmps x a' W → w.heap.size ≤ W.heap.size)
    (hassign : ∀ (l : Nat) (pre : List α) (x : α) (W : World) (K : Act → World → Prop), I pre W → (∀ a' W', KeepsFrom w.heap.size W W' → Below n0 W W' → I pre W' → Ax a.tmps x a' W' → K a' W') →
      assign.wpIn (Fence.wide.inRound l) 7 P (Exit.then K (fun _ _ _ => False)) { tmps := (ps.zip (encs x)).foldl (fun t (p, v) => t.setIfInBounds p v) a.tmps, defers := [] } W)
    (hbody : ∀ (l : Nat) (pre : List α) (x : α) (a' : Act) (W : World), I pre W → Ax a.tmps x a' W → pre.length < N → body.wpIn (Fence.wide.inRound l) 7 P (ownPostG w.heap.size (Below n0) I Ix (pre ++ [x]) W) a' W)
    (hdone : ∀ (D : Nat) (W : World), w.heap.size ≤ D → I L W → W.heap[D]? = some (.deferred (some [])) → Q .normal { a with defers := { target := .collected D, args := #[] } :: a.defers } W)
    (hstop : ∀ (D : Nat) (c : Code) (pre : List α) (W : World), w.heap.size ≤ D → pre <+: L → Ix c pre W → W.heap[D]? = some (.deferred (some [])) → c.wp P Q { a with defers := { target := .collected D, args := #[] } :: a.defers } W) :
    (Code.rangeFunc g ps assign body).wp P Q a w := by
  exact wp_rangeK hg eg hseq (fun h k => belowK_t h k) (belowK_b hn0) hb0 hps I Ix hI hIx hsz hszx h0 Ax hAx hAsz hassign hbody hdone hstop

theorem put_other {w : World} {D b : Nat} (o : Obj) (h : D ≠ b) : (w.putObj D o).heap[b]? = w.heap[b]? := by
  simp [World.putObj, Array.getElem?_setIfInBounds_ne h]
theorem cell_put {w : World} {D : Nat} {a : Addr} {v : Value} (h : w.cell? a = some v) (hne : D ≠ a.block) (o : Obj) : (w.putObj D o).cell? a = some v :=
  (World.cell?_of_block (put_other o hne)).trans h
theorem b_put {a W : World} (h : Below a.heap.size a W) {D : Nat} (hD : a.heap.size ≤ D) (o : Obj) : Below a.heap.size a (W.putObj D o) :=
  h.grown (grownBy_putObj' W D o) h.size (fun k e => by cases e; exact hD)

/-! ### A region that draws its order, in a round: one walk in the text's order -/
section
variable {P : Program} {ops : Array Oper} {C : World → Prop} {l n : Nat}
def noDefer (o : Oper) : Bool := match o.op with | .defer _ => false | _ => true
theorem noDefer_spec {o : Oper} (h : noDefer o = true) : ∀ c, o.op ≠ .defer c := by
  intro c e; unfold noDefer at h; rw [e] at h; cases h
theorem wpInR_of_quiet {o : Oper} {a : Act} {K : Act → Prop} {K' : Act → World → Prop} {Q' : Exit → Act → World → Prop} {w : World} (hnd : noDefer o = true) (hw : C w) (h : ∀ a w', C w' → K a → K' a w') (hh : o.quiet P a C K) : o.wpIn (Fence.wide.inRound l) n P a w K' Q' := by
  obtain ⟨v, h1, h2⟩ := hh
  have h3 := h1 w hw
  refine ⟨fun _ _ => trivial, ?_⟩
  rw [Fence.inRound_round, Oper.semAt_some l _ _ (noDefer_spec hnd)]
  unfold Oper.quietAt at h3
  generalize (execOp a.eval o).run P w = r at *
  cases r with
  | ok n w' =>
    cases n <;> simp only [Oper.quietUpon] at h3 <;> simp only [Oper.uponIn]
    case value u =>
      obtain ⟨e1, e2⟩ := h3
      rw [e1, e2]
      exact h _ _ hw h2
    case skip =>
      obtain ⟨e1, e2⟩ := h3
      rw [e1, ← e2]
      exact h _ _ hw h2
    case enter f args =>
      obtain ⟨e1, hc⟩ := h3
      rw [e1]
      refine ⟨fun hd => by simp [Fence.wide] at hd, ?_⟩
      exact CallsIn.inRound l (callsIn_wide.2 (hc.mono fun e w'' ⟨he, hw''⟩ => by subst he; exact h _ _ hw'' h2))
  | halt x w' => simp only [Oper.quietUpon] at h3
theorem wpOpInR_of_qOp {i : Nat} {a : Act} {K : Act → Prop} {K' : Act → World → Prop} {Q' : Exit → Act → World → Prop} {w : World} (hnd : ops.all noDefer = true) (hC : C w) (h : ∀ a w', C w' → K a → K' a w') (hh : qOp P ops C i K a) : wpOpIn (Fence.wide.inRound l) n P ops Q' i K' a w := by
  unfold qOp at hh
  unfold wpOpIn
  split
  · rename_i ho; simp only [ho] at hh; exact h _ _ hC hh
  · rename_i o ho
    simp only [ho] at hh
    have hno : noDefer o = true := by
      rw [Array.all_eq_true] at hnd
      obtain ⟨hi, he⟩ := Array.getElem?_eq_some_iff.1 ho
      rw [← he]; exact hnd i hi
    split
    · rename_i hw; simp only [hw, if_true] at hh; exact wpInR_of_quiet hno hC h hh
    · rename_i hw; simp only [hw] at hh; exact ⟨fun _ _ => trivial, h _ _ hC hh⟩
theorem wpAnyInR_of_quiet {md : Region.Mode} {Q : Act → Prop} {Q' : Exit → Act → World → Prop} (hnd : ops.all noDefer = true) (hQ : ∀ a w, C w → Q a → Q' .normal a w) : ∀ (fuel : Nat) (listed : Array Bool) (a : Act) (w : World), C w →
    wpAnyQ P md ops C Q fuel listed a → wpAnyIn (Fence.wide.inRound l) n P md ops Q' fuel listed a w
  | 0, _, _, _, hw, h => ⟨h.1, hQ _ _ hw h.2⟩
  | fuel + 1, _, _, _, hw, h => ⟨fun h0 => hQ _ _ hw (h.1 h0), fun i hi => wpOpInR_of_qOp hnd hw (fun a' w' hw' => wpAnyInR_of_quiet hnd hQ fuel _ a' w' hw') (h.2 i hi)⟩
theorem wpInR_region_quiet {id : Nat} {Q : Exit → Act → World → Prop} {a : Act} {w : World} (hm : P.follows .mixedOrders = true) (hB : Region.lexB .any ops = true) (hnd : ops.all noDefer = true) (hC : C { w with drawn := w.drawn + 1 })
    (h : wpQuiet P ops C (fun a' => ∀ w', C w' → Q .normal a' w') ops.toList a) : (Code.region id ops true).wpIn (Fence.wide.inRound l) n P Q a w := by
  simp only [Region.lexB, Bool.and_eq_true] at hB
  refine wpIn_region_any hm (wpAnyInR_of_quiet (Q := fun a' => ∀ w', C w' → Q .normal a' w') hnd (fun _ w' hw' h => h w' hw') _ _ _ _ hC ?_)
  have := wpAnyQ_lex (C := C) (md := .any) hB.1 ops.toList 0 (Array.replicate ops.size false) a (by simp) (by simpa using hB.2) h
  simpa using this
theorem wpInR_region_grow {id : Nat} {Q : Exit → Act → World → Prop} {a : Act} {w : World} {L : List Oper} (hm : P.follows .mixedOrders = true) (hB : Region.lexB .any L.toArray = true) (hnd : L.toArray.all noDefer = true)
    (h : wpQuiet P L.toArray (fun w' => ∃ s, w' = grow w s) (fun a' => ∀ w', Below w.heap.size w w' → Q .normal a' w') L a) : (Code.region id L.toArray true).wpIn (Fence.wide.inRound l) n P Q a w := by
  have e : (fun a' => ∀ w', Below w.heap.size w w' → Q .normal a' w') = (fun a' => ∀ w', (∃ s, w' = grow w s) → Q .normal a' w') := by
    funext a'
    exact propext ⟨fun h w' ⟨s, hs⟩ => h w' (hs ▸ s.below), fun h w' hb => h w' ⟨⟨w', hb⟩, rfl⟩⟩
  rw [e] at h
  exact wpInR_region_quiet (C := fun w' => ∃ s, w' = grow w s) hm hB hnd ⟨⟨w.drew, (Below.refl _ _).drew⟩, rfl⟩ (by simpa using h)
theorem wpIn_name {F : Fence} {c : Code} {Q : Exit → Act → World → Prop} {a : Act} {w : World} (h : ∀ W, W = w → c.wpIn F n P Q a W) : c.wpIn F n P Q a w := h w rfl
end
end Go.Proofs.YtannhpadoooedaaDoor
/- limb: Digits: the iterator that tells a number's digits, from the first one on. -/
namespace Go.Proofs.YtannhpadoooedaaDoor
open Num
open Go.ChangeShapes Go.WideShapes Go.ChangeAt Go.RowKit
set_option linter.unusedVariables false
set_option linter.unusedSimpArgs false
attribute [local go_sem] Oper.semAt_some

/-- the text's letters are the list's digits -/
def DigTxt (s : ByteArray) (L : List Nat) : Prop := s.data.toList = L.map dig ∧ ∀ d ∈ L, d < 10
theorem DigTxt.size {s : ByteArray} {L : List Nat} (h : DigTxt s L) : s.size = L.length := by
  have e := congrArg List.length h.1
  rw [List.length_map] at e
  rw [← e]; rfl
theorem DigTxt.get {s : ByteArray} {L : List Nat} (h : DigTxt s L) (k : Nat) (hk : k < L.length) (hs : k < s.size) : (s[k]'hs).toNat = 48 + L.getD k 0 ∧ L.getD k 0 < 10 := by
  have hd : L.getD k 0 < 10 := by
    rw [List.getD_eq_getElem?_getD, List.getElem?_eq_getElem hk]; exact h.2 _ (List.getElem_mem _)
  have e : s.data.toList[k]? = some (dig (L.getD k 0)) := by
    rw [h.1, List.getElem?_map, List.getElem?_eq_getElem hk]
    simp [List.getElem?_eq_getElem hk]
  have e2 : s[k]'hs = dig (L.getD k 0) := by
    have h3 : s.data.toList[k]? = some (s[k]'hs) := by
      rw [Array.getElem?_toList]
      exact Array.getElem?_eq_getElem hs
    rw [h3] at e; exact Option.some.inj e
  rw [e2, dig_nat hd]
  exact ⟨rfl, hd⟩
theorem next_dig {s : ByteArray} {L : List Nat} (h : DigTxt s L) {wr : World} {ib pos : Nat} (hit : wr.heap[ib]? = some (.stringIter s pos)) (hp : pos < L.length) (ty : TypeId) :
    (Instr.next (.pointer (some ⟨ib, 0, none⟩)) true ty).run Tryd.prog wr = .ok (.tuple #[.bool true, .int .i64 pos, .int .i32 ((48 + L.getD pos 0 : Nat) : Int)]) (wr.iterAt ib s (pos + 1)) := by
  have hs : pos < s.size := by rw [h.size]; exact hp
  obtain ⟨e, hd⟩ := h.get pos hp hs
  have := Go.Lib.run_next_ascii_at (P := Tryd.prog) wr ib s pos ty hit hs (by rw [e]; omega)
  rwa [e] at this
theorem iterAt_grown (w : World) (k : Nat) (s : ByteArray) (p : Nat) : w.grownBy (w.iterAt k s p) (some k) := by
  refine ⟨rfl, rfl, rfl, by simp [Go.World.iterAt], fun i hi hk => ?_⟩
  simp only [Go.World.iterAt]
  exact Array.getElem?_setIfInBounds_ne (fun e => hk (by rw [e]))

set_option maxRecDepth 100000 in
set_option maxHeartbeats 2000000 in
theorem dg_c (l B N n0 : Nat) (s : ByteArray) (L : List Nat) (J Jx : List Nat → World → Prop) (hJ : AbidesFrom n0 J) (hd : DigTxt s L)
    (hY : ∀ pre x W1, J pre W1 → pre.length < N → YieldAt Fence.wide 3 Tryd.prog l #[.int .i64 ((x % 10 : Nat) : Int)] W1 fun e W' => (e = .returned (.bool true) ∧ J (pre ++ [x]) W' ∧ KeepsWalks W1 W') ∨ (e = .returned (.bool false) ∧ Jx (pre ++ [x]) W'))
    (W : World) (hn : n0 = W.heap.size) (hm : W.cell? ⟨B, 0, none⟩ = some (.string s)) (h0 : J [] W) (hN : L.length ≤ N) :
    Calls Tryd.prog 110 #[.func (.yield l) #[] #[], .pointer (some ⟨B, 0, none⟩)] W fun e W' => (∃ v, e = .returned v) ∧ ((∃ xs, xs = L ∧ J xs W') ∨ (∃ pre, pre <+: L ∧ Jx pre W')) := by
  go_enter Tryd.func110, Tryd.ntmps110
  go_wp2
  go_loopg [4] L.length (fun gk u wr => ∃ pos : Nat, pos ≤ L.length ∧ gk = L.length - pos ∧ wr.heap[W.heap.size]? = some (.stringIter s pos) ∧ J (L.take pos) wr)
  case atStart => exact ⟨0, Nat.zero_le _, by omega, World.iter_heap W s 0, hJ _ _ _ none h0 ⟨rfl, rfl, rfl, by simp [World.iter], fun k hk _ => Below.heap_alloc _ _ _ hk⟩ (fun r e => by cases e)⟩
  case round =>
    obtain ⟨pos, hp, hgk, hit, hj⟩ := hrel
    by_cases hlt : pos < L.length
    · have hnx := next_dig hd hit hlt
      have hd10 := hd.2 (L.getD pos 0) (by rw [List.getD_eq_getElem?_getD, List.getElem?_eq_getElem hlt]; exact List.getElem_mem _)
      obtain ⟨wn, hwn⟩ : ∃ wn, wn = wr.iterAt W.heap.size s (pos + 1) := ⟨_, rfl⟩
      have hitn : wn.heap[W.heap.size]? = some (.stringIter s (pos + 1)) := by rw [hwn]; exact Go.Lib.iterAt_heap wr W.heap.size s pos (pos + 1) hit
      have hjn : J (L.take pos) wn := hJ _ _ _ (some W.heap.size) hj (by rw [hwn]; exact iterAt_grown _ _ _ _) (fun r e => by cases e; exact ⟨Nat.le_of_eq hn, _, hit, rfl⟩)
      rw [← hwn] at hnx
      clear hwn
      have HT := Lib.hid (show L.take (pos + 1) = L.take pos ++ [L.getD pos 0] by
        rw [List.take_add_one, List.getElem?_eq_getElem hlt]; simp [List.getElem?_eq_getElem hlt])
      obtain ⟨fn, tmps, asg, body, hy, hR⟩ := hY (L.take pos) (L.getD pos 0) wn hjn (by rw [List.length_take]; omega)
      rw [Nat.mod_eq_of_lt hd10] at hy
      generalize L.getD pos 0 = d at *
      have hw1 : (48 : Int) + (d : Int) - 48 = (d : Int) := by omega
      go_upto_region 3 with (fail)
      refine (wpIn_wide (n := 4)).1 ?_
      gi_wp2
      refine hR.mono ?_
      rintro e W' (⟨rfl, hJ', hk⟩ | ⟨rfl, hJx'⟩)
      · gi_wp2
        go_wp2
        go_roundg (L.length - (pos + 1))
        case measure => omega
        case rel => exact ⟨pos + 1, by omega, rfl, hk.same _ _ hitn rfl, by rw [HT.out]; exact hJ'⟩
      · gi_wp2
        go_wp2
        refine bodyPost_ret (results_none rfl _ _ _) rfl ?_
        exact ⟨⟨_, rfl⟩, .inr ⟨L.take (pos + 1), List.take_prefix _ _, by rw [HT.out]; exact hJx'⟩⟩
    · obtain rfl : pos = L.length := by omega
      have hnx := fun ty => Go.Lib.run_next_end_at (P := Tryd.prog) wr W.heap.size s L.length ty hit (by rw [hd.size]; omega)
      rw [List.take_length] at hj
      go_wp2
      refine bodyPost_end (results_none rfl _ _ _) rfl ?_
      exact ⟨⟨_, rfl⟩, .inl ⟨L, rfl, hj⟩⟩
theorem digits_stops (B N n : Nat) (s : ByteArray) (L : List Nat) (w : World) (hd : DigTxt s L) (hm : w.cell? ⟨B, 0, none⟩ = some (.string s)) (hN : L.length ≤ N) :
    SeqStopsK Fence.wide n Tryd.prog 110 #[.pointer (some ⟨B, 0, none⟩)] (fun x : Nat => #[.int .i64 ((x % 10 : Nat) : Int)]) KeepsWalks (· = L) (· <+: L) N w := by
  intro l J Jx W hW hJ hJx hY h0
  refine callsIn_wide.2 ?_
  exact dg_c l B N W.heap.size s L J Jx hJ hd (fun pre x W1 hp hl => yieldAt_wide (hY pre x W1 hp hl)) W rfl (bkeep hW hm) h0 hN
/-- what natTxt's letters are -/
def digL (n : Nat) : List Nat := if n = 0 then [0] else (lowD n).reverse
theorem digL_txt (n : Nat) : DigTxt ⟨(natTxt n).toArray⟩ (digL n) := by
  refine ⟨?_, ?_⟩
  · show natTxt n = (digL n).map dig
    unfold natTxt digL
    split
    · rfl
    · rw [asc_eq, List.map_reverse]
  · unfold digL
    split
    · intro d hd; simp at hd; omega
    · intro d hd; exact lowD_lt n d (by simpa using hd)
theorem limbDigits_c (a : Option Addr) (ca : Nat) (l : List Nat) (w : World) (ha : U32 w a ca l) (h1 : l.length ≤ 67108865) :
    Calls Tryd.prog 81 #[.slice a l.length ca] w fun e w' => ∃ B, e = .returned (.func (.func 110) #[] #[.pointer (some ⟨B, 0, none⟩)]) ∧ w'.cell? ⟨B, 0, none⟩ = some (.string ⟨(natTxt (val l)).toArray⟩) ∧ Below w.heap.size w w' := by
  have tc := fun W (h : Below w.heap.size w W) => limbText_c a ca l W (ha.keep h) h1
  go_enter Tryd.func81, Tryd.ntmps81
  go_wp2_with fail
  refine (tc _ (Below.refl _ _)).mono ?_
  rintro e w1 ⟨rfl, hb1⟩
  clear tc
  go_wp2
  go_ret
  exact ⟨_, rfl, cell_new rfl rfl, bal hb1 _⟩
end Go.Proofs.YtannhpadoooedaaDoor
