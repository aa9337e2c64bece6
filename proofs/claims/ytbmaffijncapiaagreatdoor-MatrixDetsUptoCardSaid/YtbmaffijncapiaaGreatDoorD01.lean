/- Texts of this seat, laid together: Lib, Iter, Num, LimbA, Out, Rng, NumR, App, PrgA. Each opens with its own remark, which says what it proves, and under which conditions. -/
import Derived.Test.YtbmaffijncapiaaGreatDoorRows
import Derived.WalkKit
import Derived.ProofKit
import Derived.OpenShut
import Derived.Deep.QuietTactic
import Derived.BigQuiet
import Derived.Outline
import Derived.Lib.Hide
import Derived.WalkSmall
import Derived.WalkSpells
import Derived.WalkLawsBesides
import Derived.Deep.RegionWith
import Derived.Deep.RegionHeld3
import Derived.RangeFuncNested
import Derived.RangeFuncBound
import Derived.RangeFuncCalls
import Derived.RangeFuncLeaves
import Derived.Shelf.Abstract
import Derived.Shelf.RegionOpen
import Derived.OwnWalkIn
import Derived.TacticsInMore
import Derived.LoopNIn
import Derived.LoopIn
import Derived.Deep.Cut
import Derived.Deep.DeepCutAuto
import Derived.Laws.CopyOwn
set_option linter.unusedVariables false
set_option linter.unusedSimpArgs false
/- Small lemmas that every walk of this seat uses: worlds that only grow, cells that are kept, endings. -/
namespace Go.Proofs.YtbmaffijncapiaaGreatDoor
open Go.ChangeShapes Go.WideShapes Go.ChangeAt Go.RowKit

theorem ret_int {k : IntKind} {a b : Int} (h : a = b) : Ending.returned (.int k a) = Ending.returned (.int k b) := by rw [h]
theorem bthen {a W w1 : World} (h : Below a.heap.size a W) (k : Below W.heap.size W w1) : Below a.heap.size a w1 := h.trans (k.mono h.size)
theorem bal {a W : World} (h : Below a.heap.size a W) (o : Obj) : Below a.heap.size a (W.alloc o) := h.alloc h.size o
theorem bset {a W : World} (h : Below a.heap.size a W) {p : Addr} (hp : a.heap.size ≤ p.block) (u : Value) : Below a.heap.size a (W.setCell p u) := h.setCell hp u
theorem bcell {W w1 : World} (hb : Below W.heap.size W w1) : (∀ b o, b < W.heap.size → w1.cell? ⟨b, o, none⟩ = W.cell? ⟨b, o, none⟩) ∧ (∀ b o, b < W.heap.size → w1.frozen? ⟨b, o, none⟩ = W.frozen? ⟨b, o, none⟩) :=
  ⟨fun b o h => hb.cell (p := ⟨b, o, none⟩) h, fun b o h => hb.frozen (p := ⟨b, o, none⟩) h⟩
theorem cell_lt {W : World} {b o : Nat} {s : Option Nat} {v : Value} (h : W.cell? ⟨b, o, s⟩ = some v) : b < W.heap.size := by
  apply Nat.lt_of_not_le; intro hl
  have : W.heap[b]? = none := by simp [hl]
  simp [World.cell?, this] at h
theorem bkeep {W w1 : World} (hb : Below W.heap.size W w1) {p : Addr} {v : Value} (h : W.cell? p = some v) : w1.cell? p = some v := by
  have hp : p.block < W.heap.size := by
    apply Nat.lt_of_not_le; intro hl
    have : W.heap[p.block]? = none := by simp [hl]
    simp [World.cell?, this] at h
  rw [hb.cell hp]; exact h
theorem bkeepf {W w1 : World} (hb : Below W.heap.size W w1) {p : Addr} {v : Value} (h : W.cell? p = some v) (hf : W.frozen? p = false) : w1.frozen? p = false := by
  have hp : p.block < W.heap.size := by
    apply Nat.lt_of_not_le; intro hl
    have : W.heap[p.block]? = none := by simp [hl]
    simp [World.cell?, this] at h
  rw [hb.frozen hp]; exact hf
/-! a cell, behind a step of the world -/
theorem cell_alloc {w : World} {a : Addr} {v : Value} (h : w.cell? a = some v) (o : Obj) : (w.alloc o).cell? a = some v := by
  obtain ⟨b, o', s⟩ := a
  rw [World.cell?_alloc_lt (h := cell_lt h)]; exact h
theorem cell_drew {w : World} {a : Addr} {v : Value} (h : w.cell? a = some v) : w.drew.cell? a = some v := h
theorem cell_drewN {w : World} {a : Addr} {v : Value} (h : w.cell? a = some v) (n : Nat) : (w.drewN n).cell? a = some v := h
theorem cell_new {w : World} {c : Array Value} {t : TypeId} {b i : Nat} {v : Value} (hb : b = w.heap.size) (h : c[i]? = some v) : (w.alloc (.cells c t)).cell? ⟨b, i, none⟩ = some v := by
  rw [World.cell?_alloc_at (hn := hb)]; exact h
theorem cell_far {w : World} {a p : Addr} {v : Value} (h : w.cell? a = some v) (hne : p ≠ a) (u : Value) : (w.setCell p u).cell? a = some v := by
  rw [World.cell?_setCell_other (h := hne)]; exact h
theorem cell_here {w : World} {a : Addr} {v : Value} (h : w.cell? a = some v) (u : Value) : (w.setCell a u).cell? a = some u := by rw [World.cell?_setCell_same (h := h)]
theorem cells_new (w : World) (C : List Value) (t : TypeId) : ∀ j u, C[j]? = some u → (w.alloc (.cells C.toArray t)).cell? ((⟨w.heap.size, 0, none⟩ : Addr).add j) = some u := by
  intro j u h
  have e : (⟨w.heap.size, 0, none⟩ : Addr).add j = ⟨w.heap.size, j, none⟩ := by
    unfold Addr.add; split
    · subst_vars; rfl
    · simp
  rw [e]
  exact cell_new rfl (by simpa using h)
theorem own_below {B : Nat} {e : TypeId} {size : Nat} {w0 wr w' : World} {v : Value} {n : Nat} {xs : List Value} (h : wr.ownsRow B e size v n xs) (hb : Below wr.heap.size wr w') : w'.ownsRow B e size v n xs := by
  obtain ⟨h1, h2⟩ := h
  refine ⟨h1, ?_⟩
  rcases h2 with h2 | ⟨g, cap, cur, hv, hg, hh, r⟩
  · exact .inl h2
  · exact .inr ⟨g, cap, cur, hv, hg, by rw [hb.block g (Array.getElem?_eq_some_iff.1 hh).1]; exact hh, r⟩
theorem below_append {w0 wr W w1 : World} {e : TypeId} {size : Nat} {v : Value} {n : Nat} {xs : List Value} (hB : Below w0.heap.size w0 W) (hown : W.ownsRow w0.heap.size e size v n xs) (hg : W.grownBy w1 v.ownBlock) : Below w0.heap.size w0 w1 :=
  hB.grown hg hB.size (fun k hk => (hown.lt k hk).1)

/-! ### A region that draws its order, whose calls only make memory and answer what their arguments say: one walk in the text's order -/
structure Grows (w : World) where
  world : World
  below : Below w.heap.size w world
instance (w : World) : Nonempty (Grows w) := ⟨⟨w, Below.refl _ _⟩⟩
def grow (w : World) (s : Grows w) : World := s.world
theorem wp_name {P : Program} {c : Code} {Q : Exit → Act → World → Prop} {a : Act} {w : World} (h : ∀ W, W = w → c.wp P Q a W) : c.wp P Q a w := h w rfl
theorem wp_region_grow {P : Program} {id : Nat} {Q : Exit → Act → World → Prop} {a : Act} {w : World} {l : List Oper} (hm : P.follows .mixedOrders = true) (hB : Region.lexB .any l.toArray = true)
    (h : wpQuiet P l.toArray (fun w' => ∃ s, w' = grow w s) (fun a' => ∀ w', Below w.heap.size w w' → Q .normal a' w') l a) : (Code.region id l.toArray true).wp P Q a w := by
  have e : (fun a' => ∀ w', Below w.heap.size w w' → Q .normal a' w') = (fun a' => ∀ w', (∃ s, w' = grow w s) → Q .normal a' w') := by
    funext a'
    exact propext ⟨fun h w' ⟨s, hs⟩ => h w' (hs ▸ s.below), fun h w' hb => h w' ⟨⟨w', hb⟩, rfl⟩⟩
  rw [e] at h
  exact wp_region_quiet (C := fun w' => ∃ s, w' = grow w s) hm hB ⟨⟨w.drew, (Below.refl _ _).drew⟩, rfl⟩ (by simpa using h)
theorem grow_of {P : Program} {f : FuncId} {args : Array Value} {w : World} {s : Grows w} {v : Value}
    (h : Calls P f args (grow w s) fun e w' => e = .returned v ∧ Below (grow w s).heap.size (grow w s) w') : Calls P f args (grow w s) fun e w'' => e = .returned v ∧ ∃ s', w'' = grow w s' :=
  h.mono fun _ w' ⟨he, hb⟩ => ⟨he, ⟨w', s.below.trans (hb.mono s.below.size)⟩, rfl⟩
theorem bkc {W w1 : World} {p : Addr} {v : Value} (hb : Below W.heap.size W w1) (h : W.cell? p = some v := by first | assumption | exact cell_new (by with_reducible first | rfl | (simp; done) | (simp; omega)) rfl | (repeat (first | assumption | exact cell_new (by with_reducible first | rfl | (simp; done) | (simp; omega)) rfl | refine cell_alloc ?_ _ | refine cell_drew ?_ | refine cell_drewN ?_ _ | refine cell_far ?_ (by simp) _ | (refine cell_far ?_ (by simp <;> omega) _))) | simp [go_sem, *]) : w1.cell? p = some v := bkeep hb h
theorem bkcf {W w1 : World} {p : Addr} {v : Value} (hb : Below W.heap.size W w1) (h : W.cell? p = some v := by first | assumption | exact cell_new (by with_reducible first | rfl | (simp; done) | (simp; omega)) rfl | (repeat (first | assumption | exact cell_new (by with_reducible first | rfl | (simp; done) | (simp; omega)) rfl | refine cell_alloc ?_ _ | refine cell_drew ?_ | refine cell_drewN ?_ _ | refine cell_far ?_ (by simp) _ | (refine cell_far ?_ (by simp <;> omega) _))) | simp [go_sem, *]) (hf : W.frozen? p = false := by first | assumption | (simp <;> assumption) | simp [go_sem, *]) : w1.frozen? p = false := bkeepf hb h hf
theorem bzR (n : Nat) (w : World) : Below n w w := Below.refl n w
theorem bzD {n : Nat} {w w1 : World} (h : Below n w w1) : Below n w w1.drew := h.drew
theorem bzN {n : Nat} {w w1 : World} (h : Below n w w1) {k : Nat} : Below n w (w1.drewN k) := below_drewN h k
theorem bzS {w w1 : World} (h : Below w.heap.size w w1) {p : Addr} {v : Value} (hp : w.heap.size ≤ p.block := by simp <;> omega) : Below w.heap.size w (w1.setCell p v) := bset h hp v
theorem bzA {w w1 : World} (h : Below w.heap.size w w1) {o : Obj} : Below w.heap.size w (w1.alloc o) := bal h o
end Go.Proofs.YtbmaffijncapiaaGreatDoor

/- Ranges over functions, in the plain walk: a law in the wide fence, and what its users need. -/
namespace Go.Proofs.YtbmaffijncapiaaGreatDoor
open Go.ChangeShapes Go.WideShapes Go.ChangeAt Go.RowKit
set_option linter.unusedVariables false

theorem grown_of_below {W W' : World} (h : Below W.heap.size W W') : W.grownBy W' none := by
  constructor
  · exact h.os
  · exact h.tape
  · exact h.output
  · exact h.size
  · intro k hk _; exact h.block k hk
theorem calls_of_wp_marks {P : Program} {f : FuncId} {fn : Func} {c : Code} {args : Array Value} {w : World} {R : Ending → World → Prop}
    (hf : P.funcs[f]? = some fn) (hb : fn.body = some c)
    (h : c.wp P (bodyPostM Fence.wide 9 P fn R) { tmps := args ++ Array.replicate (fn.ntmps - args.size) undef, defers := [] } w) : Calls P f args w R :=
  callsIn_wide.1 (callsIn_of_wp_marks (F := Fence.wide) (n := 9) hf hb trivial (wpIn_wide.2 h) rfl)
theorem roundIn_wide {n m : Nat} {P : Program} {l : Nat} {f : FuncId} {tmps : Array Value} {assign body : Code} {w : World} {R : Ending → World → Prop} (h : RoundIn Fence.wide n P l f tmps assign body w R) : RoundIn Fence.wide m P l f tmps assign body w R :=
  ⟨h.1, fun c cs _ => h.2 c cs (room_wide _)⟩
theorem yieldAt_wide {n m : Nat} {P : Program} {l : Nat} {args : Array Value} {W : World} {R : Ending → World → Prop} (h : YieldAt Fence.wide n P l args W R) : YieldAt Fence.wide m P l args W R := by
  obtain ⟨fn, tmps, assign, body, hy, hR⟩ := h
  exact ⟨fn, tmps, assign, body, hy, roundIn_wide hR⟩

structure Soft (B : Nat) (W W' : World) : Prop where
  below : Below B W W'
  cells : ∀ (k : Nat) (o : Obj), W.heap[k]? = some o → o.isCells = true → W'.heap[k]? = some o
theorem soft_of_grown {B : Nat} {W W' : World} {row : Option Nat} (hB : B ≤ W.heap.size) (hg : W.grownBy W' row) (hr : ∀ r, row = some r → B ≤ r ∧ ∃ o : Obj, W.heap[r]? = some o ∧ o.isCells = false) : Soft B W W' := by
  refine ⟨(Below.refl B W).grown hg hB (fun k e => (hr k e).1), fun k o hk ho => ?_⟩
  refine (hg.block k (Array.getElem?_eq_some_iff.1 hk).1 (fun e => ?_)).trans hk
  obtain ⟨_, o', ho', hc⟩ := hr k e.symm
  rw [hk] at ho'; cases ho'; rw [ho] at hc; cases hc
theorem Soft.block {B : Nat} {W W' : World} (h : Soft B W W') {p : Addr} {v : Value} (hv : W.cell? p = some v) : W'.heap[p.block]? = W.heap[p.block]? := by
  unfold World.cell? at hv
  split at hv
  · rename_i c t f e
    rw [e]; exact h.cells _ _ e rfl
  · cases hv
theorem Soft.cell {B : Nat} {W W' : World} (h : Soft B W W') {p : Addr} {v : Value} (hv : W.cell? p = some v) : W'.cell? p = some v :=
  (World.cell?_of_block (h.block hv)).trans hv
theorem Soft.frozen {B : Nat} {W W' : World} (h : Soft B W W') {p : Addr} {v : Value} (hv : W.cell? p = some v) (hf : W.frozen? p = false) : W'.frozen? p = false :=
  (World.frozen?_of_block (h.block hv)).trans hf

/-! what a round's body keeps -/
theorem kf_set {B : Nat} {W X : World} (h : KeepsFrom B W X) (p : Addr) (v : Value) : KeepsFrom B W (X.setCell p v) := h.trans ((KeepsOthers.setCell X p v).from B)
theorem wp_rangeK {P : Program} {α : Type} {g : Operand} {ps : Array Tmp} {assign body : Code} {Q : Exit → Act → World → Prop} {a : Act} {w : World}
    {gf : Nat} {lb : Array Value} (hg : a.eval g = .func (.func gf) #[] lb) (eg : ∀ args w, (callFunc gf args).run P w = .ok (.enter gf args) w)
    {encs : α → Array Value} {L : List α} {N : Nat} {Kp : World → World → Prop} {w0 : World} (hseq : SeqStopsK Fence.wide 8 P gf lb encs Kp (· = L) (· <+: L) N w0)
    (hKt : ∀ {A B C : World}, Kp A B → Kp B C → Kp A C) (hKb : ∀ (W : World) (l : Nat) (o o' : Obj), w.heap.size ≤ l → W.heap[l]? = some o → o.isCells = false → o.isWalk = false → Kp W (W.putObj l o'))
    (hb0 : Below w0.heap.size w0 w) (hps : ∀ x, (encs x).size = ps.size)
    (I : List α → World → Prop) (Ix : Code → List α → World → Prop) (hI : ∀ pre W W', I pre W → Soft w.heap.size W W' → I pre W') (hIx : ∀ c pre W W', Ix c pre W → Soft w.heap.size W W' → Ix c pre W')
    (hsz : ∀ pre W, I pre W → w.heap.size ≤ W.heap.size) (hszx : ∀ c pre W, Ix c pre W → w.heap.size ≤ W.heap.size) (h0 : I [] w)
    (Ax : Array Value → α → Act → World → Prop) (hAx : ∀ x a' W W', Ax a.tmps x a' W → Soft w.heap.size W W' → Ax a.tmps x a' W') (hAsz : ∀ x a' W, Ax a.tmps x a' W → w.heap.size ≤ W.heap.size)
    (hassign : ∀ (l : Nat) (pre : List α) (x : α) (W : World) (K : Act → World → Prop), I pre W → (∀ a' W', KeepsFrom w.heap.size W W' → Kp W W' → I pre W' → Ax a.tmps x a' W' → K a' W') →
      assign.wpIn (Fence.wide.inRound l) 7 P (Exit.then K (fun _ _ _ => False)) { tmps := (ps.zip (encs x)).foldl (fun t (p, v) => t.setIfInBounds p v) a.tmps, defers := [] } W)
    (hbody : ∀ (l : Nat) (pre : List α) (x : α) (a' : Act) (W : World), I pre W → Ax a.tmps x a' W → pre.length < N → body.wpIn (Fence.wide.inRound l) 7 P (ownPostG w.heap.size Kp I Ix (pre ++ [x]) W) a' W)
    (hdone : ∀ (D : Nat) (W : World), w.heap.size ≤ D → I L W → W.heap[D]? = some (.deferred (some [])) → Q .normal { a with defers := { target := .collected D, args := #[] } :: a.defers } W)
    (hstop : ∀ (D : Nat) (c : Code) (pre : List α) (W : World), w.heap.size ≤ D → pre <+: L → Ix c pre W → W.heap[D]? = some (.deferred (some [])) → c.wp P Q { a with defers := { target := .collected D, args := #[] } :: a.defers } W) :
    (Code.rangeFunc g ps assign body).wp P Q a w := by
  refine (wpIn_wide (n := 9)).1 ?_
  refine wpIn_rangeFunc_ownH (F := Fence.wide) rfl (by omega) hg trivial eg hseq hKt hKb hb0 hps I Ix ?_ ?_ h0 (Ax a.tmps) ?_ hassign
    (fun l pre x a' W _ _ hi hax hl => hbody l pre x a' W hi hax hl) (fun D xs W hD hx hi hk => by subst hx; exact hdone D W hD hi hk) (fun D c pre W hD hp hi hk => wpIn_wide.2 (hstop D c pre W hD hp hi hk))
  · intro pre W W' row hi hg' hr
    exact hI pre W W' hi (soft_of_grown (hsz _ _ hi) hg' hr)
  · intro c pre W W' row hi hg' hr
    exact hIx c pre W W' hi (soft_of_grown (hszx _ _ _ hi) hg' hr)
  · intro x a' u W W' row hi hg' hr
    exact hAx x a' W W' hi (soft_of_grown (hAsz _ _ _ hi) hg' hr)

theorem b_put {a W : World} (h : Below a.heap.size a W) {D : Nat} (hD : a.heap.size ≤ D) (o : Obj) : Below a.heap.size a (W.putObj D o) :=
  h.grown (grownBy_putObj' W D o) h.size (fun k e => by cases e; exact hD)

/-! ### A region that draws its order, in a round: one walk in the text's order -/
section
variable {P : Program} {ops : Array Oper} {C : World → Prop} {l n : Nat}
end
end Go.Proofs.YtbmaffijncapiaaGreatDoor

/- Plain laws: numbers as lists of digits to the base 2^32, low one first. -/
namespace Go.Proofs.YtbmaffijncapiaaGreatDoor.Num

def BB : Nat := 4294967296
theorem BB_pos : 0 < BB := by unfold BB; omega
def val : List Nat → Nat
  | [] => 0
  | x :: l => x + BB * val l
def Limbs (l : List Nat) : Prop := ∀ x ∈ l, x < BB
def Nrm (l : List Nat) : Prop := ∀ h : l ≠ [], l.getLast h ≠ 0
def trimL (l : List Nat) : List Nat := (l.reverse.dropWhile (· == 0)).reverse

theorem val_append (l m : List Nat) : val (l ++ m) = val l + BB ^ l.length * val m := by
  induction l with
  | nil => simp [val]
  | cons x l ih =>
    simp only [val, List.cons_append, ih, List.length_cons, Nat.pow_succ, Nat.mul_add, Nat.add_assoc]
    congr 2
    rw [← Nat.mul_assoc, Nat.mul_comm BB]
theorem val_lt {l : List Nat} (h : Limbs l) : val l < BB ^ l.length := by
  induction l with
  | nil => simp [val]
  | cons x l ih =>
    have h1 := ih (fun y hy => h y (by simp [hy]))
    have h2 := h x (by simp)
    simp only [val, List.length_cons, Nat.pow_succ]
    have h3 : val l + 1 ≤ BB ^ l.length := h1
    have h4 := Nat.mul_le_mul_left BB h3
    rw [Nat.mul_add] at h4
    rw [Nat.mul_comm (BB ^ l.length) BB]
    omega
theorem val_zeros (n : Nat) : val (List.replicate n 0) = 0 := by
  induction n with
  | zero => rfl
  | succ n ih => simp [List.replicate_succ, val, ih]
theorem trimL_append_zero (l : List Nat) : trimL (l ++ [0]) = trimL l := by simp [trimL]
theorem trimL_append_pos (l : List Nat) (x : Nat) (h : x ≠ 0) : trimL (l ++ [x]) = l ++ [x] := by simp [trimL, h]
theorem trimL_nil : trimL [] = [] := rfl
theorem list_snoc_ind {P : List Nat → Prop} (h0 : P []) (h1 : ∀ l x, P l → P (l ++ [x])) (l : List Nat) : P l := by
  rw [← List.reverse_reverse l]
  generalize l.reverse = m
  induction m with
  | nil => exact h0
  | cons x m ih => rw [List.reverse_cons]; exact h1 _ _ ih
theorem val_trim (l : List Nat) : val (trimL l) = val l := by
  induction l using list_snoc_ind with
  | h0 => rfl
  | h1 l x ih =>
    by_cases hx : x = 0
    · subst hx; rw [trimL_append_zero, ih, val_append]; simp [val]
    · rw [trimL_append_pos l x hx]
theorem trim_prefix (l : List Nat) : trimL l <+: l := by
  induction l using list_snoc_ind with
  | h0 => exact List.prefix_rfl
  | h1 l x ih =>
    by_cases hx : x = 0
    · subst hx; rw [trimL_append_zero]; exact ih.trans (List.prefix_append _ _)
    · rw [trimL_append_pos l x hx]; exact List.prefix_rfl
theorem trim_len (l : List Nat) : (trimL l).length ≤ l.length := (trim_prefix l).length_le
theorem trim_limbs {l : List Nat} (h : Limbs l) : Limbs (trimL l) := fun x hx => h x ((trim_prefix l).subset hx)
theorem trim_nrm (l : List Nat) : Nrm (trimL l) := by
  induction l using list_snoc_ind with
  | h0 => intro h; exact absurd rfl h
  | h1 l x ih =>
    by_cases hx : x = 0
    · subst hx; rw [trimL_append_zero]; exact ih
    · rw [trimL_append_pos l x hx]; intro h; simpa using hx
theorem trim_of_nrm {l : List Nat} (h : Nrm l) : trimL l = l := by
  induction l using list_snoc_ind with
  | h0 => rfl
  | h1 l x ih =>
    have := h (by simp)
    simp at this
    exact trimL_append_pos l x this
theorem trim_take (l : List Nat) : trimL l = l.take (trimL l).length := by
  have := List.prefix_iff_eq_take.1 (trim_prefix l)
  exact this
theorem nrm_val_pos {l : List Nat} (h : Nrm l) (hn : l ≠ []) : BB ^ (l.length - 1) ≤ val l := by
  obtain ⟨m, x, rfl⟩ : ∃ m x, l = m ++ [x] := ⟨l.dropLast, l.getLast hn, (List.dropLast_concat_getLast hn).symm⟩
  have hx := h hn
  simp at hx
  rw [val_append]
  simp [val]
  have : BB ^ m.length * 1 ≤ BB ^ m.length * x := Nat.mul_le_mul_left _ (by omega)
  omega
end Go.Proofs.YtbmaffijncapiaaGreatDoor.Num

/- limb: trim, Norm. -/
namespace Go.Proofs.YtbmaffijncapiaaGreatDoor
open Num
open Go.ChangeShapes Go.WideShapes Go.ChangeAt Go.RowKit
set_option linter.unusedVariables false
set_option linter.unusedSimpArgs false

def typOf (w : World) (b : Nat) : Option TypeId := match w.heap[b]? with
  | some (.cells _ t _) => some t
  | _ => none
theorem typ_of_block {w w' : World} {b : Nat} (h : w'.heap[b]? = w.heap[b]?) : typOf w' b = typOf w b := by unfold typOf; rw [h]
theorem typ_lt {w : World} {b : Nat} {t : TypeId} (h : typOf w b = some t) : b < w.heap.size := by
  apply Nat.lt_of_not_le; intro hl
  have : w.heap[b]? = none := by simp [hl]
  simp [typOf, this] at h
theorem typ_keep {w w' : World} {b : Nat} {t : TypeId} (h : typOf w b = some t) (hb : Below w.heap.size w w') : typOf w' b = some t := by
  rw [typ_of_block (w := w) (hb.block b (typ_lt h))]; exact h
theorem typ_set (w : World) (p : Addr) (v : Value) (b : Nat) : typOf (w.setCell p v) b = typOf w b := by
  by_cases e : b = p.block
  · subst e
    unfold typOf World.setCell
    simp only [Array.getElem?_modify, if_true]
    cases w.heap[p.block]? with
    | none => rfl
    | some o => cases o <;> rfl
  · exact typ_of_block (Below.heap_setCell w p v b e)
structure At32 (w : World) (b off : Nat) (l : List Nat) : Prop where
  cell : ∀ k, k < l.length → w.cell? ⟨b, off + k, none⟩ = some (.int .u32 (l.getD k 0 : Nat))
  ty : typOf w b = some 177
instance {w : World} {b off : Nat} {l : List Nat} : CoeFun (At32 w b off l) (fun _ => ∀ k, k < l.length → w.cell? ⟨b, off + k, none⟩ = some (.int .u32 (l.getD k 0 : Nat))) := ⟨At32.cell⟩
def C32 (w : World) (a : Option Addr) (l : List Nat) : Prop := l = [] ∨ ∃ b off, a = some ⟨b, off, none⟩ ∧ At32 w b off l
def U32 (w : World) (a : Option Addr) (cap : Nat) (l : List Nat) : Prop := l.length ≤ cap ∧ cap ≤ maxLen ∧ Limbs l ∧ C32 w a l
theorem C32.keep {w w' : World} {a : Option Addr} {l : List Nat} (h : C32 w a l) (hb : Below w.heap.size w w') : C32 w' a l := by
  rcases h with h | ⟨b, off, h1, h2⟩
  · exact .inl h
  · exact .inr ⟨b, off, h1, fun k hk => bkeep hb (h2 k hk), typ_keep h2.ty hb⟩
theorem U32.keep {w w' : World} {a : Option Addr} {cap : Nat} {l : List Nat} (h : U32 w a cap l) (hb : Below w.heap.size w w') : U32 w' a cap l := ⟨h.1, h.2.1, h.2.2.1, h.2.2.2.keep hb⟩
theorem C32.take {w : World} {a : Option Addr} {l m : List Nat} (h : C32 w a l) (hp : m <+: l) : C32 w a m := by
  rcases h with rfl | ⟨b, off, h1, h2⟩
  · exact .inl (List.prefix_nil.1 hp)
  · refine .inr ⟨b, off, h1, fun k hk => ?_, h2.ty⟩
    obtain ⟨t, rfl⟩ := hp
    rw [h2 k (by simp; omega)]
    simp [hk, List.getElem?_append]
namespace Num
theorem trim_take_zero {l : List Nat} {k : Nat} (hk : k < l.length) (h0 : l.getD k 0 = 0) : trimL (l.take (k + 1)) = trimL (l.take k) := by
  rw [List.take_succ_eq_append_getElem hk]
  have : l[k] = 0 := by simpa [hk] using h0
  rw [this, trimL_append_zero]
theorem trim_take_pos {l : List Nat} {k : Nat} (hk : k < l.length) (h0 : l.getD k 0 ≠ 0) : trimL (l.take (k + 1)) = l.take (k + 1) := by
  rw [List.take_succ_eq_append_getElem hk]
  have : l[k] ≠ 0 := by simpa [hk] using h0
  rw [trimL_append_pos _ _ this]
end Num

set_option maxRecDepth 100000 in
set_option maxHeartbeats 1000000 in
theorem trim_c (a : Option Addr) (cap : Nat) (l : List Nat) (w : World) (h : U32 w a cap l) :
    Calls Tryz.prog 210 #[.slice a l.length cap] w fun e w' => e = .returned (.slice a (trimL l).length (trimL l).length) ∧ w = w' := by
  obtain ⟨hc, hm, hl, hcs⟩ := h
  unfold maxLen at hm
  go_enter Tryz.func210, Tryz.ntmps210
  go_wp2
  go_loop [3] (fun x => ∃ k : Nat, k ≤ l.length ∧ x = .int .i64 k ∧ trimL (l.take k) = trimL l) (fun x => (intOf x).toNat)
  case atStart => exact ⟨l.length, Nat.le_refl _, rfl, by rw [List.take_length]⟩
  case round =>
    obtain ⟨k, hk, rfl, ht⟩ := hrel
    have HT := Lib.hid ht
    clear ht
    cases k with
    | zero =>
      have hz : (trimL l).length = 0 := by have := HT.out; rw [List.take_zero] at this; rw [← this]; rfl
      have HZ := Lib.hid hz
      clear hz
      go_wp2
      go_ret
      exact ⟨by rw [HZ.out]; rfl, rfl⟩
    | succ j =>
      rcases hcs with rfl | ⟨b, off, rfl, hcell⟩
      · simp at hk
      have hj := hcell j (by omega)
      by_cases h0 : l.getD j 0 = 0
      · have HN := Lib.hid (trim_take_zero (by omega : j < l.length) h0)
        rw [h0] at hj
        go_wp2
        exact ⟨⟨j, by omega, rfl, HN.out.symm.trans HT.out⟩, by simp [intOf] <;> omega⟩
      · have HN := Lib.hid (trim_take_pos (by omega : j < l.length) h0)
        generalize hx : l.getD j 0 = x at *
        have hx0 : ((x : Int) == 0) = false := by simp; omega
        have HL := Lib.hid (show (trimL l).length = j + 1 by rw [← HT.out, HN.out]; simp; omega)
        go_wp2
        go_ret
        exact ⟨by rw [HL.out]; rfl, rfl⟩

theorem U32.trim {w : World} {a : Option Addr} {cap : Nat} {l : List Nat} (h : U32 w a cap l) : U32 w a (trimL l).length (trimL l) :=
  ⟨Nat.le_refl _, Nat.le_trans (trim_len l) (Nat.le_trans h.1 h.2.1), trim_limbs h.2.2.1, h.2.2.2.take (trim_prefix l)⟩
theorem info32 : (Tryz.prog.info? 177).map (fun i => (i.zero, i.size, i.bytes)) = some (some (.int .u32 0), 1, 4) := by kernel_rfl
def cel (l : List Nat) : List Value := l.map fun x : Nat => .int .u32 (x : Int)
theorem cel_len (l : List Nat) : (cel l).length = l.length := by simp [cel]
theorem cel_get (l : List Nat) (k : Nat) (h : k < l.length) : (cel l)[k]? = some (.int .u32 (l.getD k 0 : Nat)) := by simp [cel, h]
theorem cel_one (l : List Nat) : ∀ v ∈ cel l, v.oneCell' = true := by
  intro v hv; simp only [cel, List.mem_map] at hv; obtain ⟨x, _, rfl⟩ := hv; rfl
def Blk (w : World) (g : Nat) (l : List Nat) : Prop := w.heap[g]? = some (.cells (cel l).toArray 177 (0, 0))
theorem Blk.cell {w : World} {g : Nat} {l : List Nat} (h : Blk w g l) (k : Nat) (hk : k < l.length) : w.cell? ⟨g, k, none⟩ = some (.int .u32 (l.getD k 0 : Nat)) := by
  have := cel_get l k hk
  unfold World.cell?
  rw [show w.heap[(⟨g, k, none⟩ : Addr).block]? = _ from h]
  simpa using this
theorem Blk.frozen {w : World} {g : Nat} {l : List Nat} (h : Blk w g l) (k : Nat) : w.frozen? ⟨g, k, none⟩ = false := by
  unfold World.frozen?
  rw [show w.heap[(⟨g, k, none⟩ : Addr).block]? = _ from h]
  simp
theorem Blk.lt {w : World} {g : Nat} {l : List Nat} (h : Blk w g l) : g < w.heap.size := (Array.getElem?_eq_some_iff.1 h).1
theorem Blk.keep {w w' : World} {g : Nat} {l : List Nat} (h : Blk w g l) (hb : Below w.heap.size w w') : Blk w' g l := (hb.block g h.lt).trans h
theorem Blk.alloc {w : World} {g : Nat} {l : List Nat} (h : Blk w g l) (o : Obj) : Blk (w.alloc o) g l := (Below.heap_alloc w o g h.lt).trans h
theorem Blk.set {w : World} {g : Nat} {l : List Nat} (h : Blk w g l) (k x : Nat) : Blk (w.setCell ⟨g, k, none⟩ (.int .u32 (x : Int))) g (l.set k x) := by
  unfold Blk World.setCell
  simp only [Array.getElem?_modify, if_true]
  rw [show w.heap[g]? = _ from h]
  simp [cel, List.map_set]
theorem Blk.far {w : World} {g : Nat} {l : List Nat} (h : Blk w g l) (p : Addr) (v : Value) (hp : g ≠ p.block) : Blk (w.setCell p v) g l := (Below.heap_setCell w p v g hp).trans h
theorem Blk.u32 {w : World} {g : Nat} {l : List Nat} (h : Blk w g l) (hl : Limbs l) (hm : l.length ≤ maxLen) : U32 w (some ⟨g, 0, none⟩) l.length l :=
  ⟨Nat.le_refl _, hm, hl, .inr ⟨g, 0, rfl, fun k hk => by simpa using h.cell k hk, by unfold typOf; rw [show w.heap[g]? = _ from h]⟩⟩
theorem mk32 (n : Nat) (hn : n ≤ 35184372088832) (w : World) : (Instr.makeSlice 48 (.int .i64 (n : Int)) (.int .i64 (n : Int))).run Tryz.prog w = .ok (.slice (some ⟨w.heap.size, 0, none⟩) n n) (w.alloc (.cells (cel (List.replicate n 0)).toArray 177)) := by
  obtain ⟨i0, hi, hz0, hz1, hz2⟩ := info_parts info32
  have e : madeCells (Value.int .u32 0).cells ((n : Int).toNat * 1) = (cel (List.replicate n 0)).toArray := by
    apply Array.ext
    · simp [size_madeCells, cel]
    · intro i h1 h2
      simp [madeCells, cel, Value.cells, Nat.mod_one]
  rw [run_make w _ _ i0 _ Tryz.underlying48 hi hz0 .i64 .i64 n n (by omega) (by omega) (by rw [hz2]; omega) (by omega), hz1, e]
  rfl
theorem blk_new (w : World) (l : List Nat) : Blk (w.alloc (.cells (cel l).toArray 177)) w.heap.size l := by
  unfold Blk; exact (MapKept.heap_alloc w _).1
theorem blk_at {w : World} {g : Nat} {l : List Nat} (hg : g = w.heap.size) : Blk (w.alloc (.cells (cel l).toArray 177)) g l := by subst hg; exact blk_new w l

set_option maxRecDepth 100000 in
set_option maxHeartbeats 1000000 in
theorem limbNorm_c (a : Option Addr) (cap : Nat) (l : List Nat) (w : World) (h : U32 w a cap l) (hlen : l.length ≤ 1099511627776) :
    Calls Tryz.prog 213 #[.slice a l.length cap] w fun e w' => (∃ a', e = .returned (.slice a' (trimL l).length (trimL l).length) ∧ U32 w' a' (trimL l).length (trimL l)) ∧ Below w.heap.size w w' := by
  have tc := fun w h => trim_c a cap l w h
  have h1 := h.trim
  have hlm := Nat.le_trans (trim_len l) hlen
  generalize trimL l = m at *
  go_enter Tryz.func213, Tryz.ntmps213
  go_wp2_with fail
  refine (tc _ h).mono ?_
  rintro e w1 ⟨rfl, rfl⟩
  clear tc
  have hmk := mk32 m.length (by omega)
  go_wp2_with (refine wpList_copy_splice (o := ⟨some 11, _, _, _, _, _⟩) rfl _ _ 48 48 rfl 177 Tryz.underlying48 (by kernel_rfl) (some ⟨w.heap.size, 0, none⟩) a m.length m.length m.length m.length rfl rfl w.heap.size 0 (cel (List.replicate m.length 0)) 177 (blk_new w _) (cel m) ?_ ?_ ?_ (cel_one m) w.heap.size w (bal (Below.refl _ _) _) (Nat.le_refl _) ?_)
  · rw [cel_len]; exact (Nat.min_self _).symm
  · intro h0
    rw [cel_len] at h0
    rcases h1.2.2.2 with hm0 | ⟨b, off, ha, hcell⟩
    · subst hm0; simp at h0
    · refine ⟨_, ha, fun j v hj => cell_alloc ?_ _⟩
      have hjl : j < m.length := by have := (List.getElem?_eq_some_iff.1 hj).1; rwa [cel_len] at this
      rw [cel_get m j hjl] at hj
      cases hj
      have := hcell j hjl
      unfold Addr.add
      split
      · subst_vars; simpa using this
      · exact this
  · simp [cel_len]
  · intro w' hw' hb'
    have hsp : splice (cel (List.replicate m.length 0)) 0 (cel m) = cel m := by simp [splice, cel]
    rw [hsp] at hw'
    have HW : Hid (Blk w' w.heap.size m) := hw'
    go_wp2
    go_ret
    exact ⟨⟨_, rfl, (HW.out : Blk w' w.heap.size m).u32 h1.2.2.1 h1.2.1⟩, hb'⟩
end Go.Proofs.YtbmaffijncapiaaGreatDoor

/- What a piece of code may have written: 'Out X w w'': of w's blocks those outside X are as they were. -/
namespace Go.Proofs.YtbmaffijncapiaaGreatDoor
open Num
open Go.ChangeShapes Go.WideShapes Go.ChangeAt Go.RowKit
structure Out (X : Nat → Prop) (w w' : World) : Prop where
  os : w'.os = w.os
  tape : w'.tape = w.tape
  output : w'.output = w.output
  size : w.heap.size ≤ w'.heap.size
  block : ∀ k, k < w.heap.size → ¬ X k → w'.heap[k]? = w.heap[k]?
section
variable {X Y : Nat → Prop} {a b c w w' : World}
theorem Out.refl (X : Nat → Prop) (w : World) : Out X w w := ⟨rfl, rfl, rfl, Nat.le_refl _, fun _ _ _ => rfl⟩
theorem Out.trans (h : Out X a b) (k : Out X b c) : Out X a c :=
  ⟨k.os.trans h.os, k.tape.trans h.tape, k.output.trans h.output, Nat.le_trans h.size k.size, fun i hi hx => (k.block i (Nat.lt_of_lt_of_le hi h.size) hx).trans (h.block i hi hx)⟩
theorem Out.mono (h : Out X a b) (k : ∀ i, i < a.heap.size → X i → Y i) : Out Y a b := ⟨h.os, h.tape, h.output, h.size, fun i hi hx => h.block i hi fun hi' => hx (k i hi hi')⟩
theorem Out.then (h : Out X a b) (k : Out Y b c) (hy : ∀ i, i < a.heap.size → Y i → X i) : Out X a c :=
  ⟨k.os.trans h.os, k.tape.trans h.tape, k.output.trans h.output, Nat.le_trans h.size k.size, fun i hi hx => (k.block i (Nat.lt_of_lt_of_le hi h.size) fun h' => hx (hy i hi h')).trans (h.block i hi hx)⟩
theorem Out.of_below (X : Nat → Prop) (h : Below a.heap.size a b) : Out X a b := ⟨h.os, h.tape, h.output, h.size, fun i hi _ => h.block i hi⟩
theorem Out.below (h : Out X a b) (k : Below b.heap.size b c) : Out X a c := h.trans (.of_below X k)
theorem Out.alloc (h : Out X a b) (o : Obj) : Out X a (b.alloc o) := h.below (bal (Below.refl _ _) o)
theorem Out.drew (h : Out X a b) : Out X a b.drew := ⟨h.os, h.tape, h.output, h.size, h.block⟩
theorem Out.drewN (h : Out X a b) (n : Nat) : Out X a (b.drewN n) := h.below (below_drewN (Below.refl _ _) n)
theorem Out.set (h : Out X a b) {p : Addr} (hp : p.block < a.heap.size → X p.block) (u : Value) : Out X a (b.setCell p u) :=
  ⟨h.os, h.tape, h.output, Nat.le_trans h.size (by simp [World.setCell]), fun k hk hx => (Below.heap_setCell _ _ _ _ fun e => hx (by subst e; exact hp hk)).trans (h.block k hk hx)⟩
theorem Out.grown (h : Out X a b) {row : Option Nat} (hg : b.grownBy c row) (hr : ∀ k, row = some k → k < a.heap.size → X k) : Out X a c :=
  ⟨hg.os.trans h.os, hg.tape.trans h.tape, hg.output.trans h.output, Nat.le_trans h.size hg.size, fun k hk hx => (hg.block k (Nat.lt_of_lt_of_le hk h.size) fun e => hx (hr k e.symm hk)).trans (h.block k hk hx)⟩
theorem Out.to_below {B : Nat} (h : Out X a b) (hx : ∀ k, k < B → k < a.heap.size → ¬ X k) (hB : B ≤ a.heap.size) : Below B a b :=
  ⟨h.os, h.tape, h.output, h.size, fun k hk => h.block k (by omega) (hx k hk (by omega))⟩
theorem okeep (h : Out X a b) {q o : Nat} {s : Option Nat} {v : Value} (hc : a.cell? ⟨q, o, s⟩ = some v) (hx : ¬ X q) : b.cell? ⟨q, o, s⟩ = some v := by
  rw [World.cell?_of_block (w := a) (h.block q (cell_lt hc) hx)]; exact hc
theorem okeepf (h : Out X a b) {q o : Nat} {s : Option Nat} {v : Value} (hc : a.cell? ⟨q, o, s⟩ = some v) (hf : a.frozen? ⟨q, o, s⟩ = false) (hx : ¬ X q) : b.frozen? ⟨q, o, s⟩ = false := by
  rw [World.frozen?_of_block (w := a) (h.block q (cell_lt hc) hx)]; exact hf
theorem Out.blk (h : Out X a b) {g : Nat} {l : List Nat} (hb : Blk a g l) (hx : ¬ X g) : Blk b g l := (h.block g hb.lt hx).trans hb
theorem C32.okeep {o : Option Addr} {l : List Nat} (h : C32 a o l) (k : Out X a b) (hx : ∀ q f, o = some ⟨q, f, none⟩ → ¬ X q) : C32 b o l := by
  rcases h with h | ⟨q, off, h1, h2⟩
  · exact .inl h
  · exact .inr ⟨q, off, h1, fun i hi => _root_.Go.Proofs.YtbmaffijncapiaaGreatDoor.okeep k (h2 i hi) (hx q off h1), by rw [typ_of_block (w := a) (k.block q (typ_lt h2.ty) (hx q off h1))]; exact h2.ty⟩
theorem U32.okeep {o : Option Addr} {cap : Nat} {l : List Nat} (h : U32 a o cap l) (k : Out X a b) (hx : ∀ q f, o = some ⟨q, f, none⟩ → ¬ X q) : U32 b o cap l := ⟨h.1, h.2.1, h.2.2.1, h.2.2.2.okeep k hx⟩
end
end Go.Proofs.YtbmaffijncapiaaGreatDoor

/- Ranges over functions whose told values lie in memory: what is told is known to be right where it is told. -/
namespace Go.Proofs.YtbmaffijncapiaaGreatDoor
open Go.ChangeShapes Go.WideShapes Go.ChangeAt Go.RowKit
set_option linter.unusedVariables false
set_option linter.unusedSimpArgs false
def OutT (X : Nat → Prop) (a b : World) : Prop := Out X a b ∧ ∀ q, X q → q < a.heap.size → typOf b q = typOf a q
end Go.Proofs.YtbmaffijncapiaaGreatDoor

/- Plain laws: numbers as lists of digits to the base 65536, low one first. (Printed by wip/bin/mk_numr.py.) -/
namespace Go.Proofs.YtbmaffijncapiaaGreatDoor.NumR
open Num (Nrm trimL trimL_append_zero trimL_append_pos trimL_nil list_snoc_ind trim_prefix trim_len trim_nrm trim_of_nrm trim_take)

def BB : Nat := 65536
theorem BB_pos : 0 < BB := by unfold BB; omega
def val : List Nat → Nat
  | [] => 0
  | x :: l => x + BB * val l
def Limbs (l : List Nat) : Prop := ∀ x ∈ l, x < BB
theorem val_append (l m : List Nat) : val (l ++ m) = val l + BB ^ l.length * val m := by
  induction l with
  | nil => simp [val]
  | cons x l ih =>
    simp only [val, List.cons_append, ih, List.length_cons, Nat.pow_succ, Nat.mul_add, Nat.add_assoc]
    congr 2
    rw [← Nat.mul_assoc, Nat.mul_comm BB]
theorem val_lt {l : List Nat} (h : Limbs l) : val l < BB ^ l.length := by
  induction l with
  | nil => simp [val]
  | cons x l ih =>
    have h1 := ih (fun y hy => h y (by simp [hy]))
    have h2 := h x (by simp)
    simp only [val, List.length_cons, Nat.pow_succ]
    have h3 : val l + 1 ≤ BB ^ l.length := h1
    have h4 := Nat.mul_le_mul_left BB h3
    rw [Nat.mul_add] at h4
    rw [Nat.mul_comm (BB ^ l.length) BB]
    omega
theorem val_zeros (n : Nat) : val (List.replicate n 0) = 0 := by
  induction n with
  | zero => rfl
  | succ n ih => simp [List.replicate_succ, val, ih]
theorem val_trim (l : List Nat) : val (trimL l) = val l := by
  induction l using list_snoc_ind with
  | h0 => rfl
  | h1 l x ih =>
    by_cases hx : x = 0
    · subst hx; rw [trimL_append_zero, ih, val_append]; simp [val]
    · rw [trimL_append_pos l x hx]
theorem trim_limbs {l : List Nat} (h : Limbs l) : Limbs (trimL l) := fun x hx => h x ((trim_prefix l).subset hx)
theorem nrm_val_pos {l : List Nat} (h : Nrm l) (hn : l ≠ []) : BB ^ (l.length - 1) ≤ val l := by
  obtain ⟨m, x, rfl⟩ : ∃ m x, l = m ++ [x] := ⟨l.dropLast, l.getLast hn, (List.dropLast_concat_getLast hn).symm⟩
  have hx := h hn
  simp at hx
  rw [val_append]
  simp [val]
  have : BB ^ m.length * 1 ≤ BB ^ m.length * x := Nat.mul_le_mul_left _ (by omega)
  omega
theorem val_set {l : List Nat} {k : Nat} (x : Nat) (hk : k < l.length) : val (l.set k x) + l.getD k 0 * BB ^ k = val l + x * BB ^ k := by
  induction l generalizing k with
  | nil => simp at hk
  | cons y l ih =>
    cases k with
    | zero => simp [val]; omega
    | succ k =>
      have := ih (k := k) (by simpa using hk)
      simp only [List.set_cons_succ, val, List.getD_cons_succ, Nat.pow_succ]
      have e := congrArg (BB * ·) this
      simp only [Nat.mul_add] at e
      have c1 : ∀ z : Nat, z * (BB ^ k * BB) = BB * (z * BB ^ k) := fun z => by rw [← Nat.mul_assoc, Nat.mul_comm]
      rw [c1, c1]
      omega
theorem limbs_set {l : List Nat} {k x : Nat} (h : Limbs l) (hx : x < BB) : Limbs (l.set k x) := by
  intro y hy
  rcases List.mem_or_eq_of_mem_set hy with h1 | rfl
  · exact h y h1
  · exact hx
theorem limb_get {l : List Nat} (h : Limbs l) (k : Nat) : l.getD k 0 < BB := by
  by_cases hk : k < l.length
  · simp only [List.getD_eq_getElem?_getD, List.getElem?_eq_getElem hk, Option.getD_some]; exact h _ (List.getElem_mem hk)
  · simp [hk, BB_pos, Nat.le_of_not_lt hk]
theorem val_take_succ {l : List Nat} {k : Nat} (hk : k < l.length) : val (l.take (k + 1)) = val (l.take k) + l.getD k 0 * BB ^ k := by
  rw [List.take_succ_eq_append_getElem hk, val_append]
  simp [val, hk, Nat.min_eq_left (Nat.le_of_lt hk), Nat.mul_comm]
theorem val_split {l : List Nat} {k : Nat} (hk : k < l.length) : val l = val (l.take k) + BB ^ k * (l.getD k 0 + BB * val (l.drop (k + 1))) := by
  have e : l = l.take k ++ (l.getD k 0 :: l.drop (k + 1)) := by
    conv => lhs; rw [← List.take_append_drop k l, List.drop_eq_getElem_cons hk]
    simp [hk]
  conv => lhs; rw [e, val_append]
  simp only [val, List.length_take, Nat.min_eq_left (Nat.le_of_lt hk)]
theorem limbs_take {l : List Nat} (h : Limbs l) (k : Nat) : Limbs (l.take k) := fun x hx => h x (List.mem_of_mem_take hx)
theorem val_lt_of_top {l m : List Nat} {k : Nat} (hk : k < l.length) (hm : k < m.length) (hl : Limbs l) (hd : l.drop (k + 1) = m.drop (k + 1)) (h : l.getD k 0 < m.getD k 0) : val l < val m := by
  rw [val_split hk, val_split hm, hd]
  have h1 := val_lt (limbs_take hl k)
  rw [List.length_take, Nat.min_eq_left (Nat.le_of_lt hk)] at h1
  have h2 : BB ^ k * (l.getD k 0 + BB * val (m.drop (k + 1)) + 1) ≤ BB ^ k * (m.getD k 0 + BB * val (m.drop (k + 1))) := Nat.mul_le_mul_left _ (by omega)
  rw [Nat.mul_add _ _ 1] at h2
  omega
theorem val_lt_of_len {l m : List Nat} (hl : Limbs l) (nm : Nrm m) (h : l.length < m.length) : val l < val m := by
  have h1 := val_lt hl
  have h2 := nrm_val_pos nm (by intro e; subst e; simp at h)
  have h3 : BB ^ l.length ≤ BB ^ (m.length - 1) := Nat.pow_le_pow_right BB_pos (by omega)
  omega
theorem drop_step {l m : List Nat} {k : Nat} (hk : k < l.length) (hm : k < m.length) (hd : l.drop (k + 1) = m.drop (k + 1)) (h : l.getD k 0 = m.getD k 0) : l.drop k = m.drop k := by
  rw [List.drop_eq_getElem_cons hk, List.drop_eq_getElem_cons hm, hd]
  simp [hk, hm] at h
  rw [h]
theorem val_nil_iff {l : List Nat} (hn : Nrm l) : val l = 0 ↔ l = [] := by
  constructor
  · intro h
    by_cases h0 : l = []
    · exact h0
    · have := nrm_val_pos hn h0
      have : 0 < BB ^ (l.length - 1) := Nat.pow_pos BB_pos
      omega
  · rintro rfl; rfl
end Go.Proofs.YtbmaffijncapiaaGreatDoor.NumR

/- append of new cells to a row of the call's own, one law for all element types. -/
namespace Go.Proofs.YtbmaffijncapiaaGreatDoor
open Num
open Go.ChangeShapes Go.WideShapes Go.ChangeAt Go.RowKit
structure Elt (P : Program) (T E : TypeId) (size bytes : Nat) : Prop where
  ht : P.underlying T = some (.slice E)
  info : ∃ i z, P.info? E = some i ∧ i.zero = some z ∧ i.size = size ∧ i.bytes = bytes ∧ z.cells.size = size
  pos : 0 < size
  small : bytes ≤ 128
theorem Elt.mk' {P : Program} {T E : TypeId} {size bytes : Nat} {z : Value} (ht : P.underlying T = some (.slice E)) (hi : (P.info? E).map (fun i => (i.zero, i.size, i.bytes)) = some (some z, size, bytes)) (hz : z.cells.size = size) (h1 : 0 < size) (h2 : bytes ≤ 128) : Elt P T E size bytes := by
  obtain ⟨i, h3, h4, h5, h6⟩ := info_parts hi
  exact ⟨ht, ⟨i, z, h3, h4, h5, h6, hz⟩, h1, h2⟩
def OwnE (E : TypeId) (size : Nat) (w0 wr : World) (v : Value) (n : Nat) (xs : List Value) : Prop := wr.ownsRow w0.heap.size E size v n xs ∧ Below w0.heap.size w0 wr
theorem OwnE.below {E : TypeId} {size n : Nat} {w0 wr w' : World} {v : Value} {xs : List Value} (h : OwnE E size w0 wr v n xs) (hb : Below wr.heap.size wr w') : OwnE E size w0 w' v n xs :=
  ⟨own_below (w0 := w0) h.1 hb, bthen h.2 hb⟩
theorem OwnE.nil (E : TypeId) (size : Nat) {w0 wr : World} (hb : Below w0.heap.size w0 wr) : OwnE E size w0 wr (.slice none 0 0) 0 [] := ⟨World.ownsRow_nil _ _ _ _, hb⟩
theorem OwnE.ex {E : TypeId} {size n : Nat} {w0 wr : World} {v : Value} {xs : List Value} (h : OwnE E size w0 wr v n xs) : ∃ a c, v = .slice a n c := by
  rcases h.1.2 with ⟨rfl, rfl⟩ | ⟨g, c, _, rfl, _⟩
  · exact ⟨_, _, rfl⟩
  · exact ⟨_, _, rfl⟩
theorem app_lit {P : Program} {T E : TypeId} {size bytes : Nat} {ops : Array Oper} {rest : List Oper} {o : Oper} {a : Act} {Q : Exit → Act → World → Prop} {w0 wr : World} {v : Value} {n : Nat} {xs C : List Value} {t : TypeId} (el : Elt P T E size bytes) (hgd : o.guard = none) {s x : Operand}
    (ho : o.op = .call { callee := .builtin .append, args := #[s, x], argTypes := #[T, T] }) (hO : OwnE E size w0 wr v n xs) (hs : a.eval s = v)
    {m c : Nat} (hx : a.eval x = .slice (some ⟨wr.heap.size, 0, none⟩) m c) (hl : C.length = m * size) (h1 : ∀ u ∈ C, u.oneCell' = true) (hn : n + m ≤ 1099511627776)
    (h : ∀ v' w', OwnE E size w0 w' v' (n + m) (xs ++ C) → wpList P ops Q rest (a.put o.dst v') w') : wpList P ops Q (o :: rest) a (wr.alloc (.cells C.toArray t)) := by
  obtain ⟨i, z, hi, hz, hsize, hby, hzs⟩ := el.info
  have hb : (n + m) * bytes ≤ 1099511627776 * 128 := Nat.mul_le_mul hn el.small
  refine wpList_append_own _ hgd s x T ho w0.heap.size E i z size bytes el.ht hi hz hsize hby hzs el.pos v n xs hs (hO.1.alloc _) ⟨wr.heap.size, 0, none⟩ m c C hx hl (cells_new wr C t) h1 (by unfold maxLen; omega) (by omega) (by have := hO.2.size; simp; omega) ?_
  intro v' w' hown hg _
  exact h v' w' ⟨hown, below_append (wr := wr) (bal hO.2 _) (hO.1.alloc _) hg⟩
theorem el32 : Elt Tryz.prog 48 177 1 4 := Elt.mk' Tryz.underlying48 info32 rfl (by decide) (by decide)
def Own32 (w0 wr : World) (v : Value) (L : List Nat) : Prop := OwnE 177 1 w0 wr v L.length (cel L)
theorem Own32.below {w0 wr w' : World} {v : Value} {L : List Nat} (h : Own32 w0 wr v L) (hb : Below wr.heap.size wr w') : Own32 w0 w' v L := OwnE.below h hb
theorem Own32.nil {w0 wr : World} (hb : Below w0.heap.size w0 wr) : Own32 w0 wr (.slice none 0 0) [] := OwnE.nil _ _ hb
theorem own_u32 {w : World} {base : Nat} {v : Value} {n : Nat} {L : List Nat} (h : w.ownsRow base 177 1 v n (cel L)) (hL : Limbs L) : ∃ a c, v = .slice a L.length c ∧ U32 w a c L := by
  obtain ⟨hl, h⟩ := h
  rw [cel_len, Nat.mul_one] at hl
  subst hl
  rcases h with ⟨rfl, h0⟩ | ⟨g, cap, cur, rfl, hg, hh, hn, hc, hs, ht⟩
  · have : L = [] := List.length_eq_zero_iff.1 h0
    subst this
    exact ⟨none, 0, rfl, Nat.le_refl _, by unfold maxLen; omega, hL, .inl rfl⟩
  · refine ⟨_, cap, rfl, hn, hc, hL, .inr ⟨g, 0, rfl, fun k hk => ?_, by unfold typOf; rw [hh]⟩⟩
    rw [Nat.mul_one] at ht
    have e : cur[k]? = some (.int .u32 (L.getD k 0 : Nat)) := by
      have := cel_get L k hk
      rw [← ht, List.getElem?_take, if_pos hk] at this
      simpa using this
    unfold World.cell?
    rw [Nat.zero_add, show w.heap[(⟨g, k, none⟩ : Addr).block]? = _ from hh]
    simpa using e
theorem Own32.u32 {w0 wr : World} {v : Value} {L : List Nat} (h : Own32 w0 wr v L) (hL : Limbs L) : ∃ a c, v = .slice a L.length c ∧ U32 wr a c L := own_u32 h.1 hL
theorem cel_app (l m : List Nat) : cel (l ++ m) = cel l ++ cel m := by simp [cel]
theorem app32 {ops : Array Oper} {rest : List Oper} {o : Oper} {a : Act} {Q : Exit → Act → World → Prop} {w0 wr : World} {v : Value} {L X : List Nat} {t : TypeId} (hgd : o.guard = none) {s x : Operand}
    (ho : o.op = .call { callee := .builtin .append, args := #[s, x], argTypes := #[48, 48] }) (hO : Own32 w0 wr v L) (hs : a.eval s = v)
    {c : Nat} (hx : a.eval x = .slice (some ⟨wr.heap.size, 0, none⟩) X.length c) (hn : L.length + X.length ≤ 1099511627776)
    (h : ∀ v' w', Own32 w0 w' v' (L ++ X) → wpList Tryz.prog ops Q rest (a.put o.dst v') w') : wpList Tryz.prog ops Q (o :: rest) a (wr.alloc (.cells (cel X).toArray t)) :=
  app_lit el32 hgd ho hO hs hx (by rw [cel_len, Nat.mul_one]) (cel_one X) hn fun v' w' hO' => h v' w' (by unfold Own32; rw [cel_app, List.length_append]; exact hO')
end Go.Proofs.YtbmaffijncapiaaGreatDoor

/- prog: an instruction: two, constant, Asks. -/
namespace Go.Proofs.YtbmaffijncapiaaGreatDoor
open Go.ChangeShapes Go.WideShapes Go.ChangeAt Go.RowKit
set_option linter.unusedVariables false
set_option linter.unusedSimpArgs false
structure Ins where
  op : Int
  «to» : Int
  a : Int
  b : Int
  c : Int
deriving Inhabited
def Ins.v (i : Ins) : Value := .agg #[.int .i64 i.op, .int .i64 i.to, .int .i64 i.a, .int .i64 i.b, .int .i64 i.c]
end Go.Proofs.YtbmaffijncapiaaGreatDoor

