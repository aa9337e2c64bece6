/- Texts of this seat, laid together: Iter, TxtI, TxtJ, EwC, EwF, RefN, RefS, RefO, RefQ, RwA, Rng, ExK. Each opens with its own remark, which says what it proves, and under which conditions. -/
import Derived.Test.YtannhpadoooedaaGreatDoorQ01
import Derived.RangeFuncNested
import Derived.RangeFuncBound
import Derived.RangeFuncCalls
import Derived.RangeFuncLeaves
import Derived.Shelf.Abstract
import Derived.Shelf.RegionOpen
import Derived.OwnWalkIn
import Derived.TacticsInMore
import Derived.LoopNIn
import Derived.LoopIn
import Derived.Deep.Cut
import Derived.Deep.DeepCutAuto
import Derived.Test.YtannhpadoooedaaGreatDoorQ08
import Derived.Laws.RangeString
import Derived.Lib.OthersKept
import Derived.Maps.AppendAt
import Derived.Test.YtannhpadoooedaaGreatDoorQ07
import Derived.Test.YtannhpadoooedaaGreatDoorQ05
import Derived.Test.YtannhpadoooedaaGreatDoorQ06
import Derived.Deep.RegionLaw
import Derived.Deep.DrawnRows
import Derived.Test.YtannhpadoooedaaGreatDoorQ03
import Derived.Test.YtannhpadoooedaaGreatDoorQ04
import Derived.Test.YtannhpadoooedaaGreatDoorQ02
import Derived.Deep.LoopGhost
set_option linter.unusedVariables false
set_option linter.unusedSimpArgs false
/- Ranges over functions, in the plain walk: a law in the wide fence, and what its users need. -/
namespace Go.Proofs.YtannhpadoooedaaGreatDoor
open Go.ChangeShapes Go.WideShapes Go.ChangeAt Go.RowKit
set_option linter.unusedVariables false

theorem calls_of_wp_marks {P : Program} {f : FuncId} {fn : Func} {c : Code} {args : Array Value} {w : World} {R : Ending → World → Prop}
    (hf : P.funcs[f]? = some fn) (hb : fn.body = some c)
    (h : c.wp P (bodyPostM Fence.wide 9 P fn R) { tmps := args ++ Array.replicate (fn.ntmps - args.size) undef, defers := [] } w) : Calls P f args w R :=
  callsIn_wide.1 (callsIn_of_wp_marks (F := Fence.wide) (n := 9) hf hb trivial (wpIn_wide.2 h) rfl)
theorem roundIn_wide {n m : Nat} {P : Program} {l : Nat} {f : FuncId} {tmps : Array Value} {assign body : Code} {w : World} {R : Ending → World → Prop} (h : RoundIn Fence.wide n P l f tmps assign body w R) : RoundIn Fence.wide m P l f tmps assign body w R :=
  ⟨h.1, fun c cs _ => h.2 c cs (room_wide _)⟩
theorem yieldAt_wide {n m : Nat} {P : Program} {l : Nat} {args : Array Value} {W : World} {R : Ending → World → Prop} (h : YieldAt Fence.wide n P l args W R) : YieldAt Fence.wide m P l args W R := by
  obtain ⟨fn, tmps, assign, body, hy, hR⟩ := h
  exact ⟨fn, tmps, assign, body, hy, roundIn_wide hR⟩

/-- every row of cells lies as it lay; below B everything -/
structure Soft (B : Nat) (W W' : World) : Prop where
  below : Below B W W'
  cells : ∀ (k : Nat) (o : Obj), W.heap[k]? = some o → o.isCells = true → W'.heap[k]? = some o
theorem soft_of_grown {B : Nat} {W W' : World} {row : Option Nat} (hB : B ≤ W.heap.size) (hg : W.grownBy W' row) (hr : ∀ r, row = some r → B ≤ r ∧ ∃ o : Obj, W.heap[r]? = some o ∧ o.isCells = false) : Soft B W W' := by
  refine ⟨(Below.refl B W).grown hg hB (fun k e => (hr k e).1), fun k o hk ho => ?_⟩
  refine (hg.block k (Array.getElem?_eq_some_iff.1 hk).1 (fun e => ?_)).trans hk
  obtain ⟨_, o', ho', hc⟩ := hr k e.symm
  rw [hk] at ho'; cases ho'; rw [ho] at hc; cases hc
theorem Soft.block {B : Nat} {W W' : World} (h : Soft B W W') {p : Addr} {v : Value} (hv : W.cell? p = some v) : W'.heap[p.block]? = W.heap[p.block]? := by
  unfold World.cell? at hv
  split at hv
  · rename_i c t f e
    rw [e]; exact h.cells _ _ e rfl
  · cases hv
theorem Soft.cell {B : Nat} {W W' : World} (h : Soft B W W') {p : Addr} {v : Value} (hv : W.cell? p = some v) : W'.cell? p = some v :=
  (World.cell?_of_block (h.block hv)).trans hv
theorem Soft.frozen {B : Nat} {W W' : World} (h : Soft B W W') {p : Addr} {v : Value} (hv : W.cell? p = some v) (hf : W.frozen? p = false) : W'.frozen? p = false :=
  (World.frozen?_of_block (h.block hv)).trans hf

/-! what a round's body keeps -/
/-- THE LAW: an iterator that tells the list L, or is left; the loop's variable may be boxed (Ax). -/
theorem wp_rangeK {P : Program} {α : Type} {g : Operand} {ps : Array Tmp} {assign body : Code} {Q : Exit → Act → World → Prop} {a : Act} {w : World}
    {gf : Nat} {lb : Array Value} (hg : a.eval g = .func (.func gf) #[] lb) (eg : ∀ args w, (callFunc gf args).run P w = .ok (.enter gf args) w)
    {encs : α → Array Value} {L : List α} {N : Nat} {Kp : World → World → Prop} {w0 : World} (hseq : SeqStopsK Fence.wide 8 P gf lb encs Kp (· = L) (· <+: L) N w0)
    (hKt : ∀ {A B C : World}, Kp A B → Kp B C → Kp A C) (hKb : ∀ (W : World) (l : Nat) (o o' : Obj), w.heap.size ≤ l → W.heap[l]? = some o → o.isCells = false → o.isWalk = false → Kp W (W.putObj l o'))
    (hb0 : Below w0.heap.size w0 w) (hps : ∀ x, (encs x).size = ps.size)
    (I : List α → World → Prop) (Ix : Code → List α → World → Prop) (hI : ∀ pre W W', I pre W → Soft w.heap.size W W' → I pre W') (hIx : ∀ c pre W W', Ix c pre W → Soft w.heap.size W W' → Ix c pre W')
    (hsz : ∀ pre W, I pre W → w.heap.size ≤ W.heap.size) (hszx : ∀ c pre W, Ix c pre W → w.heap.size ≤ W.heap.size) (h0 : I [] w)
    (Ax : Array Value → α → Act → World → Prop) (hAx : ∀ x a' W W', Ax a.tmps x a' W → Soft w.heap.size W W' → Ax a.tmps x a' W') (hAsz : ∀ x a' W, Ax a.tmps x a' W → w.heap.size ≤ W.heap.size)
    (hassign : ∀ (l : Nat) (pre : List α) (x : α) (W : World) (K : Act → World → Prop), I pre W → (∀ a' W', KeepsFrom w.heap.size W W' → Kp W W' → I pre W' → Ax a.tmps x a' W' → K a' W') →
      assign.wpIn (Fence.wide.inRound l) 7 P (Exit.then K (fun _ _ _ => False)) { tmps := (ps.zip (encs x)).foldl (fun t (p, v) => t.setIfInBounds p v) a.tmps, defers := [] } W)
    (hbody : ∀ (l : Nat) (pre : List α) (x : α) (a' : Act) (W : World), I pre W → Ax a.tmps x a' W → pre.length < N → body.wpIn (Fence.wide.inRound l) 7 P (ownPostG w.heap.size Kp I Ix (pre ++ [x]) W) a' W)
    (hdone : ∀ (D : Nat) (W : World), w.heap.size ≤ D → I L W → W.heap[D]? = some (.deferred (some [])) → Q .normal { a with defers := { target := .collected D, args := #[] } :: a.defers } W)
    (hstop : ∀ (D : Nat) (c : Code) (pre : List α) (W : World), w.heap.size ≤ D → pre <+: L → Ix c pre W → W.heap[D]? = some (.deferred (some [])) → c.wp P Q { a with defers := { target := .collected D, args := #[] } :: a.defers } W) :
    (Code.rangeFunc g ps assign body).wp P Q a w := by
  refine (wpIn_wide (n := 9)).1 ?_
  refine wpIn_rangeFunc_ownH (F := Fence.wide) rfl (by omega) hg trivial eg hseq hKt hKb hb0 hps I Ix ?_ ?_ h0 (Ax a.tmps) ?_ hassign
    (fun l pre x a' W _ _ hi hax hl => hbody l pre x a' W hi hax hl) (fun D xs W hD hx hi hk => by subst hx; exact hdone D W hD hi hk) (fun D c pre W hD hp hi hk => wpIn_wide.2 (hstop D c pre W hD hp hi hk))
  · intro pre W W' row hi hg' hr
    exact hI pre W W' hi (soft_of_grown (hsz _ _ hi) hg' hr)
  · intro c pre W W' row hi hg' hr
    exact hIx c pre W W' hi (soft_of_grown (hszx _ _ _ hi) hg' hr)
  · intro x a' u W W' row hi hg' hr
    exact hAx x a' W W' hi (soft_of_grown (hAsz _ _ _ hi) hg' hr)

theorem put_other {w : World} {D b : Nat} (o : Obj) (h : D ≠ b) : (w.putObj D o).heap[b]? = w.heap[b]? := by
  simp [World.putObj, Array.getElem?_setIfInBounds_ne h]
theorem cell_put {w : World} {D : Nat} {a : Addr} {v : Value} (h : w.cell? a = some v) (hne : D ≠ a.block) (o : Obj) : (w.putObj D o).cell? a = some v :=
  (World.cell?_of_block (put_other o hne)).trans h
theorem b_put {a W : World} (h : Below a.heap.size a W) {D : Nat} (hD : a.heap.size ≤ D) (o : Obj) : Below a.heap.size a (W.putObj D o) :=
  h.grown (grownBy_putObj' W D o) h.size (fun k e => by cases e; exact hD)

/-! ### A region that draws its order, in a round: one walk in the text's order -/
section
variable {P : Program} {ops : Array Oper} {C : World → Prop} {l n : Nat}
end
end Go.Proofs.YtannhpadoooedaaGreatDoor

/- limb: Digits: the iterator that tells a number's digits, from the first one on. -/
namespace Go.Proofs.YtannhpadoooedaaGreatDoor
open Num
open Go.ChangeShapes Go.WideShapes Go.ChangeAt Go.RowKit
set_option linter.unusedVariables false
set_option linter.unusedSimpArgs false
attribute [local go_sem] Oper.semAt_some

/-- the text's letters are the list's digits -/
def DigTxt (s : ByteArray) (L : List Nat) : Prop := s.data.toList = L.map dig ∧ ∀ d ∈ L, d < 10
theorem DigTxt.size {s : ByteArray} {L : List Nat} (h : DigTxt s L) : s.size = L.length := by
  have e := congrArg List.length h.1
  rw [List.length_map] at e
  rw [← e]; rfl
theorem DigTxt.get {s : ByteArray} {L : List Nat} (h : DigTxt s L) (k : Nat) (hk : k < L.length) (hs : k < s.size) : (s[k]'hs).toNat = 48 + L.getD k 0 ∧ L.getD k 0 < 10 := by
  have hd : L.getD k 0 < 10 := by
    rw [List.getD_eq_getElem?_getD, List.getElem?_eq_getElem hk]; exact h.2 _ (List.getElem_mem _)
  have e : s.data.toList[k]? = some (dig (L.getD k 0)) := by
    rw [h.1, List.getElem?_map, List.getElem?_eq_getElem hk]
    simp [List.getElem?_eq_getElem hk]
  have e2 : s[k]'hs = dig (L.getD k 0) := by
    have h3 : s.data.toList[k]? = some (s[k]'hs) := by
      rw [Array.getElem?_toList]
      exact Array.getElem?_eq_getElem hs
    rw [h3] at e; exact Option.some.inj e
  rw [e2, dig_nat hd]
  exact ⟨rfl, hd⟩
theorem next_dig {s : ByteArray} {L : List Nat} (h : DigTxt s L) {wr : World} {ib pos : Nat} (hit : wr.heap[ib]? = some (.stringIter s pos)) (hp : pos < L.length) (ty : TypeId) :
    (Instr.next (.pointer (some ⟨ib, 0, none⟩)) true ty).run Tryz.prog wr = .ok (.tuple #[.bool true, .int .i64 pos, .int .i32 ((48 + L.getD pos 0 : Nat) : Int)]) (wr.iterAt ib s (pos + 1)) := by
  have hs : pos < s.size := by rw [h.size]; exact hp
  obtain ⟨e, hd⟩ := h.get pos hp hs
  have := Go.Lib.run_next_ascii_at (P := Tryz.prog) wr ib s pos ty hit hs (by rw [e]; omega)
  rwa [e] at this
theorem iterAt_grown (w : World) (k : Nat) (s : ByteArray) (p : Nat) : w.grownBy (w.iterAt k s p) (some k) := by
  refine ⟨rfl, rfl, rfl, by simp [Go.World.iterAt], fun i hi hk => ?_⟩
  simp only [Go.World.iterAt]
  exact Array.getElem?_setIfInBounds_ne (fun e => hk (by rw [e]))

set_option maxRecDepth 100000 in
set_option maxHeartbeats 2000000 in
theorem dg_c (l B N n0 : Nat) (s : ByteArray) (L : List Nat) (J Jx : List Nat → World → Prop) (hJ : AbidesFrom n0 J) (hd : DigTxt s L)
    (hY : ∀ pre x W1, J pre W1 → pre.length < N → YieldAt Fence.wide 3 Tryz.prog l #[.int .i64 ((x % 10 : Nat) : Int)] W1 fun e W' => (e = .returned (.bool true) ∧ J (pre ++ [x]) W' ∧ KeepsWalks W1 W') ∨ (e = .returned (.bool false) ∧ Jx (pre ++ [x]) W'))
    (W : World) (hn : n0 = W.heap.size) (hm : W.cell? ⟨B, 0, none⟩ = some (.string s)) (h0 : J [] W) (hN : L.length ≤ N) :
    Calls Tryz.prog 171 #[.func (.yield l) #[] #[], .pointer (some ⟨B, 0, none⟩)] W fun e W' => (∃ v, e = .returned v) ∧ ((∃ xs, xs = L ∧ J xs W') ∨ (∃ pre, pre <+: L ∧ Jx pre W')) := by
  go_enter Tryz.func171, Tryz.ntmps171
  go_wp2
  go_loopg [4] L.length (fun gk u wr => ∃ pos : Nat, pos ≤ L.length ∧ gk = L.length - pos ∧ wr.heap[W.heap.size]? = some (.stringIter s pos) ∧ J (L.take pos) wr)
  case atStart => exact ⟨0, Nat.zero_le _, by omega, World.iter_heap W s 0, hJ _ _ _ none h0 ⟨rfl, rfl, rfl, by simp [World.iter], fun k hk _ => Below.heap_alloc _ _ _ hk⟩ (fun r e => by cases e)⟩
  case round =>
    obtain ⟨pos, hp, hgk, hit, hj⟩ := hrel
    by_cases hlt : pos < L.length
    · have hnx := next_dig hd hit hlt
      have hd10 := hd.2 (L.getD pos 0) (by rw [List.getD_eq_getElem?_getD, List.getElem?_eq_getElem hlt]; exact List.getElem_mem _)
      obtain ⟨wn, hwn⟩ : ∃ wn, wn = wr.iterAt W.heap.size s (pos + 1) := ⟨_, rfl⟩
      have hitn : wn.heap[W.heap.size]? = some (.stringIter s (pos + 1)) := by rw [hwn]; exact Go.Lib.iterAt_heap wr W.heap.size s pos (pos + 1) hit
      have hjn : J (L.take pos) wn := hJ _ _ _ (some W.heap.size) hj (by rw [hwn]; exact iterAt_grown _ _ _ _) (fun r e => by cases e; exact ⟨Nat.le_of_eq hn, _, hit, rfl⟩)
      rw [← hwn] at hnx
      clear hwn
      have HT := Lib.hid (show L.take (pos + 1) = L.take pos ++ [L.getD pos 0] by
        rw [List.take_add_one, List.getElem?_eq_getElem hlt]; simp [List.getElem?_eq_getElem hlt])
      obtain ⟨fn, tmps, asg, body, hy, hR⟩ := hY (L.take pos) (L.getD pos 0) wn hjn (by rw [List.length_take]; omega)
      rw [Nat.mod_eq_of_lt hd10] at hy
      generalize L.getD pos 0 = d at *
      have hw1 : (48 : Int) + (d : Int) - 48 = (d : Int) := by omega
      go_upto_region 3 with (fail)
      refine (wpIn_wide (n := 4)).1 ?_
      gi_wp2
      refine hR.mono ?_
      rintro e W' (⟨rfl, hJ', hk⟩ | ⟨rfl, hJx'⟩)
      · gi_wp2
        go_wp2
        go_roundg (L.length - (pos + 1))
        case measure => omega
        case rel => exact ⟨pos + 1, by omega, rfl, hk.same _ _ hitn rfl, by rw [HT.out]; exact hJ'⟩
      · gi_wp2
        go_wp2
        refine bodyPost_ret (results_none rfl _ _ _) rfl ?_
        exact ⟨⟨_, rfl⟩, .inr ⟨L.take (pos + 1), List.take_prefix _ _, by rw [HT.out]; exact hJx'⟩⟩
    · obtain rfl : pos = L.length := by omega
      have hnx := fun ty => Go.Lib.run_next_end_at (P := Tryz.prog) wr W.heap.size s L.length ty hit (by rw [hd.size]; omega)
      rw [List.take_length] at hj
      go_wp2
      refine bodyPost_end (results_none rfl _ _ _) rfl ?_
      exact ⟨⟨_, rfl⟩, .inl ⟨L, rfl, hj⟩⟩
theorem digits_stops (B N n : Nat) (s : ByteArray) (L : List Nat) (w : World) (hd : DigTxt s L) (hm : w.cell? ⟨B, 0, none⟩ = some (.string s)) (hN : L.length ≤ N) :
    SeqStopsK Fence.wide n Tryz.prog 171 #[.pointer (some ⟨B, 0, none⟩)] (fun x : Nat => #[.int .i64 ((x % 10 : Nat) : Int)]) KeepsWalks (· = L) (· <+: L) N w := by
  intro l J Jx W hW hJ hJx hY h0
  refine callsIn_wide.2 ?_
  exact dg_c l B N W.heap.size s L J Jx hJ hd (fun pre x W1 hp hl => yieldAt_wide (hY pre x W1 hp hl)) W rfl (bkeep hW hm) h0 hN
/-- what natTxt's letters are -/
def digL (n : Nat) : List Nat := if n = 0 then [0] else (lowD n).reverse
theorem digL_txt (n : Nat) : DigTxt ⟨(natTxt n).toArray⟩ (digL n) := by
  refine ⟨?_, ?_⟩
  · show natTxt n = (digL n).map dig
    unfold natTxt digL
    split
    · rfl
    · rw [asc_eq, List.map_reverse]
  · unfold digL
    split
    · intro d hd; simp at hd; omega
    · intro d hd; exact lowD_lt n d (by simpa using hd)
theorem limbDigits_c (a : Option Addr) (ca : Nat) (l : List Nat) (w : World) (ha : U32 w a ca l) (h1 : l.length ≤ 67108865) :
    Calls Tryz.prog 131 #[.slice a l.length ca] w fun e w' => ∃ B, e = .returned (.func (.func 171) #[] #[.pointer (some ⟨B, 0, none⟩)]) ∧ w'.cell? ⟨B, 0, none⟩ = some (.string ⟨(natTxt (val l)).toArray⟩) ∧ Below w.heap.size w w' := by
  have tc := fun W (h : Below w.heap.size w W) => limbText_c a ca l W (ha.keep h) h1
  go_enter Tryz.func131, Tryz.ntmps131
  go_wp2_with fail
  refine (tc _ (Below.refl _ _)).mono ?_
  rintro e w1 ⟨rfl, hb1⟩
  clear tc
  go_wp2
  go_ret
  exact ⟨_, rfl, cell_new rfl rfl, bal hb1 _⟩
end Go.Proofs.YtannhpadoooedaaGreatDoor

/- integer: Text. -/
namespace Go.Proofs.YtannhpadoooedaaGreatDoor
open Num
open Go.ChangeShapes Go.WideShapes Go.ChangeAt Go.RowKit
set_option linter.unusedVariables false
set_option linter.unusedSimpArgs false
attribute [local go_sem] Oper.semAt_some

/-- the text so far: a variable in memory (block c), its bytes from block base on -/
structure OutS (c base : Nat) (av : Option Addr) (cap : Nat) (L : List UInt8) (W : World) : Prop where
  cell : W.cell? ⟨c, 0, none⟩ = some (.slice av L.length cap)
  free : W.frozen? ⟨c, 0, none⟩ = false
  own : W.ownsRow base 5 1 (.slice av L.length cap) L.length (Lib.byteCells L)
  lt : c < base
theorem own_soft {B base : Nat} {W W' : World} {v : Value} {n : Nat} {xs : List Value} (h : W.ownsRow base 5 1 v n xs) (s : Soft B W W') : W'.ownsRow base 5 1 v n xs := by
  refine ⟨h.1, ?_⟩
  rcases h.2 with hn | ⟨g, cap, cur, rfl, hb, hgg, rest⟩
  · exact .inl hn
  · exact .inr ⟨g, cap, cur, rfl, hb, s.cells _ _ hgg rfl, rest⟩
theorem own_put {base : Nat} {W : World} {v : Value} {n : Nat} {xs : List Value} (h : W.ownsRow base 5 1 v n xs) (p : Addr) (x : Value) (hp : p.block < base) : (W.setCell p x).ownsRow base 5 1 v n xs := by
  refine ⟨h.1, ?_⟩
  rcases h.2 with hn | ⟨g, cap, cur, rfl, hb, hgg, rest⟩
  · exact .inl hn
  · exact .inr ⟨g, cap, cur, rfl, hb, (Below.heap_setCell _ _ _ _ (by omega)).trans hgg, rest⟩
theorem own_shape {base : Nat} {W : World} {v : Value} {L : List UInt8} (h : W.ownsRow base 5 1 v L.length (Lib.byteCells L)) : ∃ a c, v = .slice a L.length c := by
  rcases h.2 with ⟨rfl, h1⟩ | ⟨g, cap, cur, rfl, _⟩
  · exact ⟨none, 0, by rw [h1]⟩
  · exact ⟨_, _, rfl⟩
theorem OutS.soft {c base B : Nat} {av : Option Addr} {cap : Nat} {L : List UInt8} {W W' : World} (h : OutS c base av cap L W) (s : Soft B W W') : OutS c base av cap L W' :=
  ⟨s.cell h.cell, s.frozen h.cell h.free, own_soft h.own s, h.lt⟩
theorem OutS.keep {c base : Nat} {av : Option Addr} {cap : Nat} {L : List UInt8} {W W' : World} (h : OutS c base av cap L W) (hb : Below W.heap.size W W') : OutS c base av cap L W' :=
  ⟨bkeep hb h.cell, bkeepf hb h.cell h.free, own_below (w0 := W) h.own hb, h.lt⟩
/-- what the append and the store behind it leave -/
theorem OutS.next {c base : Nat} {av : Option Addr} {cap : Nat} {L X : List UInt8} {W w' : World} {v' : Value} (h : OutS c base av cap L W) (o : Obj)
    (hown : w'.ownsRow base 5 1 v' (L ++ X).length (Lib.byteCells (L ++ X))) (hg : (W.alloc o).grownBy w' (Value.slice av L.length cap).ownBlock) :
    ∃ av' cap', v' = .slice av' (L ++ X).length cap' ∧ OutS c base av' cap' (L ++ X) (w'.setCell ⟨c, 0, none⟩ v') ∧ KeepsOthers W (w'.setCell ⟨c, 0, none⟩ v') ∧ w'.cell? ⟨c, 0, none⟩ = some (.slice av L.length cap) ∧ w'.frozen? ⟨c, 0, none⟩ = false := by
  obtain ⟨av', cap', rfl⟩ := own_shape hown
  have hne : some c ≠ (Value.slice av L.length cap).ownBlock := fun e => by
    have := (h.own.lt c e.symm).1
    have := h.lt
    omega
  have c0 : w'.cell? ⟨c, 0, none⟩ = some (.slice av L.length cap) := hg.cell (cell_alloc h.cell o) hne
  have cf : w'.frozen? ⟨c, 0, none⟩ = false := by
    rw [World.frozen?_of_block (hg.block c (by have := cell_lt h.cell; simp; omega) hne)]
    exact bkeepf (bal (Below.refl _ _) _) h.cell h.free
  refine ⟨av', cap', rfl, ⟨cell_here c0 _, by rw [World.frozen?_setCell]; exact cf, own_put hown _ _ h.lt, h.lt⟩, ?_, c0, cf⟩
  refine ((KeepsOthers.alloc W o).trans (KeepsOthers.of_grownBy hg ?_)).trans (KeepsOthers.setCell _ _ _)
  intro j o' hj ho'
  rcases (h.own.alloc o).2 with ⟨h0, _⟩ | ⟨g, cap2, cur, h0, hb, hgg, rest⟩
  · rw [h0] at hj; simp [Value.ownBlock] at hj
  · rw [h0] at hj; simp [Value.ownBlock] at hj
    subst hj
    rw [hgg] at ho'; cases ho'; rfl
theorem OutS.str {c base : Nat} {av : Option Addr} {cap : Nat} {L : List UInt8} {W : World} (h : OutS c base av cap L W) : (convert 185 9 (.slice av L.length cap)).run Tryz.prog W = .ok (.string ⟨L.toArray⟩) W := by
  rcases h.own.2 with ⟨h1, h2⟩ | ⟨g, cap2, cur, h1, hb, hgg, rest⟩
  · obtain rfl : L = [] := List.length_eq_zero_iff.1 h2
    cases h1
    exact run_convert_bytes_nil W 185 5 Tryz.underlying185 Tryz.underlying5 0 0 9 Tryz.underlying9
  · cases h1
    have ho := h.own
    refine run_convert_bytes_back W 185 9 5 ⟨g, 0, none⟩ cap L Tryz.underlying185 Tryz.underlying5 Tryz.underlying9 fun j hj => ?_
    have := World.ownsRow.cellAt ho j (by omega)
    rw [bcells_get L j hj] at this
    unfold Addr.add
    split
    · subst_vars; simpa [hj] using this
    · simpa [hj] using this
theorem dig_map (L : List Nat) (h : ∀ d ∈ L, d < 10) : L.map (fun x => dig (x % 10)) = L.map dig := List.map_congr_left fun x hx => by rw [Nat.mod_eq_of_lt (h x hx)]
theorem digL_len {l : List Nat} (hl : Limbs l) (h1 : l.length ≤ 67108865) : (digL (val l)).length ≤ 2147483680 := by
  have h2 := val_lt hl
  rw [BB_pow] at h2
  have h3 := lowD_len _ _ h2
  unfold digL
  split
  · simp
  · rw [List.length_reverse]; omega
/-- a number's text: its sign, its digits -/
theorem intTxt_eq (n : Bool) (V : Nat) (hn : n = true → 0 < V) : intTxt (sg n V) = (if n then [45] else []) ++ (digL V).map (fun x => dig (x % 10)) := by
  have hd := digL_txt V
  have e : natTxt V = (digL V).map dig := hd.1
  rw [dig_map _ hd.2, ← e]
  unfold intTxt
  rw [sg_abs]
  cases n with
  | true => rw [if_pos (by have := hn rfl; simp [sg]; omega)]; rfl
  | false => rw [if_neg (by simp [sg])]; rfl


set_option maxRecDepth 100000 in
set_option maxHeartbeats 8000000 in
theorem intText_c (vx : Value) (x : Int) (k : Nat) (w : World) (hx : IsInt w vx x) (bx : Bd k x) (hk : k ≤ 2147483648) :
    Calls Tryz.prog 80 #[vx] w fun e w' => e = .returned (.string ⟨(intTxt x).toArray⟩) ∧ Below w.heap.size w w' := by
  obtain ⟨n1, a1, c1, l1, rfl, u1, g1, s1, rfl⟩ := hx
  have k1 : l1.length ≤ 67108865 := by
    by_cases h0 : l1 = []
    · subst h0; simp
    · have h1 := nrm_val_pos g1 h0
      rw [BB_pow] at h1
      have h2 : 32 * (l1.length - 1) < k := (Nat.pow_lt_pow_iff_right (a := 2) (by omega)).1 (Nat.lt_of_le_of_lt h1 (sg_bd bx))
      omega
  have HE := Lib.hid (intTxt_eq n1 (val l1) (fun h => by
    have h1 := nrm_val_pos g1 (s1 h)
    have : 0 < BB ^ (l1.length - 1) := Nat.pow_pos BB_pos
    omega))
  have HDL := Lib.hid (digL_len u1.2.2.1 k1)
  have HDT := Lib.hid (digL_txt (val l1))
  clear bx s1
  unfold iv
  obtain ⟨i0, z0, hi0, hz0, hsize0, hby0, hzs0⟩ := el8.info
  refine calls_of_wp_marks Tryz.func80 rfl ?_
  simp only [Tryz.ntmps80, List.size_toArray, List.length_cons, List.length_nil, Nat.reduceAdd, Nat.reduceSub, Array.replicate_succ, Array.replicate_zero, List.push_toArray, List.append_toArray, List.nil_append, List.cons_append, Array.append_empty, Array.empty_append]
  cases n1 with
  | false =>
    go_wp2_with fail
    refine (limbDigits_c a1 c1 l1 _ (u1.keep (bal (bal (Below.refl _ _) _) _)) k1).mono ?_
    rintro e wD ⟨B, rfl, hstr, hbD⟩
    have hO : OutS (w.heap.size + 1) (w.heap.size + 2) none 0 [] wD := OutS.keep ⟨cell_new (by simp) rfl, by rw [World.frozen?_alloc_at (hn := by simp)], World.ownsRow_nil _ _ _ _, by omega⟩ hbD
    have hBD : Below w.heap.size w wD := bthen (bal (bal (Below.refl _ _) _) _) hbD
    have HE := Lib.hid (show intTxt (sg false (val l1)) = ([] : List UInt8) ++ (digL (val l1)).map (fun x => dig (x % 10)) from HE.out)
    have hszD := hbD.size
    have hsD : w.heap.size + 2 ≤ wD.heap.size := by have := cell_lt hO.cell; omega
    go_wp2
    refine wp_rangeK (gf := 171) (lb := #[.pointer (some ⟨B, 0, none⟩)]) (w0 := wD) (L := digL (val l1)) (N := (digL (val l1)).length) (Kp := KeepsWalks) (by simp [Act.eval]) (enters_of Tryz.func171 (by kernel_rfl) rfl)
      (encs := fun x : Nat => #[.int .i64 ((x % 10 : Nat) : Int)]) (digits_stops B _ 8 _ _ wD HDT.out hstr (Nat.le_refl _)) (fun h k => walksK_t h k) (fun W l o o' h1 h2 h3 h4 => walksK_b W l o o' h1 h2 h3 h4) (Below.refl _ _) (fun _ => rfl)
      (fun pre W => (∃ av cap, OutS (w.heap.size + 1) (w.heap.size + 2) av cap (([] : List UInt8) ++ pre.map (fun x => dig (x % 10))) W) ∧ Below w.heap.size w W ∧ wD.heap.size ≤ W.heap.size)
      (fun c pre W => False)
      ?_ ?_ ?_ ?_ ?_
      (fun T x a' W => a' = { tmps := (T.setIfInBounds 13 (.int .i64 ((x % 10 : Nat) : Int))).setIfInBounds 4 (.int .i64 ((x % 10 : Nat) : Int)), defers := [] } ∧ wD.heap.size ≤ W.heap.size)
      ?_ ?_ ?assign0 ?body0 ?done0 ?stop0
    case assign0 =>
      rintro l pre x W K hi hK
      generalize x % 10 = d at *
      gi_wp2
      exact hK _ _ (KeepsFrom.refl _ _) (KeepsWalks.refl _) hi ⟨by simp, hi.2.2⟩
    case body0 =>
      rintro l pre x a' w6 ⟨⟨av6, cap6, hO6⟩, hB6, hs6⟩ ⟨rfl, _⟩ hl
      have hlm : (([] : List UInt8) ++ pre.map (fun x => dig (x % 10))).length ≤ 2147483690 := by
        have := HDL.out
        simp
        omega
      have HLN := Lib.hid (show ([] : List UInt8) ++ (pre ++ [x]).map (fun x => dig (x % 10)) = (([] : List UInt8) ++ pre.map (fun x => dig (x % 10))) ++ [dig (x % 10)] by simp)
      have hd10 : x % 10 < 10 := Nat.mod_lt _ (by omega)
      generalize ([] : List UInt8) ++ pre.map (fun x => dig (x % 10)) = Lp at *
      obtain ⟨bb, hbb⟩ : ∃ bb, bb = dig (x % 10) := ⟨_, rfl⟩
      rw [← hbb] at HLN
      have hb1 : (48 : Int) + ((x % 10 : Nat) : Int) = (bb.toNat : Int) := by rw [hbb, dig_nat hd10]; omega
      have hb2 : (bb.toNat : Int) % 256 = (bb.toNat : Int) := by have := bb.toNat_lt; omega
      clear hbb
      generalize x % 10 = d at *
      have c0 := hO6.cell
      have cf := hO6.free
      have hsz6 := cell_lt c0
      simp only [List.setIfInBounds_toArray, List.set_cons_succ, List.set_cons_zero]
      gi_wp2_with (gi_at_builtin; refine wpListIn_append_own _ rfl _ _ 185 rfl (w.heap.size + 2) 5 i0 z0 1 1 el8.ht hi0 hz0 hsize0 hby0 hzs0 el8.pos (.slice av6 Lp.length cap6) Lp.length (Lib.byteCells Lp) rfl (hO6.own.alloc _) ⟨w6.heap.size, 0, none⟩ 1 1 [.int .u8 (bb.toNat : Int)] rfl rfl (cell_one_new _ _ _) ?_ ?_ ?_ ?_ ?_; (simp [Value.oneCell']); (unfold maxLen; omega); omega; (simp; omega); intro v' w7 hown hg _; obtain ⟨av7, cap7, rfl, hO7, hKO, c7, f7⟩ := OutS.next hO6 (X := [bb]) _ (by rw [bcells_app, List.length_append]; exact hown) hg)
      have hB7 : Below w.heap.size w w7 := (bal hB6 _).grown hg (by simp; omega) (fun k e => by have := (hO6.own.lt k e).1; omega)
      have e7 : (Lp ++ [bb]).length = Lp.length + 1 := by simp
      rw [e7] at hO7 hKO
      have hs7 := hg.size
      simp at hs7
      refine ⟨hKO.from _, hKO.walks, ⟨_, _, by rw [HLN.out]; exact hO7⟩, bset hB7 (by simp) _, by simp; omega⟩
    case done0 =>
      rintro D w8 hDs ⟨⟨av8, cap8, hO8⟩, hB8, hs8⟩ hK0
      rw [← HE.out] at hO8
      have c0 := hO8.cell
      have hst := hO8.str
      go_wp2
      refine ⟨by simp, .inl ⟨_, _, rfl, run_takeDeferred (b := D) (ds := []) hK0, ?_⟩⟩
      refine ⟨.string ⟨(intTxt (sg false (val l1))).toArray⟩, ?_, rfl, b_put hB8 (by omega) _⟩
      simp [results, Tryz.results80, go_sem]
    case stop0 => intro D c pre W _ _ h; cases h
    · rintro pre W W' ⟨⟨av, cap, h⟩, h2, h3⟩ s; exact ⟨⟨av, cap, h.soft s⟩, h2.trans (s.below.mono (by omega)), Nat.le_trans h3 s.below.size⟩
    · exact fun c pre W W' h s => h
    · exact fun pre W h => h.2.2
    · exact fun c pre W h => h.elim
    · exact ⟨⟨_, _, by simpa using hO⟩, hBD, Nat.le_refl _⟩
    · rintro x a' W W' ⟨rfl, h⟩ s; exact ⟨rfl, Nat.le_trans h s.below.size⟩
    · rintro x a' W ⟨rfl, h⟩; exact h
  | true =>
    have hO0 : OutS (w.heap.size + 1) (w.heap.size + 2) none 0 [] ((w.alloc (.cells #[.bool true, .slice a1 l1.length c1] 48)).alloc (.cells #[.slice none 0 0] 185)) := ⟨cell_new (by simp) rfl, by rw [World.frozen?_alloc_at (hn := by simp)], World.ownsRow_nil _ _ _ _, by omega⟩
    have x00 : (((w.alloc (.cells #[.bool true, .slice a1 l1.length c1] 48)).alloc (.cells #[.slice none 0 0] 185)).alloc (.cells #[.int .u8 45] 5)).cell? ⟨w.heap.size, 1, none⟩ = some (.slice a1 l1.length c1) := cell_alloc (cell_alloc (cell_new rfl rfl) _) _
    have hnw : ∀ j u, [Value.int .u8 45][j]? = some u → (((w.alloc (.cells #[.bool true, .slice a1 l1.length c1] 48)).alloc (.cells #[.slice none 0 0] 185)).alloc (.cells #[.int .u8 45] 5)).cell? ((⟨w.heap.size + 1 + 1, 0, none⟩ : Addr).add j) = some u := fun j u hj => by
      have h := cell_one_new ((w.alloc (.cells #[.bool true, .slice a1 l1.length c1] 48)).alloc (.cells #[.slice none 0 0] 185)) (.int .u8 45) 5 j u hj
      simpa using h
    go_wp2_with (at_builtin; go_loud (refine wpList_append_own _ rfl _ _ 185 rfl (w.heap.size + 2) 5 i0 z0 1 1 el8.ht hi0 hz0 hsize0 hby0 hzs0 el8.pos (.slice none 0 0) 0 [] rfl (World.ownsRow_nil _ _ _ _) ⟨w.heap.size + 1 + 1, 0, none⟩ 1 1 [.int .u8 45] rfl rfl hnw ?_ ?_ ?_ ?_ ?_; (simp [Value.oneCell']); (unfold maxLen; omega); omega; (simp); intro v' w7 hown hg _; obtain ⟨av7, cap7, rfl, hO7, hKO, c7, f7⟩ := OutS.next hO0 (X := [45]) _ hown hg; have x1 := hg.cell x00 (by simp [Value.ownBlock])))
    have hB7 : Below w.heap.size w w7 := (bal (bal (bal (Below.refl _ _) _) _) _).grown hg (by simp; omega) (fun k e => by simp [Value.ownBlock] at e)
    have hs7 := hg.size
    simp at hs7
    refine (limbDigits_c a1 c1 l1 _ (u1.keep (bset hB7 (by simp) _)) k1).mono ?_
    rintro e wD ⟨B, rfl, hstr, hbD⟩
    have hO := hO7.keep hbD
    have hBD : Below w.heap.size w wD := bthen (bset hB7 (by simp) _) hbD
    have HE := Lib.hid (show intTxt (sg true (val l1)) = ([45] : List UInt8) ++ (digL (val l1)).map (fun x => dig (x % 10)) from HE.out)
    have hszD := hbD.size
    have hsD : w.heap.size + 2 ≤ wD.heap.size := by have := cell_lt hO.cell; omega
    go_wp2
    refine wp_rangeK (gf := 171) (lb := #[.pointer (some ⟨B, 0, none⟩)]) (w0 := wD) (L := digL (val l1)) (N := (digL (val l1)).length) (Kp := KeepsWalks) (by simp [Act.eval]) (enters_of Tryz.func171 (by kernel_rfl) rfl)
      (encs := fun x : Nat => #[.int .i64 ((x % 10 : Nat) : Int)]) (digits_stops B _ 8 _ _ wD HDT.out hstr (Nat.le_refl _)) (fun h k => walksK_t h k) (fun W l o o' h1 h2 h3 h4 => walksK_b W l o o' h1 h2 h3 h4) (Below.refl _ _) (fun _ => rfl)
      (fun pre W => (∃ av cap, OutS (w.heap.size + 1) (w.heap.size + 2) av cap (([45] : List UInt8) ++ pre.map (fun x => dig (x % 10))) W) ∧ Below w.heap.size w W ∧ wD.heap.size ≤ W.heap.size)
      (fun c pre W => False)
      ?_ ?_ ?_ ?_ ?_
      (fun T x a' W => a' = { tmps := (T.setIfInBounds 13 (.int .i64 ((x % 10 : Nat) : Int))).setIfInBounds 4 (.int .i64 ((x % 10 : Nat) : Int)), defers := [] } ∧ wD.heap.size ≤ W.heap.size)
      ?_ ?_ ?assign0 ?body0 ?done0 ?stop0
    case assign0 =>
      rintro l pre x W K hi hK
      generalize x % 10 = d at *
      gi_wp2
      exact hK _ _ (KeepsFrom.refl _ _) (KeepsWalks.refl _) hi ⟨by simp, hi.2.2⟩
    case body0 =>
      rintro l pre x a' w6 ⟨⟨av6, cap6, hO6⟩, hB6, hs6⟩ ⟨rfl, _⟩ hl
      have hlm : (([45] : List UInt8) ++ pre.map (fun x => dig (x % 10))).length ≤ 2147483690 := by
        have := HDL.out
        simp
        omega
      have HLN := Lib.hid (show ([45] : List UInt8) ++ (pre ++ [x]).map (fun x => dig (x % 10)) = (([45] : List UInt8) ++ pre.map (fun x => dig (x % 10))) ++ [dig (x % 10)] by simp)
      have hd10 : x % 10 < 10 := Nat.mod_lt _ (by omega)
      generalize ([45] : List UInt8) ++ pre.map (fun x => dig (x % 10)) = Lp at *
      obtain ⟨bb, hbb⟩ : ∃ bb, bb = dig (x % 10) := ⟨_, rfl⟩
      rw [← hbb] at HLN
      have hb1 : (48 : Int) + ((x % 10 : Nat) : Int) = (bb.toNat : Int) := by rw [hbb, dig_nat hd10]; omega
      have hb2 : (bb.toNat : Int) % 256 = (bb.toNat : Int) := by have := bb.toNat_lt; omega
      clear hbb
      generalize x % 10 = d at *
      have c0 := hO6.cell
      have cf := hO6.free
      have hsz6 := cell_lt c0
      simp only [List.setIfInBounds_toArray, List.set_cons_succ, List.set_cons_zero]
      gi_wp2_with (gi_at_builtin; refine wpListIn_append_own _ rfl _ _ 185 rfl (w.heap.size + 2) 5 i0 z0 1 1 el8.ht hi0 hz0 hsize0 hby0 hzs0 el8.pos (.slice av6 Lp.length cap6) Lp.length (Lib.byteCells Lp) rfl (hO6.own.alloc _) ⟨w6.heap.size, 0, none⟩ 1 1 [.int .u8 (bb.toNat : Int)] rfl rfl (cell_one_new _ _ _) ?_ ?_ ?_ ?_ ?_; (simp [Value.oneCell']); (unfold maxLen; omega); omega; (simp; omega); intro v' w7 hown hg _; obtain ⟨av7, cap7, rfl, hO7, hKO, c7, f7⟩ := OutS.next hO6 (X := [bb]) _ (by rw [bcells_app, List.length_append]; exact hown) hg)
      have hB7 : Below w.heap.size w w7 := (bal hB6 _).grown hg (by simp; omega) (fun k e => by have := (hO6.own.lt k e).1; omega)
      have e7 : (Lp ++ [bb]).length = Lp.length + 1 := by simp
      rw [e7] at hO7 hKO
      have hs7 := hg.size
      simp at hs7
      refine ⟨hKO.from _, hKO.walks, ⟨_, _, by rw [HLN.out]; exact hO7⟩, bset hB7 (by simp) _, by simp; omega⟩
    case done0 =>
      rintro D w8 hDs ⟨⟨av8, cap8, hO8⟩, hB8, hs8⟩ hK0
      rw [← HE.out] at hO8
      have c0 := hO8.cell
      have hst := hO8.str
      go_wp2
      refine ⟨by simp, .inl ⟨_, _, rfl, run_takeDeferred (b := D) (ds := []) hK0, ?_⟩⟩
      refine ⟨.string ⟨(intTxt (sg true (val l1))).toArray⟩, ?_, rfl, b_put hB8 (by omega) _⟩
      simp [results, Tryz.results80, go_sem]
    case stop0 => intro D c pre W _ _ h; cases h
    · rintro pre W W' ⟨⟨av, cap, h⟩, h2, h3⟩ s; exact ⟨⟨av, cap, h.soft s⟩, h2.trans (s.below.mono (by omega)), Nat.le_trans h3 s.below.size⟩
    · exact fun c pre W W' h s => h
    · exact fun pre W h => h.2.2
    · exact fun c pre W h => h.elim
    · exact ⟨⟨_, _, by simpa using hO⟩, hBD, Nat.le_refl _⟩
    · rintro x a' W W' ⟨rfl, h⟩ s; exact ⟨rfl, Nat.le_trans h s.below.size⟩
    · rintro x a' W ⟨rfl, h⟩; exact h
end Go.Proofs.YtannhpadoooedaaGreatDoor

/- exact's laws: row.Of, row.Text at one number; live. -/
namespace Go.Proofs.YtannhpadoooedaaGreatDoor
open Num
open Go.ChangeShapes Go.WideShapes Go.ChangeAt Go.RowKit
set_option linter.unusedVariables false
set_option linter.unusedSimpArgs false
attribute [local go_sem ↓] Go.wp_at_zero Go.wp_at_succ
set_option maxRecDepth 100000 in
set_option maxHeartbeats 8000000 in
theorem rowOf_c (v : Value) (l : List Int) (w : World) (hr : RowI w v l) (hl : l.length ≤ 400) :
    Calls Tryz.prog 53 #[v] w fun e w' => ∃ va, e = .returned va ∧ RowO IsInt 48 w.heap.size w' va l ∧ Below w.heap.size w w' := by
  obtain ⟨ra, rc, rfl, hr⟩ := hr
  have HR := Lib.hid hr
  clear hr
  have hB := Below.refl w.heap.size w
  go_enter Tryz.func53, Tryz.ntmps53
  go_wp2
  go_loopw [3, 8] (fun va x wr => ∃ j : Nat, j ≤ l.length ∧ x = .int .i64 j ∧ Hid (OwnF IsInt 48 w wr va j (fun i => l.getD i 0))) (fun _ x _ => l.length - (intOf x).toNat)
  case atStart => exact ⟨0, Nat.zero_le _, rfl, Lib.hid (OwnF.nil _ _ _ hB)⟩
  case round =>
    obtain ⟨j, hj, rfl, hF⟩ := hrel
    have hBr := hF.out.bel
    obtain ⟨fa, fc, hfv⟩ : ∃ a c, _ = Value.slice a j c := by obtain ⟨a, c, h, _⟩ := hF.out.view; exact ⟨a, c, h⟩
    subst hfv
    by_cases hlt : j < l.length
    · have hltI : (j : Int) < (l.length : Int) := by omega
      obtain ⟨rb, ro, rfl, hc, hI⟩ := HR.out j hlt
      have hc2 := bkeep hBr hc
      have zrb := cell_lt hc2
      have oc := fun W => of_c (l.getD j 0) W hI.1 hI.2
      have HSN := Lib.hid (snoc_fun l j hlt)
      obtain ⟨z, hz⟩ : ∃ z, l.getD j 0 = z := ⟨_, rfl⟩
      rw [hz] at hc2 oc HSN
      clear hc hI hz
      go_wp2_with fail
      refine (oc _).mono ?_
      rintro e w5 ⟨⟨v5, rfl, hi5⟩, hb5⟩
      have HF5 := Lib.hid (hF.out.below lims_int hb5)
      have HI5 := Lib.hid hi5
      obtain ⟨n5, a5, c5, l5, rfl, -⟩ := hi5
      unfold iv at *
      clear oc hc2
      go_wp2_with (at_builtin; refine app_num elInt (by decide) lims_int (by rfl) (by rfl) HF5.out HI5.out (by rfl) (by rfl) (by omega) ?_)
      intro v8 w8 hF8 _ _
      have HF8 := Lib.hid (hF8.congr' HSN.out)
      clear hF8
      go_wp2
      exact ⟨⟨j + 1, by omega, by go_num, HF8⟩, by simp [intOf]; omega⟩
    · obtain rfl : j = l.length := by omega
      go_wp2
      go_ret
      exact ⟨_, rfl, hF.out.rowO, hBr⟩
set_option maxRecDepth 100000 in
set_option maxHeartbeats 2000000 in
theorem join1_c (b c : Nat) (s sep : ByteArray) (w : World) (hc : w.cell? ⟨b, 0, none⟩ = some (.string s)) :
    Calls Tryz.prog 98 #[.slice (some ⟨b, 0, none⟩) 1 c, .string sep] w fun e w' => e = .returned (.string s) ∧ Below w.heap.size w w' := by
  have hB := Below.refl w.heap.size w
  go_enter Tryz.func98, Tryz.ntmps98
  go_wp2
  go_ret
  exact ⟨rfl, by repeat (first | exact Below.refl _ _ | exact hB | refine Below.drew ?_ | refine below_drewN ?_ _ | refine bset ?_ (by simp <;> omega) _ | refine bal ?_ _)⟩
set_option maxRecDepth 100000 in
set_option maxHeartbeats 8000000 in
theorem rowText1_c (v : Value) (x : Int) (k : Nat) (w : World) (hv : PRow 0 w v [x]) (bx : Bd k x) (hk : k ≤ 2147483648) (hs : (intTxt x).length ≤ 1000) :
    Calls Tryz.prog 54 #[v] w fun e w' => e = .returned (.string (⟨#[91]⟩ ++ ⟨(intTxt x).toArray⟩ ++ ⟨#[93]⟩)) ∧ Below w.heap.size w w' := by
  have HV := Lib.hid hv
  have HBX := Lib.hid bx
  obtain ⟨va, vc, rfl, -⟩ := hv
  clear bx
  have hl1 : [x].length = 1 := rfl
  rw [hl1] at HV ⊢
  clear hl1
  have hB := Below.refl w.heap.size w
  go_enter Tryz.func54, Tryz.ntmps54
  go_wp2
  go_loopw [3, 8] (fun l i wr => (l = .slice none 0 0 ∧ i = .int .i64 0 ∧ Below w.heap.size w wr) ∨ (∃ b c, l = .slice (some ⟨b, 0, none⟩) 1 c ∧ i = .int .i64 1 ∧ wr.cell? ⟨b, 0, none⟩ = some (.string ⟨(intTxt x).toArray⟩) ∧ Below w.heap.size w wr)) (fun _ i _ => 1 - (intOf i).toNat)
  case atStart => exact .inl ⟨rfl, rfl, hB⟩
  case round =>
    rcases hrel with ⟨rfl, rfl, hBr⟩ | ⟨b, c, rfl, rfl, hc, hBr⟩
    · obtain ⟨a', c', he, -, vr⟩ := (HV.out.keep lims_int hBr).view
      obtain ⟨rfl, -, rfl⟩ := Value.slice.inj he
      obtain ⟨b, off, nx, ax, lx, cx, rfl, c0, c1, hi⟩ := vr 0 (by simp)
      rw [Nat.zero_mul, Nat.add_zero] at c0 c1
      have tc := fun W (h : Below wr.heap.size wr W) => intText_c (.agg #[.bool nx, .slice ax lx cx]) x k W (hi.keep h) HBX.out hk
      have hBw := Below.refl wr.heap.size wr
      clear hi vr he
      go_wp2_with fail
      refine (tc _ (by repeat (first | exact Below.refl _ _ | exact hBw | refine Below.drew ?_ | refine below_drewN ?_ _ | refine bset ?_ (by simp <;> omega) _ | refine bal ?_ _))).mono ?_
      rintro e w5 ⟨rfl, hb5⟩
      have hB5 : Below wr.heap.size wr w5 := bthen (by repeat (first | exact Below.refl _ _ | exact hBw | refine Below.drew ?_ | refine below_drewN ?_ _ | refine bset ?_ (by simp <;> omega) _ | refine bal ?_ _)) hb5
      clear tc c0 c1
      have hBB := bthen hBr hB5
      go_wp2
      exact ⟨.inr ⟨_, _, rfl, by go_num, cell_drew (cell_new (by simp) (by rw [Array.getElem?_append_left (by simp)]; rfl)), by repeat (first | exact Below.refl _ _ | exact hBB | refine Below.drew ?_ | refine below_drewN ?_ _ | refine bset ?_ (by simp <;> omega) _ | refine bal ?_ _)⟩, by simp [intOf]⟩
    · have jc := fun W (h : Below wr.heap.size wr W) => join1_c b c ⟨(intTxt x).toArray⟩ ⟨#[32]⟩ W (bkeep h hc)
      have hBw := Below.refl wr.heap.size wr
      go_wp2_with fail
      refine (jc _ (by repeat (first | exact Below.refl _ _ | exact hBw | refine Below.drew ?_ | refine below_drewN ?_ _ | refine bset ?_ (by simp <;> omega) _ | refine bal ?_ _))).mono ?_
      rintro e w5 ⟨rfl, hb5⟩
      have hB5 : Below w.heap.size w w5 := bthen hBr (bthen (by repeat (first | exact Below.refl _ _ | exact hBw | refine Below.drew ?_ | refine below_drewN ?_ _ | refine bset ?_ (by simp <;> omega) _ | refine bal ?_ _)) hb5)
      have hn1 : ¬ 9223372036854775807 < 1 + (intTxt x).length := by omega
      have hn2 : ¬ 9223372036854775807 < 1 + (intTxt x).length + 1 := by omega
      go_wp2
      go_ret
      exact ⟨rfl, hB5⟩
/-- the world of a call is named -/
theorem wp_nameC {P : Program} {f : FuncId} {a : Array Value} {w : World} {Q : Ending → World → Prop} (h : ∀ W, W = w → Calls P f a W Q) : Calls P f a w Q := h w rfl
/-- the program of live -/
def liCode : List Ins := [⟨4, 0, 0, 1, 0⟩, ⟨6, 0, 0, 0, 2⟩]
def liOuts : List Int := [0]
theorem liOk : ProgOk 2 2 liCode liOuts := by
  refine ⟨by decide, by decide, by decide, by decide, by decide, by decide, fun k hk => ?_, fun k hk => ?_⟩
  · have : k < 1 := hk
    obtain rfl : k = 0 := by omega
    exact ⟨by decide, by decide⟩
  · have : k < 2 := hk
    rcases (show k = 0 ∨ k = 1 by omega) with rfl | rfl <;> decide
/-- the outcome of live's run -/
theorem live_run {w w' : World} {e : Ending} (h : ExRunPost 2 2 liCode liOuts [7, 3] w e w') : ∃ a c, e = .returned (.tuple #[.slice a 1 c, .int .i64 0, .int .i64 0]) ∧ PRow 0 w' (.slice a 1 c) [2] ∧ Below w.heap.size w w' := by
  have a2 : afterN liCode (startN [7, 3] (2 : Int).toNat) 2 = some [2, 3] := by decide +kernel
  obtain ⟨h, hB⟩ := h
  rcases h with ⟨hn, _⟩ | ⟨_, hn, _⟩ | ⟨_, _, m, s, hk, h1, h2, _⟩ | ⟨_, _, s, v, h1, rfl, h3⟩
  · exact absurd liOk hn
  · exact absurd (by decide) hn
  · have : m < 2 := hk
    have := afterN_mono h2 (show m + 1 ≤ 2 by omega)
    rw [a2] at this; cases this
  · rw [show liCode.length = 2 from rfl, a2] at h1
    cases h1
    have h4 : OwnF IsInt 48 w w' v ([2] : List Int).length (fun k => ([2] : List Int).getD k 0) := h3.congr' (fun k hk => by have : k < 1 := hk; obtain rfl : k = 0 := (by omega); rfl)
    have h5 := h4.row
    obtain ⟨a, c, rfl, -⟩ := h3.view
    exact ⟨a, c, rfl, h5.rebase (Nat.zero_le _), hB⟩
set_option maxRecDepth 100000 in
set_option maxHeartbeats 8000000 in
theorem live_c (w : World) : Calls Tryz.prog 10 #[] w fun e w' => e = .returned (.bool true) ∧ Below w.heap.size w w' := by
  have hB := Below.refl w.heap.size w
  go_enter Tryz.func10, Tryz.ntmps10
  go_wp2_with fail
  refine wp_nameC fun w1 hW1 => ?_
  have hb1 : Below w.heap.size w w1 := by rw [hW1]; repeat (first | exact Below.refl _ _ | exact hB | refine Below.drew ?_ | refine below_drewN ?_ _ | refine bset ?_ (by simp <;> omega) _ | refine bal ?_ _)
  have hI : InsV w1 (some ⟨w.heap.size, 0, none⟩) 2 liCode := .inr ⟨w.heap.size, 0, rfl, by decide, fun k hk => by
    rw [hW1]
    have hk2 : k < 2 := hk
    rcases (show k = 0 ∨ k = 1 by omega) with rfl | rfl
    · constructor <;> simp [go_sem, liCode]
    · constructor <;> simp [go_sem, liCode]⟩
  have hO : IntsV w1 (some ⟨w.heap.size + 1, 0, none⟩) 1 liOuts := .inr ⟨w.heap.size + 1, 0, rfl, by decide, fun k hk => by
    rw [hW1]
    have hk2 : k < 1 := hk
    obtain rfl : k = 0 := by omega
    simp [go_sem, liOuts]⟩
  have hR : RowI w1 (.slice (some ⟨w.heap.size + 1 + 1, 0, none⟩) 2 2) [7, 3] := ⟨_, _, rfl, fun k hk => ⟨_, _, rfl, by
    rw [hW1]
    have hk2 : k < 2 := hk
    rcases (show k = 0 ∨ k = 1 by omega) with rfl | rfl <;> simp [go_sem], by
    have hk2 : k < 2 := hk
    rcases (show k = 0 ∨ k = 1 by omega) with rfl | rfl <;> (unfold I64; simp)⟩⟩
  have HH := Lib.hid (And.intro hI hO)
  have oc := rowOf_c _ _ _ hR (by decide)
  clear hW1 hI hO hR
  refine oc.mono ?_
  rintro e w2 ⟨v2, rfl, hr2, hb2⟩
  have HR2 := Lib.hid (hr2.row.rebase (Nat.zero_le _))
  obtain ⟨a2, c2, hv2⟩ := hr2.ex
  replace hv2 : v2 = .slice a2 2 c2 := hv2
  subst hv2
  have hB2 := bthen hb1 hb2
  clear hr2 oc
  have hBw := Below.refl w2.heap.size w2
  have rx := fun W (h : Below w2.heap.size w2 W) => exRun_c 2 2 (some ⟨w.heap.size, 0, none⟩) (some ⟨w.heap.size + 1, 0, none⟩) 2 1 liCode liOuts (.slice a2 2 c2) [7, 3] 64 W (HH.out.1.keep (bthen hb2 h)) (HH.out.2.keep (bthen hb2 h)) (HR2.out.keep lims_int h) (by decide) (fun j => by
    by_cases h : j < 2
    · rcases (show j = 0 ∨ j = 1 by omega) with rfl | rfl <;> (unfold Bd; decide)
    · rw [List.getD_eq_getElem?_getD, List.getElem?_eq_none (by simpa using h)]; exact bd_zero) (by omega)
  go_wp2_with fail
  refine (rx _ (by repeat (first | exact Below.refl _ _ | exact hBw | refine Below.drew ?_ | refine below_drewN ?_ _ | refine bset ?_ (by simp <;> omega) _ | refine bal ?_ _))).mono ?_
  rintro e w3 hr3
  obtain ⟨a3, c3, rfl, hr, hb3⟩ := live_run hr3
  have HR3 := Lib.hid hr
  have hB3 := bthen hB2 (bthen (by repeat (first | exact Below.refl _ _ | exact hBw | refine Below.drew ?_ | refine below_drewN ?_ _ | refine bset ?_ (by simp <;> omega) _ | refine bal ?_ _)) hb3)
  clear hr hr3 rx
  have hBz := Below.refl w3.heap.size w3
  have tx := fun W (h : Below w3.heap.size w3 W) => rowText1_c (.slice a3 1 c3) 2 64 W (HR3.out.keep lims_int h) (by unfold Bd; decide) (by omega) (by decide +kernel)
  rw [show ((⟨#[91]⟩ : ByteArray) ++ ⟨(intTxt 2).toArray⟩ ++ ⟨#[93]⟩) = ⟨#[91, 50, 93]⟩ by decide +kernel] at tx
  go_wp2_with fail
  refine (tx _ (by repeat (first | exact Below.refl _ _ | exact hBz | refine Below.drew ?_ | refine below_drewN ?_ _ | refine bset ?_ (by simp <;> omega) _ | refine bal ?_ _))).mono ?_
  rintro e w4 ⟨rfl, hb4⟩
  have hB4 : Below w.heap.size w w4 := bthen hB3 (bthen (by repeat (first | exact Below.refl _ _ | exact hBz | refine Below.drew ?_ | refine below_drewN ?_ _ | refine bset ?_ (by simp <;> omega) _ | refine bal ?_ _)) hb4)
  clear tx
  go_wp2
  go_ret
  exact ⟨rfl, by repeat (first | exact Below.refl _ _ | exact hB4 | refine Below.drew ?_ | refine below_drewN ?_ _ | refine bset ?_ (by simp <;> omega) _ | refine bal ?_ _)⟩
end Go.Proofs.YtannhpadoooedaaGreatDoor

/- exact's laws: one, is. -/
namespace Go.Proofs.YtannhpadoooedaaGreatDoor
open Num
open Go.ChangeShapes Go.WideShapes Go.ChangeAt Go.RowKit
set_option linter.unusedVariables false
set_option linter.unusedSimpArgs false
attribute [local go_sem ↓] Go.wp_at_zero Go.wp_at_succ
set_option maxRecDepth 100000 in
set_option maxHeartbeats 4000000 in
theorem one_c (vx vy : Value) (x y : Int) (k : Nat) (w : World) (hx : IsInt w vx x) (hy : IsRef w vy y) (bx : Bd k x) (hk : k ≤ 4294967296) :
    Calls Tryz.prog 17 #[vx, vy] w fun e w' => e = .returned (.bool (decide (x = y))) ∧ Below w.heap.size w w' := by
  have lc := fun W (h : Below w.heap.size w W) => limbs_c vx x k W (hx.keep h) bx (by omega)
  have HY := Lib.hid hy
  obtain ⟨q, hq⟩ : ∃ q, decide (x = y) = q := ⟨_, rfl⟩
  rw [hq]
  have HQ := Lib.hid hq
  clear hq
  obtain ⟨n1, a1, c1, l1, rfl, -⟩ := hx
  obtain ⟨n2, a2, c2, l2, rfl, -⟩ := hy
  unfold iv at *
  clear bx
  have hB := Below.refl w.heap.size w
  go_enter Tryz.func17, Tryz.ntmps17
  go_wp2_with fail
  refine (lc _ (by repeat (first | exact Below.refl _ _ | exact hB | refine Below.drew ?_ | refine below_drewN ?_ _ | refine bset ?_ (by simp <;> omega) _ | refine bal ?_ _))).mono ?_
  rintro e w1 ⟨⟨neg, a, c, l, rfl, hu, hxe, hll⟩, hb1⟩
  have y0 : w1.cell? ⟨w.heap.size + 1, 0, none⟩ = some (.bool n2) := bkc hb1
  have zy0 := cell_lt y0
  have y1 : w1.cell? ⟨w.heap.size + 1, 1, none⟩ = some (.slice a2 l2.length c2) := bkc hb1
  have hB : Below w.heap.size w w1 := bthen (by repeat (first | exact Below.refl _ _ | exact hB | refine Below.drew ?_ | refine below_drewN ?_ _ | refine bset ?_ (by simp <;> omega) _ | refine bal ?_ _)) hb1
  have hz : w.heap.size ≤ w1.heap.size := hB.size
  have HU := Lib.hid hu
  have HX := Lib.hid hxe
  clear lc hu hxe
  have hw1 := Below.refl w1.heap.size w1
  have mc := fun W (h : Below w1.heap.size w1 W) => rmake_c neg a c l W (HU.out.keep h) (by omega)
  rw [← HX.out] at mc
  have sc := fun v W (h : Below w.heap.size w W) (hv : IsRef W v x) => rsame_c v (.agg #[.bool n2, .slice a2 l2.length c2]) x y W hv (HY.out.keep h)
  rw [HQ.out] at sc
  have HS := Lib.hid (show ∀ W, Below w1.heap.size w1 W → W.cell? ⟨w.heap.size + 1, 0, none⟩ = some (.bool n2) ∧ W.cell? ⟨w.heap.size + 1, 1, none⟩ = some (.slice a2 l2.length c2) from fun W h => ⟨bkeep h y0, bkeep h y1⟩)
  have hBc := hw1
  go_wp2
  go_region_held3 (fun w' => w'.cell? ⟨w.heap.size + 1, 0, none⟩ = some (.bool n2) ∧ w'.cell? ⟨w.heap.size + 1, 1, none⟩ = some (.slice a2 l2.length c2))
    (first | (refine HS.out _ ?_; (repeat (first | exact Below.refl _ _ | exact hBc | refine Below.drew ?_ | refine below_drewN ?_ _ | refine bset ?_ (by simp <;> omega) _ | refine bal ?_ _)); done) | fail)
    (first
      | (go_at_call 66; refine (mc _ ?_).mono ?_; (repeat (first | exact Below.refl _ _ | exact hBc | refine Below.drew ?_ | refine below_drewN ?_ _ | refine bset ?_ (by simp <;> omega) _ | refine bal ?_ _)); rintro e w5 ⟨⟨v5, rfl, hv5⟩, hb5⟩; (have hBd : Below w1.heap.size w1 w5 := bthen (by repeat (first | exact Below.refl _ _ | exact hBc | refine Below.drew ?_ | refine below_drewN ?_ _ | refine bset ?_ (by simp <;> omega) _ | refine bal ?_ _)) hb5; clear hBc; have hBc := hBd; clear hBd); have HV5 := Lib.hid hv5; have hw5 := Below.refl w5.heap.size w5; obtain ⟨n5, a5, c5, l5, rfl, -⟩ := hv5; unfold iv at *)
      | (go_at_call 65; refine (sc _ _ ?_ ?_).mono ?_; (refine bthen hB ?_; (repeat (first | exact Below.refl _ _ | exact hBc | refine Below.drew ?_ | refine below_drewN ?_ _ | refine bset ?_ (by simp <;> omega) _ | refine bal ?_ _))); (refine HV5.out.keep ?_; (repeat (first | exact Below.refl _ _ | exact hw5 | refine Below.drew ?_ | refine below_drewN ?_ _ | refine bset ?_ (by simp <;> omega) _ | refine bal ?_ _))); rintro e w6 ⟨rfl, hb6⟩; (have hBd : Below w1.heap.size w1 w6 := bthen (by repeat (first | exact Below.refl _ _ | exact hBc | refine Below.drew ?_ | refine below_drewN ?_ _ | refine bset ?_ (by simp <;> omega) _ | refine bal ?_ _)) hb6; clear hBc; have hBc := hBd; clear hBd))
      | fail)
  all_goals
    clear mc sc
    have hB6 := bthen hB hBc
    go_wp2
    go_ret
    exact ⟨rfl, by repeat (first | exact Below.refl _ _ | exact hB6 | refine Below.drew ?_ | refine below_drewN ?_ _ | refine bset ?_ (by simp <;> omega) _ | refine bal ?_ _)⟩
set_option maxRecDepth 100000 in
set_option maxHeartbeats 4000000 in
/-- rows that are the same -/
theorem is_c (va vb : Value) (l : List Int) (k : Nat) (w : World) (ha : PRow 0 w va l) (hb : RRow 0 w vb l) (bl : ∀ j, Bd k (l.getD j 0)) (hk : k ≤ 4294967296) (hl : l.length ≤ 1099511627775) :
    Calls Tryz.prog 18 #[va, vb] w fun e w' => e = .returned (.bool true) ∧ Below w.heap.size w w' := by
  have HA := Lib.hid ha
  have HBB := Lib.hid hb
  have HBD := Lib.hid bl
  obtain ⟨aa, ca, rfl, -⟩ := ha
  obtain ⟨ab, cb, rfl, -⟩ := hb
  clear bl
  have hB := Below.refl w.heap.size w
  have hnn : ((l.length : Int) != (l.length : Int)) = false := by simp
  go_enter Tryz.func18, Tryz.ntmps18
  go_wp2
  go_loopw [5] (fun x wr => ∃ j : Nat, j ≤ l.length ∧ x = .int .i64 j ∧ Below w.heap.size w wr) (fun x _ => l.length - (intOf x).toNat)
  case atStart => exact ⟨0, Nat.zero_le _, rfl, hB⟩
  case round =>
    obtain ⟨j, hj, rfl, hBr⟩ := hrel
    by_cases hlt : j < l.length
    · have hltI : (j : Int) < (l.length : Int) := by omega
      obtain ⟨a', c', he, -, vr⟩ := HA.out.view
      obtain ⟨rfl, -, rfl⟩ := Value.slice.inj he
      obtain ⟨b', d', he2, -, vs⟩ := HBB.out.view
      obtain ⟨rfl, -, rfl⟩ := Value.slice.inj he2
      obtain ⟨rb, ro, n3, a3, l3, c3, rfl, r0, r1, hi⟩ := vr j hlt
      obtain ⟨sb, so, n4, a4, l4, c4, rfl, s0, s1, hi2⟩ := vs j hlt
      have oc := fun W (h : Below wr.heap.size wr W) => one_c _ _ (l.getD j 0) (l.getD j 0) k W (hi.keep (bthen hBr h)) (hi2.keep (bthen hBr h)) (HBD.out j) hk
      rw [show decide (l.getD j 0 = l.getD j 0) = true by simp] at oc
      have HS := Lib.hid (show ∀ W, Below wr.heap.size wr W → W.cell? ⟨rb, ro + j * 2, none⟩ = some (.bool n3) ∧ W.cell? ⟨rb, ro + j * 2 + 1, none⟩ = some (.slice a3 l3 c3) ∧ W.cell? ⟨sb, so + j * 2, none⟩ = some (.bool n4) ∧ W.cell? ⟨sb, so + j * 2 + 1, none⟩ = some (.slice a4 l4 c4) from fun W h => ⟨bkeep (bthen hBr h) r0, bkeep (bthen hBr h) r1, bkeep (bthen hBr h) s0, bkeep (bthen hBr h) s1⟩)
      have hBc := Below.refl wr.heap.size wr
      obtain ⟨q5, q6, q7, q8⟩ := HS.out wr hBc
      have zz5 := cell_lt q5
      have zz7 := cell_lt q7
      clear hi hi2 r0 r1 s0 s1 vr vs he he2
      go_wp2
      go_region_held3 (fun w' => w'.cell? ⟨rb, ro + j * 2, none⟩ = some (.bool n3) ∧ w'.cell? ⟨rb, ro + j * 2 + 1, none⟩ = some (.slice a3 l3 c3) ∧ w'.cell? ⟨sb, so + j * 2, none⟩ = some (.bool n4) ∧ w'.cell? ⟨sb, so + j * 2 + 1, none⟩ = some (.slice a4 l4 c4))
        (first | (refine HS.out _ ?_; (repeat (first | exact Below.refl _ _ | exact hBc | refine Below.drew ?_ | refine below_drewN ?_ _ | refine bset ?_ (by simp <;> omega) _ | refine bal ?_ _)); done) | fail)
        (first
          | (go_at_call 17; refine (oc _ ?_).mono ?_; (repeat (first | exact Below.refl _ _ | exact hBc | refine Below.drew ?_ | refine below_drewN ?_ _ | refine bset ?_ (by simp <;> omega) _ | refine bal ?_ _)); rintro e w5 ⟨rfl, hb5⟩; (have hBd : Below wr.heap.size wr w5 := bthen (by repeat (first | exact Below.refl _ _ | exact hBc | refine Below.drew ?_ | refine below_drewN ?_ _ | refine bset ?_ (by simp <;> omega) _ | refine bal ?_ _)) hb5; clear hBc; have hBc := hBd; clear hBd))
          | fail)
      all_goals
        have hB5 := bthen hBr hBc
        clear oc q5 q6 q7 q8
        go_wp2
        exact ⟨⟨j + 1, by omega, by go_num, by repeat (first | exact Below.refl _ _ | exact hB5 | refine Below.drew ?_ | refine below_drewN ?_ _ | refine bset ?_ (by simp <;> omega) _ | refine bal ?_ _)⟩, by simp [intOf]; omega⟩
    · obtain rfl : j = l.length := by omega
      go_wp2
      go_ret
      exact ⟨rfl, hBr⟩
end Go.Proofs.YtannhpadoooedaaGreatDoor

/- The reference's numbers: norm, with the world that it leaves. -/
namespace Go.Proofs.YtannhpadoooedaaGreatDoor
open Num
open Go.ChangeShapes Go.WideShapes Go.ChangeAt Go.RowKit
set_option linter.unusedVariables false
set_option linter.unusedSimpArgs false
set_option maxRecDepth 100000 in
set_option maxHeartbeats 1000000 in
theorem rnormW_c (neg : Bool) (a : Option Addr) (ca : Nat) (l : List Nat) (w : World) (ha : U32 w a ca l) :
    Calls Tryz.prog 99 #[.bool neg, .slice a l.length ca] w fun e w' => e = .returned (iv (neg && decide (0 < (trimL l).length)) a (trimL l).length ca) ∧ w' = w.alloc (.cells #[.bool (neg && decide (0 < (trimL l).length)), .slice a (trimL l).length ca] 44) := by
  obtain ⟨hc, hm, hl, hcs⟩ := ha
  unfold maxLen at hm
  go_enter Tryz.func99, Tryz.ntmps99
  go_wp2
  go_loop [5] (fun x => ∃ k : Nat, k ≤ l.length ∧ x = .int .i64 k ∧ trimL (l.take k) = trimL l) (fun x => (intOf x).toNat)
  case atStart => exact ⟨l.length, Nat.le_refl _, rfl, by rw [List.take_length]⟩
  case round =>
    obtain ⟨k, hk, rfl, ht⟩ := hrel
    have HT := Lib.hid ht
    clear ht
    cases k with
    | zero =>
      have hz : (trimL l).length = 0 := by have := HT.out; rw [List.take_zero] at this; rw [← this]; rfl
      have HZ := Lib.hid hz
      clear hz
      cases neg with
      | true =>
        go_wp2
        refine bodyPost_ret (v := iv false a 0 ca) (by simp [iv, results, Tryz.results99, go_sem, *]) rfl ⟨by rw [HZ.out] <;> simp, by rw [HZ.out] <;> simp⟩
      | false =>
        go_wp2
        refine bodyPost_ret (v := iv false a 0 ca) (by simp [iv, results, Tryz.results99, go_sem, *]) rfl ⟨by rw [HZ.out] <;> simp, by rw [HZ.out] <;> simp⟩
    | succ j =>
      rcases hcs with rfl | ⟨b, off, rfl, hcell⟩
      · simp at hk
      have hj := cell_alloc (hcell j (by omega)) (.cells #[.bool false, .slice none 0 0] 44)
      by_cases h0 : l.getD j 0 = 0
      · have HN := Lib.hid (trim_take_zero (by omega : j < l.length) h0)
        rw [h0] at hj
        go_wp2
        exact ⟨⟨j, by omega, rfl, HN.out.symm.trans HT.out⟩, by simp [intOf] <;> omega⟩
      · have HN := Lib.hid (trim_take_pos (by omega : j < l.length) h0)
        generalize hx : l.getD j 0 = x at *
        have hx0 : ((x : Int) == 0) = false := by simp; omega
        have HL := Lib.hid (show (trimL l).length = j + 1 by rw [← HT.out, HN.out]; simp; omega)
        cases neg with
        | true =>
          go_wp2
          refine bodyPost_ret (v := iv true (some ⟨b, off, none⟩) (j + 1) ca) (by simp [iv, results, Tryz.results99, go_sem, *]) rfl ⟨by rw [HL.out] <;> simp, by rw [HL.out] <;> simp⟩
        | false =>
          go_wp2
          refine bodyPost_ret (v := iv false (some ⟨b, off, none⟩) (j + 1) ca) (by simp [iv, results, Tryz.results99, go_sem, *]) rfl ⟨by rw [HL.out] <;> simp, by rw [HL.out] <;> simp⟩

end Go.Proofs.YtannhpadoooedaaGreatDoor

/- The reference's numbers: Sub; Add and Sub of numbers no greater than one of so many digits. -/
namespace Go.Proofs.YtannhpadoooedaaGreatDoor
open Num
open Go.ChangeShapes Go.WideShapes Go.ChangeAt Go.RowKit
set_option linter.unusedVariables false
set_option linter.unusedSimpArgs false
/-- a number of at most so many digits, by its size -/
theorem rlen_le {l B : List Nat} (hn : Nrm l) (hB : NumR.Limbs B) (h : NumR.val l ≤ NumR.val B) : l.length ≤ B.length := by
  apply Nat.le_of_not_lt; intro hl
  have := NumR.val_lt_of_len hB hn hl
  omega
theorem radd_n (vx vy : Value) (x y : Int) (B : List Nat) (w : World) (hx : IsRef w vx x) (hy : IsRef w vy y) (hB : NumR.Limbs B) (bx : x.natAbs ≤ NumR.val B) (by' : y.natAbs ≤ NumR.val B) (hk : B.length ≤ 2147483650) :
    Calls Tryz.prog 147 #[vx, vy] w fun e w' => (∃ v, e = .returned v ∧ IsRef w' v (x + y)) ∧ Below w.heap.size w w' := by
  obtain ⟨n1, a1, c1, l1, rfl, u1, q1, g1, s1, rfl⟩ := hx
  obtain ⟨n2, a2, c2, l2, rfl, u2, q2, g2, s2, rfl⟩ := hy
  rw [sg_abs] at bx by'
  exact raddV_c n1 n2 a1 a2 c1 c2 l1 l2 w u1 u2 q1 q2 g1 g2 (Nat.le_trans (rlen_le g1 hB bx) hk) (Nat.le_trans (rlen_le g2 hB by') hk)
set_option maxRecDepth 100000 in
set_option maxHeartbeats 2000000 in
theorem rsub_n (vx vy : Value) (x y : Int) (B : List Nat) (w : World) (hx : IsRef w vx x) (hy : IsRef w vy y) (hB' : NumR.Limbs B) (bx : x.natAbs ≤ NumR.val B) (by' : y.natAbs ≤ NumR.val B) (hk : B.length ≤ 2147483650) :
    Calls Tryz.prog 163 #[vx, vy] w fun e w' => (∃ v, e = .returned v ∧ IsRef w' v (x - y)) ∧ Below w.heap.size w w' := by
  have nx := fun W (k : Below w.heap.size w W) => rneg_c vy y W (hy.keep k)
  have ad := fun vz W (k : Below w.heap.size w W) (hz : IsRef W vz (-y)) => radd_n vx vz x (-y) B W (hx.keep k) hz hB' bx (by rw [Int.natAbs_neg]; exact by') hk
  obtain ⟨n1, a1, c1, l1, rfl, -⟩ := hx
  obtain ⟨n2, a2, c2, l2, rfl, -⟩ := hy
  unfold iv at *
  have HE := Lib.hid (show x + -y = x - y by omega)
  clear bx by' hk hB'
  have hB := Below.refl w.heap.size w
  go_enter Tryz.func163, Tryz.ntmps163
  go_wp2
  refine wp_name fun w0 hW0 => ?_
  have x0 : w0.cell? ⟨w.heap.size, 0, none⟩ = some (.bool n1) := by rw [hW0]; exact (by first | assumption | exact cell_new (by with_reducible first | rfl | (simp; done) | (simp; omega)) rfl | (repeat (first | assumption | exact cell_new (by with_reducible first | rfl | (simp; done) | (simp; omega)) rfl | refine cell_alloc ?_ _ | refine cell_drew ?_ | refine cell_drewN ?_ _ | refine cell_far ?_ (by simp) _ | (refine cell_far ?_ (by simp <;> omega) _))) | simp [go_sem, *])
  have zx0 := cell_lt x0
  have x1 : w0.cell? ⟨w.heap.size, 1, none⟩ = some (.slice a1 l1.length c1) := by rw [hW0]; exact (by first | assumption | exact cell_new (by with_reducible first | rfl | (simp; done) | (simp; omega)) rfl | (repeat (first | assumption | exact cell_new (by with_reducible first | rfl | (simp; done) | (simp; omega)) rfl | refine cell_alloc ?_ _ | refine cell_drew ?_ | refine cell_drewN ?_ _ | refine cell_far ?_ (by simp) _ | (refine cell_far ?_ (by simp <;> omega) _))) | simp [go_sem, *])
  have y0 : w0.cell? ⟨w.heap.size + 1, 0, none⟩ = some (.bool n2) := by rw [hW0]; exact (by first | assumption | exact cell_new (by with_reducible first | rfl | (simp; done) | (simp; omega)) rfl | (repeat (first | assumption | exact cell_new (by with_reducible first | rfl | (simp; done) | (simp; omega)) rfl | refine cell_alloc ?_ _ | refine cell_drew ?_ | refine cell_drewN ?_ _ | refine cell_far ?_ (by simp) _ | (refine cell_far ?_ (by simp <;> omega) _))) | simp [go_sem, *])
  have zy0 := cell_lt y0
  have y1 : w0.cell? ⟨w.heap.size + 1, 1, none⟩ = some (.slice a2 l2.length c2) := by rw [hW0]; exact (by first | assumption | exact cell_new (by with_reducible first | rfl | (simp; done) | (simp; omega)) rfl | (repeat (first | assumption | exact cell_new (by with_reducible first | rfl | (simp; done) | (simp; omega)) rfl | refine cell_alloc ?_ _ | refine cell_drew ?_ | refine cell_drewN ?_ _ | refine cell_far ?_ (by simp) _ | (refine cell_far ?_ (by simp <;> omega) _))) | simp [go_sem, *])
  have r0f : w0.frozen? ⟨w.heap.size + 2, 0, none⟩ = false := by rw [hW0]; simp [go_sem, *]
  have r0 : w0.cell? ⟨w.heap.size + 2, 0, none⟩ = some (.bool false) := by rw [hW0]; exact (by first | assumption | exact cell_new (by with_reducible first | rfl | (simp; done) | (simp; omega)) rfl | (repeat (first | assumption | exact cell_new (by with_reducible first | rfl | (simp; done) | (simp; omega)) rfl | refine cell_alloc ?_ _ | refine cell_drew ?_ | refine cell_drewN ?_ _ | refine cell_far ?_ (by simp) _ | (refine cell_far ?_ (by simp <;> omega) _))) | simp [go_sem, *])
  have zr0 := cell_lt r0
  have r1f : w0.frozen? ⟨w.heap.size + 2, 1, none⟩ = false := by rw [hW0]; simp [go_sem, *]
  have r1 : w0.cell? ⟨w.heap.size + 2, 1, none⟩ = some (.slice none 0 0) := by rw [hW0]; exact (by first | assumption | exact cell_new (by with_reducible first | rfl | (simp; done) | (simp; omega)) rfl | (repeat (first | assumption | exact cell_new (by with_reducible first | rfl | (simp; done) | (simp; omega)) rfl | refine cell_alloc ?_ _ | refine cell_drew ?_ | refine cell_drewN ?_ _ | refine cell_far ?_ (by simp) _ | (refine cell_far ?_ (by simp <;> omega) _))) | simp [go_sem, *])
  have hB : Below w.heap.size w w0 := by rw [hW0]; repeat (first | exact Below.refl _ _ | exact hB | refine Below.drew ?_ | refine below_drewN ?_ _ | refine bset ?_ (by simp <;> omega) _ | refine bal ?_ _)
  have hz : w.heap.size ≤ w0.heap.size := hB.size
  clear hW0
  have hBc : Below w0.heap.size w0 w0.drew := (Below.refl _ _).drew
  have HB0 := Lib.hid hB
  go_region_held3 (fun w' => w'.cell? ⟨w.heap.size, 0, none⟩ = some (.bool n1) ∧ w'.cell? ⟨w.heap.size, 1, none⟩ = some (.slice a1 l1.length c1) ∧ w'.cell? ⟨w.heap.size + 1, 0, none⟩ = some (.bool n2) ∧ w'.cell? ⟨w.heap.size + 1, 1, none⟩ = some (.slice a2 l2.length c2))
    (first | exact ⟨x0, x1, y0, y1⟩ | exact ⟨bkeep hBc x0, bkeep hBc x1, bkeep hBc y0, bkeep hBc y1⟩ | exact ⟨cell_far (cell_far (bkeep hBc x0) (addr_ne (by omega)) _) (addr_ne (by omega)) _, cell_far (cell_far (bkeep hBc x1) (addr_ne (by omega)) _) (addr_ne (by omega)) _, cell_far (cell_far (bkeep hBc y0) (addr_ne (by omega)) _) (addr_ne (by omega)) _, cell_far (cell_far (bkeep hBc y1) (addr_ne (by omega)) _) (addr_ne (by omega)) _⟩)
    (first
      | (go_at_call 162; refine (nx _ (bthen HB0.out hBc)).mono ?_; rintro e w3 ⟨⟨v3, rfl, hi3⟩, hb3⟩; (replace hBc := bthen hBc hb3); (have HI3 := Lib.hid hi3); clear hi3)
      | (go_at_call 147; refine (ad _ _ (bthen HB0.out hBc) HI3.out).mono ?_; rintro e w4 ⟨⟨v, rfl, hi⟩, hb4⟩; (replace hBc := bthen hBc hb4); (replace r0f := bkeepf hBc r0 r0f); (replace r1f := bkeepf hBc r1 r1f); (replace r0 := bkeep hBc r0); (replace r1 := bkeep hBc r1); (have HI2 := Lib.hid (hi.put2 r0 r1)); (obtain ⟨n4, a4, c4, l4, rfl, _, _, _, _⟩ := hi); unfold iv at *))
  have hB9 := bthen HB0.out hBc
  clear x0 x1 y0 y1
  rw [HE.out] at HI2
  go_wp2
  refine bodyPost_ret (v := .agg #[.bool n4, .slice a4 l4.length c4]) (by simp [results, Tryz.results163, go_sem, *]) rfl ⟨⟨_, rfl, HI2.out _ _⟩, ?_⟩
  repeat (first | exact Below.refl _ _ | exact hB9 | refine Below.drew ?_ | refine below_drewN ?_ _ | refine bset ?_ (by simp <;> omega) _ | refine bal ?_ _)
end Go.Proofs.YtannhpadoooedaaGreatDoor

/- The reference's numbers: DivMod. -/
namespace Go.Proofs.YtannhpadoooedaaGreatDoor
open Num
open Go.ChangeShapes Go.WideShapes Go.ChangeAt Go.RowKit
set_option linter.unusedVariables false
set_option linter.unusedSimpArgs false
theorem Free.al {w : World} {g : Nat} (h : Free w g) (o : Obj) : Free (w.alloc o) g := h.keep (bal (Below.refl _ _) _)
theorem Free.dr {w : World} {g : Nat} (h : Free w g) : Free w.drew g := h
set_option maxRecDepth 100000 in
set_option maxHeartbeats 2000000 in
theorem rdivmodV_c (n1 n2 : Bool) (a1 a2 : Option Addr) (c1 c2 : Nat) (l1 l2 : List Nat) (w : World) (u1 : U32 w a1 c1 l1) (u2 : U32 w a2 c2 l2) (q1 : NumR.Limbs l1) (q2 : NumR.Limbs l2) (g1 : Nrm l1) (g2 : Nrm l2) (hz : 0 < NumR.val l2) (k1 : l1.length ≤ 1073741826) (k2 : l2.length ≤ 1073741826) (s1 : n1 = true → l1 ≠ []) (s2 : n2 = true → l2 ≠ []) :
    Calls Tryz.prog 181 #[.agg #[.bool n1, .slice a1 l1.length c1], .agg #[.bool n2, .slice a2 l2.length c2]] w fun e w' => (∃ u v, e = .returned (.tuple #[u, v]) ∧ IsRef w' u (sg n1 (NumR.val l1) / sg n2 (NumR.val l2)) ∧ IsRef w' v (sg n1 (NumR.val l1) % sg n2 (NumR.val l2))) ∧ Below w.heap.size w w' := by
  have dc := fun w h1 h2 => rdivide_c a1 a2 c1 c2 l1 l2 w h1 h2 q1 q2 g1 g2 hz k1 k2
  have hB0 := Below.refl w.heap.size w
  have HK := Lib.hid (And.intro k1 k2)
  have HZ := Lib.hid hz
  have HS := Lib.hid (And.intro s1 s2)
  clear k1 k2 hz s1 s2
  go_enter Tryz.func181, Tryz.ntmps181
  go_wp2_with fail
  refine (dc _ (u1.keep (by repeat (first | exact Below.refl _ _ | exact hB0 | refine Below.drew ?_ | refine below_drewN ?_ _ | refine bset ?_ (by simp <;> omega) _ | refine bal ?_ _))) (u2.keep (by repeat (first | exact Below.refl _ _ | exact hB0 | refine Below.drew ?_ | refine below_drewN ?_ _ | refine bset ?_ (by simp <;> omega) _ | refine bal ?_ _)))).mono ?_
  rintro e w1 ⟨⟨u, v, rfl, hu, hv⟩, hb1⟩
  have x0 : w1.cell? ⟨w.heap.size, 0, none⟩ = some (.bool n1) := bkc hb1
  have zx0 := cell_lt x0
  have x1 : w1.cell? ⟨w.heap.size, 1, none⟩ = some (.slice a1 l1.length c1) := bkc hb1
  have y0 : w1.cell? ⟨w.heap.size + 1, 0, none⟩ = some (.bool n2) := bkc hb1
  have zy0 := cell_lt y0
  have y1 : w1.cell? ⟨w.heap.size + 1, 1, none⟩ = some (.slice a2 l2.length c2) := bkc hb1
  have r0 : w1.cell? ⟨w.heap.size + 2, 0, none⟩ = some (.bool false) := bkc hb1
  have zr0 := cell_lt r0
  have r0f : w1.frozen? ⟨w.heap.size + 2, 0, none⟩ = false := bkcf (v := .bool false) hb1
  have r1 : w1.cell? ⟨w.heap.size + 2, 1, none⟩ = some (.slice none 0 0) := bkc hb1
  have r1f : w1.frozen? ⟨w.heap.size + 2, 1, none⟩ = false := bkcf (v := .slice none 0 0) hb1
  have t0 : w1.cell? ⟨w.heap.size + 3, 0, none⟩ = some (.bool false) := bkc hb1
  have zt0 := cell_lt t0
  have t0f : w1.frozen? ⟨w.heap.size + 3, 0, none⟩ = false := bkcf (v := .bool false) hb1
  have t1 : w1.cell? ⟨w.heap.size + 3, 1, none⟩ = some (.slice none 0 0) := bkc hb1
  have t1f : w1.frozen? ⟨w.heap.size + 3, 1, none⟩ = false := bkcf (v := .slice none 0 0) hb1
  have hB : Below w.heap.size w w1 := bthen (by repeat (first | exact Below.refl _ _ | exact hB | refine Below.drew ?_ | refine below_drewN ?_ _ | refine bset ?_ (by simp <;> omega) _ | refine bal ?_ _)) hb1
  have hz : w.heap.size ≤ w1.heap.size := hB.size
  clear dc
  obtain ⟨aq, cq, Q, rfl, uq, qq, gq, vq⟩ := hu
  obtain ⟨ar, cr, R, rfl, ur, qr, gr, vr⟩ := hv
  have nc := fun W (h : Below w1.heap.size w1 W) => rnormW_c (!(n1 == n2)) aq cq Q W (uq.keep h)
  have nd := fun W (h : Below w1.heap.size w1 W) => rnormW_c n1 ar cr R W (ur.keep h)
  rw [trim_of_nrm gq] at nc
  rw [trim_of_nrm gr] at nd
  obtain ⟨b1, hb1'⟩ : ∃ b, b = ((!(n1 == n2)) && decide (0 < Q.length)) := ⟨_, rfl⟩
  obtain ⟨b2, hb2'⟩ : ∃ b, b = (n1 && decide (0 < R.length)) := ⟨_, rfl⟩
  rw [← hb1'] at nc
  rw [← hb2'] at nd
  have HQ := Lib.hid (And.intro uq (And.intro qq (And.intro gq (And.intro vq hb1'))))
  have HR := Lib.hid (And.intro ur (And.intro qr (And.intro gr (And.intro vr hb2'))))
  clear uq ur qq qr gq gr vq vr hb1' hb2'
  unfold iv at nc nd
  have hs0 := cell_lt x0
  have hs1 : w.heap.size < w1.heap.size + 1 := by omega
  have hs2 : w.heap.size < w1.heap.size + 1 + 1 := by omega
  have hs3 : w.heap.size < w1.heap.size + 1 + 1 + 1 := by omega
  have hv0 := cell_lt y0
  have hv1 : w.heap.size + 1 < w1.heap.size + 1 := by omega
  have hv2 : w.heap.size + 1 < w1.heap.size + 1 + 1 := by omega
  have hv3 : w.heap.size + 1 < w1.heap.size + 1 + 1 + 1 := by omega
  go_upto_region 2 with (fail)
  have hBw := Below.refl w1.heap.size w1
  have HSS := Lib.hid (fun W (h : Below w1.heap.size w1 W) => And.intro (bkeep h x0) (bkeep h y0))
  go_cut [8, 9] (fun p q wx => ∃ g h : Nat, p = .pointer (some ⟨g, 0, none⟩) ∧ q = .pointer (some ⟨h, 0, none⟩) ∧ g ≠ h ∧ w1.heap.size ≤ g ∧ w1.heap.size ≤ h ∧ wx.cell? ⟨g, 0, none⟩ = some (.bool b1) ∧ wx.cell? ⟨g, 1, none⟩ = some (.slice aq Q.length cq) ∧ wx.cell? ⟨h, 0, none⟩ = some (.bool b2) ∧ wx.cell? ⟨h, 1, none⟩ = some (.slice ar R.length cr) ∧ Free wx g ∧ Free wx h ∧ Below w1.heap.size w1 wx)
  case first =>
    go_region_held3 (fun w' => w'.cell? ⟨w.heap.size, 0, none⟩ = some (.bool n1) ∧ w'.cell? ⟨w.heap.size + 1, 0, none⟩ = some (.bool n2))
      (first | (refine HSS.out _ ?_; (repeat (first | exact Below.refl _ _ | exact hBw | refine Below.drew ?_ | refine below_drewN ?_ _ | refine bset ?_ (by simp <;> omega) _ | refine bal ?_ _)); done) | fail)
      (first | (go_at_call 99; (first | (with_reducible refine (nc _ ?_).mono ?_) | (with_reducible refine (nd _ ?_).mono ?_)); (repeat (first | exact Below.refl _ _ | exact hBw | refine Below.drew ?_ | refine below_drewN ?_ _ | refine bset ?_ (by simp <;> omega) _ | refine bal ?_ _)); rintro e w5 ⟨rfl, rfl⟩) | fail)
    all_goals
      go_wp2_with fail
      go_meet
      refine ⟨_, _, rfl, rfl, by omega, by omega, by omega, ?_, ?_, ?_, ?_, ?_, ?_, ?_⟩
      · repeat (first | (refine cell_new ?_ rfl; first | (with_reducible rfl) | (simp only [World.size_alloc]; done)) | (with_reducible refine cell_drew ?_) | (with_reducible refine cell_alloc ?_ _))
      · repeat (first | (refine cell_new ?_ rfl; first | (with_reducible rfl) | (simp only [World.size_alloc]; done)) | (with_reducible refine cell_drew ?_) | (with_reducible refine cell_alloc ?_ _))
      · repeat (first | (refine cell_new ?_ rfl; first | (with_reducible rfl) | (simp only [World.size_alloc]; done)) | (with_reducible refine cell_drew ?_) | (with_reducible refine cell_alloc ?_ _))
      · repeat (first | (refine cell_new ?_ rfl; first | (with_reducible rfl) | (simp only [World.size_alloc]; done)) | (with_reducible refine cell_drew ?_) | (with_reducible refine cell_alloc ?_ _))
      · repeat (first | (refine Free.new ?_; first | (with_reducible rfl) | (simp only [World.size_alloc]; done)) | (with_reducible refine Free.dr ?_) | (with_reducible refine Free.al ?_ _))
      · repeat (first | (refine Free.new ?_; first | (with_reducible rfl) | (simp only [World.size_alloc]; done)) | (with_reducible refine Free.dr ?_) | (with_reducible refine Free.al ?_ _))
      · exact Below.drew (bal (bal (bal (bal (Below.refl _ _) _) _) _) _)
  case rest =>
    obtain ⟨g, h, rfl, rfl, hgh, hg, hh, m0, m1, d0, d1, fg, fh, hBx⟩ := hcut
    have hBy := bthen hB hBx
    have k0 := bkeep hBx y0
    have k1 := bkeep hBx y1
    have e0 := bkeep hBx r0
    have e1 := bkeep hBx r1
    have e0f := bkeepf hBx r0 r0f
    have e1f := bkeepf hBx r1 r1f
    have o0 := bkeep hBx t0
    have o1 := bkeep hBx t1
    have o0f := bkeepf hBx t0 t0f
    have o1f := bkeepf hBx t1 t1f
    have fg0 := fg.2 0
    have fg1 := fg.2 1
    have fh0 := fh.2 0
    have fh1 := fh.2 1
    have hlt := cell_lt t0
    have hg3 : w.heap.size + 3 < g := by omega
    have hh3 : w.heap.size + 3 < h := by omega
    have HUQ := Lib.hid (HQ.out.1.keep hBx)
    have HUR := Lib.hid (HR.out.1.keep hBx)
    have HYR := Lib.hid (show IsRef wc (.agg #[.bool n2, .slice a2 l2.length c2]) (sg n2 (NumR.val l2)) from ⟨n2, a2, c2, l2, rfl, u2.keep hBy, q2, g2, HS.out.2, rfl⟩)
    clear nc nd hs0 hs1 hs2 hs3 hv0 hv1 hv2 hv3 x0 x1 y0 y1 r0 r1 r0f r1f t0 t1 t0f t1f hb1 hB HSS u1 u2 hBw
    cases b2 with
    | false =>
      have PL := Lib.hid (show sg n1 (NumR.val l1) / sg n2 (NumR.val l2) = sg (!(n1 == n2)) (NumR.val Q) ∧ sg n1 (NumR.val l1) % sg n2 (NumR.val l2) = sg false (NumR.val R) by
        rw [HQ.out.2.2.2.1, HR.out.2.2.2.1]
        refine dm_low HZ.out ?_
        have h := HR.out.2.2.2.2
        cases n1 with
        | false => exact .inl rfl
        | true =>
          right
          have h2 : R = [] := by cases hR : R with | nil => rfl | cons x t => rw [hR] at h; simp at h
          rw [← HR.out.2.2.2.1, h2]; rfl)
      go_upto_region 6 with (fail)
      go_region
      go_wp2
      have hbe : Below w.heap.size w ((((wc.setCell ⟨w.heap.size + 1 + 1, 0, none⟩ (.bool b1)).setCell ⟨w.heap.size + 1 + 1, 1, none⟩ (.slice aq Q.length cq)).setCell ⟨w.heap.size + 1 + 1 + 1, 0, none⟩ (.bool false)).setCell ⟨w.heap.size + 1 + 1 + 1, 1, none⟩ (.slice ar R.length cr)).drew := Below.drew (bset (bset (bset (bset hBy (by simp <;> omega) _) (by simp <;> omega) _) (by simp <;> omega) _) (by simp <;> omega) _)
      have e0 : wc.cell? ⟨w.heap.size + 1 + 1, 0, none⟩ = some (.bool false) := e0
      have e1 : wc.cell? ⟨w.heap.size + 1 + 1, 1, none⟩ = some (.slice none 0 0) := e1
      have o0 : wc.cell? ⟨w.heap.size + 1 + 1 + 1, 0, none⟩ = some (.bool false) := o0
      have o1 : wc.cell? ⟨w.heap.size + 1 + 1 + 1, 1, none⟩ = some (.slice none 0 0) := o1
      refine bodyPost_ret (v := .tuple #[.agg #[.bool b1, .slice aq Q.length cq], .agg #[.bool false, .slice ar R.length cr]]) (by simp [results, Tryz.results181, go_sem, *]) rfl ⟨⟨_, _, rfl, ?_, ?_⟩, hbe⟩
      · rw [PL.out.1]
        exact (((ref_of HUQ.out HQ.out.2.1 HQ.out.2.2.1 HQ.out.2.2.2.2).put2 e0 e1 _ _).put2 (cell_far (cell_far o0 (by simp) _) (by simp) _) (cell_far (cell_far o1 (by simp) _) (by simp) _) _ _).keep (Below.drew (Below.refl _ _))
      · rw [PL.out.2]
        exact (((ref_of (s := false) HUR.out HR.out.2.1 HR.out.2.2.1 rfl).put2 e0 e1 _ _).put2 (cell_far (cell_far o0 (by simp) _) (by simp) _) (cell_far (cell_far o1 (by simp) _) (by simp) _) _ _).keep (Below.drew (Below.refl _ _))
    | true =>
      have hn1 : n1 = true ∧ 0 < R.length := by have h := HR.out.2.2.2.2; simpa using h.symm
      obtain ⟨rfl, hRl⟩ := hn1
      have HM := Lib.hid (show IsRef wc (.agg #[.bool true, .slice ar R.length cr]) (sg true (NumR.val R)) from ref_of HUR.out HR.out.2.1 HR.out.2.2.1 HR.out.2.2.2.2)
      have HN := Lib.hid (show IsRef wc (.agg #[.bool b1, .slice aq Q.length cq]) (sg (!(true == n2)) (NumR.val Q)) from ref_of HUQ.out HQ.out.2.1 HQ.out.2.2.1 HQ.out.2.2.2.2)
      have hRv : 0 < NumR.val R := Nat.lt_of_lt_of_le (Nat.pow_pos NumR.BB_pos) (NumR.nrm_val_pos HR.out.2.2.1 (List.length_pos_iff.1 hRl))
      have hRl2 : NumR.val R ≤ NumR.val l2 := by rw [HR.out.2.2.2.1]; exact Nat.le_of_lt (Nat.mod_lt _ HZ.out)
      have hQl1 : NumR.val Q ≤ NumR.val l1 := by rw [HQ.out.2.2.2.1]; exact Nat.div_le_self _ _
      have hl1 : 1 ≤ NumR.val l1 := by
        have h : NumR.val R ≤ NumR.val l1 := by rw [HR.out.2.2.2.1]; exact Nat.mod_le _ _
        omega
      have PL := Lib.hid (show sg true (NumR.val l1) / sg n2 (NumR.val l2) = sg (!(true == n2)) (NumR.val Q) - sgV n2 l2.length ∧ sg true (NumR.val l1) % sg n2 (NumR.val l2) = sg true (NumR.val R) + ((sg n2 (NumR.val l2)).natAbs : Int) by
        have h : sgV n2 l2.length = (sg n2 (NumR.val l2)).sign := by rw [rsg_sign g2 HS.out.2]; rfl
        rw [h, HQ.out.2.2.2.1, HR.out.2.2.2.1]
        exact dm_high HZ.out (by rw [← HR.out.2.2.2.1]; exact hRv))
      have hsv : -1 ≤ sgV n2 l2.length ∧ sgV n2 l2.length ≤ 1 := by unfold sgV; split <;> (try split) <;> omega
      have ax := fun W (k : Below wc.heap.size wc W) => rabs_c _ _ W (HYR.out.keep k)
      have ad := fun vy W (k : Below wc.heap.size wc W) (hy : IsRef W vy ((sg n2 (NumR.val l2)).natAbs : Int)) => radd_n _ vy _ _ l2 W (HM.out.keep k) hy q2 (by rw [sg_abs]; exact hRl2) (by rw [Int.natAbs_natCast, sg_abs]; exact Nat.le_refl _) (by have := HK.out; omega)
      have sx := fun W => rsignV_c n2 a2 l2.length c2 W
      have ox := fun W => rof_c (sgV n2 l2.length) W (by omega) (by omega)
      have sd := fun vx vy W (hx : IsRef W vx (sg (!(true == n2)) (NumR.val Q))) (hy : IsRef W vy (sgV n2 l2.length)) => rsub_n vx vy _ _ l1 W hx hy q1 (by rw [sg_abs]; exact hQl1) (by omega) (by have := HK.out; omega)
      clear hRv hRl hRl2 hQl1 hl1
      obtain ⟨sv, hsvE⟩ : ∃ sv, sv = sgV n2 l2.length := ⟨_, rfl⟩
      rw [← hsvE] at PL hsv sx ox sd
      have HSV := Lib.hid hsvE
      clear hsvE
      go_upto_region 4 with (fail)
      go_cut [] (fun wx => ∃ n4 a4 c4, ∃ L4 : List Nat, wx.cell? ⟨h, 0, none⟩ = some (.bool n4) ∧ wx.cell? ⟨h, 1, none⟩ = some (.slice a4 L4.length c4) ∧ IsRef wx (.agg #[.bool n4, .slice a4 L4.length c4]) (sg true (NumR.val R) + ((sg n2 (NumR.val l2)).natAbs : Int)) ∧ Out (fun k => k = h) wc wx ∧ Lim wc wx)
      case first =>
        have hBw := Below.refl wc.heap.size wc
        go_region_law (go_simp; go_wp2_with (first
          | (go_at_call 144; refine (ax _ ?_).mono ?_; (repeat (first | exact Below.refl _ _ | exact hBw | refine Below.drew ?_ | refine below_drewN ?_ _ | refine bset ?_ (by simp <;> omega) _ | refine bal ?_ _)); rintro e w5 ⟨⟨v5, rfl, hi5⟩, hb5⟩; have hB5 : Below wc.heap.size wc w5 := bthen (by repeat (first | exact Below.refl _ _ | exact hBw | refine Below.drew ?_ | refine below_drewN ?_ _ | refine bset ?_ (by simp <;> omega) _ | refine bal ?_ _)) hb5; have HI5 := Lib.hid hi5; have d05 := bkeep hB5 d0; have d15 := bkeep hB5 d1; obtain ⟨n5, a5, c5, l5, rfl, -⟩ := hi5; unfold iv at *)
          | (go_at_call 147; refine (ad _ _ ?_ ?_).mono ?_; (repeat (first | exact Below.refl _ _ | exact hB5 | refine Below.drew ?_ | refine below_drewN ?_ _ | refine bset ?_ (by simp <;> omega) _ | refine bal ?_ _)); (refine HI5.out.keep ?_; have hBz := Below.refl w5.heap.size w5; (repeat (first | exact Below.refl _ _ | exact hBz | refine Below.drew ?_ | refine below_drewN ?_ _ | refine bset ?_ (by simp <;> omega) _ | refine bal ?_ _))); rintro e w6 ⟨⟨v6, rfl, hi6⟩, hb6⟩; have hB6 : Below wc.heap.size wc w6 := bthen (by repeat (first | exact Below.refl _ _ | exact hB5 | refine Below.drew ?_ | refine below_drewN ?_ _ | refine bset ?_ (by simp <;> omega) _ | refine bal ?_ _)) hb6; have HI6 := Lib.hid hi6; have d06 := bkeep hB6 d0; have d16 := bkeep hB6 d1; have d06f := bkeepf hB6 d0 fh0; have d16f := bkeepf hB6 d1 fh1; obtain ⟨n6, a6, c6, l6, rfl, -⟩ := hi6; unfold iv at *)))
        all_goals
          go_wp2_with fail
          go_meet
          refine ⟨n6, a6, c6, l6, cell_far (cell_here d06 _) (by simp) _, cell_here (cell_far d16 (by simp) _) _, HI6.out.put2 d06 d16 _ _, (Out.of_below (fun k => k = h) hB6).set2 (fun _ => rfl) _ _, (Lim.of_below hB6).trans (Lim.set2 d06 d16 _ _)⟩
      case rest =>
        obtain ⟨n4, a4, c4, L4, d0, d1, hi4, hO4, hL4⟩ := hcut
        rename World => wd
        have HI4 := Lib.hid hi4
        have HN4 := Lib.hid (HN.out.lim hL4)
        have hgh' : ¬ (w.heap.size + 1 = h) := by omega
        have hgh2 : ¬ (w.heap.size + 2 = h) := by omega
        have hgh3 : ¬ (w.heap.size + 3 = h) := by omega
        have fg : Free wd g := Free.out (show Free wc g from fg) hO4 hgh
        have e0f := okeepf hO4 e0 e0f hgh2
        have e1f := okeepf hO4 e1 e1f hgh2
        have o0f := okeepf hO4 o0 o0f hgh3
        have o1f := okeepf hO4 o1 o1f hgh3
        have k0 := okeep hO4 k0 hgh'
        have k1 := okeep hO4 k1 hgh'
        have m0 := okeep hO4 m0 hgh
        have m1 := okeep hO4 m1 hgh
        have e0 := okeep hO4 e0 hgh2
        have e1 := okeep hO4 e1 hgh2
        have o0 := okeep hO4 o0 hgh3
        have o1 := okeep hO4 o1 hgh3
        have hBd : Below w.heap.size w wd := hBy.trans (hO4.to_below (fun k hk _ e => by omega) hBy.size)
        have fg0 := fg.2 0
        have fg1 := fg.2 1
        clear hi4 hO4 hL4 hBy HM HN ad
        go_upto_region 5 with (fail)
        go_cut [] (fun wx => ∃ n5 a5 c5, ∃ L5 : List Nat, wx.cell? ⟨g, 0, none⟩ = some (.bool n5) ∧ wx.cell? ⟨g, 1, none⟩ = some (.slice a5 L5.length c5) ∧ IsRef wx (.agg #[.bool n5, .slice a5 L5.length c5]) (sg (!(true == n2)) (NumR.val Q) - sv) ∧ Out (fun k => k = g) wd wx ∧ Lim wd wx)
        case first =>
          have hBw := Below.refl wd.heap.size wd
          go_region_law (go_simp; go_wp2_with (first
            | (go_at_call 145; refine (sx _).mono ?_; rintro e w5 ⟨rfl, hb5⟩; have hB5 : Below wd.heap.size wd w5 := bthen (by repeat (first | exact Below.refl _ _ | exact hBw | refine Below.drew ?_ | refine below_drewN ?_ _ | refine bset ?_ (by simp <;> omega) _ | refine bal ?_ _)) hb5; have d05 := bkeep hB5 m0; have d15 := bkeep hB5 m1)
            | (go_at_call 55; refine (ox _).mono ?_; rintro e w6 ⟨⟨v6, rfl, hi6⟩, hb6⟩; have hB6 : Below wd.heap.size wd w6 := bthen (by repeat (first | exact Below.refl _ _ | exact hB5 | refine Below.drew ?_ | refine below_drewN ?_ _ | refine bset ?_ (by simp <;> omega) _ | refine bal ?_ _)) hb6; have HI6 := Lib.hid hi6; have d06 := bkeep hB6 m0; have d16 := bkeep hB6 m1; obtain ⟨n6, a6, c6, l6, rfl, -⟩ := hi6; unfold iv at *)
            | (go_at_call 163; refine (sd _ _ _ ?_ ?_).mono ?_; (refine HN4.out.keep ?_; (repeat (first | exact Below.refl _ _ | exact hB6 | refine Below.drew ?_ | refine below_drewN ?_ _ | refine bset ?_ (by simp <;> omega) _ | refine bal ?_ _))); (refine HI6.out.keep ?_; have hBz := Below.refl w6.heap.size w6; (repeat (first | exact Below.refl _ _ | exact hBz | refine Below.drew ?_ | refine below_drewN ?_ _ | refine bset ?_ (by simp <;> omega) _ | refine bal ?_ _))); rintro e w7 ⟨⟨v7, rfl, hi7⟩, hb7⟩; have hB7 : Below wd.heap.size wd w7 := bthen (by repeat (first | exact Below.refl _ _ | exact hB6 | refine Below.drew ?_ | refine below_drewN ?_ _ | refine bset ?_ (by simp <;> omega) _ | refine bal ?_ _)) hb7; have HI7 := Lib.hid hi7; have d07 := bkeep hB7 m0; have d17 := bkeep hB7 m1; have d07f := bkeepf hB7 m0 fg0; have d17f := bkeepf hB7 m1 fg1; obtain ⟨n7, a7, c7, l7, rfl, -⟩ := hi7; unfold iv at *)))
          all_goals
            go_wp2_with fail
            go_meet
            refine ⟨n7, a7, c7, l7, cell_far (cell_here d07 _) (by simp) _, cell_here (cell_far d17 (by simp) _) _, HI7.out.put2 d07 d17 _ _, (Out.of_below (fun k => k = g) hB7).set2 (fun _ => rfl) _ _, (Lim.of_below hB7).trans (Lim.set2 d07 d17 _ _)⟩
        case rest =>
          obtain ⟨n5, a5, c5, L5, m0, m1, hi5, hO5, hL5⟩ := hcut
          rename World => wy
          have HI5 := Lib.hid hi5
          have HR5 := Lib.hid (HI4.out.lim hL5)
          have hgh4 : ¬ (w.heap.size + 2 = g) := by omega
          have hgh5 : ¬ (w.heap.size + 3 = g) := by omega
          have e0f := okeepf hO5 e0 e0f hgh4
          have e1f := okeepf hO5 e1 e1f hgh4
          have o0f := okeepf hO5 o0 o0f hgh5
          have o1f := okeepf hO5 o1 o1f hgh5
          have d0 := okeep hO5 d0 (show ¬ h = g from fun e => hgh e.symm)
          have d1 := okeep hO5 d1 (show ¬ h = g from fun e => hgh e.symm)
          have e0 := okeep hO5 e0 hgh4
          have e1 := okeep hO5 e1 hgh4
          have o0 := okeep hO5 o0 hgh5
          have o1 := okeep hO5 o1 hgh5
          have hBy : Below w.heap.size w wy := hBd.trans (hO5.to_below (fun k hk _ e => by omega) hBd.size)
          clear hi5 hO5 hL5 hBd HI4 HN4
          go_upto_region 6 with (fail)
          go_region
          go_wp2
          have hbe : Below w.heap.size w ((((wy.setCell ⟨w.heap.size + 1 + 1, 0, none⟩ (.bool n5)).setCell ⟨w.heap.size + 1 + 1, 1, none⟩ (.slice a5 L5.length c5)).setCell ⟨w.heap.size + 1 + 1 + 1, 0, none⟩ (.bool n4)).setCell ⟨w.heap.size + 1 + 1 + 1, 1, none⟩ (.slice a4 L4.length c4)).drew := Below.drew (bset (bset (bset (bset hBy (by simp <;> omega) _) (by simp <;> omega) _) (by simp <;> omega) _) (by simp <;> omega) _)
          have e0 : wy.cell? ⟨w.heap.size + 1 + 1, 0, none⟩ = some (.bool false) := e0
          have e1 : wy.cell? ⟨w.heap.size + 1 + 1, 1, none⟩ = some (.slice none 0 0) := e1
          have o0 : wy.cell? ⟨w.heap.size + 1 + 1 + 1, 0, none⟩ = some (.bool false) := o0
          have o1 : wy.cell? ⟨w.heap.size + 1 + 1 + 1, 1, none⟩ = some (.slice none 0 0) := o1
          refine bodyPost_ret (v := .tuple #[.agg #[.bool n5, .slice a5 L5.length c5], .agg #[.bool n4, .slice a4 L4.length c4]]) (by simp [results, Tryz.results181, go_sem, *]) rfl ⟨⟨_, _, rfl, ?_, ?_⟩, hbe⟩
          · rw [PL.out.1]
            exact ((HI5.out.put2 e0 e1 _ _).put2 (cell_far (cell_far o0 (by simp) _) (by simp) _) (cell_far (cell_far o1 (by simp) _) (by simp) _) _ _).keep (Below.drew (Below.refl _ _))
          · rw [PL.out.2]
            exact ((HR5.out.put2 e0 e1 _ _).put2 (cell_far (cell_far o0 (by simp) _) (by simp) _) (cell_far (cell_far o1 (by simp) _) (by simp) _) _ _).keep (Below.drew (Below.refl _ _))
end Go.Proofs.YtannhpadoooedaaGreatDoor

/- The reference's numbers: DivMod, by values; Over. -/
namespace Go.Proofs.YtannhpadoooedaaGreatDoor
open Num
open Go.ChangeShapes Go.WideShapes Go.ChangeAt Go.RowKit
set_option linter.unusedVariables false
set_option linter.unusedSimpArgs false
theorem sg_ne {n : Bool} {k : Nat} (h : sg n k ≠ 0) : 0 < k := by
  apply Nat.pos_of_ne_zero; intro e; subst e; exact h (sg_zero n)
theorem rdivmod_c (vx vy : Value) (x y : Int) (k : Nat) (w : World) (hx : IsRef w vx x) (hy : IsRef w vy y) (bx : Bd k x) (by' : Bd k y) (hk : k ≤ 17179869184) (h0 : y ≠ 0) :
    Calls Tryz.prog 181 #[vx, vy] w fun e w' => (∃ u v, e = .returned (.tuple #[u, v]) ∧ IsRef w' u (x / y) ∧ IsRef w' v (x % y)) ∧ Below w.heap.size w w' := by
  obtain ⟨n1, a1, c1, l1, rfl, u1, q1, g1, s1, rfl⟩ := hx
  obtain ⟨n2, a2, c2, l2, rfl, u2, q2, g2, s2, rfl⟩ := hy
  exact rdivmodV_c n1 n2 a1 a2 c1 c2 l1 l2 w u1 u2 q1 q2 g1 g2 (sg_ne h0) (Nat.le_trans (rbd_len g1 (rsg_bd bx) hk) (by omega)) (Nat.le_trans (rbd_len g2 (rsg_bd by') hk) (by omega)) s1 s2
theorem ref_len {n : Bool} {l : List Nat} (hn : Nrm l) : sg n (NumR.val l) = 0 ↔ l = [] := by
  constructor
  · intro h
    by_cases e : l = []
    · exact e
    · have h1 := Nat.lt_of_lt_of_le (Nat.pow_pos NumR.BB_pos) (NumR.nrm_val_pos hn e)
      have h2 := congrArg Int.natAbs h
      rw [sg_abs] at h2
      simp at h2; omega
  · rintro rfl; exact sg_zero n
set_option maxRecDepth 100000 in
set_option maxHeartbeats 2000000 in
theorem rover_yes (vx vy : Value) (x y : Int) (k : Nat) (w : World) (hx : IsRef w vx x) (hy : IsRef w vy y) (bx : Bd k x) (by' : Bd k y) (hk : k ≤ 17179869184) (h0 : y ≠ 0) (hd : x % y = 0) :
    Calls Tryz.prog 161 #[vx, vy] w fun e w' => (∃ v, e = .returned (.tuple #[v, .bool true]) ∧ IsRef w' v (x / y)) ∧ Below w.heap.size w w' := by
  have dc := fun W (h : Below w.heap.size w W) => rdivmod_c vx vy x y k W (hx.keep h) (hy.keep h) bx by' hk h0
  obtain ⟨n1, a1, c1, l1, rfl, -⟩ := hx
  obtain ⟨n2, a2, c2, l2, rfl, -⟩ := hy
  unfold iv at *
  have HD := Lib.hid hd
  clear bx by' hk h0 hd
  have hB := Below.refl w.heap.size w
  go_enter Tryz.func161, Tryz.ntmps161
  go_wp2_with fail
  refine (dc _ (by repeat (first | exact Below.refl _ _ | exact hB | refine Below.drew ?_ | refine below_drewN ?_ _ | refine bset ?_ (by simp <;> omega) _ | refine bal ?_ _))).mono ?_
  rintro e w1 ⟨⟨u, v, rfl, hu, hv⟩, hb1⟩
  have r0 : w1.cell? ⟨w.heap.size + 2, 0, none⟩ = some (.bool false) := bkc hb1
  have zr0 := cell_lt r0
  have r0f : w1.frozen? ⟨w.heap.size + 2, 0, none⟩ = false := bkcf (v := .bool false) hb1
  have r1 : w1.cell? ⟨w.heap.size + 2, 1, none⟩ = some (.slice none 0 0) := bkc hb1
  have r1f : w1.frozen? ⟨w.heap.size + 2, 1, none⟩ = false := bkcf (v := .slice none 0 0) hb1
  have hB : Below w.heap.size w w1 := bthen (by repeat (first | exact Below.refl _ _ | exact hB | refine Below.drew ?_ | refine below_drewN ?_ _ | refine bset ?_ (by simp <;> omega) _ | refine bal ?_ _)) hb1
  have hz : w.heap.size ≤ w1.heap.size := hB.size
  clear dc
  have HU := Lib.hid hu
  obtain ⟨nu, au, cu, lu, rfl, -⟩ := hu
  obtain ⟨nv, av, cv, lv, rfl, _, _, gv, _, ev⟩ := hv
  unfold iv at *
  have zr1 : w.heap.size + 2 < w1.heap.size + 1 := by omega
  have zr2 : w.heap.size + 2 < w1.heap.size + 1 + 1 := by omega
  obtain rfl : lv = [] := (ref_len gv).1 (by rw [← ev]; exact HD.out)
  clear gv ev
  go_wp2
  refine bodyPost_ret (v := .tuple #[.agg #[.bool nu, .slice au lu.length cu], .bool true]) (by simp [results, Tryz.results161, go_sem, *]) rfl ⟨⟨_, rfl, ?_⟩, ?_⟩
  · refine IsRef.keep (HU.out.put2 r0 r1 (.bool nu) (.slice au lu.length cu)) ?_
    repeat (first | exact Below.refl _ _ | exact hB | refine Below.drew ?_ | refine below_drewN ?_ _ | refine bset ?_ (by simp <;> omega) _ | refine bal ?_ _)
  ·
    repeat (first | exact Below.refl _ _ | exact hB | refine Below.drew ?_ | refine below_drewN ?_ _ | refine bset ?_ (by simp <;> omega) _ | refine bal ?_ _)
set_option maxRecDepth 100000 in
set_option maxHeartbeats 2000000 in
theorem rover_no (vx vy : Value) (x y : Int) (k : Nat) (w : World) (hx : IsRef w vx x) (hy : IsRef w vy y) (bx : Bd k x) (by' : Bd k y) (hk : k ≤ 17179869184) (h0 : y ≠ 0) (hd : x % y ≠ 0) :
    Calls Tryz.prog 161 #[vx, vy] w fun e w' => e = .returned (.tuple #[.agg #[.bool false, .slice none 0 0], .bool false]) ∧ Below w.heap.size w w' := by
  have dc := fun W (h : Below w.heap.size w W) => rdivmod_c vx vy x y k W (hx.keep h) (hy.keep h) bx by' hk h0
  obtain ⟨n1, a1, c1, l1, rfl, -⟩ := hx
  obtain ⟨n2, a2, c2, l2, rfl, -⟩ := hy
  unfold iv at *
  have HD := Lib.hid hd
  clear bx by' hk h0 hd
  have hB := Below.refl w.heap.size w
  go_enter Tryz.func161, Tryz.ntmps161
  go_wp2_with fail
  refine (dc _ (by repeat (first | exact Below.refl _ _ | exact hB | refine Below.drew ?_ | refine below_drewN ?_ _ | refine bset ?_ (by simp <;> omega) _ | refine bal ?_ _))).mono ?_
  rintro e w1 ⟨⟨u, v, rfl, hu, hv⟩, hb1⟩
  have r0 : w1.cell? ⟨w.heap.size + 2, 0, none⟩ = some (.bool false) := bkc hb1
  have zr0 := cell_lt r0
  have r0f : w1.frozen? ⟨w.heap.size + 2, 0, none⟩ = false := bkcf (v := .bool false) hb1
  have r1 : w1.cell? ⟨w.heap.size + 2, 1, none⟩ = some (.slice none 0 0) := bkc hb1
  have r1f : w1.frozen? ⟨w.heap.size + 2, 1, none⟩ = false := bkcf (v := .slice none 0 0) hb1
  have hB : Below w.heap.size w w1 := bthen (by repeat (first | exact Below.refl _ _ | exact hB | refine Below.drew ?_ | refine below_drewN ?_ _ | refine bset ?_ (by simp <;> omega) _ | refine bal ?_ _)) hb1
  have hz : w.heap.size ≤ w1.heap.size := hB.size
  clear dc
  have HU := Lib.hid hu
  obtain ⟨nu, au, cu, lu, rfl, -⟩ := hu
  obtain ⟨nv, av, cv, lv, rfl, _, _, gv, _, ev⟩ := hv
  unfold iv at *
  have zr1 : w.heap.size + 2 < w1.heap.size + 1 := by omega
  have zr2 : w.heap.size + 2 < w1.heap.size + 1 + 1 := by omega
  have hl : (0 : Int) < (lv.length : Int) := by
    have : lv ≠ [] := fun e => HD.out (by rw [ev]; exact (ref_len gv).2 e)
    have := List.length_pos_iff.2 this
    omega
  clear gv ev
  go_wp2
  refine bodyPost_ret (v := .tuple #[.agg #[.bool false, .slice none 0 0], .bool false]) (by simp [results, Tryz.results161, go_sem, *]) rfl ⟨rfl, ?_⟩
  repeat (first | exact Below.refl _ _ | exact hB | refine Below.drew ?_ | refine below_drewN ?_ _ | refine bset ?_ (by simp <;> omega) _ | refine bal ?_ _)
end Go.Proofs.YtannhpadoooedaaGreatDoor

/- row: each. -/
namespace Go.Proofs.YtannhpadoooedaaGreatDoor
open Num
open Go.ChangeShapes Go.WideShapes Go.ChangeAt Go.RowKit
set_option linter.unusedVariables false
set_option linter.unusedSimpArgs false

/-- a row of the call's own (from base on), by a function -/
def OwnNB (base : Nat) (w : World) (v : Value) (n : Nat) (f : Nat → Int) : Prop :=
  ∃ xs, w.ownsRow base 48 2 v n xs ∧ ∀ k, k < n → ∃ nb a len c, xs[k * 2]? = some (.bool nb) ∧ xs[k * 2 + 1]? = some (.slice a len c) ∧ IsInt w (.agg #[.bool nb, .slice a len c]) (f k)
section
variable {base : Nat} {w w' : World} {v : Value} {n : Nat} {f : Nat → Int}
theorem OwnNB.nil (base : Nat) (w : World) (f : Nat → Int) : OwnNB base w (.slice none 0 0) 0 f := ⟨[], World.ownsRow_nil _ _ _ _, fun k hk => absurd hk (by omega)⟩
theorem OwnNB.kp {S : TypeId → Prop} (h : OwnNB base w v n f) (k : Kp S w w') (h1 : S 48) (h2 : S 137) : OwnNB base w' v n f := by
  obtain ⟨xs, hO, h⟩ := h
  refine ⟨xs, owns_kp hO k h1, fun j hj => ?_⟩
  obtain ⟨nb, a, len, c, k1, k2, k3⟩ := h j hj
  exact ⟨nb, a, len, c, k1, k2, k3.lim (k.lim h2)⟩
theorem OwnNB.keep (h : OwnNB base w v n f) (k : Below w.heap.size w w') : OwnNB base w' v n f := h.kp (S := fun _ => True) (Kp.of_below _ k) trivial trivial
theorem OwnNB.ex (h : OwnNB base w v n f) : ∃ a c, v = .slice a n c := by
  obtain ⟨xs, ⟨_, h1⟩, _⟩ := h
  rcases h1 with ⟨rfl, rfl⟩ | ⟨g, cap, cur, rfl, _⟩
  · exact ⟨none, 0, rfl⟩
  · exact ⟨_, _, rfl⟩
theorem OwnNB.congr {f' : Nat → Int} (h : OwnNB base w v n f) (he : ∀ k, k < n → f k = f' k) : OwnNB base w v n f' := by
  obtain ⟨xs, h1, h2⟩ := h
  exact ⟨xs, h1, fun k hk => by rw [← he k hk]; exact h2 k hk⟩
theorem OwnNB.rowO {l : List Int} (h : OwnNB base w v n f) (hl : l.length = n) (he : ∀ k, k < n → f k = l.getD k 0) : RowO IsInt 48 base w v l := by
  subst hl
  obtain ⟨xs, h1, h2⟩ := h
  exact ⟨xs, h1, fun k hk => by rw [← he k hk]; exact h2 k hk⟩
end
section
variable {P : Program} {ops : Array Oper} {o : Oper} {a : Act} {Q : Exit → Act → World → Prop} {base : Nat} {wr : World} {v : Value} {n : Nat} {f : Nat → Int} {t : TypeId} {s x : Operand} {nb : Bool} {ad : Option Addr} {len c cc : Nat} {z : Int}
/-- append of one number to such a row -/
theorem app_numB {rest : List Oper} (hgd : o.guard = none)
    (ho : o.op = .call { callee := .builtin .append, args := #[s, x], argTypes := #[29, 29] }) (hO : OwnNB base wr v n f) (hbase : base ≤ wr.heap.size) (hv : IsInt wr (.agg #[.bool nb, .slice ad len c]) z) (hs : a.eval s = v)
    (hx : a.eval x = .slice (some ⟨wr.heap.size, 0, none⟩) 1 cc) (hn : n + 1 ≤ 1099511627776)
    (h : ∀ v' w', OwnNB base w' v' (n + 1) (fun i => if i = n then z else f i) → Kp (· ≠ 48) wr w' → Out (fun k => base ≤ k) wr w' → wpList Tryz.prog ops Q rest (a.put o.dst v') w') : wpList Tryz.prog ops Q (o :: rest) a (wr.alloc (.cells #[.bool nb, .slice ad len c] t)) := by
  obtain ⟨i, z0, hi, hz, hsize, hby, hzs⟩ := elInt.info
  obtain ⟨xs, h1, h2⟩ := hO
  refine wpList_append_own _ hgd s x _ ho base 48 i z0 2 32 elInt.ht hi hz hsize hby hzs elInt.pos v n xs hs (h1.alloc _) ⟨wr.heap.size, 0, none⟩ 1 cc [.bool nb, .slice ad len c] hx rfl (cells_new wr _ t) (fun u hu => by simp at hu; rcases hu with rfl | rfl <;> rfl) (by unfold maxLen; omega) (by omega) (by simp; omega) ?_
  intro v' w' hown hg _
  have hk : Kp (· ≠ 48) wr w' := ((Kp.refl _ wr).alloc _).grown hg fun q hg' t' ht hne => hne (by
    rw [own_typ' (h1.alloc _) hg'] at ht
    exact (Option.some.inj ht).symm)
  have hl : Lim wr w' := hk.lim (by decide)
  refine h v' w' ⟨_, hown, fun k hk' => ?_⟩ hk (((Out.refl _ wr).alloc _).grown hg fun k hk' _ => (h1.lt k hk').1)
  by_cases e : k = n
  · subst e
    refine ⟨nb, ad, len, c, ?_, ?_, ?_⟩
    · rw [List.getElem?_append_right (by rw [h1.1]; omega), h1.1]; simp
    · rw [List.getElem?_append_right (by rw [h1.1]; omega), h1.1]; simp
    · simp only [if_true]; exact hv.lim hl
  · obtain ⟨nb1, a1, len1, c1, k1, k2, k3⟩ := h2 k (by omega)
    refine ⟨nb1, a1, len1, c1, ?_, ?_, ?_⟩
    · rw [List.getElem?_append_left (by rw [h1.1]; omega)]; exact k1
    · rw [List.getElem?_append_left (by rw [h1.1]; omega)]; exact k2
    · show IsInt _ _ (if k = n then z else f k)
      rw [if_neg e]; exact k3.lim hl
end
end Go.Proofs.YtannhpadoooedaaGreatDoor

/- Ranges over functions whose told values lie in memory: what is told is known to be right where it is told. -/
namespace Go.Proofs.YtannhpadoooedaaGreatDoor
open Go.ChangeShapes Go.WideShapes Go.ChangeAt Go.RowKit
set_option linter.unusedVariables false
set_option linter.unusedSimpArgs false
/-- blocks outside X lie as they lay; those of X are of the types that they were of -/
def OutT (X : Nat → Prop) (a b : World) : Prop := Out X a b ∧ ∀ q, X q → q < a.heap.size → typOf b q = typOf a q
end Go.Proofs.YtannhpadoooedaaGreatDoor

/- exact: run on numbers, told to a loop's body. -/
namespace Go.Proofs.YtannhpadoooedaaGreatDoor
open Num
open Go.ChangeShapes Go.WideShapes Go.ChangeAt Go.RowKit
set_option linter.unusedVariables false
set_option linter.unusedSimpArgs false
attribute [local go_sem ↓] Go.wp_at_zero Go.wp_at_succ
/-- how many instructions are told -/
structure ToldM (code : List Ins) (r : List Int) (m : Nat) : Prop where
  le : m ≤ code.length
  has : ∃ s, afterN code r m = some s
  stop : m < code.length → afterN code r (m + 1) = none
theorem ToldM.lt {code : List Ins} {r : List Int} {m n : Nat} (h : ToldM code r m) (hn : n < code.length) {s : List Int} (e : afterN code r (n + 1) = some s) (hm : n ≤ m) : n < m := by
  rcases Nat.lt_or_ge n m with h1 | h1
  · exact h1
  · obtain rfl : n = m := by omega
    rw [h.stop hn] at e; cases e
theorem ToldM.eq {code : List Ins} {r : List Int} {m n : Nat} (h : ToldM code r m) (e : afterN code r (n + 1) = none) (hm : n ≤ m) : n = m := by
  rcases Nat.lt_or_ge n m with h1 | h1
  · obtain ⟨s, hs⟩ := h.has
    rw [afterN_mono e (show n + 1 ≤ m by omega)] at hs; cases hs
  · omega
theorem out_others {X : Nat → Prop} {a b : World} (h : Out X a b) (hx : ∀ q, X q → q < a.heap.size → ∃ o : Obj, a.heap[q]? = some o ∧ o.isCells = true) : KeepsOthers a b :=
  ⟨h.size, fun k o hk ho => by
    have hl := (Array.getElem?_eq_some_iff.1 hk).1
    rw [h.block k hl (fun hX => by
      obtain ⟨o', ho', hc⟩ := hx k hX hl
      rw [hk] at ho'; cases ho'; rw [ho] at hc; cases hc)]
    exact hk⟩
theorem typ_cells {w : World} {q : Nat} {t : TypeId} (h : typOf w q = some t) : ∃ o : Obj, w.heap[q]? = some o ∧ o.isCells = true := by
  unfold typOf at h
  cases e : w.heap[q]? with
  | none => rw [e] at h; cases h
  | some o =>
    rw [e] at h
    cases o with
    | cells c t' f => exact ⟨_, rfl, rfl⟩
    | _ => cases h
theorem typ_outK {X : Nat → Prop} {a b : World} {g : Nat} {t : TypeId} (h : typOf a g = some t) (ho : Out X a b) (hx : ¬ X g) : typOf b g = some t := by
  rw [typ_of_block (w := a) (ho.block g (typ_lt h) hx)]; exact h
end Go.Proofs.YtannhpadoooedaaGreatDoor

