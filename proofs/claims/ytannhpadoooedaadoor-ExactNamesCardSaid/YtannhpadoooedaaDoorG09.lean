/- Texts of this seat, laid together: RefC, Out. Each opens with its own remark, which says what it proves, and under which conditions. -/
import Derived.Test.YtannhpadoooedaaDoorG08
import Derived.Test.YtannhpadoooedaaDoorG02
/- The reference's numbers: size, Sign, Cmp, Same. -/
namespace Go.Proofs.YtannhpadoooedaaDoor
open Num
open Go.ChangeShapes Go.WideShapes Go.ChangeAt Go.RowKit
set_option linter.unusedVariables false
set_option linter.unusedSimpArgs false

set_option maxRecDepth 100000 in
set_option maxHeartbeats 1000000 in
theorem rsize_c (a b : Option Addr) (ca cb : Nat) (L M : List Nat) (w : World) (ha : U32 w a ca L) (hb : U32 w b cb M) (hL : NumR.Limbs L) (hM : NumR.Limbs M) (na : Nrm L) (nb : Nrm M) :
    Calls Tryd.prog 113 #[.slice a L.length ca, .slice b M.length cb] w fun e w' => e = .returned (.int .i64 (cmpN (NumR.val L) (NumR.val M))) ∧ Below w.heap.size w w' := by
  obtain ⟨hLca, hLm, -, hLc⟩ := ha
  obtain ⟨hMcb, hMm, -, hMc⟩ := hb
  unfold maxLen at hLm hMm
  rcases Nat.lt_trichotomy L.length M.length with hlt | heq | hgt
  · have hne : ((L.length : Int) != (M.length : Int)) = true := by simp; omega
    go_enter Tryd.func113, Tryd.ntmps113
    go_wp2
    go_ret
    exact ⟨by rw [cmpN_lt (NumR.val_lt_of_len hL nb hlt)]; rfl, Below.refl _ _⟩
  · clear na nb
    have HQ := Lib.hid heq
    clear heq
    generalize hM' : M.length = n at *
    have HM := Lib.hid hM'
    clear hM'
    generalize hL' : L.length = n' at *
    obtain rfl : n' = n := HQ.out
    have HL := Lib.hid hL'
    clear hL' HQ
    have hne : ((n' : Int) != (n' : Int)) = false := by simp
    go_enter Tryd.func113, Tryd.ntmps113
    go_wp2
    go_loopw [5] (fun x wr => ∃ k : Nat, k ≤ n' ∧ x = .int .i64 ((k : Int) - 1) ∧ L.drop k = M.drop k ∧ Below w.heap.size w wr) (fun x _ => (intOf x + 1).toNat)
    case atStart =>
      refine ⟨n', Nat.le_refl _, rfl, ?_, Below.refl _ _⟩
      rw [List.drop_eq_nil_of_le (by have := HL.out; omega), List.drop_eq_nil_of_le (by have := HM.out; omega)]
    case round =>
      obtain ⟨k, hk, rfl, hd, hB⟩ := hrel
      have HD := Lib.hid hd
      clear hd
      cases k with
      | zero =>
        go_wp2
        go_ret
        have e : L = M := by simpa using HD.out
        exact ⟨by rw [cmpN_eq (by rw [e])]; rfl, hB⟩
      | succ j =>
        have hjL : j < L.length := by have := HL.out; omega
        have hjM : j < M.length := by have := HM.out; omega
        rcases hLc with rfl | ⟨ba, oa, rfl, hca⟩
        · simp at hjL
        rcases hMc with rfl | ⟨bb, ob, rfl, hcb⟩
        · simp at hjM
        have cj := bkeep hB (hca j (by omega))
        have dj := bkeep hB (hcb j (by omega))
        have HLt := Lib.hid (fun h => NumR.val_lt_of_top hjL hjM hL HD.out h)
        have HGt := Lib.hid (fun h => NumR.val_lt_of_top hjM hjL hM HD.out.symm h)
        have HEq := Lib.hid (fun h => NumR.drop_step hjL hjM HD.out h)
        have hjn : (j : Int) < (n' : Int) := by omega
        generalize L.getD j 0 = x at *
        generalize M.getD j 0 = y at *
        rcases Nat.lt_trichotomy x y with h1 | h1 | h1
        · have h1' : (x : Int) < (y : Int) := by omega
          go_wp2
          go_quiet (fail)
          go_wp2
          go_ret
          exact ⟨by rw [cmpN_lt (HLt.out h1)]; rfl, by repeat (first | exact hB | refine below_drewN ?_ _)⟩
        · subst h1
          go_wp2
          go_quiet (fail)
          go_wp2
          go_quiet (fail)
          go_wp2
          exact ⟨⟨j, by omega, rfl, HEq.out (by trivial), by repeat (first | exact hB | refine below_drewN ?_ _)⟩, by simp [intOf] <;> omega⟩
        · have h1' : ¬ ((x : Int) < (y : Int)) := by omega
          have h1'' : ((y : Int) < (x : Int)) := by omega
          go_wp2
          go_quiet (fail)
          go_wp2
          go_quiet (fail)
          go_wp2
          go_ret
          exact ⟨by rw [cmpN_gt (HGt.out h1)]; rfl, by repeat (first | exact hB | refine below_drewN ?_ _)⟩
  · have hne : ((L.length : Int) != (M.length : Int)) = true := by simp; omega
    have hc1 : ¬ (L.length < M.length) := by omega
    go_enter Tryd.func113, Tryd.ntmps113
    go_wp2
    go_ret
    exact ⟨by rw [cmpN_gt (NumR.val_lt_of_len hM na hgt)]; rfl, Below.refl _ _⟩

theorem rsg_sign {neg : Bool} {l : List Nat} (hn : Nrm l) (hs : neg = true → l ≠ []) : (sg neg (NumR.val l)).sign = if l.length = 0 then 0 else if neg then -1 else 1 := by
  by_cases h0 : l = []
  · subst h0; cases neg <;> simp [sg, NumR.val]
  · have h1 : 0 < NumR.val l := Nat.pos_of_ne_zero (fun e => h0 ((NumR.val_nil_iff hn).1 e))
    have h2 : l.length ≠ 0 := by simpa using h0
    rw [if_neg h2]
    cases neg with
    | true => simp only [sg, if_true]; rw [Int.sign_neg, Int.sign_eq_one_of_pos (by omega)]
    | false => simp only [sg]; exact Int.sign_eq_one_of_pos (by simp; omega)

/-- the sign, by a number's parts -/
def sgV (n : Bool) (k : Nat) : Int := if k = 0 then 0 else if n then -1 else 1
theorem sgV_neg {n : Bool} {k : Nat} (h : sgV n k < 0) : n = true := by
  cases n with
  | true => rfl
  | false => exfalso; revert h; unfold sgV; split <;> simp
namespace Num
theorem cmpI_sign_lt {x y : Int} (h : x.sign < y.sign) : cmpI x y = -1 := by
  unfold cmpI
  rw [if_pos]
  rcases Int.lt_trichotomy x 0 with h1 | h1 | h1 <;> rcases Int.lt_trichotomy y 0 with h2 | h2 | h2 <;>
    first
      | (rw [Int.sign_eq_neg_one_of_neg h1, Int.sign_eq_neg_one_of_neg h2] at h; omega)
      | (rw [Int.sign_eq_one_of_pos h1, Int.sign_eq_one_of_pos h2] at h; omega)
      | (rw [Int.sign_eq_one_of_pos h1, Int.sign_eq_neg_one_of_neg h2] at h; omega)
      | (subst h1; rw [Int.sign_eq_neg_one_of_neg h2] at h; simp at h; done)
      | (subst h2; rw [Int.sign_eq_one_of_pos h1] at h; simp at h; done)
      | (subst h1; subst h2; simp at h; done)
      | omega
theorem cmpI_swap (x y : Int) : cmpI x y = -cmpI y x := by
  unfold cmpI
  (repeat' split) <;> first | rfl | omega
theorem cmpI_sign_gt {x y : Int} (h : y.sign < x.sign) : cmpI x y = 1 := by
  rw [cmpI_swap, cmpI_sign_lt h]; rfl
end Num

namespace Num
theorem cmpI_zero {x y : Int} : (cmpI x y == 0) = decide (x = y) := by
  unfold cmpI
  (repeat' split) <;> simp <;> omega
end Num
end Go.Proofs.YtannhpadoooedaaDoor
/- What a piece of code may have written: 'Out X w w'': of w's blocks those outside X are as they were. -/
namespace Go.Proofs.YtannhpadoooedaaDoor
open Num
open Go.ChangeShapes Go.WideShapes Go.ChangeAt Go.RowKit
structure Out (X : Nat → Prop) (w w' : World) : Prop where
  os : w'.os = w.os
  tape : w'.tape = w.tape
  output : w'.output = w.output
  size : w.heap.size ≤ w'.heap.size
  block : ∀ k, k < w.heap.size → ¬ X k → w'.heap[k]? = w.heap[k]?
section
variable {X Y : Nat → Prop} {a b c w w' : World}
theorem Out.refl (X : Nat → Prop) (w : World) : Out X w w := ⟨rfl, rfl, rfl, Nat.le_refl _, fun _ _ _ => rfl⟩
theorem Out.trans (h : Out X a b) (k : Out X b c) : Out X a c :=
  ⟨k.os.trans h.os, k.tape.trans h.tape, k.output.trans h.output, Nat.le_trans h.size k.size, fun i hi hx => (k.block i (Nat.lt_of_lt_of_le hi h.size) hx).trans (h.block i hi hx)⟩
theorem Out.mono (h : Out X a b) (k : ∀ i, i < a.heap.size → X i → Y i) : Out Y a b := ⟨h.os, h.tape, h.output, h.size, fun i hi hx => h.block i hi fun hi' => hx (k i hi hi')⟩
/-- what comes behind may write, besides, what is new -/
theorem Out.then (h : Out X a b) (k : Out Y b c) (hy : ∀ i, i < a.heap.size → Y i → X i) : Out X a c :=
  ⟨k.os.trans h.os, k.tape.trans h.tape, k.output.trans h.output, Nat.le_trans h.size k.size, fun i hi hx => (k.block i (Nat.lt_of_lt_of_le hi h.size) fun h' => hx (hy i hi h')).trans (h.block i hi hx)⟩
theorem Out.of_below (X : Nat → Prop) (h : Below a.heap.size a b) : Out X a b := ⟨h.os, h.tape, h.output, h.size, fun i hi _ => h.block i hi⟩
theorem Out.below (h : Out X a b) (k : Below b.heap.size b c) : Out X a c := h.trans (.of_below X k)
theorem Out.alloc (h : Out X a b) (o : Obj) : Out X a (b.alloc o) := h.below (bal (Below.refl _ _) o)
theorem Out.drew (h : Out X a b) : Out X a b.drew := ⟨h.os, h.tape, h.output, h.size, h.block⟩
theorem Out.drewN (h : Out X a b) (n : Nat) : Out X a (b.drewN n) := h.below (below_drewN (Below.refl _ _) n)
theorem Out.set (h : Out X a b) {p : Addr} (hp : p.block < a.heap.size → X p.block) (u : Value) : Out X a (b.setCell p u) :=
  ⟨h.os, h.tape, h.output, Nat.le_trans h.size (by simp [World.setCell]), fun k hk hx => (Below.heap_setCell _ _ _ _ fun e => hx (by subst e; exact hp hk)).trans (h.block k hk hx)⟩
theorem Out.grown (h : Out X a b) {row : Option Nat} (hg : b.grownBy c row) (hr : ∀ k, row = some k → k < a.heap.size → X k) : Out X a c :=
  ⟨hg.os.trans h.os, hg.tape.trans h.tape, hg.output.trans h.output, Nat.le_trans h.size hg.size, fun k hk hx => (hg.block k (Nat.lt_of_lt_of_le hk h.size) fun e => hx (hr k e.symm hk)).trans (h.block k hk hx)⟩
/-- nothing that was there when a call began -/
theorem Out.to_below {B : Nat} (h : Out X a b) (hx : ∀ k, k < B → k < a.heap.size → ¬ X k) (hB : B ≤ a.heap.size) : Below B a b :=
  ⟨h.os, h.tape, h.output, h.size, fun k hk => h.block k (by omega) (hx k hk (by omega))⟩
theorem okeep (h : Out X a b) {q o : Nat} {s : Option Nat} {v : Value} (hc : a.cell? ⟨q, o, s⟩ = some v) (hx : ¬ X q) : b.cell? ⟨q, o, s⟩ = some v := by
  rw [World.cell?_of_block (w := a) (h.block q (cell_lt hc) hx)]; exact hc
theorem okeepf (h : Out X a b) {q o : Nat} {s : Option Nat} {v : Value} (hc : a.cell? ⟨q, o, s⟩ = some v) (hf : a.frozen? ⟨q, o, s⟩ = false) (hx : ¬ X q) : b.frozen? ⟨q, o, s⟩ = false := by
  rw [World.frozen?_of_block (w := a) (h.block q (cell_lt hc) hx)]; exact hf
theorem Out.blk (h : Out X a b) {g : Nat} {l : List Nat} (hb : Blk a g l) (hx : ¬ X g) : Blk b g l := (h.block g hb.lt hx).trans hb
/-- limbs stay where their block is not written -/
theorem C32.okeep {o : Option Addr} {l : List Nat} (h : C32 a o l) (k : Out X a b) (hx : ∀ q f, o = some ⟨q, f, none⟩ → ¬ X q) : C32 b o l := by
  rcases h with h | ⟨q, off, h1, h2⟩
  · exact .inl h
  · exact .inr ⟨q, off, h1, fun i hi => _root_.Go.Proofs.YtannhpadoooedaaDoor.okeep k (h2 i hi) (hx q off h1), by rw [typ_of_block (w := a) (k.block q (typ_lt h2.ty) (hx q off h1))]; exact h2.ty⟩
theorem U32.okeep {o : Option Addr} {cap : Nat} {l : List Nat} (h : U32 a o cap l) (k : Out X a b) (hx : ∀ q f, o = some ⟨q, f, none⟩ → ¬ X q) : U32 b o cap l := ⟨h.1, h.2.1, h.2.2.1, h.2.2.2.okeep k hx⟩
end
end Go.Proofs.YtannhpadoooedaaDoor
