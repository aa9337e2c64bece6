/- Texts of this seat, laid together: QPc, MwL, MwM, Rdt, MwN, QrG, Rnj, InvR, MkB. Each opens with its own remark, which says what it proves, and under which conditions. -/
import Derived.Test.YtbmaffijncapiaaGreatDoorL20
import Derived.Test.YtbmaffijncapiaaGreatDoorL19
import Derived.Test.YtbmaffijncapiaaGreatDoorL16
import Derived.Test.YtbmaffijncapiaaGreatDoorL18
import Derived.BigQuiet
import Derived.Test.YtbmaffijncapiaaGreatDoorL17
import Derived.Test.YtbmaffijncapiaaGreatDoorL03
import Derived.Test.YtbmaffijncapiaaGreatDoorL15
import Derived.Test.YtbmaffijncapiaaGreatDoorL12
import Derived.Test.YtbmaffijncapiaaGreatDoorL01
set_option linter.unusedVariables false
set_option linter.unusedSimpArgs false
/- ratio: Whole, IsWhole, Sign, Text; the reference's IsWhole, Text. -/
namespace Go.Proofs.YtbmaffijncapiaaGreatDoor
open Num
open Go.ChangeShapes Go.WideShapes Go.ChangeAt Go.RowKit
set_option linter.unusedVariables false
set_option linter.unusedSimpArgs false
attribute [local go_sem ↓] Go.wp_at_zero Go.wp_at_succ
def qTxt (q : Rat) : List UInt8 := if q.den = 1 then intTxt q.num else intTxt q.num ++ [47] ++ intTxt (q.den : Int)
theorem qTxt_one {q : Rat} (h : q.den = 1) : qTxt q = intTxt q.num := if_pos h
theorem qTxt_two {q : Rat} (h : q.den ≠ 1) : qTxt q = intTxt q.num ++ [47] ++ intTxt (q.den : Int) := if_neg h
set_option maxRecDepth 100000 in
set_option maxHeartbeats 4000000 in
theorem pqWhole_c (vn : Value) (n : Int) (w : World) (hn : IsInt w vn n) :
    Calls Tryz.prog 39 #[vn] w fun e w' => (∃ v, e = .returned v ∧ IsQP w' v (n : Rat)) ∧ Below w.heap.size w w' := by
  have HN := Lib.hid hn
  obtain ⟨nn, na, nl, nc, rfl⟩ := hn.lit
  have HQ := Lib.hid (fun V (q : Below w.heap.size w V) => (show IsQP V (.agg #[.bool nn, .slice na nl nc, .bool false, .slice none 0 0]) (n : Rat) from
    ⟨nn, na, nl, nc, false, none, 0, 0, rfl, by rw [(whole_num n).1]; exact HN.out.keep q, by rw [(whole_num n).2]; exact isInt_zero V⟩))
  clear hn
  have hB := Below.refl w.heap.size w
  go_enter Tryz.func39, Tryz.ntmps39
  go_wp2
  refine bodyPost_ret (v := .agg #[.bool nn, .slice na nl nc, .bool false, .slice none 0 0]) (by simp [results, Tryz.results39, go_sem]) rfl ⟨⟨_, rfl, ?_⟩, ?_⟩
  · exact HQ.out _ (by repeat (first|exact bzR _ _|exact hB|refine bzD ?_|refine bzN ?_|refine bzS ?_|refine bzA ?_))
  ·
    repeat (first|exact bzR _ _|exact hB|refine bzD ?_|refine bzN ?_|refine bzS ?_|refine bzA ?_)
theorem den_one (x : Rat) : decide (x.den = 1) = (((x.den : Int) - 1).sign == 0) := by
  by_cases h : x.den = 1
  · rw [h]; rfl
  · have : ¬ ((x.den : Int) - 1).sign = 0 := fun e => h (by have := Int.sign_eq_zero_iff_zero.1 e; omega)
    rw [decide_eq_false h]
    simpa using this
set_option maxRecDepth 100000 in
set_option maxHeartbeats 4000000 in
theorem pqIsWhole_c (v : Value) (x : Rat) (w : World) (hx : IsQP w v x) : Calls Tryz.prog 141 #[v] w fun e w' => e = .returned (.bool (decide (x.den = 1))) ∧ Below w.heap.size w w' := by
  rw [den_one]
  obtain ⟨n1, a1, l1, c1, n2, a2, l2, c2, rfl, h1, h2⟩ := hx
  have SC := Lib.hid (fun V (q : Below w.heap.size w V) => sign_c (.agg #[.bool n2, .slice a2 l2 c2]) _ V (h2.keep q))
  obtain ⟨z, hz⟩ : ∃ z, ((x.den : Int) - 1).sign = z := ⟨_, rfl⟩
  rw [hz] at SC ⊢
  clear h1 h2 hz
  have hB := Below.refl w.heap.size w
  go_enter Tryz.func141, Tryz.ntmps141
  go_wp2_with fail
  (with_reducible refine (SC.out _ ?_).mono ?_); (repeat (first|exact bzR _ _|exact hB|refine bzD ?_|refine bzN ?_|refine bzS ?_|refine bzA ?_))
  rintro e w1 ⟨rfl, hb1⟩
  have hB1 : Below w.heap.size w w1 := bthen (by repeat (first|exact bzR _ _|exact hB|refine bzD ?_|refine bzN ?_|refine bzS ?_|refine bzA ?_)) hb1
  clear SC hb1
  go_wp2
  go_ret
  exact ⟨rfl, by repeat (first|exact bzR _ _|exact hB1|refine bzD ?_|refine bzN ?_|refine bzS ?_|refine bzA ?_)⟩
set_option maxRecDepth 100000 in
set_option maxHeartbeats 8000000 in
theorem pqText_c (v : Value) (x : Rat) (k : Nat) (w : World) (hx : IsQP w v x) (bx : BdQ k x) (hk : k ≤ 1000000000) : Calls Tryz.prog 53 #[v] w fun e w' => e = .returned (.string ⟨(qTxt x).toArray⟩) ∧ Below w.heap.size w w' := by
  have WC := Lib.hid (fun V (q : Below w.heap.size w V) => pqIsWhole_c v x V (hx.keep q))
  have DC := Lib.hid (fun V (q : Below w.heap.size w V) => pqDen_c v x k V (hx.keep q) bx (by omega))
  obtain ⟨n1, a1, l1, c1, n2, a2, l2, c2, rfl, h1, h2⟩ := hx
  have TC := Lib.hid (fun V (q : Below w.heap.size w V) => intText_c (.agg #[.bool n1, .slice a1 l1 c1]) _ k V (h1.keep q) bx.1 (by omega))
  have TD := Lib.hid (fun u V (hu : IsInt V u (x.den : Int)) => intText_c u _ k V hu bx.2 (by omega))
  have hl1 := intTxt_len bx.1
  have hl2 := intTxt_len bx.2
  have hB := Below.refl w.heap.size w
  by_cases hd : x.den = 1
  · rw [qTxt_one hd]
    rw [decide_eq_true hd] at WC
    obtain ⟨T, hT⟩ : ∃ T, intTxt x.num = T := ⟨_, rfl⟩
    rw [hT] at TC ⊢
    clear h1 h2 bx hd TD DC hl1 hl2 hT
    go_enter Tryz.func53, Tryz.ntmps53
    go_wp2_with fail
    (with_reducible refine (TC.out _ ?_).mono ?_); (repeat (first|exact bzR _ _|exact hB|refine bzD ?_|refine bzN ?_|refine bzS ?_|refine bzA ?_))
    rintro e w1 ⟨rfl, hb1⟩
    have x0 : w1.cell? ⟨w.heap.size, 0, none⟩ = some (.bool n1) := bkc hb1
    have zx0 := cell_lt x0
    have x1 : w1.cell? ⟨w.heap.size, 1, none⟩ = some (.slice a1 l1 c1) := bkc hb1
    have x2 : w1.cell? ⟨w.heap.size, 2, none⟩ = some (.bool n2) := bkc hb1
    have x3 : w1.cell? ⟨w.heap.size, 3, none⟩ = some (.slice a2 l2 c2) := bkc hb1
    have hB : Below w.heap.size w w1 := bthen (by repeat (first|exact bzR _ _|exact hB|refine bzD ?_|refine bzN ?_|refine bzS ?_|refine bzA ?_)) hb1
    have hz : w.heap.size ≤ w1.heap.size := hB.size
    clear TC hb1
    go_wp2_with fail
    (with_reducible refine (WC.out _ ?_).mono ?_); (repeat (first|exact bzR _ _|exact hB|refine bzD ?_|refine bzN ?_|refine bzS ?_|refine bzA ?_))
    rintro e w2 ⟨rfl, hb2⟩
    have hB2 : Below w.heap.size w w2 := bthen (by repeat (first|exact bzR _ _|exact hB|refine bzD ?_|refine bzN ?_|refine bzS ?_|refine bzA ?_)) hb2
    clear WC hb2
    go_wp2
    go_ret
    exact ⟨rfl, by repeat (first|exact bzR _ _|exact hB2|refine bzD ?_|refine bzN ?_|refine bzS ?_|refine bzA ?_)⟩
  · have HQT := Lib.hid (qTxt_two hd)
    rw [decide_eq_false hd] at WC
    obtain ⟨T, hT⟩ : ∃ T, intTxt x.num = T := ⟨_, rfl⟩
    obtain ⟨D, hD⟩ : ∃ D, intTxt (x.den : Int) = D := ⟨_, rfl⟩
    rw [hT] at TC HQT hl1
    rw [hD] at TD HQT hl2
    rw [HQT.out]
    have hs1 : ¬ 9223372036854775807 < 1 + D.length := by omega
    have hs2 : ¬ 9223372036854775807 < T.length + (1 + D.length) := by omega
    have HS := Lib.hid (show (⟨T.toArray⟩ : ByteArray) ++ ((⟨#[47]⟩ : ByteArray) ++ ⟨D.toArray⟩) = ⟨(T ++ [47] ++ D).toArray⟩ from by
      rw [show (⟨#[47]⟩ : ByteArray) = ⟨([47] : List UInt8).toArray⟩ from rfl, ba_app, ba_app, List.append_assoc])
    clear h1 h2 bx hd hT hD HQT hl1 hl2
    go_enter Tryz.func53, Tryz.ntmps53
    go_wp2_with fail
    (with_reducible refine (TC.out _ ?_).mono ?_); (repeat (first|exact bzR _ _|exact hB|refine bzD ?_|refine bzN ?_|refine bzS ?_|refine bzA ?_))
    rintro e w1 ⟨rfl, hb1⟩
    have x0 : w1.cell? ⟨w.heap.size, 0, none⟩ = some (.bool n1) := bkc hb1
    have zx0 := cell_lt x0
    have x1 : w1.cell? ⟨w.heap.size, 1, none⟩ = some (.slice a1 l1 c1) := bkc hb1
    have x2 : w1.cell? ⟨w.heap.size, 2, none⟩ = some (.bool n2) := bkc hb1
    have x3 : w1.cell? ⟨w.heap.size, 3, none⟩ = some (.slice a2 l2 c2) := bkc hb1
    have hB : Below w.heap.size w w1 := bthen (by repeat (first|exact bzR _ _|exact hB|refine bzD ?_|refine bzN ?_|refine bzS ?_|refine bzA ?_)) hb1
    have hz : w.heap.size ≤ w1.heap.size := hB.size
    clear TC hb1
    go_wp2_with fail
    (with_reducible refine (WC.out _ ?_).mono ?_); (repeat (first|exact bzR _ _|exact hB|refine bzD ?_|refine bzN ?_|refine bzS ?_|refine bzA ?_))
    rintro e w2 ⟨rfl, hb2⟩
    have x0 : w2.cell? ⟨w.heap.size, 0, none⟩ = some (.bool n1) := bkc hb2
    have zx0 := cell_lt x0
    have x1 : w2.cell? ⟨w.heap.size, 1, none⟩ = some (.slice a1 l1 c1) := bkc hb2
    have x2 : w2.cell? ⟨w.heap.size, 2, none⟩ = some (.bool n2) := bkc hb2
    have x3 : w2.cell? ⟨w.heap.size, 3, none⟩ = some (.slice a2 l2 c2) := bkc hb2
    have hB : Below w.heap.size w w2 := bthen (by repeat (first|exact bzR _ _|exact hB|refine bzD ?_|refine bzN ?_|refine bzS ?_|refine bzA ?_)) hb2
    have hz : w.heap.size ≤ w2.heap.size := hB.size
    clear WC hb2
    go_wp2_with fail
    (with_reducible refine (DC.out _ ?_).mono ?_); (repeat (first|exact bzR _ _|exact hB|refine bzD ?_|refine bzN ?_|refine bzS ?_|refine bzA ?_))
    rintro e w3 ⟨⟨u3, rfl, hu3⟩, hb3⟩
    have hB3 : Below w.heap.size w w3 := bthen (by repeat (first|exact bzR _ _|exact hB|refine bzD ?_|refine bzN ?_|refine bzS ?_|refine bzA ?_)) hb3
    have TD3 := Lib.hid (fun V (q : Below w3.heap.size w3 V) => TD.out u3 V (hu3.keep q))
    have hBw3 := Below.refl w3.heap.size w3
    obtain ⟨pn, pa, pl, pc, rfl⟩ := hu3.lit
    clear DC hb3 TD hu3
    go_wp2_with fail
    (with_reducible refine (TD3.out _ ?_).mono ?_); (repeat (first|exact bzR _ _|exact hBw3|refine bzD ?_|refine bzN ?_|refine bzS ?_|refine bzA ?_))
    rintro e w4 ⟨rfl, hb4⟩
    have hB4 : Below w.heap.size w w4 := bthen hB3 (bthen (by repeat (first|exact bzR _ _|exact hBw3|refine bzD ?_|refine bzN ?_|refine bzS ?_|refine bzA ?_)) hb4)
    clear TD3 hb4 hBw3
    go_wp2
    go_ret
    refine ⟨?_, by repeat (first|exact bzR _ _|exact hB4|refine bzD ?_|refine bzN ?_|refine bzS ?_|refine bzA ?_)⟩
    have hs := HS.out
    first | rfl | (simp only [hs]; done) | (rw [hs]; rfl)
end Go.Proofs.YtbmaffijncapiaaGreatDoor

/- matrix's laws: the numbers that come in, as the reference's; Fits; both. -/
namespace Go.Proofs.YtbmaffijncapiaaGreatDoor
open Num
open Go.ChangeShapes Go.WideShapes Go.ChangeAt Go.RowKit
set_option linter.unusedVariables false
set_option linter.unusedSimpArgs false
attribute [local go_sem ↓] Go.wp_at_zero Go.wp_at_succ
end Go.Proofs.YtbmaffijncapiaaGreatDoor

/- the reference's Fits; both. -/
namespace Go.Proofs.YtbmaffijncapiaaGreatDoor
open Num
open Go.ChangeShapes Go.WideShapes Go.ChangeAt Go.RowKit
set_option linter.unusedVariables false
set_option linter.unusedSimpArgs false
attribute [local go_sem ↓] Go.wp_at_zero Go.wp_at_succ
end Go.Proofs.YtbmaffijncapiaaGreatDoor

/- The reference: Dot of two rows. -/
namespace Go.Proofs.YtbmaffijncapiaaGreatDoor
open Num
open Go.ChangeShapes Go.WideShapes Go.ChangeAt Go.RowKit
set_option linter.unusedVariables false
set_option linter.unusedSimpArgs false
attribute [local go_sem ↓] Go.wp_at_zero Go.wp_at_succ
def VarQ (ub : Nat) (m : Int) (W : World) : Prop := ∃ n a ln c, W.cell? ⟨ub, 0, none⟩ = some (.bool n) ∧ W.cell? ⟨ub, 1, none⟩ = some (.slice a ln c) ∧ W.frozen? ⟨ub, 0, none⟩ = false ∧ W.frozen? ⟨ub, 1, none⟩ = false ∧ IsRef W (.agg #[.bool n, .slice a ln c]) m
theorem VarQ.keep {ub : Nat} {m : Int} {W V : World} (h : VarQ ub m W) (k : Below W.heap.size W V) : VarQ ub m V := by
  obtain ⟨n, a, ln, c, h0, h1, f0, f1, hi⟩ := h
  exact ⟨n, a, ln, c, bkeep k h0, bkeep k h1, bkeepf k h0 f0, bkeepf k h1 f1, hi.keep k⟩
end Go.Proofs.YtbmaffijncapiaaGreatDoor

/- the reference's matrices: Plus, Scale, Apply. -/
namespace Go.Proofs.YtbmaffijncapiaaGreatDoor
open Num
open Go.ChangeShapes Go.WideShapes Go.ChangeAt Go.RowKit
set_option linter.unusedVariables false
set_option linter.unusedSimpArgs false
attribute [local go_sem ↓] Go.wp_at_zero Go.wp_at_succ
end Go.Proofs.YtbmaffijncapiaaGreatDoor

/- The reference: Rats: a matrix's numbers as fractions, in rows that may be written. -/
namespace Go.Proofs.YtbmaffijncapiaaGreatDoor
open Num
open Go.ChangeShapes Go.WideShapes Go.ChangeAt Go.RowKit
set_option linter.unusedVariables false
set_option linter.unusedSimpArgs false
attribute [local go_sem ↓] Go.wp_at_zero Go.wp_at_succ
theorem FrBlk.kp {Q : World → Value → Rat → Prop} {E : TypeId} {w w' : World} {b n : Nat} {F : Nat → Rat} {S : TypeId → Prop} (hQ : FrK Q) (h : FrBlk Q E w b n F) (k : Kp S w w') (h1 : S 177) (h2 : S E) : FrBlk Q E w' b n F := by
  have hb := k b E h.ty h2
  refine ⟨k.typ h.ty h2, ⟨typ_lt (k.typ h.ty h2), fun j => by rw [World.frozen?_of_block (w := w) hb]; exact h.fr.2 j⟩, fun j hj => (h.at_ j hj).stay hQ hb (k.lim h1)⟩
end Go.Proofs.YtbmaffijncapiaaGreatDoor

/- Ranges over functions whose bodies write blocks of their own, and may keep what they are told. -/
namespace Go.Proofs.YtbmaffijncapiaaGreatDoor
open Go.ChangeShapes Go.WideShapes Go.ChangeAt Go.RowKit
set_option linter.unusedVariables false
set_option linter.unusedSimpArgs false

def GrewX (T S S' : Nat → Prop) (X : World) : Prop := ∀ q, S' q → S q ∨ T q ∨ X.heap.size ≤ q
theorem GrewX.same (T S : Nat → Prop) (X : World) : GrewX T S S X := fun _ h => .inl h
def IterX (P : Program) (gf : Nat) (lb : Array Value) (A : Nat → Array Value → World → Prop) (m : Nat) (Xs : Array Value → Nat → Prop) (n0 : Nat) (S0 : Nat → Prop) (G : World → Prop) : Prop :=
  ∀ (l : Nat) (J Jx : Nat → (Nat → Prop) → World → Prop) (W : World), G W → (∀ k S X Y, J k S X → Clo n0 S X Y → KeepsOthers X Y → J k S Y) → (∀ k S X Y, Jx k S X → Clo n0 S X Y → KeepsOthers X Y → Jx k S Y) →
    (∀ k S X, J k S X → Soil S X) →
    (∀ k args S X, k < m → J k S X → A k args X → (∀ q, Xs args q → ¬ S q) → YieldAt Fence.wide 7 P l args X fun e Y => (e = .returned (.bool true) ∧ ∃ S', GrewX (Xs args) S S' X ∧ J (k + 1) S' Y ∧ OutT (fun q => S q ∨ Xs args q) X Y) ∨ (e = .returned (.bool false) ∧ ∃ S', Jx (k + 1) S' Y)) →
    J 0 S0 W → CallsIn Fence.wide 8 P gf (#[.func (.yield l) #[] #[]] ++ lb) W fun e Y => (∃ v, e = .returned v) ∧ ((∃ S, J m S Y) ∨ ∃ k S, k ≤ m ∧ Jx k S Y)
def postX (X0 T S : Nat → Prop) (I : Nat → (Nat → Prop) → World → Prop) (Ix : Code → Nat → (Nat → Prop) → World → Prop) (k : Nat) (X : World) : Exit → Act → World → Prop
  | .normal, _, Y => OutT X0 X Y ∧ ∃ S', GrewX T S S' X ∧ I k S' Y
  | .ret, _, Y => OutT X0 X Y ∧ ∃ S', Ix .ret k S' Y
  | .exit id, _, Y => OutT X0 X Y ∧ ∃ S', Ix (.exit id) k S' Y
  | .goto t, _, Y => OutT X0 X Y ∧ ∃ S', Ix (.goto t) k S' Y
  | .panic _, _, _ => False
  | .outgrown, _, _ => False
theorem wp_rangeX {P : Program} {g : Operand} {ps : Array Tmp} {assign body : Code} {Q : Exit → Act → World → Prop} {a : Act} {w : World}
    {gf : Nat} {lb : Array Value} (hg : a.eval g = .func (.func gf) #[] lb) (eg : ∀ args w, (callFunc gf args).run P w = .ok (.enter gf args) w)
    {A : Nat → Array Value → World → Prop} {m n0 : Nat} {Xs : Array Value → Nat → Prop} {S0 : Nat → Prop} {G : World → Prop} (hseq : IterX P gf lb A m Xs n0 S0 G)
    (hn0 : n0 ≤ w.heap.size) (hG : ∀ W, Below w.heap.size w W → G W) (hps : ∀ k args X, A k args X → args.size = ps.size)
    (I : Nat → (Nat → Prop) → World → Prop) (Ix : Code → Nat → (Nat → Prop) → World → Prop) (hI : ∀ k S X Y, I k S X → Clo n0 S X Y → I k S Y) (hIx : ∀ c k S X Y, Ix c k S X → Clo n0 S X Y → Ix c k S Y)
    (hS : ∀ k S X, I k S X → Soil S X) (hSx : ∀ c k S X, Ix c k S X → Soil S X) (h0 : I 0 S0 w)
    (Ax : Array Value → Nat → Array Value → (Nat → Prop) → Act → World → Prop) (hAx : ∀ k args S a' (X : World) (l : Nat) (o o' : Obj), w.heap.size ≤ l → X.heap[l]? = some o → o.isCells = false → Ax a.tmps k args S a' X → Ax a.tmps k args S a' (X.putObj l o'))
    (hXs : ∀ k args X q, A k args X → Xs args q → ∃ o, X.heap[q]? = some o ∧ o.isCells = true)
    (hassign : ∀ (l k : Nat) (args : Array Value) (S : Nat → Prop) (X : World) (K : Act → World → Prop), k < m → I k S X → A k args X → (∀ q, Xs args q → ¬ S q) → (∀ a' Y, Below X.heap.size X Y → I k S Y → Ax a.tmps k args S a' Y → K a' Y) →
      assign.wpIn (Fence.wide.inRound l) 7 P (Exit.then K (fun _ _ _ => False)) { tmps := (ps.zip args).foldl (fun t (p, v) => t.setIfInBounds p v) a.tmps, defers := [] } X)
    (hbody : ∀ (l k : Nat) (args : Array Value) (S : Nat → Prop) (a' : Act) (X : World), k < m → I k S X → Ax a.tmps k args S a' X → body.wpIn (Fence.wide.inRound l) 7 P (postX (fun q => S q ∨ Xs args q) (Xs args) S I Ix (k + 1) X) a' X)
    (hdone : ∀ (D : Nat) (S : Nat → Prop) (Y : World), w.heap.size ≤ D → I m S Y → Y.heap[D]? = some (.deferred (some [])) → Q .normal { a with defers := { target := .collected D, args := #[] } :: a.defers } Y)
    (hstop : ∀ (D : Nat) (c : Code) (k : Nat) (S : Nat → Prop) (Y : World), w.heap.size ≤ D → k ≤ m → Ix c k S Y → Y.heap[D]? = some (.deferred (some [])) → c.wp P Q { a with defers := { target := .collected D, args := #[] } :: a.defers } Y) :
    (Code.rangeFunc g ps assign body).wp P Q a w := by
  refine (wpIn_wide (n := 9)).1 (wpIn_rangeFunc fun fn hfn => ?_)
  let R : LoopState → Option Code → Loop := fun st pe => { state := st, pending := pe, fn, tmps := a.tmps, params := ps, assign, body, defers := w.heap.size }
  generalize hl : w.heap.size + 1 = l
  have hlw : w.heap.size ≤ l := by omega
  let V : World := (w.alloc (.deferred (some []))).alloc (.loop (R .ready none))
  have rec0 : V.heap[l]? = some (.loop (R .ready none)) := by
    have h := World.alloc_heap_new (w.alloc (.deferred (some []))) (.loop (R .ready none))
    rw [World.size_alloc, hl] at h
    exact h
  have put0 : V.heap[w.heap.size]? = some (.deferred (some [])) := (Below.heap_alloc _ _ _ (by simp)).trans (World.alloc_heap_new w _)
  have bV : Below w.heap.size w V := bal (bal (Below.refl _ _) _) _
  -- the loop's record is set: nothing of the body's, no limbs
  have cP : ∀ (S : Nat → Prop) (X : World) (o o' : Obj), Soil S X → X.heap[l]? = some o → o.isCells = false → Clo n0 S X (X.putObj l o') := fun S X o o' hs ho hc => by
    refine ⟨rfl, rfl, rfl, by simp [World.putObj], fun q hq h => World.putObj_heap_other (fun e => ?_)⟩
    subst e
    have ht : ∀ t, typOf X q ≠ some t := fun t h => by rw [typ_none ho hc] at h; cases h
    rcases h with h | h | h
    · omega
    · obtain ⟨t, h1, _⟩ := hs q h
      exact ht t h1
    · exact ht _ h
  refine ⟨l, [{ target := .collected w.heap.size, args := #[] }], V, { target := .fn (.func gf) lb, args := #[.func (.yield l) #[] #[]] }, V, gf, #[.func (.yield l) #[] #[]] ++ lb, V, ?_, ?_, fun f' _ => trivial, ?_, fun _ => by omega, ?_⟩
  · have h := run_enterLoop_outer (P := P) (w := w) fn a.tmps ps assign body
    rw [hl] at h
    exact h
  · simp only [resolve, hg]
    simp [go_sem]
  · simp [invoke, go_sem, eg]
  let J : Nat → (Nat → Prop) → World → Prop := fun k S X => I k S X ∧ X.heap[l]? = some (.loop (R .ready none)) ∧ X.heap[w.heap.size]? = some (.deferred (some []))
  let Jx : Nat → (Nat → Prop) → World → Prop := fun k S X => ∃ c, Ix c k S X ∧ X.heap[l]? = some (.loop (R .done (some c))) ∧ X.heap[w.heap.size]? = some (.deferred (some []))
  refine (hseq l J Jx V (hG V bV) ?_ ?_ ?_ ?_ ⟨hI 0 S0 _ _ h0 (.of_below bV), rec0, put0⟩).mono ?_
  · rintro k S X Y ⟨h1, h2, h3⟩ hc hk
    exact ⟨hI k S X Y h1 hc, hk.same _ _ h2 rfl, hk.same _ _ h3 rfl⟩
  · rintro k S X Y ⟨c, h1, h2, h3⟩ hc hk
    exact ⟨c, hIx c k S X Y h1 hc, hk.same _ _ h2 rfl, hk.same _ _ h3 rfl⟩
  · rintro k S X ⟨h1, _⟩
    exact hS k S X h1
  · -- one round
    rintro k args S X hkm ⟨h1, h2, h3⟩ hA hxs
    have nX : ∀ q o, X.heap[q]? = some o → o.isCells = false → ¬ (S q ∨ Xs args q) := fun q o hq ho hx => by
      rcases hx with hx | hx
      · obtain ⟨t, ht, _⟩ := hS k S X h1 q hx
        rw [typ_none hq ho] at ht; cases ht
      · obtain ⟨o', ho', hc⟩ := hXs k args X q hA hx
        rw [hq] at ho'; cases ho'; rw [ho] at hc; cases hc
    have nl : ¬ (S l ∨ Xs args l) := nX _ _ h2 rfl
    have nd : ¬ (S w.heap.size ∨ Xs args w.heap.size) := nX _ _ h3 rfl
    have hy := run_yield (P := P) (args := args) h2 (hps k args X hA)
    refine ⟨fn, _, assign, body, hy, roundIn_of_wpIn hfn (hassign l k args S X _ hkm h1 hA hxs ?_)⟩
    intro a' X1 hb i1 ax
    have hlX : l < X.heap.size := (Array.getElem?_eq_some_iff.1 h2).1
    have l1 : X1.heap[l]? = some (.loop (R .ready none)) := (hb.block _ hlX).trans h2
    have d1 : X1.heap[w.heap.size]? = some (.deferred (some [])) := (hb.block _ (Array.getElem?_eq_some_iff.1 h3).1).trans h3
    have hl1 : l < X1.heap.size := (Array.getElem?_eq_some_iff.1 l1).1
    refine ⟨_, run_beginRound l1 rfl, ?_⟩
    have cb : Clo n0 S X1 (X1.putObj l (.loop { R .ready none with state := .busy })) := cP _ _ _ _ (hS _ _ _ i1) l1 rfl
    have l2 : (X1.putObj l (.loop { R .ready none with state := .busy })).heap[l]? = some (.loop { R .ready none with state := .busy }) := World.putObj_heap_same hl1
    have o2 : ∀ b, b ≠ l → (X1.putObj l (.loop { R .ready none with state := .busy })).heap[b]? = X1.heap[b]? := fun b hb => World.putObj_heap_other hb
    have s2 : (X1.putObj l (.loop { R .ready none with state := .busy })).heap.size = X1.heap.size := by simp [World.putObj]
    refine wpIn_mono (hbody l k args S a' _ hkm (hI k S _ _ i1 cb) (hAx k args S a' _ _ _ _ hlw l1 rfl ax)) ?_
    have fin : ∀ (jump : Option Code) (Y : World) (S' : Nat → Prop), OutT (fun q => S q ∨ Xs args q) (X1.putObj l (.loop { R .ready none with state := .busy })) Y → Soil S' Y →
        (Instr.endRound l jump).run P Y = .ok (.bool jump.isNone) (Y.putObj l (.loop (R (if jump.isNone then .ready else .done) jump))) ∧ Clo n0 S' Y (Y.putObj l (.loop (R (if jump.isNone then .ready else .done) jump))) ∧
        (Y.putObj l (.loop (R (if jump.isNone then .ready else .done) jump))).heap[l]? = some (.loop (R (if jump.isNone then .ready else .done) jump)) ∧ (Y.putObj l (.loop (R (if jump.isNone then .ready else .done) jump))).heap[w.heap.size]? = some (.deferred (some [])) := fun jump Y S' hoT hs => by
      have ho := hoT.1
      have lY : Y.heap[l]? = some (.loop { R .ready none with state := .busy }) := (ho.block _ (by rw [s2]; exact hl1) nl).trans l2
      refine ⟨run_endRound (P := P) jump lY, cP _ _ _ _ hs lY rfl, World.putObj_heap_same (Array.getElem?_eq_some_iff.1 lY).1, ?_⟩
      rw [World.putObj_heap_other (by omega), ho.block _ (by rw [s2]; exact (Array.getElem?_eq_some_iff.1 d1).1) nd, o2 _ (by omega), d1]
    rintro e a3 Y hp
    cases e with
    | normal =>
      obtain ⟨ho, S', hg', i3⟩ := hp
      obtain ⟨hr, hc, e1, e2⟩ := fin none Y S' ho (hS _ _ _ i3)
      obtain ⟨ho, ht⟩ := ho
      refine ⟨_, _, hr, .inl ⟨rfl, S', fun q hq => (hg' q hq).imp id fun h => h.imp id fun h => Nat.le_trans hb.size (by rw [s2] at h; exact h), ⟨hI _ _ _ _ i3 hc, e1, e2⟩, ⟨ho.os.trans hb.os, ho.tape.trans hb.tape, ho.output.trans hb.output, ?_, fun i hi hx => ?_⟩, fun q hq hqs => ?_⟩⟩
      · have := ho.size; have := hb.size; simp [World.putObj] at *; omega
      · by_cases e : i = l
        · subst e; exact e1.trans h2.symm
        · rw [World.putObj_heap_other e, ho.block _ (by rw [s2]; have := hb.size; omega) hx, o2 _ e, hb.block _ hi]
      · have e : q ≠ l := fun e => nl (e ▸ hq)
        have t1 : typOf (Y.putObj l (.loop (R (if (none : Option Code).isNone then .ready else .done) none))) q = typOf Y q := by unfold typOf; rw [World.putObj_heap_other e]
        have t2 := ht q hq (by rw [s2]; have := hb.size; omega)
        have t3 : typOf (X1.putObj l (.loop { R .ready none with state := .busy })) q = typOf X1 q := by unfold typOf; rw [o2 _ e]
        have t4 : typOf X1 q = typOf X q := by unfold typOf; rw [hb.block _ hqs]
        exact (t1.trans t2).trans (t3.trans t4)
    | ret =>
      obtain ⟨ho, S', i3⟩ := hp
      obtain ⟨hr, hc, e1, e2⟩ := fin (some .ret) Y S' ho (hSx _ _ _ _ i3)
      exact ⟨_, _, hr, .inr ⟨rfl, S', .ret, hIx _ _ _ _ _ i3 hc, e1, e2⟩⟩
    | exit id =>
      obtain ⟨ho, S', i3⟩ := hp
      obtain ⟨hr, hc, e1, e2⟩ := fin (some (.exit id)) Y S' ho (hSx _ _ _ _ i3)
      exact ⟨_, _, hr, .inr ⟨rfl, S', .exit id, hIx _ _ _ _ _ i3 hc, e1, e2⟩⟩
    | goto t =>
      obtain ⟨ho, S', i3⟩ := hp
      obtain ⟨hr, hc, e1, e2⟩ := fin (some (.goto t)) Y S' ho (hSx _ _ _ _ i3)
      exact ⟨_, _, hr, .inr ⟨rfl, S', .goto t, hIx _ _ _ _ _ i3 hc, e1, e2⟩⟩
    | panic ch => exact hp.elim
    | outgrown => exact hp.elim
  · -- behind it
    rintro e Y ⟨⟨v, rfl⟩, h⟩
    rcases h with ⟨S, i1, l1, d1⟩ | ⟨k, S, hk, c, i1, l1, d1⟩
    · refine ⟨none, _, run_endLoop (P := P) l1 (by simp [R]), hdone _ S _ (Nat.le_refl _) (hI _ _ _ _ i1 (cP _ _ _ _ (hS _ _ _ i1) l1 rfl)) ?_⟩
      rw [World.putObj_heap_other (by omega)]; exact d1
    · refine ⟨some c, _, run_endLoop (P := P) l1 (by simp [R]), wpIn_wide.2 (hstop _ c k S _ (Nat.le_refl _) hk (hIx _ _ _ _ _ i1 (cP _ _ _ _ (hSx _ _ _ _ i1) l1 rfl)) ?_)⟩
      rw [World.putObj_heap_other (by omega)]; exact d1
end Go.Proofs.YtbmaffijncapiaaGreatDoor

/- A region that draws its order, walked by an invariant: what is known of each operation that has run, whatever the order. One goal an operation. -/
namespace Go.Proofs.YtbmaffijncapiaaGreatDoor
open Go.ChangeShapes Go.WideShapes Go.ChangeAt Go.RowKit
set_option linter.unusedVariables false
section
variable {P : Program} {Q : Exit → Act → World → Prop}
def Done (ls : Array Bool) (i : Nat) : Prop := ls.getD i false = true
theorem Done.old {ls : Array Bool} {i j : Nat} (h : Done (ls.setIfInBounds i true) j) (hne : i ≠ j := by decide) : Done ls j := by
  unfold Done at *
  rwa [getD_set_ne false hne] at h
theorem Done.set {ls : Array Bool} {i j : Nat} (h : Done ls j) : Done (ls.setIfInBounds i true) j := by
  unfold Done at *
  by_cases e : i = j
  · subst e
    have hlt : i < ls.size := by
      rcases Nat.lt_or_ge i ls.size with q | q
      · exact q
      · simp [Array.getD, show ¬ i < ls.size by omega] at h
    simp [Array.getD, hlt]
  · rwa [getD_set_ne false e]
def InvStep (P : Program) (ops : Array Oper) (Q : Exit → Act → World → Prop) (Inv : Array Bool → Act → World → Prop) (i : Nat) : Prop :=
  ∀ (o : Oper), ops[i]? = some o → ∀ ls a w, (∀ e ∈ o.after, Region.binds .any e = true → Done ls e.on) → ls.getD i true = false → Inv ls a w → ∀ K : Act → World → Prop, (∀ a' w', Inv (ls.setIfInBounds i true) a' w' → K a' w') → if Region.wanted o (yielded ops a.tmps) = true then Oper.wp P o a w K Q else K (a.put o.dst undef) w
def left (n : Nat) (ls : Array Bool) : Nat := ((List.range n).filter fun i => !ls.getD i true).length
theorem left_set {n i : Nat} {ls : Array Bool} (hn : i < n) (h : ls.getD i true = false) : left n (ls.setIfInBounds i true) < left n ls := by
  unfold left
  have hi : (ls.setIfInBounds i true).getD i true = true := by
    have hlt : i < ls.size := by
      rcases Nat.lt_or_ge i ls.size with q | q
      · exact q
      · simp [Array.getD, show ¬ i < ls.size by omega] at h
    simp [Array.getD, hlt]
  have key : ∀ l : List Nat, (l.filter fun j => !(ls.setIfInBounds i true).getD j true).length ≤ (l.filter fun j => !ls.getD j true).length ∧ (i ∈ l → (l.filter fun j => !(ls.setIfInBounds i true).getD j true).length < (l.filter fun j => !ls.getD j true).length) := by
    intro l
    induction l with
    | nil => simp
    | cons x l ih =>
      by_cases e : i = x
      · subst e
        rw [List.filter_cons, List.filter_cons, hi, h]
        simp only [Bool.not_true, Bool.false_eq_true, if_false, Bool.not_false, if_true, List.length_cons]
        exact ⟨by omega, fun _ => by omega⟩
      · rw [List.filter_cons, List.filter_cons, getD_set_ne true e]
        split
        · simp only [List.length_cons, List.mem_cons]
          exact ⟨by omega, fun hh => by rcases hh with hh | hh; exact absurd hh e; have := ih.2 hh; omega⟩
        · exact ⟨ih.1, fun hh => by rcases List.mem_cons.1 hh with hh | hh; exact absurd hh e; exact ih.2 hh⟩
  exact (key _).2 (List.mem_range.2 hn)
theorem wpAny_inv {ops : Array Oper} {Inv : Array Bool → Act → World → Prop} (hs : ∀ i, i < ops.size → InvStep P ops Q Inv i) (he : ∀ ls a w, Region.ready .any ops ls = [] → Inv ls a w → Q .normal a w) :
    ∀ (fuel : Nat) (ls : Array Bool) (a : Act) (w : World), left ops.size ls ≤ fuel → Inv ls a w → wpAny P .any ops Q fuel ls a w := by
  intro fuel
  induction fuel with
  | zero =>
    intro ls a w hl hi
    have hr : Region.ready .any ops ls = [] := by
      cases e : Region.ready .any ops ls with
      | nil => rfl
      | cons i r =>
        obtain ⟨h1, o, h2, h3⟩ := mem_ready.1 (show i ∈ Region.ready .any ops ls by rw [e]; simp)
        have := left_set (Array.getElem?_eq_some_iff.1 h2).1 h1
        omega
    exact ⟨hr, he _ _ _ hr hi⟩
  | succ fuel ih =>
    intro ls a w hl hi
    refine ⟨fun hr => he _ _ _ hr hi, fun i hm => ?_⟩
    obtain ⟨h1, o, h2, h3⟩ := mem_ready.1 hm
    have hlt := (Array.getElem?_eq_some_iff.1 h2).1
    refine wpOp_step h2 fun K hK => hs i hlt o h2 ls a w (fun e h hb => h3 e h hb) h1 hi K fun a' w' h' => hK _ _ (ih _ _ _ ?_ h')
    have := left_set hlt h1
    omega
def topB (ops : List Oper) : Bool := (List.range ops.length).all fun i => ((ops[i]?).map (fun o => o.after.all fun e => Nat.blt e.on i || !Region.binds .any e)).getD true
theorem done_all {l : List Oper} (ht : topB l = true) {ls : Array Bool} (hsz : ls.size = l.length) (hr : Region.ready .any l.toArray ls = []) : ∀ i, i < l.length → Done ls i := by
  intro i
  induction i using Nat.strongRecOn with
  | ind i ih =>
    intro hi
    unfold Done
    cases e : ls.getD i false with
    | true => rfl
    | false =>
      exfalso
      have ho : l.toArray[i]? = some l[i] := by simp [hi]
      have : i ∈ Region.ready .any l.toArray ls := mem_ready.2 ⟨by
        simp [Array.getD, hsz, hi] at e ⊢; exact e, l[i], ho, fun ed hed hbd => by
        have h1 := List.all_eq_true.1 ht i (List.mem_range.2 hi)
        rw [show l[i]? = some l[i] by simp [hi], Option.map_some, Option.getD_some, Array.all_eq_true_iff_forall_mem] at h1
        have h2 := h1 ed hed
        have h3 : ed.on < i := by rw [hbd] at h2; simpa [Nat.blt_eq] using h2
        exact ih ed.on h3 (by omega)⟩
      rw [hr] at this
      cases this
theorem wp_region_inv {id : Nat} {a : Act} {w : World} {l : List Oper} (hm : P.follows .mixedOrders = true) (ht : topB l = true) (Inv : Array Bool → Act → World → Prop)
    (h0 : Inv (Array.replicate l.length false) a w.drew) (hs : ∀ i, i < l.length → InvStep P l.toArray Q (fun ls a w => ls.size = l.length ∧ Inv ls a w) i)
    (he : ∀ ls a w, (∀ i, i < l.length → Done ls i) → Inv ls a w → Q .normal a w) : (Code.region id l.toArray true).wp P Q a w := by
  refine wp_region_any hm ?_
  refine wpAny_inv (Inv := fun ls a w => ls.size = l.length ∧ Inv ls a w) (by simpa using hs) (fun ls a w hr hi => he ls a w (done_all ht hi.1 hr) hi.2) _ _ _ _ ?_ ⟨by simp, by simpa using h0⟩
  unfold left
  exact Nat.le_trans (List.length_filter_le _ _) (by simp)
def InvStepO (P : Program) (ops : Array Oper) (Q : Exit → Act → World → Prop) (Inv : Array Bool → Act → World → Prop) (n i : Nat) (o : Oper) : Prop :=
  ∀ ls a w, (∀ e ∈ o.after.toList, Region.binds .any e = true → Done ls e.on) → ls.size = n → ¬ Done ls i → Inv ls a w → ∀ K : Act → World → Prop, (∀ a' w', Inv (ls.setIfInBounds i true) a' w' → K a' w') → if Region.wanted o (yielded ops a.tmps) = true then Oper.wp P o a w K Q else K (a.put o.dst undef) w
inductive InvSteps (P : Program) (ops : Array Oper) (Q : Exit → Act → World → Prop) (Inv : Array Bool → Act → World → Prop) (n : Nat) : Nat → List Oper → Prop
  | nil {k : Nat} : InvSteps P ops Q Inv n k []
  | cons {k : Nat} {o : Oper} {l : List Oper} (h : InvStepO P ops Q Inv n k o) (r : InvSteps P ops Q Inv n (k + 1) l) : InvSteps P ops Q Inv n k (o :: l)
theorem InvSteps.at {ops : Array Oper} {Inv : Array Bool → Act → World → Prop} {n : Nat} {k : Nat} {l : List Oper} (h : InvSteps P ops Q Inv n k l) : ∀ j (hj : j < l.length), InvStepO P ops Q Inv n (k + j) l[j] := by
  induction h with
  | nil => intro j hj; simp at hj
  | cons h _ ih =>
    intro j hj
    cases j with
    | zero => exact h
    | succ j =>
      have := ih j (by simpa using hj)
      rw [show _ + (j + 1) = _ + 1 + j from by rw [Nat.add_assoc, Nat.add_comm 1 j]]
      exact this
theorem wp_region_invs {id : Nat} {a : Act} {w : World} {l : List Oper} (hm : P.follows .mixedOrders = true) (ht : topB l = true) (Inv : Array Bool → Act → World → Prop)
    (h0 : Inv (Array.replicate l.length false) a w.drew) (hs : InvSteps P l.toArray Q Inv l.length 0 l)
    (he : ∀ ls a w, (∀ i, i < l.length → Done ls i) → Inv ls a w → Q .normal a w) : (Code.region id l.toArray true).wp P Q a w := by
  refine wp_region_inv hm ht Inv h0 (fun i hi o ho ls a' w' hd hu hI K hK => ?_) he
  have h := hs.at i hi
  rw [Nat.zero_add] at h
  have e : l[i] = o := by simpa [hi] using ho
  rw [e] at h
  exact h ls a' w' (fun e he hb => hd e (by simpa using he) hb) hI.1 (fun hh => by unfold Done at hh; simp [Array.getD, hI.1, hi] at hh hu; rw [hh] at hu; cases hu) hI.2 K fun a2 w2 h2 => hK a2 w2 ⟨by simpa using hI.1, h2⟩
end
end Go.Proofs.YtbmaffijncapiaaGreatDoor

/- matrix: At; Row of a row that is not there. -/
namespace Go.Proofs.YtbmaffijncapiaaGreatDoor
open Num
open Go.ChangeShapes Go.WideShapes Go.ChangeAt Go.RowKit
set_option linter.unusedVariables false
set_option linter.unusedSimpArgs false
attribute [local go_sem ↓] Go.wp_at_zero Go.wp_at_succ
def AtPost (n m : Nat) (g : Grid) (i j : Int) (w : World) (e : Ending) (w' : World) : Prop :=
  ((0 ≤ i ∧ i < n ∧ 0 ≤ j ∧ j < m ∧ ∃ u, e = .returned (.tuple #[u, .int .i64 0]) ∧ IsInt w' u (gat g i.toNat j.toNat)) ∨ (¬ (0 ≤ i ∧ i < n ∧ 0 ≤ j ∧ j < m) ∧ e = .returned (.tuple #[.agg #[.bool false, .slice none 0 0], .int .i64 5]))) ∧ Below w.heap.size w w'
theorem AtPost.no {n m : Nat} {g : Grid} {i j : Int} {w w' : World} (h : ¬ (0 ≤ i ∧ i < n ∧ 0 ≤ j ∧ j < m)) (hb : Below w.heap.size w w') : AtPost n m g i j w (.returned (.tuple #[.agg #[.bool false, .slice none 0 0], .int .i64 5])) w' := ⟨.inr ⟨h, rfl⟩, hb⟩
theorem AtPost.yes {n m i j : Nat} {g : Grid} {w w' : World} {u : Value} (hi : i < n) (hj : j < m) (hu : IsInt w' u (gat g i j)) (hb : Below w.heap.size w w') : AtPost n m g (i : Int) (j : Int) w (.returned (.tuple #[u, .int .i64 0])) w' := ⟨.inl ⟨by omega, by omega, by omega, by omega, u, rfl, hu⟩, hb⟩
set_option maxRecDepth 100000 in
set_option maxHeartbeats 4000000 in
theorem at_c (v : Value) (g : Grid) (i j : Int) (w : World) (hv : IsM 0 w v g) (hr : Rct g (cols g)) :
    Calls Tryz.prog 30 #[v, .int .i64 i, .int .i64 j] w (AtPost g.length (cols g) g i j w) := by
  have HV := Lib.hid hv
  have HRC := Lib.hid hr
  obtain ⟨a, c, rfl, hl⟩ := hv
  obtain ⟨n, hn⟩ : ∃ n, g.length = n := ⟨_, rfl⟩
  obtain ⟨m, hm⟩ : ∃ m, cols g = m := ⟨_, rfl⟩
  have HNM := Lib.hid (And.intro hn hm)
  have CC := Lib.hid (fun W (q : Below w.heap.size w W) => colsM_c a c g W (hl.keep (prs_prow 0) q))
  rw [hn, hm] at CC
  rw [hn, hm]
  have RC := Lib.hid (fun W => rowsM_c a n c W)
  have hB := Below.refl w.heap.size w
  clear hl hr hn hm
  by_cases h1 : i < 0
  · have HNO := Lib.hid (show ¬ (0 ≤ i ∧ i < n ∧ 0 ≤ j ∧ j < m) by omega)
    clear CC RC
    go_enter Tryz.func30, Tryz.ntmps30
    go_wp2
    refine bodyPost_ret (v := .tuple #[.agg #[.bool false, .slice none 0 0], .int .i64 5]) (by simp [results, Tryz.results30, go_sem, *]) rfl (.no HNO.out ?_)
    repeat (first|exact bzR _ _|exact hB|refine bzD ?_|refine bzN ?_|refine bzS ?_|refine bzA ?_)
  by_cases h2 : j < 0
  · have HNO := Lib.hid (show ¬ (0 ≤ i ∧ i < n ∧ 0 ≤ j ∧ j < m) by omega)
    clear CC RC
    go_enter Tryz.func30, Tryz.ntmps30
    go_wp2
    refine bodyPost_ret (v := .tuple #[.agg #[.bool false, .slice none 0 0], .int .i64 5]) (by simp [results, Tryz.results30, go_sem, *]) rfl (.no HNO.out ?_)
    repeat (first|exact bzR _ _|exact hB|refine bzD ?_|refine bzN ?_|refine bzS ?_|refine bzA ?_)
  obtain ⟨i', hi'⟩ := Int.eq_ofNat_of_zero_le (show 0 ≤ i by omega)
  obtain ⟨j', hj'⟩ := Int.eq_ofNat_of_zero_le (show 0 ≤ j by omega)
  subst hi' hj'
  have h1' : ¬ (i' : Int) < 0 := by omega
  have h2' : ¬ (j' : Int) < 0 := by omega
  clear h1 h2
  by_cases h3 : i' < n
  rotate_left
  · have hI : (n : Int) ≤ (i' : Int) := by omega
    have HNO := Lib.hid (show ¬ (0 ≤ (i' : Int) ∧ (i' : Int) < n ∧ 0 ≤ (j' : Int) ∧ (j' : Int) < m) by omega)
    clear CC h3
    go_enter Tryz.func30, Tryz.ntmps30
    go_wp2_with fail
    (with_reducible refine (RC.out _).mono ?_)
    rintro e w1 ⟨rfl, hb1⟩
    have b0 : w1.cell? ⟨w.heap.size, 0, none⟩ = some (.slice a n c) := bkc hb1
    have zb0 := cell_lt b0
    have r0 : w1.cell? ⟨w.heap.size + 1, 0, none⟩ = some (.bool false) := bkc hb1
    have zr0 := cell_lt r0
    have r0f : w1.frozen? ⟨w.heap.size + 1, 0, none⟩ = false := bkcf (v := .bool false) hb1
    have r1 : w1.cell? ⟨w.heap.size + 1, 1, none⟩ = some (.slice none 0 0) := bkc hb1
    have r1f : w1.frozen? ⟨w.heap.size + 1, 1, none⟩ = false := bkcf (v := .slice none 0 0) hb1
    have hB : Below w.heap.size w w1 := bthen (by repeat (first|exact bzR _ _|exact hB|refine bzD ?_|refine bzN ?_|refine bzS ?_|refine bzA ?_)) hb1
    have hz : w.heap.size ≤ w1.heap.size := hB.size
    go_wp2
    refine bodyPost_ret (v := .tuple #[.agg #[.bool false, .slice none 0 0], .int .i64 5]) (by simp [results, Tryz.results30, go_sem, *]) rfl (.no HNO.out ?_)
    repeat (first|exact bzR _ _|exact hB|refine bzD ?_|refine bzN ?_|refine bzS ?_|refine bzA ?_)
  have hI3 : ¬ (n : Int) ≤ (i' : Int) := by omega
  by_cases h4 : j' < m
  rotate_left
  · have hI : (m : Int) ≤ (j' : Int) := by omega
    have HNO := Lib.hid (show ¬ (0 ≤ (i' : Int) ∧ (i' : Int) < n ∧ 0 ≤ (j' : Int) ∧ (j' : Int) < m) by omega)
    clear h4
    go_enter Tryz.func30, Tryz.ntmps30
    go_wp2_with fail
    (with_reducible refine (RC.out _).mono ?_)
    rintro e w1 ⟨rfl, hb1⟩
    have b0 : w1.cell? ⟨w.heap.size, 0, none⟩ = some (.slice a n c) := bkc hb1
    have zb0 := cell_lt b0
    have r0 : w1.cell? ⟨w.heap.size + 1, 0, none⟩ = some (.bool false) := bkc hb1
    have zr0 := cell_lt r0
    have r0f : w1.frozen? ⟨w.heap.size + 1, 0, none⟩ = false := bkcf (v := .bool false) hb1
    have r1 : w1.cell? ⟨w.heap.size + 1, 1, none⟩ = some (.slice none 0 0) := bkc hb1
    have r1f : w1.frozen? ⟨w.heap.size + 1, 1, none⟩ = false := bkcf (v := .slice none 0 0) hb1
    have hB : Below w.heap.size w w1 := bthen (by repeat (first|exact bzR _ _|exact hB|refine bzD ?_|refine bzN ?_|refine bzS ?_|refine bzA ?_)) hb1
    have hz : w.heap.size ≤ w1.heap.size := hB.size
    go_wp2_with fail
    (with_reducible refine (CC.out _ ?_).mono ?_); (repeat (first|exact bzR _ _|exact hB|refine bzD ?_|refine bzN ?_|refine bzS ?_|refine bzA ?_))
    rintro e w2 ⟨rfl, hb2⟩
    have b0 : w2.cell? ⟨w.heap.size, 0, none⟩ = some (.slice a n c) := bkc hb2
    have zb0 := cell_lt b0
    have r0 : w2.cell? ⟨w.heap.size + 1, 0, none⟩ = some (.bool false) := bkc hb2
    have zr0 := cell_lt r0
    have r0f : w2.frozen? ⟨w.heap.size + 1, 0, none⟩ = false := bkcf (v := .bool false) hb2
    have r1 : w2.cell? ⟨w.heap.size + 1, 1, none⟩ = some (.slice none 0 0) := bkc hb2
    have r1f : w2.frozen? ⟨w.heap.size + 1, 1, none⟩ = false := bkcf (v := .slice none 0 0) hb2
    have hB : Below w.heap.size w w2 := bthen (by repeat (first|exact bzR _ _|exact hB|refine bzD ?_|refine bzN ?_|refine bzS ?_|refine bzA ?_)) hb2
    have hz : w.heap.size ≤ w2.heap.size := hB.size
    go_wp2
    refine bodyPost_ret (v := .tuple #[.agg #[.bool false, .slice none 0 0], .int .i64 5]) (by simp [results, Tryz.results30, go_sem, *]) rfl (.no HNO.out ?_)
    repeat (first|exact bzR _ _|exact hB|refine bzD ?_|refine bzN ?_|refine bzS ?_|refine bzA ?_)
  have hI4 : ¬ (m : Int) ≤ (j' : Int) := by omega
  have hI5 : (i' : Int) < (n : Int) := by omega
  have hI6 : (j' : Int) < (m : Int) := by omega
  have HIJ := Lib.hid (And.intro h3 h4)
  clear h3 h4
  go_enter Tryz.func30, Tryz.ntmps30
  go_wp2_with fail
  (with_reducible refine (RC.out _).mono ?_)
  rintro e w1 ⟨rfl, hb1⟩
  have b0 : w1.cell? ⟨w.heap.size, 0, none⟩ = some (.slice a n c) := bkc hb1
  have zb0 := cell_lt b0
  have r0 : w1.cell? ⟨w.heap.size + 1, 0, none⟩ = some (.bool false) := bkc hb1
  have zr0 := cell_lt r0
  have r0f : w1.frozen? ⟨w.heap.size + 1, 0, none⟩ = false := bkcf (v := .bool false) hb1
  have r1 : w1.cell? ⟨w.heap.size + 1, 1, none⟩ = some (.slice none 0 0) := bkc hb1
  have r1f : w1.frozen? ⟨w.heap.size + 1, 1, none⟩ = false := bkcf (v := .slice none 0 0) hb1
  have hB : Below w.heap.size w w1 := bthen (by repeat (first|exact bzR _ _|exact hB|refine bzD ?_|refine bzN ?_|refine bzS ?_|refine bzA ?_)) hb1
  have hz : w.heap.size ≤ w1.heap.size := hB.size
  go_wp2_with fail
  (with_reducible refine (CC.out _ ?_).mono ?_); (repeat (first|exact bzR _ _|exact hB|refine bzD ?_|refine bzN ?_|refine bzS ?_|refine bzA ?_))
  rintro e w2 ⟨rfl, hb2⟩
  have b0 : w2.cell? ⟨w.heap.size, 0, none⟩ = some (.slice a n c) := bkc hb2
  have zb0 := cell_lt b0
  have r0 : w2.cell? ⟨w.heap.size + 1, 0, none⟩ = some (.bool false) := bkc hb2
  have zr0 := cell_lt r0
  have r0f : w2.frozen? ⟨w.heap.size + 1, 0, none⟩ = false := bkcf (v := .bool false) hb2
  have r1 : w2.cell? ⟨w.heap.size + 1, 1, none⟩ = some (.slice none 0 0) := bkc hb2
  have r1f : w2.frozen? ⟨w.heap.size + 1, 1, none⟩ = false := bkcf (v := .slice none 0 0) hb2
  have hB : Below w.heap.size w w2 := bthen (by repeat (first|exact bzR _ _|exact hB|refine bzD ?_|refine bzN ?_|refine bzS ?_|refine bzA ?_)) hb2
  have hz : w.heap.size ≤ w2.heap.size := hB.size
  clear hb1 hb2 CC RC
  obtain ⟨_, _, e0, hu⟩ := HV.out.keep hB
  cases e0
  rw [HNM.out.1] at hu
  obtain ⟨gc2, gb, go, ra, rc, e2, hru, hrp⟩ := hu.row (i := i') (by rw [HNM.out.1]; exact HIJ.out.1)
  obtain ⟨rfl, -, rfl⟩ := Value.slice.inj e2
  obtain ⟨_, _, e3, -, vr⟩ := hrp.view
  have hrl : (g.getD i' []).length = m := by rw [HRC.out i' (by rw [HNM.out.1]; exact HIJ.out.1), HNM.out.2]
  rw [hrl] at hru e3
  obtain ⟨rfl, -, rfl⟩ := Value.slice.inj e3
  obtain ⟨rb, ro, en, ea, el, ec, e4, d0, d1, hx⟩ := vr j' (by rw [hrl]; exact HIJ.out.2)
  subst e4
  have zu := cell_lt hru
  have zd := cell_lt d0
  have HX := Lib.hid (show IsInt w2 (.agg #[.bool en, .slice ea el ec]) (gat g i' j') from hx)
  have hp := Lib.hid (HX.out.put2 r0 r1)
  clear hx vr hrp hu hrl
  go_wp2
  refine bodyPost_ret (v := .tuple #[.agg #[.bool en, .slice ea el ec], .int .i64 0]) (by simp [results, Tryz.results30, go_sem, *]) rfl (.yes HIJ.out.1 HIJ.out.2 (hp.out _ _) ?_)
  repeat (first|exact bzR _ _|exact hB|refine bzD ?_|refine bzN ?_|refine bzS ?_|refine bzA ?_)
end Go.Proofs.YtbmaffijncapiaaGreatDoor

