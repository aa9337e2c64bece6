/- Texts of this seat, laid together (what the earlier ones leave out): DwJ, DwK, DwC. Each opens with its own remark, which says what it proves, and under which conditions. -/
import Derived.Test.YtbmaffijncapiaaGreatDoorL01
import Derived.Test.YtbmaffijncapiaaGreatDoorL02
import Derived.Test.YtbmaffijncapiaaGreatDoorL03
import Derived.Test.YtbmaffijncapiaaGreatDoorL04
import Derived.Test.YtbmaffijncapiaaGreatDoorL05
import Derived.Test.YtbmaffijncapiaaGreatDoorL06
import Derived.Test.YtbmaffijncapiaaGreatDoorL07
import Derived.Test.YtbmaffijncapiaaGreatDoorL08
import Derived.Test.YtbmaffijncapiaaGreatDoorL09
import Derived.Test.YtbmaffijncapiaaGreatDoorL10
import Derived.Test.YtbmaffijncapiaaGreatDoorL11
import Derived.Test.YtbmaffijncapiaaGreatDoorL12
import Derived.Test.YtbmaffijncapiaaGreatDoorL13
import Derived.Test.YtbmaffijncapiaaGreatDoorL14
import Derived.Test.YtbmaffijncapiaaGreatDoorL15
import Derived.Test.YtbmaffijncapiaaGreatDoorL16
import Derived.Test.YtbmaffijncapiaaGreatDoorL17
import Derived.Test.YtbmaffijncapiaaGreatDoorL18
import Derived.Test.YtbmaffijncapiaaGreatDoorL19
import Derived.Test.YtbmaffijncapiaaGreatDoorL20
import Derived.Test.YtbmaffijncapiaaGreatDoorL21
import Derived.Test.YtbmaffijncapiaaGreatDoorL22
import Derived.Test.YtbmaffijncapiaaGreatDoorL23
import Derived.Test.YtbmaffijncapiaaGreatDoorL24
import Derived.Test.YtbmaffijncapiaaGreatDoorJ01
import Derived.Test.YtbmaffijncapiaaGreatDoorJ02
import Derived.Test.YtbmaffijncapiaaGreatDoorJ03
import Derived.Test.YtbmaffijncapiaaGreatDoorJ04
import Derived.Test.YtbmaffijncapiaaGreatDoorJ05
import Derived.WalkKit
import Derived.ProofKit
import Derived.OpenShut
import Derived.Deep.QuietTactic
import Derived.BigQuiet
import Derived.Outline
import Derived.Lib.Hide
import Derived.WalkSmall
import Derived.WalkSpells
import Derived.WalkLawsBesides
import Derived.Deep.RegionWith
import Derived.Deep.RegionHeld3
import Derived.Laws.CopyOwn
import Derived.Shelf.Small.Bits
import Derived.Laws.AppendOwn
import Derived.Deep.AppendLies
import Derived.OneCell
import Derived.Laws.BitsAllLaws
import Derived.Shelf.Spec.TrailingZeros
import Derived.Shelf.Strings.Builder1
import Derived.Shelf.Strings.Trim
import Derived.Deep.Cut
import Derived.Deep.DeepCutAuto
import Derived.ArgAppend
import Derived.Deep.DeepFit
import Derived.Shelf.Abstract
import Derived.Laws.EntriesVeiled
import Derived.RegionTactic
import Derived.ChangeAlike
import Derived.Laws.OwnMore
import Derived.Deep.Onto
import Derived.Deep.DrawnRows
import Derived.Deep.RegionLaw
import Derived.Deep.LoopGhost
import Derived.RangeFuncNested
import Derived.RangeFuncBound
import Derived.RangeFuncCalls
import Derived.RangeFuncLeaves
import Derived.Shelf.RegionOpen
import Derived.OwnWalkIn
import Derived.TacticsInMore
import Derived.LoopNIn
import Derived.LoopIn
import Derived.Laws.CopyRow
import Derived.Laws.Rows
import Derived.Laws.Tables
import Derived.StillTail
import Derived.Deep.Quiet
import Derived.StillTailTactics
import Derived.Lib.AppendZeros
import Derived.Laws.IdiomStrings
import Derived.Laws.BytesArg
import Derived.Laws.RangeString
import Derived.Lib.OthersKept
import Derived.Maps.AppendAt
import Derived.Shelf.Strings.OnBuilder
import Derived.Lib.SmallJoins
import Derived.Deep.Slices
import Derived.Deep.Matrix
import Derived.Deep.Fields
import Derived.ChangeSame
import Derived.DataShut
import Derived.SizedLaws
set_option linter.unusedVariables false
set_option linter.unusedSimpArgs false
/- denote, plain: two programs, one behind the other: what they denote is the product of both. -/
namespace Go.Proofs.YtbmaffijncapiaaGreatDoor
open Num
def movI (k : Int) (i : Ins) : Ins := ⟨i.op, i.to + k, i.a + k, if twoB i.op then i.b + k else i.b, i.c⟩
def mvs (R : Int) (outs : List Int) : List Ins := (List.range outs.length).map fun k : Nat => ⟨1, R + (k : Int), outs.getD k 0, 0, 0⟩
def joinC (R : Int) (code : List Ins) (outs : List Int) (code' : List Ins) : List Ins := code ++ mvs R outs ++ code'.map (movI R)
def joinO (R : Int) (outs : List Int) : List Int := outs.map fun r => r + R
theorem mvs_len (R : Int) (outs : List Int) : (mvs R outs).length = outs.length := by simp [mvs]
theorem mvs_get (R : Int) {outs : List Int} {k : Nat} (h : k < outs.length) : (mvs R outs).getD k default = ⟨1, R + (k : Int), outs.getD k 0, 0, 0⟩ := by simp [mvs, h]
section
variable {R : Int} {code code' : List Ins} {outs outs' : List Int}
theorem joinC_len : (joinC R code outs code').length = code.length + outs.length + code'.length := by simp [joinC, mvs_len]; omega
theorem joinC_lo {k : Nat} (h : k < code.length) : (joinC R code outs code').getD k default = code.getD k default := by
  unfold joinC
  rw [List.append_assoc, List.getD_eq_getElem?_getD, List.getElem?_append_left h, ← List.getD_eq_getElem?_getD]
theorem joinC_mid {k : Nat} (h : k < outs.length) : (joinC R code outs code').getD (code.length + k) default = ⟨1, R + (k : Int), outs.getD k 0, 0, 0⟩ := by
  unfold joinC
  rw [List.append_assoc, List.getD_eq_getElem?_getD, List.getElem?_append_right (by omega), Nat.add_sub_cancel_left, List.getElem?_append_left (by rw [mvs_len]; exact h), ← List.getD_eq_getElem?_getD, mvs_get R h]
theorem joinC_hi {k : Nat} (h : k < code'.length) : (joinC R code outs code').getD (code.length + outs.length + k) default = movI R (code'.getD k default) := by
  unfold joinC
  rw [List.getD_eq_getElem?_getD, List.getElem?_append_right (by rw [List.length_append, mvs_len]; omega), List.length_append, mvs_len, Nat.add_sub_cancel_left]
  simp [h]
theorem joinO_len : (joinO R outs).length = outs.length := by simp [joinO]
theorem joinO_get {k : Nat} (h : k < outs.length) : (joinO R outs).getD k 0 = outs.getD k 0 + R := by simp [joinO, h]
theorem join_ok {ins ins' R' : Int} (hp : ProgOk ins R code outs) (hq : ProgOk ins' R' code' outs') (e : ins' = outs.length) (hr : R + R' ≤ 128) (hl : code.length + outs.length + code'.length ≤ 16384) :
    ProgOk ins (R + R') (joinC R code outs code') (joinO R outs') := by
  have p1 := hp.i1
  have p2 := hp.i2
  have q1 := hq.i1
  have q2 := hq.i2
  refine ⟨hp.i1, by omega, hr, by rw [joinC_len]; exact hl, by rw [joinO_len]; exact hq.o1, by rw [joinO_len]; exact hq.o2, fun k hk => ?_, fun k hk => ?_⟩
  · rw [joinO_len] at hk
    rw [joinO_get hk]
    have := hq.os k hk
    omega
  · rw [joinC_len] at hk
    by_cases h1 : k < code.length
    · rw [joinC_lo h1]
      obtain ⟨c1, c2, c3, c4, c5, c6, c7, c8, c9⟩ := (mayB_iff ..).1 (hp.cs k h1)
      exact (mayB_iff ..).2 ⟨c1, c2, c3, by omega, c5, c6, c7, by omega, fun h => by have := c9 h; omega⟩
    · by_cases h2 : k < code.length + outs.length
      · obtain ⟨j, rfl⟩ : ∃ j, k = code.length + j := ⟨k - code.length, by omega⟩
        have hj : j < outs.length := by omega
        rw [joinC_mid hj]
        have := hp.os j hj
        exact (mayB_iff ..).2 ⟨by simp, by simp, by show 0 ≤ R + (j : Int); omega, by show R + (j : Int) < R + R'; omega, fun _ => rfl, rfl, by show 0 ≤ outs.getD j 0; omega, by show outs.getD j 0 < R + R'; omega, fun h => by simp [twoB] at h⟩
      · obtain ⟨j, rfl⟩ : ∃ j, k = code.length + outs.length + j := ⟨k - (code.length + outs.length), by omega⟩
        have hj : j < code'.length := by omega
        rw [joinC_hi hj]
        obtain ⟨c1, c2, c3, c4, c5, c6, c7, c8, c9⟩ := (mayB_iff ..).1 (hq.cs j hj)
        refine (mayB_iff ..).2 ⟨c1, c2, by simp only [movI]; omega, by simp only [movI]; omega, fun h => ?_, c6, by simp only [movI]; omega, by simp only [movI]; omega, fun h => ?_⟩
        · have h' : twoB (code'.getD j default).op = false := h
          simp only [movI, h']; exact c5 h'
        · have h' : twoB (code'.getD j default).op = true := h
          have := c9 h'
          simp only [movI, h', if_true]; omega
end
theorem rowF_move {i : Ins} (h : i.op = 1) (A B : List Rat) : rowF i A B = A := by
  have e : ∀ j, j < A.length → opQ i (A.getD j 0) (B.getD j 0) = A.getD j 0 := fun j _ => by unfold opQ; simp [h]
  unfold rowF
  apply List.ext_getElem
  · simp
  · intro j h1 h2
    rw [List.getElem_map, List.getElem_range, e j h2]; simp [h2]
theorem afterF_set {code : List Ins} {g h : GridF} {n : Nat} (e : afterF code g n = some h) (hs : SlimR (toldQ code g n)) : afterF code g (n + 1) = some (h.set (code.getD n default).to.toNat (toldQ code g n)) := by
  rw [afterF_next e, if_pos hs]
theorem afterF_back {code : List Ins} {g s : GridF} {n : Nat} (e : afterF code g (n + 1) = some s) : ∃ h, afterF code g n = some h ∧ SlimR (toldQ code g n) ∧ s = h.set (code.getD n default).to.toNat (toldQ code g n) := by
  cases h1 : afterF code g n with
  | none => rw [afterF_mono h1 (Nat.le_succ n)] at e; cases e
  | some h =>
    rw [afterF_next h1] at e
    split at e
    · rename_i hs; cases e; exact ⟨h, rfl, hs, rfl⟩
    · cases e
section
variable {code J : List Ins} {g G : GridF} {R T : Nat}
theorem join_lo (hJ : ∀ m, m < code.length → J.getD m default = code.getD m default) (hin : ∀ m, m < code.length → InsOk (code.getD m default) R) (hg : g.length = R) (hG : G.length = T) (hRT : R ≤ T) (hk : ∀ k, k < R → G.getD k [] = g.getD k []) :
    ∀ m, m ≤ code.length → ∀ s, afterF code g m = some s → ∃ u, afterF J G m = some u ∧ (∀ k, k < R → u.getD k [] = s.getD k []) ∧ ∀ k, R ≤ k → u.getD k [] = G.getD k []
  | 0, _, s, hs => by cases hs; exact ⟨G, rfl, hk, fun _ _ => rfl⟩
  | m + 1, hm, s, hs => by
    obtain ⟨s1, h1, hsl, rfl⟩ := afterF_back hs
    obtain ⟨u1, k1, k2, k3⟩ := join_lo hJ hin hg hG hRT hk m (by omega) s1 h1
    have hi := hin m (by omega)
    have sl := (afterF_len h1).trans hg
    have ul := (afterF_len k1).trans hG
    have ht := hi.t0
    have ht1 := hi.t1
    have ha := hi.a0
    have ha1 := hi.a1
    have hb := hi.b0
    have hb1 := hi.b1
    have et : toldQ J G m = toldQ code g m := by
      rw [toldQ_eq k1, toldQ_eq h1, hJ m (by omega), k2 _ (by omega), k2 _ (by omega)]
    refine ⟨_, afterF_set k1 (by rw [et]; exact hsl), fun k h => ?_, fun k h => ?_⟩
    · rw [hJ m (by omega), et, gsetF _ _ _ (by omega), gsetF _ _ _ (by omega), k2 k h]
    · rw [hJ m (by omega), et, gsetF _ _ _ (by omega), if_neg (by omega), k3 k h]
theorem join_mid {outs : List Int} {N : Nat} {u0 : GridF} (hJ : ∀ m, m < outs.length → J.getD (N + m) default = ⟨1, (R : Int) + (m : Int), outs.getD m 0, 0, 0⟩) (hos : ∀ m, m < outs.length → 0 ≤ outs.getD m 0 ∧ outs.getD m 0 < (R : Int)) (hRT : R + outs.length ≤ T)
    (h0 : afterF J G N = some u0) (hl : u0.length = T) (hsl : SlimG u0) :
    ∀ m, m ≤ outs.length → ∃ u, afterF J G (N + m) = some u ∧ (∀ k, k < R → u.getD k [] = u0.getD k []) ∧ (∀ j, j < m → u.getD (R + j) [] = u0.getD (outs.getD j 0).toNat []) ∧ ∀ k, R + m ≤ k → u.getD k [] = u0.getD k []
  | 0, _ => ⟨u0, h0, fun _ _ => rfl, fun j h => absurd h (by omega), fun _ _ => rfl⟩
  | m + 1, hm => by
    obtain ⟨u, k1, k2, k3, k4⟩ := join_mid hJ hos hRT h0 hl hsl m (by omega)
    have ho := hos m (by omega)
    have ul : u.length = T := (afterF_len k1).trans ((afterF_len h0).symm.trans hl)
    have et : toldQ J G (N + m) = u0.getD (outs.getD m 0).toNat [] := by
      rw [toldQ_eq k1, hJ m (by omega), rowF_move rfl]
      show u.getD (outs.getD m 0).toNat [] = _
      exact k2 _ (by omega)
    have e2 : (J.getD (N + m) default).to.toNat = R + m := by rw [hJ m (by omega)]; simp only; omega
    have hset := afterF_set k1 (show SlimR (toldQ J G (N + m)) from by rw [et]; exact hsl _ (by omega))
    rw [e2, et] at hset
    refine ⟨_, hset, fun k h => ?_, fun j h => ?_, fun k h => ?_⟩
    · rw [gsetF _ _ _ (by omega), if_neg (by omega)]; exact k2 k h
    · rw [gsetF _ _ _ (by omega)]
      by_cases e : j = m
      · subst e; rw [if_pos rfl]
      · rw [if_neg (by omega)]; exact k3 j (by omega)
    · rw [gsetF _ _ _ (by omega), if_neg (by omega)]; exact k4 k (by omega)
end
def dotX (r : List Rat) (x : Nat → Rat) : Nat → Rat
  | 0 => 0
  | n + 1 => dotX r x n + r.getD n 0 * x n
theorem dotX_row (i : Ins) (A B : List Rat) (x : Nat → Rat) : ∀ n, n ≤ A.length → dotX (rowF i A B) x n = opQ i (dotX A x n) (dotX B x n)
  | 0, _ => (opQ_zero i).symm
  | n + 1, h => by
    rw [dotX, dotX_row i A B x n (by omega), rowF_get i A B (by omega), dotX, dotX, opQ_add, opQ_mul]
theorem dotX_unit {r : List Rat} {x : Nat → Rat} {k : Nat} {m : Nat} (hr : ∀ j, j < m → r.getD j 0 = if j = k then 1 else 0) : ∀ n, n ≤ m → dotX r x n = if k < n then x k else 0
  | 0, _ => by rw [dotX, if_neg (by omega)]
  | n + 1, h => by
    rw [dotX, dotX_unit hr n (by omega), hr n (by omega)]
    by_cases e : n = k
    · subst e
      rw [if_neg (by omega), if_pos rfl, if_pos (by omega)]; grind
    · rw [if_neg e]
      by_cases e2 : k < n
      · rw [if_pos e2, if_pos (by omega)]; grind
      · rw [if_neg e2, if_neg (by omega)]; grind
theorem rowF_mov (i : Ins) (k : Int) (A B : List Rat) : rowF (movI k i) A B = rowF i A B := by
  unfold rowF opQ movI; rfl
theorem opQ_one {i : Ins} (h : twoB i.op = false) (a b b' : Rat) : opQ i a b = opQ i a b' := by
  have h2 : ¬ (i.op = 3 ∨ i.op = 4) := by simpa [twoB] using h
  unfold opQ
  rw [if_neg (show ¬ i.op = 3 from fun e => h2 (.inl e)), if_neg (show ¬ i.op = 4 from fun e => h2 (.inr e)), if_neg (show ¬ i.op = 3 from fun e => h2 (.inl e)), if_neg (show ¬ i.op = 4 from fun e => h2 (.inr e))]
theorem rowF_one {i : Ins} (h : twoB i.op = false) (A B B' : List Rat) : rowF i A B = rowF i A B' := by
  unfold rowF
  congr 1
  funext j
  exact opQ_one h _ _ _
section
variable {code J : List Ins} {G u0 : GridF} {R R' T N n q : Nat} {A : Nat → Nat → Rat}
theorem join_hi (hJ : ∀ m, m < code.length → J.getD (N + m) default = movI (R : Int) (code.getD m default)) (hin : ∀ m, m < code.length → InsOk (code.getD m default) R') (hT : R + R' ≤ T) (hG : G.length = T) (hGr : RectF n G) (hGs : SlimG G)
    (hJi : ∀ m, m < J.length → 0 ≤ (J.getD m default).a ∧ (J.getD m default).a < G.length) (hNJ : N + code.length ≤ J.length)
    (h0 : afterF J G N = some u0) (hu : ∀ k c, k < R' → c < n → (u0.getD (R + k) []).getD c 0 = if k < q then A k c else 0) (hq : q ≤ R') :
    ∀ m, m ≤ code.length → ∀ t u, afterF code (unitsF q R') m = some t → afterF J G (N + m) = some u → ∀ k c, k < R' → c < n → (u.getD (R + k) []).getD c 0 = dotX (t.getD k []) (fun j => A j c) q
  | 0, _, t, u, ht, hu1, k, c, hk, hc => by
    cases ht
    rw [Nat.add_zero, h0] at hu1
    cases hu1
    rw [hu k c hk hc, dotX_unit (k := k) (m := q) (fun j hj => unitsF_at hk hj) q (Nat.le_refl _)]
  | m + 1, hm, t, u, ht, hu1, k, c, hk, hc => by
    obtain ⟨t1, e1, tsl, rfl⟩ := afterF_back ht
    obtain ⟨u1, e2, usl, rfl⟩ := afterF_back (n := N + m) hu1
    have ih := join_hi hJ hin hT hG hGr hGs hJi hNJ h0 hu hq m (by omega) t1 u1 e1 e2
    have hi := hin m (by omega)
    have tl : t1.length = R' := (afterF_len e1).trans (unitsF_len _ _)
    have ul : u1.length = T := (afterF_len e2).trans hG
    have ur := (afterF_ok hGr hGs hJi (show N + m ≤ J.length by omega) e2).1
    have tr := (afterF_ok (unitsF_rect q R') (unitsF_slim q R') (fun j hj => by rw [unitsF_len]; exact ⟨(hin j hj).a0, (hin j hj).a1⟩) (show m ≤ code.length by omega) e1).1
    have ht0 := hi.t0
    have ht1 := hi.t1
    have ha := hi.a0
    have ha1 := hi.a1
    have hb := hi.b0
    have hb1 := hi.b1
    have eJ := hJ m (by omega)
    have et : (J.getD (N + m) default).to.toNat = R + (code.getD m default).to.toNat := by rw [eJ]; simp only [movI]; omega
    have ea : (J.getD (N + m) default).a.toNat = R + (code.getD m default).a.toNat := by rw [eJ]; simp only [movI]; omega
    have told : toldQ J G (N + m) = rowF (code.getD m default) (u1.getD (R + (code.getD m default).a.toNat) []) (u1.getD (R + (code.getD m default).b.toNat) []) := by
      rw [toldQ_eq e2, ea, eJ, rowF_mov]
      cases e : twoB (code.getD m default).op with
      | true =>
        have : (movI (R : Int) (code.getD m default)).b.toNat = R + (code.getD m default).b.toNat := by simp only [movI, e, if_true]; omega
        rw [this]
      | false => exact rowF_one e _ _ _
    rw [et, gsetF _ _ _ (by omega), gsetF _ _ _ (by omega)]
    by_cases e : k = (code.getD m default).to.toNat
    · rw [if_pos (by omega), if_pos e, told, toldQ_eq e1, rowF_get _ _ _ (by rw [ur _ (by omega)]; exact hc), ih _ c (by omega) hc, ih _ c (by omega) hc, dotX_row _ _ _ _ _ (Nat.le_of_eq (tr _ (by omega)).symm)]
    · rw [if_neg (by omega), if_neg e]; exact ih k c hk hc
end
theorem join_dot {n R R' : Nat} {ins' : Int} {code code' : List Ins} {outs outs' : List Int} {S T h : GridF} (hp : ProgOk (n : Int) (R : Int) code outs) (hq : ProgOk ins' (R' : Int) code' outs') (e : ins' = outs.length) (hr : (R : Int) + R' ≤ 128) (hl : code.length + outs.length + code'.length ≤ 16384)
    (hs : endF (n : Int) (R : Int) code = some S) (ht : endF ins' (R' : Int) code' = some T) (hj : endF (n : Int) ((R : Int) + R') (joinC (R : Int) code outs code') = some h) {i c : Nat} (hi : i < outs'.length) (hc : c < n) :
    ((outsF (joinO (R : Int) outs') h).getD i []).getD c 0 = dotX ((outsF outs' T).getD i []) (fun j => ((outsF outs S).getD j []).getD c 0) outs.length := by
  have hJ := join_ok hp hq e hr hl
  have hnR : n ≤ R := by have := hp.i2; omega
  have hqR : outs.length ≤ R' := by have := hq.i2; omega
  subst e
  unfold endF at hs ht hj
  rw [Int.toNat_natCast] at hs ht hj
  rw [Int.toNat_natCast] at hs ht
  rw [show ((R : Int) + (R' : Int)).toNat = R + R' by omega] at hj
  have inP := fun m (hm : m < code.length) => (show InsOk (code.getD m default) R from by have := ins_ofF hp hm; rwa [Int.toNat_natCast] at this)
  have inQ := fun m (hm : m < code'.length) => (show InsOk (code'.getD m default) R' from by have := ins_ofF hq hm; rwa [Int.toNat_natCast] at this)
  have inJ := fun m (hm : m < (joinC (R : Int) code outs code').length) => (show InsOk ((joinC (R : Int) code outs code').getD m default) (R + R') from by have := ins_ofF hJ hm; rwa [show ((R : Int) + (R' : Int)).toNat = R + R' by omega] at this)
  have hJi : ∀ m, m < (joinC (R : Int) code outs code').length → 0 ≤ ((joinC (R : Int) code outs code').getD m default).a ∧ ((joinC (R : Int) code outs code').getD m default).a < (unitsF n (R + R')).length := fun m hm => by rw [unitsF_len]; exact ⟨(inJ m hm).a0, (inJ m hm).a1⟩
  obtain ⟨u0, a1, a2, a3⟩ := join_lo (J := joinC (R : Int) code outs code') (G := unitsF n (R + R')) (T := R + R') (fun m hm => joinC_lo hm) inP (unitsF_len n R) (unitsF_len n _) (by omega) (fun k hk => by rw [unitsF_get hk, unitsF_get (by omega)]) code.length (Nat.le_refl _) S hs
  have u0l : u0.length = R + R' := (afterF_len a1).trans (unitsF_len _ _)
  have u0s := (afterF_ok (unitsF_rect n (R + R')) (unitsF_slim n (R + R')) hJi (by rw [joinC_len]; omega) a1).2
  obtain ⟨u1, b1, b2, b3, b4⟩ := join_mid (R := R) (T := R + R') (outs := outs) (fun m hm => joinC_mid hm) hp.os (by omega) a1 u0l u0s outs.length (Nat.le_refl _)
  have key := join_hi (R := R) (R' := R') (N := code.length + outs.length) (n := n) (q := outs.length) (A := fun j c => ((outsF outs S).getD j []).getD c 0) (fun m hm => joinC_hi hm) inQ (Nat.le_refl _) (unitsF_len n _) (unitsF_rect _ _) (unitsF_slim _ _) hJi (by rw [joinC_len]; omega) b1 (fun k c hk hc => by
    by_cases h : k < outs.length
    · rw [if_pos h, b3 k h, outsF_get h, a2 _ (by have := hp.os k h; omega)]
    · rw [if_neg h, b4 _ (by omega), a3 _ (by omega), unitsF_at (by omega) hc, if_neg (by omega)]) hqR code'.length (Nat.le_refl _) T h ht (by rw [← hj, joinC_len])
  rw [outsF_get (by rw [joinO_len]; exact hi), outsF_get hi, joinO_get hi]
  have ho := hq.os i hi
  have := key (outs'.getD i 0).toNat c (by omega) hc
  rw [← this, show (outs'.getD i 0 + (R : Int)).toNat = R + (outs'.getD i 0).toNat by omega]
theorem dotX_over {r : List Rat} {x : Nat → Rat} {a b : Nat → Int} {d f : Int} : ∀ n, (∀ t, t < n → r.getD t 0 = Rat.divInt (a t) f ∧ x t = Rat.divInt (b t) d) → dotX r x n = Rat.divInt (Det.isum n fun t => a t * b t) (d * f)
  | 0, _ => by simp [dotX, Det.isum]
  | n + 1, h => by
    obtain ⟨h1, h2⟩ := h n (by omega)
    rw [dotX, dotX_over n (fun t ht => h t (by omega)), h1, h2]
    simp only [Det.isum]
    rw [Rat.divInt_eq_div, Rat.divInt_eq_div, Rat.divInt_eq_div, Rat.divInt_eq_div, Rat.intCast_add, Rat.intCast_mul, Rat.intCast_mul]
    simp only [Rat.div_def, Rat.inv_mul_rev]
    grind
theorem join_at {n R R' : Nat} {ins' : Int} {code code' : List Ins} {outs outs' : List Int} {S T h : GridF} (hp : ProgOk (n : Int) (R : Int) code outs) (hq : ProgOk ins' (R' : Int) code' outs') (e : ins' = outs.length) (hr : (R : Int) + R' ≤ 128) (hl : code.length + outs.length + code'.length ≤ 16384)
    (hs : endF (n : Int) (R : Int) code = some S) (ht : endF ins' (R' : Int) code' = some T) (hj : endF (n : Int) ((R : Int) + R') (joinC (R : Int) code outs code') = some h) {i c : Nat} (hi : i < outs'.length) (hc : c < n) :
    AtEq (outsF (joinO (R : Int) outs') h) (timesG (matG (outsF outs' T)) (matG (outsF outs S))) (matD (outsF outs S) * matD (outsF outs' T)) i c := by
  have kS := endF_ok hp hs
  have kT := endF_ok hq ht
  rw [Int.toNat_natCast] at kS
  have eT : ins'.toNat = outs.length := by omega
  rw [eT] at kT
  have lS : (outsF outs S).length = outs.length := outsF_len _ _
  have lT : (outsF outs' T).length = outs'.length := outsF_len _ _
  have bS := slimG_bd kS.2
  have bT := slimG_bd kT.2
  have o1 := hp.o1
  have o1' := hq.o1
  have cS : cols (matG (outsF outs S)) = n := (matG_rct kS.1).cols (by rw [matG_len, lS]; omega)
  have cT : cols (matG (outsF outs' T)) = outs.length := (matG_rct kT.1).cols (by rw [matG_len, lT]; omega)
  unfold AtEq
  rw [join_dot hp hq e hr hl hs ht hj hi hc, times_gat (by rw [matG_len, lT]; exact hi) (by rw [cS]; exact hc), cT]
  exact dotX_over _ fun t ht => ⟨is_self kT.1 bT (by rw [lT]; exact hi) ht, is_self kS.1 bS (by rw [lS]; exact ht) hc⟩
end Go.Proofs.YtbmaffijncapiaaGreatDoor

/- prog: a program in the making, to which instructions and outs are added; right; moved. -/
namespace Go.Proofs.YtbmaffijncapiaaGreatDoor
open Num
open Go.ChangeShapes Go.WideShapes Go.ChangeAt Go.RowKit
attribute [local go_sem ↓] Go.wp_at_zero Go.wp_at_succ
set_option maxRecDepth 100000 in
set_option maxHeartbeats 1000000 in
theorem cloneInsO_c (a : Option Addr) (ca : Nat) (L : List Ins) (w : World) (ha : InsV w a ca L) (hn : a = none → L = []) (h1 : L.length ≤ 1099511627776) :
    Calls Tryz.prog 136 #[.slice a L.length ca] w fun e w' => (∃ a' c', e = .returned (.slice a' L.length c') ∧ w'.ownsRow w.heap.size 96 5 (.slice a' L.length c') L.length (pcel L)) ∧ Below w.heap.size w w' := by
  have hB0 := Below.refl w.heap.size w
  have hq := fun w => Lib.run_eql_slice_nil w 22 96 a L.length ca 0 0 Tryz.underlying22
  cases a with
  | none =>
    obtain rfl : L = [] := hn rfl
    have hq2 : ∀ w, (binOp .eql 22 (.slice none 0 ca) (.slice none 0 0)).run Tryz.prog w = .ok (.bool true) w := hq
    clear hq
    go_enter Tryz.func136, Tryz.ntmps136
    go_wp2
    go_ret
    exact ⟨⟨none, 0, rfl, World.ownsRow_nil _ _ _ _⟩, Below.refl _ _⟩
  | some ad =>
    obtain ⟨i0, z0, hi, hz0, hz1, hz2, hz3⟩ := elP.info
    have hnews : ∀ (W : World), Below w.heap.size w W → ∀ j u, (pcel L)[j]? = some u → W.cell? (ad.add j) = some u := by
      intro W hW j v hj
      have hjl : j < L.length * 5 := by have := (List.getElem?_eq_some_iff.1 hj).1; rwa [pcel_len] at this
      have hj2 : j = j / 5 * 5 + j % 5 := by omega
      rw [hj2, pcel_get L (j / 5) (j % 5) (by omega) (by omega)] at hj
      rcases ha with h | ⟨b, off, h, _, hcell⟩
      · subst h; simp at hjl
      · cases h
        have h3 := ((hcell (j / 5) (by omega)).keep hW).at (by omega) hj
        rw [show off + j / 5 * 5 + j % 5 = off + j by omega] at h3
        unfold Addr.add
        split
        · subst_vars; simpa using h3
        · exact h3
    clear ha
    have ho : (w.alloc (.cells #[] 96)).ownsRow w.heap.size 96 5 (.slice (some ⟨w.heap.size, 0, none⟩) 0 0) 0 [] := ⟨rfl, .inr ⟨w.heap.size, 0, #[], rfl, Nat.le_refl _, (MapKept.heap_alloc w _).1, Nat.le_refl _, by unfold maxLen; omega, rfl, rfl⟩⟩
    go_enter Tryz.func136, Tryz.ntmps136
    go_wp2_with (at_builtin; refine wpList_append_own _ rfl _ _ 22 rfl w.heap.size 96 i0 z0 5 40 Tryz.underlying22 hi hz0 hz1 hz2 hz3 (by decide) _ 0 [] rfl ho ad L.length ca (pcel L) rfl (pcel_len L) (hnews _ (bal hB0 _)) (pcel_one L) (by unfold maxLen; omega) (by omega) (by simp) ?_)
    intro v' w1 hown hgrow _
    have hbel := below_append (wr := w) (bal hB0 _) ho hgrow
    obtain ⟨a', c', rfl, -, -⟩ := own_ins hown
    have HU := Lib.hid hown
    clear hown hnews hq hgrow ho
    go_wp2
    go_ret
    exact ⟨⟨a', c', rfl, HU.out⟩, hbel⟩
section
variable {P : Program} {T E : TypeId} {size bytes : Nat} {ops : Array Oper} {rest : List Oper} {o : Oper} {a : Act} {Q : Exit → Act → World → Prop} {base : Nat} {wr : World} {v : Value} {n : Nat} {xs C : List Value} {t : TypeId} {s x : Operand}
theorem app_litJ (el : Elt P T E size bytes) (hgd : o.guard = none)
    (ho : o.op = .call { callee := .builtin .append, args := #[s, x], argTypes := #[T, T] }) (hO : wr.ownsRow base E size v n xs) (hbase : base ≤ wr.heap.size) (hs : a.eval s = v)
    {m c g : Nat} (hx : a.eval x = .slice (some ⟨g, 0, none⟩) m c) (hg : g = wr.heap.size) (hl : C.length = m * size) (h1 : ∀ u ∈ C, u.oneCell' = true) (hn : n + m ≤ 1099511627776)
    (h : ∀ v' w', w'.ownsRow base E size v' (n + m) (xs ++ C) → Kp (· ≠ E) wr w' → Below base wr w' → wpList P ops Q rest (a.put o.dst v') w') : wpList P ops Q (o :: rest) a (wr.alloc (.cells C.toArray t)) := by
  subst hg
  obtain ⟨i, z, hi, hz, hsize, hby, hzs⟩ := el.info
  have hb : (n + m) * bytes ≤ 1099511627776 * 128 := Nat.mul_le_mul hn el.small
  have hA : (wr.alloc (.cells C.toArray t)).ownsRow base E size v n xs := hO.alloc _
  refine wpList_append_own _ hgd s x T ho base E i z size bytes el.ht hi hz hsize hby hzs el.pos v n xs hs hA ⟨wr.heap.size, 0, none⟩ m c C hx hl (cells_new wr C t) h1 (by unfold maxLen; omega) (by omega) (by simp; omega) ?_
  intro v' w' hown hg _
  refine h v' w' hown (((Kp.refl _ wr).alloc _).grown hg fun q hg' t' ht hne => hne (by rw [own_typ' hA hg'] at ht; exact (Option.some.inj ht).symm)) ?_
  exact (((Out.refl (fun k => base ≤ k) wr).alloc _).grown hg fun k hk' _ => (hA.lt k hk').1).to_below (fun k hk _ h => by omega) hbase
theorem step_litJ {K : Act → World → Prop} {R : Prop} (el : Elt P T E size bytes) (hgd : o.guard = none)
    (ho : o.op = .call { callee := .builtin .append, args := #[s, x], argTypes := #[T, T] }) (hO : wr.ownsRow base E size v n xs) (hbase : base ≤ wr.heap.size) (hs : a.eval s = v)
    {m c g : Nat} (hx : a.eval x = .slice (some ⟨g, 0, none⟩) m c) (hg : g = wr.heap.size) (hl : C.length = m * size) (h1 : ∀ u ∈ C, u.oneCell' = true) (hn : n + m ≤ 1099511627776)
    (h : ∀ v' w', w'.ownsRow base E size v' (n + m) (xs ++ C) → Kp (· ≠ E) wr w' → Below base wr w' → K (a.put o.dst v') w') : if Region.wanted o (yielded ops a.tmps) = true then Oper.wp P o a (wr.alloc (.cells C.toArray t)) K Q else R := by
  subst hg
  obtain ⟨i, z, hi, hz, hsize, hby, hzs⟩ := el.info
  have hb : (n + m) * bytes ≤ 1099511627776 * 128 := Nat.mul_le_mul hn el.small
  have hw : Region.wanted o (yielded ops a.tmps) = true := by simp [Region.wanted, hgd]
  rw [if_pos hw]
  have hA : (wr.alloc (.cells C.toArray t)).ownsRow base E size v n xs := hO.alloc _
  refine wp_append_own _ s x T ho base E i z size bytes el.ht hi hz hsize hby hzs el.pos v n xs hs hA ⟨wr.heap.size, 0, none⟩ m c C hx hl (cells_new wr C t) h1 (by unfold maxLen; omega) (by omega) (by simp; omega) ?_
  intro v' w' hown hg _
  refine h v' w' hown (((Kp.refl _ wr).alloc _).grown hg fun q hg' t' ht hne => hne (by rw [own_typ' hA hg'] at ht; exact (Option.some.inj ht).symm)) ?_
  exact (((Out.refl (fun k => base ≤ k) wr).alloc _).grown hg fun k hk' _ => (hA.lt k hk').1).to_below (fun k hk _ h => by omega) hbase
end
theorem ownsJ_ex {w : World} {base n size : Nat} {T : TypeId} {v : Value} {xs : List Value} (h : w.ownsRow base T size v n xs) : ∃ a c, v = .slice a n c := by
  rcases h.2 with ⟨rfl, rfl⟩ | ⟨g, c, _, rfl, _⟩
  · exact ⟨_, _, rfl⟩
  · exact ⟨_, _, rfl⟩
theorem pcel_appJ (L M : List Ins) : pcel (L ++ M) = pcel L ++ pcel M := by simp [pcel]
theorem icel_appJ (L M : List Int) : icel (L ++ M) = icel L ++ icel M := by simp [icel]
structure JnB (base pb : Nat) (k R : Int) (L : List Ins) (O : List Int) (w : World) : Prop where
  ty : typOf w pb = some 25
  fr : Free w pb
  c0 : w.cell? ⟨pb, 0, none⟩ = some (.int .i64 k)
  c1 : w.cell? ⟨pb, 1, none⟩ = some (.int .i64 R)
  code : ∃ v, w.cell? ⟨pb, 2, none⟩ = some v ∧ w.ownsRow base 96 5 v L.length (pcel L)
  outs : ∃ v, w.cell? ⟨pb, 3, none⟩ = some v ∧ w.ownsRow base 3 1 v O.length (icel O)
section
variable {base pb : Nat} {k R : Int} {L M : List Ins} {O N : List Int} {w w' : World} {v : Value}
theorem JnB.below (h : JnB base pb k R L O w) (hb : Below w.heap.size w w') : JnB base pb k R L O w' := by
  obtain ⟨v, hv, hr⟩ := h.code
  obtain ⟨u, hu, hs⟩ := h.outs
  exact ⟨typ_keep h.ty hb, h.fr.keep hb, bkeep hb h.c0, bkeep hb h.c1, ⟨v, bkeep hb hv, owns_kp (S := fun _ => True) hr (Kp.of_below _ hb) trivial⟩, ⟨u, bkeep hb hu, owns_kp (S := fun _ => True) hs (Kp.of_below _ hb) trivial⟩⟩
theorem JnB.nb (ht : typOf w pb = some 25) {T : TypeId} (hT : T ≠ 25) {size n o : Nat} {x : Value} {xs : List Value} (hO : w.ownsRow base T size x n xs) (u : Value) : (w.setCell ⟨pb, o, none⟩ u).ownsRow base T size x n xs :=
  ownsRow_setCell_other hO (fun hb => by rw [own_typ' hO hb] at ht; exact hT (Option.some.inj ht)) u
theorem JnB.put (h : JnB base pb k R L O w) (hr : w'.ownsRow base 96 5 v M.length (pcel M)) (hk : Kp (· ≠ 96) w w') (hz : w.heap.size ≤ w'.heap.size) : JnB base pb k R M O (w'.setCell ⟨pb, 2, none⟩ v) := by
  obtain ⟨v0, hv0, _⟩ := h.code
  obtain ⟨u, hu, hs⟩ := h.outs
  have hty := hk.typ h.ty (by decide)
  have hp : 25 ≠ 96 := by decide
  exact ⟨by rw [typ_set]; exact hty, (h.fr.kp hk h.ty hp).set _ _, cell_far (hk.cell h.ty hp h.c0) (by simp) _, cell_far (hk.cell h.ty hp h.c1) (by simp) _, ⟨v, cell_here (hk.cell h.ty hp hv0) _, JnB.nb hty (by decide) hr _⟩, ⟨u, cell_far (hk.cell h.ty hp hu) (by simp) _, JnB.nb hty (by decide) (owns_kp hs hk (by decide)) _⟩⟩
theorem JnB.putO (h : JnB base pb k R L O w) (hr : w'.ownsRow base 3 1 v N.length (icel N)) (hk : Kp (· ≠ 3) w w') (hz : w.heap.size ≤ w'.heap.size) : JnB base pb k R L N (w'.setCell ⟨pb, 3, none⟩ v) := by
  obtain ⟨v0, hv0, hs⟩ := h.code
  obtain ⟨u, hu, _⟩ := h.outs
  have hty := hk.typ h.ty (by decide)
  have hp : 25 ≠ 3 := by decide
  exact ⟨by rw [typ_set]; exact hty, (h.fr.kp hk h.ty hp).set _ _, cell_far (hk.cell h.ty hp h.c0) (by simp) _, cell_far (hk.cell h.ty hp h.c1) (by simp) _, ⟨v0, cell_far (hk.cell h.ty hp hv0) (by simp) _, JnB.nb hty (by decide) (owns_kp hs hk (by decide)) _⟩, ⟨v, cell_here (hk.cell h.ty hp hu) _, JnB.nb hty (by decide) hr _⟩⟩
end
section
variable {ins regs : Int} {ca oa : Option Addr} {cc oc : Nat} {code : List Ins} {outs : List Int} {w : World}
set_option maxRecDepth 100000 in
theorem right_yes (hc : InsV w ca cc code) (ho : IntsV w oa oc outs) (hp : ProgOk ins regs code outs) : Calls Tryz.prog 135 #[.agg #[.int .i64 ins, .int .i64 regs, .slice ca code.length cc, .slice oa outs.length oc]] w fun e w' => e = .returned (.bool true) ∧ Below w.heap.size w w' := by
  have CP := Lib.hid (fun V (h : Below w.heap.size w V) => check_yes (hc.keep h) (ho.keep h) hp)
  clear hp
  have hB := Below.refl w.heap.size w
  go_enter Tryz.func135, Tryz.ntmps135
  go_wp2_with fail
  (with_reducible refine (CP.out _ ?_).mono ?_); (repeat (first|exact bzR _ _|exact hB|refine bzD ?_|refine bzN ?_|refine bzS ?_|refine bzA ?_))
  rintro e w1 ⟨⟨r1, rfl⟩, hb1⟩
  have hB1 : Below w.heap.size w w1 := bthen (by repeat (first|exact bzR _ _|exact hB|refine bzD ?_|refine bzN ?_|refine bzS ?_|refine bzA ?_)) hb1
  go_wp2
  go_ret
  exact ⟨rfl, by repeat (first|exact bzR _ _|exact hB1|refine bzD ?_|refine bzN ?_|refine bzS ?_|refine bzA ?_)⟩
set_option maxRecDepth 100000 in
theorem right_no (hc : InsV w ca cc code) (ho : IntsV w oa oc outs) (hp : ¬ ProgOk ins regs code outs) : Calls Tryz.prog 135 #[.agg #[.int .i64 ins, .int .i64 regs, .slice ca code.length cc, .slice oa outs.length oc]] w fun e w' => e = .returned (.bool false) ∧ Below w.heap.size w w' := by
  have CP := Lib.hid (fun V (h : Below w.heap.size w V) => check_no (hc.keep h) (ho.keep h) hp)
  clear hp
  have hB := Below.refl w.heap.size w
  go_enter Tryz.func135, Tryz.ntmps135
  go_wp2_with fail
  (with_reducible refine (CP.out _ ?_).mono ?_); (repeat (first|exact bzR _ _|exact hB|refine bzD ?_|refine bzN ?_|refine bzS ?_|refine bzA ?_))
  rintro e w1 ⟨⟨r1, rfl⟩, hb1⟩
  have hB1 : Below w.heap.size w w1 := bthen (by repeat (first|exact bzR _ _|exact hB|refine bzD ?_|refine bzN ?_|refine bzS ?_|refine bzA ?_)) hb1
  go_wp2
  go_ret
  exact ⟨rfl, by repeat (first|exact bzR _ _|exact hB1|refine bzD ?_|refine bzN ?_|refine bzS ?_|refine bzA ?_)⟩
end
set_option maxRecDepth 100000 in
theorem moved_c (i : Ins) (k : Int) (w : World) (ht : 0 ≤ i.to ∧ i.to ≤ 128) (ha : 0 ≤ i.a ∧ i.a ≤ 128) (hb : 0 ≤ i.b ∧ i.b ≤ 128) (hk : 0 ≤ k ∧ k ≤ 128) : Calls Tryz.prog 137 #[i.v, .int .i64 k] w fun e w' => e = .returned (movI k i).v ∧ Below w.heap.size w w' := by
  obtain ⟨op, t, a, b, c⟩ := i
  have e1 : wrap64 (t + k) = t + k := by unfold wrap64; dsimp only at ht; omega
  have e2 : wrap64 (a + k) = a + k := by unfold wrap64; dsimp only at ha; omega
  have e3 : wrap64 (b + k) = b + k := by unfold wrap64; dsimp only at hb; omega
  have hB := Below.refl w.heap.size w
  have HM := Lib.hid (show movI k ⟨op, t, a, b, c⟩ = ⟨op, t + k, a + k, if twoB op then b + k else b, c⟩ from rfl)
  rw [HM.out]
  unfold Ins.v
  clear ht ha hb hk
  cases h2 : twoB op with
  | true =>
    go_enter Tryz.func137, Tryz.ntmps137
    go_wp2_with fail
    refine (two_c _ _).mono ?_
    rintro e w1 ⟨rfl, rfl⟩
    rw [h2]
    go_wp2
    refine bodyPost_ret (v := Ins.v ⟨op, t + k, a + k, b + k, c⟩) (by simp [results, Tryz.results137, go_sem, Ins.v, *]) rfl ⟨rfl, by repeat (first|exact bzR _ _|exact hB|refine bzD ?_|refine bzN ?_|refine bzS ?_|refine bzA ?_)⟩
  | false =>
    go_enter Tryz.func137, Tryz.ntmps137
    go_wp2_with fail
    refine (two_c _ _).mono ?_
    rintro e w1 ⟨rfl, rfl⟩
    rw [h2]
    go_wp2
    refine bodyPost_ret (v := Ins.v ⟨op, t + k, a + k, b, c⟩) (by simp [results, Tryz.results137, go_sem, Ins.v, *]) rfl ⟨rfl, by repeat (first|exact bzR _ _|exact hB|refine bzD ?_|refine bzN ?_|refine bzS ?_|refine bzA ?_)⟩
end Go.Proofs.YtbmaffijncapiaaGreatDoor

/- denote's laws: long, same, copied. -/
namespace Go.Proofs.YtbmaffijncapiaaGreatDoor
open Num
open Go.ChangeShapes Go.WideShapes Go.ChangeAt Go.RowKit
attribute [local go_sem ↓] Go.wp_at_zero Go.wp_at_succ
def BoolAny (w : World) (e : Ending) (w' : World) : Prop := (∃ b, e = .returned (.bool b)) ∧ Below w.heap.size w w'
set_option maxRecDepth 100000 in
set_option maxHeartbeats 4000000 in
theorem long9_c (ins regs : Int) (ca oa : Option Addr) (cl cc ol oc : Nat) (w : World) : Calls Tryz.prog 15 #[.agg #[.int .i64 ins, .int .i64 regs, .slice ca cl cc, .slice oa ol oc]] w (BoolAny w) := by
  have hB := Below.refl w.heap.size w
  go_enter Tryz.func15, Tryz.ntmps15
  go_wp2
  all_goals go_ret
  all_goals exact ⟨⟨_, rfl⟩, by repeat (first|exact bzR _ _|exact hB|refine bzD ?_|refine bzN ?_|refine bzS ?_|refine bzA ?_)⟩
theorem InsV.nn {w : World} {ca : Option Addr} {cc : Nat} {code : List Ins} (h : InsV w ca cc code) : ca = none → code = [] := fun e => by
  rcases h with h0 | ⟨b', off', h1, _, h3⟩
  · exact h0
  · rw [e] at h1; cases h1
end Go.Proofs.YtbmaffijncapiaaGreatDoor

