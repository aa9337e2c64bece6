/- Texts of this seat, laid together (what the earlier ones leave out): PtC, Poly, ScP, NumB, LimbD, IntBits. Each opens with its own remark, which says what it proves, and under which conditions. -/
import Derived.Test.YtkejdmdldhlkgaaDoorP01
import Derived.Test.YtkejdmdldhlkgaaDoorP02
import Derived.Test.YtkejdmdldhlkgaaDoorP03
import Derived.Test.YtkejdmdldhlkgaaDoorP04
import Derived.Test.YtkejdmdldhlkgaaDoorP05
import Derived.Test.YtkejdmdldhlkgaaDoorP06
import Derived.Test.YtkejdmdldhlkgaaDoorP07
import Derived.Test.YtkejdmdldhlkgaaDoorP08
import Derived.Test.YtkejdmdldhlkgaaDoorP09
import Derived.Test.YtkejdmdldhlkgaaDoorP10
import Derived.Test.YtkejdmdldhlkgaaDoorP11
import Derived.Test.YtkejdmdldhlkgaaDoorP12
import Derived.Test.YtkejdmdldhlkgaaDoorP13
import Derived.Test.YtkejdmdldhlkgaaDoorP14
import Derived.Test.YtkejdmdldhlkgaaDoorP15
import Derived.Test.YtkejdmdldhlkgaaDoorP16
import Derived.Test.YtkejdmdldhlkgaaDoorP17
import Derived.Test.YtkejdmdldhlkgaaDoorP18
import Derived.Test.YtkejdmdldhlkgaaDoorP19
import Derived.Test.YtkejdmdldhlkgaaDoorP20
import Derived.Test.YtkejdmdldhlkgaaDoorP21
import Derived.Test.YtkejdmdldhlkgaaDoorP22
import Derived.Test.YtkejdmdldhlkgaaDoorP23
import Derived.Test.YtkejdmdldhlkgaaDoorP24
import Derived.Test.YtkejdmdldhlkgaaDoorP25
import Derived.WalkKit
import Derived.ProofKit
import Derived.OpenShut
import Derived.Deep.QuietTactic
import Derived.BigQuiet
import Derived.Outline
import Derived.Lib.Hide
import Derived.WalkSmall
import Derived.WalkSpells
import Derived.WalkLawsBesides
import Derived.Deep.RegionWith
import Derived.Deep.RegionHeld3
import Derived.Laws.CopyOwn
import Derived.Shelf.Small.Bits
import Derived.Laws.AppendOwn
import Derived.Deep.AppendLies
import Derived.Deep.DrawnRows
import Derived.StillTail
import Derived.Deep.Quiet
import Derived.OneCell
import Derived.Laws.BitsAllLaws
import Derived.Shelf.Spec.TrailingZeros
import Derived.Shelf.Strings.Builder1
import Derived.Shelf.Strings.Trim
import Derived.Deep.Cut
import Derived.Deep.DeepCutAuto
import Derived.ArgAppend
import Derived.Deep.DeepFit
import Derived.Shelf.Abstract
import Derived.Laws.EntriesVeiled
import Derived.RegionTactic
import Derived.ChangeAlike
import Derived.Laws.OwnMore
import Derived.Deep.Onto
import Derived.Deep.RegionLaw
import Derived.Deep.LoopGhost
import Derived.RangeFuncNested
import Derived.RangeFuncBound
import Derived.RangeFuncCalls
import Derived.RangeFuncLeaves
import Derived.Shelf.RegionOpen
import Derived.OwnWalkIn
import Derived.TacticsInMore
import Derived.LoopNIn
import Derived.LoopIn
import Derived.Laws.CopyRow
import Derived.Laws.Rows
import Derived.Laws.Tables
import Derived.StillTailTactics
import Derived.Lib.AppendZeros
import Derived.Laws.IdiomStrings
import Derived.Laws.BytesArg
import Derived.Laws.RangeString
import Derived.Lib.OthersKept
import Derived.Maps.AppendAt
import Derived.Shelf.Strings.OnBuilder
import Derived.Lib.SmallJoins
import Derived.Deep.Slices
import Derived.Deep.Matrix
import Derived.Deep.Fields
import Derived.ChangeSame
import Derived.DataShut
import Derived.SizedLaws
set_option linter.unusedVariables false
set_option linter.unusedSimpArgs false
namespace Go.Proofs.YtkejdmdldhlkgaaDoor
open Go.ChangeShapes Go.WideShapes Go.ChangeAt Go.RowKit
theorem belA {B : Nat} {a b : World} (h : Below B a b := by repeat (first | exact Below.refl _ _ | assumption | refine Below.drew ?_ | refine below_drewN ?_ _ | refine bset ?_ (by simp <;> omega) _ | refine bal ?_ _)) : Below B a b := h
end Go.Proofs.YtkejdmdldhlkgaaDoor
/- Norm, One, Det and what the reference says of them. -/
namespace Go.Proofs.YtkejdmdldhlkgaaDoor
open Pt
open Go.ChangeShapes Go.WideShapes Go.ChangeAt Go.RowKit

theorem mul_bd (x y : Int) (a1 : -16 ≤ x) (a2 : x ≤ 16) (b1 : -16 ≤ y) (b2 : y ≤ 16) : -256 ≤ x * y ∧ x * y ≤ 256 := by
  have := Int.natAbs_mul x y
  have h : x.natAbs * y.natAbs ≤ 16 * 16 := Nat.mul_le_mul (by omega) (by omega)
  omega

end Go.Proofs.YtkejdmdldhlkgaaDoor

/- Values of coefficients at points, in plain Lean: of a product, of what is turned, of a point times a number. -/
namespace Det
theorem pf_times (a b t : Int) {n i : Nat} (hi : i < n) : pf (t * a) (t * b) n i = pf a b n i * t ^ (n - 1) := by
  unfold pf
  rw [Int.mul_pow, Int.mul_pow, show n - 1 = i + (n - 1 - i) by omega, Int.pow_add, show i + (n - 1 - i) - i = n - 1 - i by omega]
  grind
end Det

/- Schemes, plain: which counts and points make one; points times a number. -/
namespace Go.Proofs.YtkejdmdldhlkgaaDoor
open Pt
def timesF (f : Nat → Int × Int) (i : Nat) (c : Int) : Nat → Int × Int := fun j => if j = i then (c * (f i).1, c * (f i).2) else f j
theorem nn_times {a b c : Int} (hc : c ≠ 0) : nn (c * a) (c * b) = nn a b := by
  unfold nn
  rw [decide_eq_decide]
  simp [Int.mul_eq_zero, hc]
theorem dist_times (f : Nat → Int × Int) (i : Nat) {c : Int} (hc : c ≠ 0) (p q : Nat) (hne : p ≠ q) : Go.Proofs.YtkejdmdldhlkgaaDoor.dist (timesF f i c p) (timesF f i c q) = 0 ↔ Go.Proofs.YtkejdmdldhlkgaaDoor.dist (f p) (f q) = 0 := by
  unfold timesF Go.Proofs.YtkejdmdldhlkgaaDoor.dist
  by_cases h1 : p = i
  · rw [if_pos h1, if_neg (by omega)]
    subst h1
    have : c * (f p).1 * (f q).2 - (f q).1 * (c * (f p).2) = c * ((f p).1 * (f q).2 - (f q).1 * (f p).2) := by grind
    show c * (f p).1 * (f q).2 - (f q).1 * (c * (f p).2) = 0 ↔ _
    rw [this, Int.mul_eq_zero]
    simp [hc]
  · rw [if_neg h1]
    by_cases h2 : q = i
    · rw [if_pos h2]
      subst h2
      have : (f p).1 * (c * (f q).2) - c * (f q).1 * (f p).2 = c * ((f p).1 * (f q).2 - (f q).1 * (f p).2) := by grind
      show (f p).1 * (c * (f q).2) - c * (f q).1 * (f p).2 = 0 ↔ _
      rw [this, Int.mul_eq_zero]
      simp [hc]
    · rw [if_neg h2]
theorem allIn_times {n : Nat} {f : Nat → Int × Int} {i : Nat} {c : Int} (h1 : inB (f i).1 (f i).2 = true) (h2 : inB (c * (f i).1) (c * (f i).2) = true) : AllIn n f ↔ AllIn n (timesF f i c) := by
  refine forall_congr' fun j => imp_congr_right fun _ => ?_
  unfold timesF
  by_cases e : j = i
  · rw [if_pos e, e]; exact ⟨fun _ => h2, fun _ => h1⟩
  · rw [if_neg e]
theorem noNone_times {n : Nat} {f : Nat → Int × Int} {i : Nat} {c : Int} (hc : c ≠ 0) : NoNone n f ↔ NoNone n (timesF f i c) := by
  refine forall_congr' fun j => imp_congr_right fun _ => ?_
  unfold timesF
  by_cases e : j = i
  · rw [if_pos e, e]
    show nn _ _ = false ↔ nn (c * (f i).1) (c * (f i).2) = false
    rw [nn_times hc]
  · rw [if_neg e]
theorem sch_times {k1 k2 : Int} {n : Nat} {f : Nat → Int × Int} {i : Nat} {c : Int} (h1 : inB (f i).1 (f i).2 = true) (h2 : inB (c * (f i).1) (c * (f i).2) = true) (hc : c ≠ 0) : Sch k1 k2 n f ↔ Sch k1 k2 n (timesF f i c) := by
  have ha := allIn_times (n := n) h1 h2
  have hn := noNone_times (n := n) (f := f) (i := i) hc
  have ht : AllIn n f → NoNone n f → (NoTw f n ↔ NoTw (timesF f i c) n) := fun a b => by
    have a2 := ha.1 a
    have b2 := hn.1 b
    refine forall_congr' fun q => ⟨fun h hq p hp => ?_, fun h hq p hp => ?_⟩
    · refine (twin_iff (a2 p (by omega)) (a2 q hq) (b2 p (by omega)) (b2 q hq)).2 fun e => ?_
      exact (twin_iff (a p (by omega)) (a q hq) (b p (by omega)) (b q hq)).1 (h hq p hp) ((dist_times f i hc q p (by omega)).1 e)
    · refine (twin_iff (a p (by omega)) (a q hq) (b p (by omega)) (b q hq)).2 fun e => ?_
      exact (twin_iff (a2 p (by omega)) (a2 q hq) (b2 p (by omega)) (b2 q hq)).1 (h hq p hp) ((dist_times f i hc q p (by omega)).2 e)
  exact ⟨fun h => ⟨h.cnt, ha.1 h.all, h.len, hn.1 h.nn, (ht h.all h.nn).1 h.tw⟩, fun h => ⟨h.cnt, ha.2 h.all, h.len, hn.2 h.nn, (ht (ha.2 h.all) (hn.2 h.nn)).2 h.tw⟩⟩
end Go.Proofs.YtkejdmdldhlkgaaDoor

/- Plain laws: how many binary digits. -/
namespace Go.Proofs.YtkejdmdldhlkgaaDoor
open Num
namespace Num
theorem bitN_snoc {l : List Nat} {x : Nat} (hl : Limbs l) (hx : x ≠ 0) : bitN (val (l ++ [x])) = 32 * l.length + bitN x := by
  have h1 := val_lt hl
  rw [val_append]
  simp only [val, Nat.mul_zero, Nat.add_zero]
  rw [BB_pow] at *
  have hp : 0 < 2 ^ (32 * l.length) := Nat.pow_pos (by omega)
  have h2 : 2 ^ (32 * l.length) * 1 ≤ 2 ^ (32 * l.length) * x := Nat.mul_le_mul_left _ (by omega)
  unfold bitN
  rw [if_neg (by omega), if_neg hx]
  have e : (val l + 2 ^ (32 * l.length) * x).log2 = 32 * l.length + x.log2 := by
    rw [Nat.log2_eq_iff (by omega)]
    have k1 := Nat.log2_self_le hx
    have k2 := @Nat.lt_log2_self x
    constructor
    · rw [Nat.pow_add]
      have := Nat.mul_le_mul_left (2 ^ (32 * l.length)) k1
      omega
    · rw [Nat.add_assoc, Nat.pow_add]
      have := Nat.mul_le_mul_left (2 ^ (32 * l.length)) (show x + 1 ≤ 2 ^ (x.log2 + 1) from k2)
      rw [Nat.mul_add] at this
      omega
  omega
theorem bitN_nrm {l : List Nat} {k : Nat} (hl : Limbs l) (hn : Nrm l) (hk : l.length = k + 1) : bitN (val l) = 32 * k + bitN (l.getD k 0) := by
  obtain ⟨m, x, rfl⟩ : ∃ m x, l = m ++ [x] := ⟨l.dropLast, l.getLast (by intro e; subst e; simp at hk), (List.dropLast_concat_getLast _).symm⟩
  simp at hk
  have hx := hn (by simp)
  simp at hx
  rw [bitN_snoc (fun y hy => hl y (by simp [hy])) hx, hk]
  congr 2
  simp [← hk]
end Num
end Go.Proofs.YtkejdmdldhlkgaaDoor

/- math/bits.Len32 (by the shelf's contract), limb: Bits. -/
namespace Go.Proofs.YtkejdmdldhlkgaaDoor
open Num
open Go.ChangeShapes Go.WideShapes Go.ChangeAt Go.RowKit

def lensRen : Go.Shelf.Ren := ⟨fun | 128 => 61 | n => n, fun | 3 => 3 | 4 => 4 | 5 => 5 | 9 => 9 | 46 => 65 | 51 => 64 | n => n, fun n => n⟩
theorem lens : Go.Proofs.Lays.n128 Tryd.prog lensRen := {
  mixed := by kernel_rfl
  f128 := Tryd.func61.trans (congrArg some (by kernel_rfl))
  t3 := Tryd.underlying3, a3 := Tryd.isAgg3, z3 := Tryd.sizeOf3, v3 := Tryd.zeroValue3
  t4 := Tryd.underlying4, a4 := Tryd.isAgg4, z4 := Tryd.sizeOf4, v4 := Tryd.zeroValue4
  t5 := Tryd.underlying5, a5 := Tryd.isAgg5, z5 := Tryd.sizeOf5, v5 := Tryd.zeroValue5
  t9 := Tryd.underlying9, a9 := Tryd.isAgg9, z9 := Tryd.sizeOf9, v9 := Tryd.zeroValue9
  t46 := Tryd.underlying65, a46 := Tryd.isAgg65, z46 := Tryd.sizeOf65, v46 := Tryd.zeroValue65
  t51 := Tryd.underlying64, a51 := Tryd.isAgg64, z51 := Tryd.sizeOf64, v51 := Tryd.zeroValue64 }
theorem len32_c (x : Nat) (w : World) (h : x < BB) :
    Calls Tryd.prog 61 #[.int .u32 (x : Int)] w fun e w' => e = .returned (.int .i64 (Lib.bitLen x)) ∧ w = w' := by
  unfold BB at h
  have := Go.Proofs.Any.bits_Len32 lens (x : Int) w (by omega) (by omega)
  rw [Int.toNat_natCast] at this
  refine this.mono ?_
  rintro e w' ⟨rfl, rfl⟩
  exact ⟨rfl, rfl⟩


set_option maxRecDepth 100000 in
set_option maxHeartbeats 1000000 in
theorem limbBits_c (a : Option Addr) (ca : Nat) (l : List Nat) (w : World) (ha : U32 w a ca l) (h1 : l.length ≤ 1099511627776) :
    Calls Tryd.prog 43 #[.slice a l.length ca] w fun e w' => e = .returned (.int .i64 (bitN (val l))) ∧ w = w' := by
  have tca := trim_c a ca l w ha
  have ha2 := ha.trim
  have na := trim_nrm l
  have h2 := Nat.le_trans (trim_len l) h1
  rw [← val_trim l]
  generalize trimL l = L at *
  obtain ⟨_, hLm, hL, hLc⟩ := ha2
  cases hLl : L.length with
  | zero =>
    have hnil : L = [] := List.length_eq_zero_iff.1 hLl
    subst hnil
    have HV := Lib.hid (show bitN (val []) = 0 from rfl)
    generalize bitN (val []) = v at *
    go_enter Tryd.func43, Tryd.ntmps43
    go_wp2_with fail
    refine tca.mono ?_
    rintro e w1 ⟨rfl, rfl⟩
    clear tca
    go_wp2
    go_ret
    exact ⟨by rw [HV.out]; rfl, rfl⟩
  | succ k =>
    have HB := Lib.hid (bitN_nrm hL na hLl)
    rcases hLc with rfl | ⟨ba, oa, rfl, hca⟩
    · simp at hLl
    have cj := hca k (by omega)
    have hx := limb_get hL k
    have lc := fun w => len32_c (L.getD k 0) w hx
    generalize L.getD k 0 = x at *
    generalize bitN (val L) = v at *
    rw [hLl] at tca h2
    have hb1 : bitN x ≤ 32 := by
      rw [← bitLen_eq x (by unfold BB at hx; omega)]
      exact Lib.bitLen_le x 32 (by omega) (by unfold BB at hx; omega)
    have HX := Lib.hid (bitLen_eq x (by unfold BB at hx; omega))
    clear hL na
    clear hLl hca
    generalize Lib.bitLen x = y at *
    have hy : y ≤ 32 := by rw [HX.out]; exact hb1
    clear hb1
    go_enter Tryd.func43, Tryd.ntmps43
    go_wp2_with fail
    refine tca.mono ?_
    rintro e w1 ⟨rfl, rfl⟩
    clear tca
    go_wp2_with fail
    refine (lc _).mono ?_
    rintro e w1 ⟨rfl, rfl⟩
    clear lc
    go_wp2
    go_ret
    refine ⟨?_, rfl⟩
    rw [HB.out, ← HX.out]
    simp [go_sem]
end Go.Proofs.YtkejdmdldhlkgaaDoor

/- integer: Bits. -/
namespace Go.Proofs.YtkejdmdldhlkgaaDoor
open Num
open Go.ChangeShapes Go.WideShapes Go.ChangeAt Go.RowKit
set_option maxRecDepth 100000 in
set_option maxHeartbeats 1000000 in
theorem bits_c (vx : Value) (x : Int) (k : Nat) (w : World) (hx : IsInt w vx x) (bx : Bd k x) (hk : k ≤ 17179869184) :
    Calls Tryd.prog 28 #[vx] w fun e w' => e = .returned (.int .i64 (bitN x.natAbs)) ∧ Below w.heap.size w w' := by
  obtain ⟨n1, a1, c1, l1, rfl, u1, g1, s1, rfl⟩ := hx
  have k1 := bd_len g1 (sg_bd bx) hk
  have bc := fun w h => limbBits_c a1 c1 l1 w h (by omega)
  rw [sg_abs]
  clear bx g1 s1 k1
  generalize bitN (val l1) = z at *
  unfold iv
  have hB0 := Below.refl w.heap.size w
  go_enter Tryd.func28, Tryd.ntmps28
  go_wp2_with fail
  refine (bc _ (u1.keep belA)).mono ?_
  rintro e w1 ⟨rfl, rfl⟩
  clear bc
  go_wp2
  go_ret
  refine ⟨rfl, ?_⟩
  repeat (first | exact Below.refl _ _ | exact hB0 | refine Below.drew ?_ | refine below_drewN ?_ _ | refine bset ?_ (by simp <;> omega) _ | refine bal ?_ _)

end Go.Proofs.YtkejdmdldhlkgaaDoor

