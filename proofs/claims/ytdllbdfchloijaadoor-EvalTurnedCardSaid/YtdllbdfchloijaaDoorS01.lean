/- Texts of this seat, laid together (what the earlier ones leave out): NumB, Bel, Bed, Poly, NumT, LimbD, IntBits. Each opens with its own remark, which says what it proves, and under which conditions. -/
import Derived.Test.YtdllbdfchloijaaDoorR01
import Derived.Test.YtdllbdfchloijaaDoorR02
import Derived.Test.YtdllbdfchloijaaDoorR03
import Derived.Test.YtdllbdfchloijaaDoorR04
import Derived.Test.YtdllbdfchloijaaDoorR05
import Derived.Test.YtdllbdfchloijaaDoorR06
import Derived.Test.YtdllbdfchloijaaDoorR07
import Derived.Test.YtdllbdfchloijaaDoorR08
import Derived.Test.YtdllbdfchloijaaDoorR09
import Derived.Test.YtdllbdfchloijaaDoorR10
import Derived.Test.YtdllbdfchloijaaDoorR11
import Derived.Test.YtdllbdfchloijaaDoorR12
import Derived.Test.YtdllbdfchloijaaDoorR13
import Derived.Test.YtdllbdfchloijaaDoorR14
import Derived.Test.YtdllbdfchloijaaDoorR15
import Derived.Test.YtdllbdfchloijaaDoorR16
import Derived.Test.YtdllbdfchloijaaDoorR17
import Derived.Test.YtdllbdfchloijaaDoorR18
import Derived.Test.YtdllbdfchloijaaDoorR19
import Derived.Test.YtdllbdfchloijaaDoorR20
import Derived.Test.YtdllbdfchloijaaDoorR21
import Derived.Test.YtdllbdfchloijaaDoorR22
import Derived.Test.YtdllbdfchloijaaDoorR23
import Derived.WalkKit
import Derived.ProofKit
import Derived.OpenShut
import Derived.Deep.QuietTactic
import Derived.BigQuiet
import Derived.Outline
import Derived.Lib.Hide
import Derived.WalkSmall
import Derived.WalkSpells
import Derived.WalkLawsBesides
import Derived.Deep.RegionWith
import Derived.Deep.RegionHeld3
import Derived.Laws.CopyOwn
import Derived.Shelf.Small.Bits
import Derived.Laws.BitsAllLaws
import Derived.Shelf.Spec.TrailingZeros
import Derived.Shelf.Strings.Builder1
import Derived.Shelf.Strings.Trim
import Derived.Deep.Cut
import Derived.Deep.DeepCutAuto
import Derived.ArgAppend
import Derived.Deep.DeepFit
import Derived.Laws.AppendOwn
import Derived.Deep.AppendLies
import Derived.OneCell
import Derived.Shelf.Abstract
import Derived.Laws.EntriesVeiled
import Derived.Deep.DrawnRows
import Derived.Deep.RegionLaw
import Derived.Deep.LoopGhost
import Derived.RegionTactic
import Derived.ChangeAlike
import Derived.Laws.OwnMore
import Derived.Deep.Onto
import Derived.Laws.CopyRow
import Derived.Laws.Rows
import Derived.Laws.Tables
import Derived.Laws.IdiomStrings
import Derived.Laws.BytesArg
import Derived.RangeFuncNested
import Derived.RangeFuncBound
import Derived.RangeFuncCalls
import Derived.RangeFuncLeaves
import Derived.Shelf.RegionOpen
import Derived.OwnWalkIn
import Derived.TacticsInMore
import Derived.LoopNIn
import Derived.LoopIn
import Derived.Laws.RangeString
import Derived.Lib.OthersKept
import Derived.Maps.AppendAt
import Derived.StillTail
import Derived.Deep.Quiet
import Derived.StillTailTactics
import Derived.LaidLaws
import Derived.Lib.LaidTab
import Derived.Lib.SmallJoins
import Derived.Deep.Slices
import Derived.Deep.Matrix
import Derived.Deep.Fields
import Derived.ChangeSame
import Derived.DataShut
import Derived.SizedLaws
set_option linter.unusedVariables false
set_option linter.unusedSimpArgs false
namespace Go.Proofs.YtdllbdfchloijaaDoor
open Go.ChangeShapes Go.WideShapes Go.ChangeAt Go.RowKit
theorem belA {B : Nat} {a b : World} (h : Below B a b := by repeat (first | exact Below.refl _ _ | assumption | refine Below.drew ?_ | refine below_drewN ?_ _ | refine bset ?_ (by simp <;> omega) _ | refine bal ?_ _)) : Below B a b := h
end Go.Proofs.YtdllbdfchloijaaDoor
/- Plain laws: how many binary digits. -/
namespace Go.Proofs.YtdllbdfchloijaaDoor
open Num
namespace Num
theorem bitN_snoc {l : List Nat} {x : Nat} (hl : Limbs l) (hx : x ≠ 0) : bitN (val (l ++ [x])) = 32 * l.length + bitN x := by
  have h1 := val_lt hl
  rw [val_append]
  simp only [val, Nat.mul_zero, Nat.add_zero]
  rw [BB_pow] at *
  have hp : 0 < 2 ^ (32 * l.length) := Nat.pow_pos (by omega)
  have h2 : 2 ^ (32 * l.length) * 1 ≤ 2 ^ (32 * l.length) * x := Nat.mul_le_mul_left _ (by omega)
  unfold bitN
  rw [if_neg (by omega), if_neg hx]
  have e : (val l + 2 ^ (32 * l.length) * x).log2 = 32 * l.length + x.log2 := by
    rw [Nat.log2_eq_iff (by omega)]
    have k1 := Nat.log2_self_le hx
    have k2 := @Nat.lt_log2_self x
    constructor
    · rw [Nat.pow_add]
      have := Nat.mul_le_mul_left (2 ^ (32 * l.length)) k1
      omega
    · rw [Nat.add_assoc, Nat.pow_add]
      have := Nat.mul_le_mul_left (2 ^ (32 * l.length)) (show x + 1 ≤ 2 ^ (x.log2 + 1) from k2)
      rw [Nat.mul_add] at this
      omega
  omega
theorem bitN_nrm {l : List Nat} {k : Nat} (hl : Limbs l) (hn : Nrm l) (hk : l.length = k + 1) : bitN (val l) = 32 * k + bitN (l.getD k 0) := by
  obtain ⟨m, x, rfl⟩ : ∃ m x, l = m ++ [x] := ⟨l.dropLast, l.getLast (by intro e; subst e; simp at hk), (List.dropLast_concat_getLast _).symm⟩
  simp at hk
  have hx := hn (by simp)
  simp at hx
  rw [bitN_snoc (fun y hy => hl y (by simp [hy])) hx, hk]
  congr 2
  simp [← hk]
end Num
end Go.Proofs.YtdllbdfchloijaaDoor

/- Elimination without fractions, in plain Lean: the mirror of the program's, and what its numbers are: minors. -/
namespace Det
def swp (g : Nat → Nat → Int) (i k : Nat) : Nat → Nat → Int := fun r c => if r = i then g k c else if r = k then g i c else g r c
structure El where
  g : Nat → Nat → Int
  p : List Nat
  last : Int
  sign : Int
def elNew (g : Nat → Nat → Int) (k j : Nat) (last : Int) (r c : Nat) : Int := (g k j * g r c - g r j * g k c) / last
def elStep (n : Nat) (s : El) (j : Nat) : El :=
  if fr s.g j (n - s.p.length) s.p.length = n then s
  else
    { g := fun r c => if s.p.length < r then elNew (swp s.g (fr s.g j (n - s.p.length) s.p.length) s.p.length) s.p.length j s.last r c else swp s.g (fr s.g j (n - s.p.length) s.p.length) s.p.length r c
      p := s.p ++ [j]
      last := swp s.g (fr s.g j (n - s.p.length) s.p.length) s.p.length s.p.length j
      sign := if fr s.g j (n - s.p.length) s.p.length = s.p.length then s.sign else - s.sign }
def elR (n : Nat) (a : Nat → Nat → Int) : Nat → El
  | 0 => ⟨a, [], 1, 1⟩
  | t + 1 => elStep n (elR n a t) t
end Det

/- Elimination without fractions, in plain Lean: the determinant, the rank, of what is turned too. -/
namespace Det
def rk (n m : Nat) (a : Nat → Nat → Int) : Nat := (elR n a m).p.length
end Det

/- Values of coefficients at points, in plain Lean: of a product, of what is turned, of a point times a number. -/
namespace Det
theorem pf_turn {n i : Nat} (a b : Int) (hi : i < n) : pf b a n (n - 1 - i) = pf a b n i := by
  unfold pf
  rw [show n - 1 - (n - 1 - i) = i by omega, Int.mul_comm]
theorem hv_turn (n : Nat) (c : Nat → Int) (a b : Int) : hv n (fun i => c (n - 1 - i)) b a = hv n c a b := by
  unfold hv
  rw [is_rev]
  refine isum_congr fun i hi => ?_
  rw [pf_turn a b hi]
  show c (n - 1 - (n - 1 - i)) * _ = _
  rw [show n - 1 - (n - 1 - i) = i by omega]
theorem pf_times (a b t : Int) {n i : Nat} (hi : i < n) : pf (t * a) (t * b) n i = pf a b n i * t ^ (n - 1) := by
  unfold pf
  rw [Int.mul_pow, Int.mul_pow, show n - 1 = i + (n - 1 - i) by omega, Int.pow_add, show i + (n - 1 - i) - i = n - 1 - i by omega]
  grind
theorem hv_times (n : Nat) (c : Nat → Int) (a b t : Int) : hv n c (t * a) (t * b) = hv n c a b * t ^ (n - 1) := by
  unfold hv
  rw [← is_mulR]
  refine isum_congr fun i hi => ?_
  rw [pf_times a b t hi, Int.mul_assoc]
end Det

/- Plain: the reference's sums, differences, binary digits. -/
namespace Go.Proofs.YtdllbdfchloijaaDoor.NumR
open Num (Nrm bitN bitN_half trimL)
theorem bitN_snoc {l : List Nat} {x : Nat} (hl : Limbs l) (hx : x ≠ 0) : bitN (val (l ++ [x])) = 16 * l.length + bitN x := by
  have h1 := val_lt hl
  rw [val_append]
  simp only [val, Nat.mul_zero, Nat.add_zero]
  rw [BB_pow] at *
  have hp : 0 < 2 ^ (16 * l.length) := Nat.pow_pos (by omega)
  have h2 : 2 ^ (16 * l.length) * 1 ≤ 2 ^ (16 * l.length) * x := Nat.mul_le_mul_left _ (by omega)
  unfold bitN
  rw [if_neg (by omega), if_neg hx]
  have e : (val l + 2 ^ (16 * l.length) * x).log2 = 16 * l.length + x.log2 := by
    rw [Nat.log2_eq_iff (by omega)]
    have k1 := Nat.log2_self_le hx
    have k2 := @Nat.lt_log2_self x
    constructor
    · rw [Nat.pow_add]
      have := Nat.mul_le_mul_left (2 ^ (16 * l.length)) k1
      omega
    · rw [Nat.add_assoc, Nat.pow_add]
      have := Nat.mul_le_mul_left (2 ^ (16 * l.length)) (show x + 1 ≤ 2 ^ (x.log2 + 1) from k2)
      rw [Nat.mul_add] at this
      omega
  omega
theorem bitN_nrm {l : List Nat} {k : Nat} (hl : Limbs l) (hn : Nrm l) (hk : l.length = k + 1) : bitN (val l) = 16 * k + bitN (l.getD k 0) := by
  obtain ⟨m, x, rfl⟩ : ∃ m x, l = m ++ [x] := ⟨l.dropLast, l.getLast (by intro e; subst e; simp at hk), (List.dropLast_concat_getLast _).symm⟩
  simp at hk
  have hx := hn (by simp)
  simp at hx
  rw [bitN_snoc (fun y hy => hl y (by simp [hy])) hx, hk]
  congr 2
  simp [← hk]
end Go.Proofs.YtdllbdfchloijaaDoor.NumR

/- math/bits.Len32 (by the shelf's contract), limb: Bits. -/
namespace Go.Proofs.YtdllbdfchloijaaDoor
open Num
open Go.ChangeShapes Go.WideShapes Go.ChangeAt Go.RowKit

def lensRen : Go.Shelf.Ren := ⟨fun | 128 => 72 | n => n, fun | 3 => 3 | 4 => 4 | 5 => 5 | 9 => 9 | 46 => 84 | 51 => 83 | n => n, fun n => n⟩
theorem lens : Go.Proofs.Lays.n128 Tryd.prog lensRen := {
  mixed := by kernel_rfl
  f128 := Tryd.func72.trans (congrArg some (by kernel_rfl))
  t3 := Tryd.underlying3, a3 := Tryd.isAgg3, z3 := Tryd.sizeOf3, v3 := Tryd.zeroValue3
  t4 := Tryd.underlying4, a4 := Tryd.isAgg4, z4 := Tryd.sizeOf4, v4 := Tryd.zeroValue4
  t5 := Tryd.underlying5, a5 := Tryd.isAgg5, z5 := Tryd.sizeOf5, v5 := Tryd.zeroValue5
  t9 := Tryd.underlying9, a9 := Tryd.isAgg9, z9 := Tryd.sizeOf9, v9 := Tryd.zeroValue9
  t46 := Tryd.underlying84, a46 := Tryd.isAgg84, z46 := Tryd.sizeOf84, v46 := Tryd.zeroValue84
  t51 := Tryd.underlying83, a51 := Tryd.isAgg83, z51 := Tryd.sizeOf83, v51 := Tryd.zeroValue83 }
theorem len32_c (x : Nat) (w : World) (h : x < BB) :
    Calls Tryd.prog 72 #[.int .u32 (x : Int)] w fun e w' => e = .returned (.int .i64 (Lib.bitLen x)) ∧ w = w' := by
  unfold BB at h
  have := Go.Proofs.Any.bits_Len32 lens (x : Int) w (by omega) (by omega)
  rw [Int.toNat_natCast] at this
  refine this.mono ?_
  rintro e w' ⟨rfl, rfl⟩
  exact ⟨rfl, rfl⟩


set_option maxRecDepth 100000 in
set_option maxHeartbeats 1000000 in
theorem limbBits_c (a : Option Addr) (ca : Nat) (l : List Nat) (w : World) (ha : U32 w a ca l) (h1 : l.length ≤ 1099511627776) :
    Calls Tryd.prog 52 #[.slice a l.length ca] w fun e w' => e = .returned (.int .i64 (bitN (val l))) ∧ w = w' := by
  have tca := trim_c a ca l w ha
  have ha2 := ha.trim
  have na := trim_nrm l
  have h2 := Nat.le_trans (trim_len l) h1
  rw [← val_trim l]
  generalize trimL l = L at *
  obtain ⟨_, hLm, hL, hLc⟩ := ha2
  cases hLl : L.length with
  | zero =>
    have hnil : L = [] := List.length_eq_zero_iff.1 hLl
    subst hnil
    have HV := Lib.hid (show bitN (val []) = 0 from rfl)
    generalize bitN (val []) = v at *
    go_enter Tryd.func52, Tryd.ntmps52
    go_wp2_with fail
    refine tca.mono ?_
    rintro e w1 ⟨rfl, rfl⟩
    clear tca
    go_wp2
    go_ret
    exact ⟨by rw [HV.out]; rfl, rfl⟩
  | succ k =>
    have HB := Lib.hid (bitN_nrm hL na hLl)
    rcases hLc with rfl | ⟨ba, oa, rfl, hca⟩
    · simp at hLl
    have cj := hca k (by omega)
    have hx := limb_get hL k
    have lc := fun w => len32_c (L.getD k 0) w hx
    generalize L.getD k 0 = x at *
    generalize bitN (val L) = v at *
    rw [hLl] at tca h2
    have hb1 : bitN x ≤ 32 := by
      rw [← bitLen_eq x (by unfold BB at hx; omega)]
      exact Lib.bitLen_le x 32 (by omega) (by unfold BB at hx; omega)
    have HX := Lib.hid (bitLen_eq x (by unfold BB at hx; omega))
    clear hL na
    clear hLl hca
    generalize Lib.bitLen x = y at *
    have hy : y ≤ 32 := by rw [HX.out]; exact hb1
    clear hb1
    go_enter Tryd.func52, Tryd.ntmps52
    go_wp2_with fail
    refine tca.mono ?_
    rintro e w1 ⟨rfl, rfl⟩
    clear tca
    go_wp2_with fail
    refine (lc _).mono ?_
    rintro e w1 ⟨rfl, rfl⟩
    clear lc
    go_wp2
    go_ret
    refine ⟨?_, rfl⟩
    rw [HB.out, ← HX.out]
    simp [go_sem]
end Go.Proofs.YtdllbdfchloijaaDoor

/- integer: Bits. -/
namespace Go.Proofs.YtdllbdfchloijaaDoor
open Num
open Go.ChangeShapes Go.WideShapes Go.ChangeAt Go.RowKit
set_option maxRecDepth 100000 in
set_option maxHeartbeats 1000000 in
theorem bits_c (vx : Value) (x : Int) (k : Nat) (w : World) (hx : IsInt w vx x) (bx : Bd k x) (hk : k ≤ 17179869184) :
    Calls Tryd.prog 39 #[vx] w fun e w' => e = .returned (.int .i64 (bitN x.natAbs)) ∧ Below w.heap.size w w' := by
  obtain ⟨n1, a1, c1, l1, rfl, u1, g1, s1, rfl⟩ := hx
  have k1 := bd_len g1 (sg_bd bx) hk
  have bc := fun w h => limbBits_c a1 c1 l1 w h (by omega)
  rw [sg_abs]
  clear bx g1 s1 k1
  generalize bitN (val l1) = z at *
  unfold iv
  have hB0 := Below.refl w.heap.size w
  go_enter Tryd.func39, Tryd.ntmps39
  go_wp2_with fail
  refine (bc _ (u1.keep belA)).mono ?_
  rintro e w1 ⟨rfl, rfl⟩
  clear bc
  go_wp2
  go_ret
  refine ⟨rfl, ?_⟩
  repeat (first | exact Below.refl _ _ | exact hB0 | refine Below.drew ?_ | refine below_drewN ?_ _ | refine bset ?_ (by simp <;> omega) _ | refine bal ?_ _)

end Go.Proofs.YtdllbdfchloijaaDoor

