/- math/bits.Len32 (by the shelf's contract), limb: Bits. -/
import Derived.Test.YtefoljempkpmgaaLimbC
import Derived.Shelf.Small.Bits
namespace Go.Proofs.Ytefoljempkpmgaa
open Num
open Go.ChangeShapes Go.WideShapes Go.ChangeAt Go.RowKit
set_option linter.unusedVariables false
set_option linter.unusedSimpArgs false

def lensRen : Go.Shelf.Ren := ⟨fun | 128 => 60 | n => n, fun | 3 => 3 | 4 => 4 | 5 => 5 | 9 => 9 | 46 => 82 | 51 => 81 | n => n, fun n => n⟩
theorem lens : Go.Proofs.Lays.n128 Try.prog lensRen := {
  mixed := by kernel_rfl
  f128 := Try.func60.trans (congrArg some (by kernel_rfl))
  t3 := Try.underlying3, a3 := Try.isAgg3, z3 := Try.sizeOf3, v3 := Try.zeroValue3
  t4 := Try.underlying4, a4 := Try.isAgg4, z4 := Try.sizeOf4, v4 := Try.zeroValue4
  t5 := Try.underlying5, a5 := Try.isAgg5, z5 := Try.sizeOf5, v5 := Try.zeroValue5
  t9 := Try.underlying9, a9 := Try.isAgg9, z9 := Try.sizeOf9, v9 := Try.zeroValue9
  t46 := Try.underlying82, a46 := Try.isAgg82, z46 := Try.sizeOf82, v46 := Try.zeroValue82
  t51 := Try.underlying81, a51 := Try.isAgg81, z51 := Try.sizeOf81, v51 := Try.zeroValue81 }
theorem len32_c (x : Nat) (w : World) (h : x < BB) :
    Calls Try.prog 60 #[.int .u32 (x : Int)] w fun e w' => e = .returned (.int .i64 (Lib.bitLen x)) ∧ w = w' := by
  unfold BB at h
  have := Go.Proofs.Any.bits_Len32 lens (x : Int) w (by omega) (by omega)
  rw [Int.toNat_natCast] at this
  refine this.mono ?_
  rintro e w' ⟨rfl, rfl⟩
  exact ⟨rfl, rfl⟩

namespace Num
/-- how many binary digits -/
def bitN (v : Nat) : Nat := if v = 0 then 0 else v.log2 + 1
theorem bitN_half {x : Nat} (h : x ≠ 0) : bitN x = 1 + bitN (x / 2) := by
  unfold bitN
  rw [if_neg h, Nat.log2_def]
  by_cases h2 : 2 ≤ x
  · rw [if_pos h2, if_neg (by omega)]; omega
  · rw [if_neg h2, if_pos (by omega)]
theorem bitLen_eq (x : Nat) (h : x < 2 ^ 64) : Lib.bitLen x = bitN x := by
  induction x using Nat.strongRecOn with
  | ind x ih =>
    by_cases h0 : x = 0
    · subst h0; rfl
    · rw [Lib.bitLen_half x h0 h, bitN_half h0, ih (x / 2) (by omega) (by omega)]
theorem BB_pow (n : Nat) : BB ^ n = 2 ^ (32 * n) := by
  rw [Nat.pow_mul]; rfl
theorem bitN_snoc {l : List Nat} {x : Nat} (hl : Limbs l) (hx : x ≠ 0) : bitN (val (l ++ [x])) = 32 * l.length + bitN x := by
  have h1 := val_lt hl
  rw [val_append]
  simp only [val, Nat.mul_zero, Nat.add_zero]
  rw [BB_pow] at *
  have hp : 0 < 2 ^ (32 * l.length) := Nat.pow_pos (by omega)
  have h2 : 2 ^ (32 * l.length) * 1 ≤ 2 ^ (32 * l.length) * x := Nat.mul_le_mul_left _ (by omega)
  unfold bitN
  rw [if_neg (by omega), if_neg hx]
  have e : (val l + 2 ^ (32 * l.length) * x).log2 = 32 * l.length + x.log2 := by
    rw [Nat.log2_eq_iff (by omega)]
    have k1 := Nat.log2_self_le hx
    have k2 := @Nat.lt_log2_self x
    constructor
    · rw [Nat.pow_add]
      have := Nat.mul_le_mul_left (2 ^ (32 * l.length)) k1
      omega
    · rw [Nat.add_assoc, Nat.pow_add]
      have := Nat.mul_le_mul_left (2 ^ (32 * l.length)) (show x + 1 ≤ 2 ^ (x.log2 + 1) from k2)
      rw [Nat.mul_add] at this
      omega
  omega
theorem bitN_nrm {l : List Nat} {k : Nat} (hl : Limbs l) (hn : Nrm l) (hk : l.length = k + 1) : bitN (val l) = 32 * k + bitN (l.getD k 0) := by
  obtain ⟨m, x, rfl⟩ : ∃ m x, l = m ++ [x] := ⟨l.dropLast, l.getLast (by intro e; subst e; simp at hk), (List.dropLast_concat_getLast _).symm⟩
  simp at hk
  have hx := hn (by simp)
  simp at hx
  rw [bitN_snoc (fun y hy => hl y (by simp [hy])) hx, hk]
  congr 2
  simp [← hk]
theorem val_nil_iff {l : List Nat} (hn : Nrm l) : val l = 0 ↔ l = [] := by
  constructor
  · intro h
    by_cases h0 : l = []
    · exact h0
    · have := nrm_val_pos hn h0
      have : 0 < BB ^ (l.length - 1) := Nat.pow_pos BB_pos
      omega
  · rintro rfl; rfl
end Num

set_option maxHeartbeats 1000000 in
theorem limbBits_c (a : Option Addr) (ca : Nat) (l : List Nat) (w : World) (ha : U32 w a ca l) (h1 : l.length ≤ 1099511627776) :
    Calls Try.prog 56 #[.slice a l.length ca] w fun e w' => e = .returned (.int .i64 (bitN (val l))) ∧ w = w' := by
  have tca := trim_c a ca l w ha
  have ha2 := ha.trim
  have na := trim_nrm l
  have h2 := Nat.le_trans (trim_len l) h1
  rw [← val_trim l]
  generalize trimL l = L at *
  obtain ⟨_, hLm, hL, hLc⟩ := ha2
  cases hLl : L.length with
  | zero =>
    have hnil : L = [] := List.length_eq_zero_iff.1 hLl
    subst hnil
    have HV := Lib.hid (show bitN (val []) = 0 from rfl)
    generalize bitN (val []) = v at *
    go_enter Try.func56, Try.ntmps56
    go_wp2_with fail
    refine tca.mono ?_
    rintro e w1 ⟨rfl, rfl⟩
    clear tca
    go_wp2
    go_ret
    exact ⟨by rw [HV.out]; rfl, rfl⟩
  | succ k =>
    have HB := Lib.hid (bitN_nrm hL na hLl)
    rcases hLc with rfl | ⟨ba, oa, rfl, hca⟩
    · simp at hLl
    have cj := hca k (by omega)
    have hx := limb_get hL k
    have lc := fun w => len32_c (L.getD k 0) w hx
    generalize L.getD k 0 = x at *
    generalize bitN (val L) = v at *
    rw [hLl] at tca h2
    have hb1 : bitN x ≤ 32 := by
      rw [← bitLen_eq x (by unfold BB at hx; omega)]
      exact Lib.bitLen_le x 32 (by omega) (by unfold BB at hx; omega)
    have HX := Lib.hid (bitLen_eq x (by unfold BB at hx; omega))
    clear hL na
    clear hLl hca
    generalize Lib.bitLen x = y at *
    have hy : y ≤ 32 := by rw [HX.out]; exact hb1
    clear hb1
    go_enter Try.func56, Try.ntmps56
    go_wp2_with fail
    refine tca.mono ?_
    rintro e w1 ⟨rfl, rfl⟩
    clear tca
    go_wp2_with fail
    refine (lc _).mono ?_
    rintro e w1 ⟨rfl, rfl⟩
    clear lc
    go_wp2
    go_ret
    refine ⟨?_, rfl⟩
    rw [HB.out, ← HX.out]
    simp [go_sem]
end Go.Proofs.Ytefoljempkpmgaa
