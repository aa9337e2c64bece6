/- Texts of this seat, laid together: RefB, RefC, NumT, RefG, Out, RefD, Lims. Each opens with its own remark, which says what it proves, and under which conditions. -/
import Derived.Test.YthlphfjmdgcpdaaGreatDoorW02
import Derived.Deep.AppendLies
import Derived.Test.YthlphfjmdgcpdaaGreatDoorW01
set_option linter.unusedVariables false
set_option linter.unusedSimpArgs false
/- The reference's numbers: Of, Make. -/
namespace Go.Proofs.YthlphfjmdgcpdaaGreatDoor
open Num
open Go.ChangeShapes Go.WideShapes Go.ChangeAt Go.RowKit
set_option linter.unusedVariables false
set_option linter.unusedSimpArgs false
namespace NumR
theorem limbs_snoc {l : List Nat} {x : Nat} (h : Limbs l) (hx : x < BB) : Limbs (l ++ [x]) := by
  intro y hy
  rcases List.mem_append.1 hy with h1 | h1
  · exact h y h1
  · rw [List.mem_singleton.1 h1]; exact hx
theorem big {l : Nat} {u m : Nat} (hm : m < 18446744073709551616) (hu : 0 < u) (h : BB ^ l * u ≤ m) : l ≤ 3 := by
  apply Nat.le_of_not_lt
  intro h4
  have h1 : BB ^ 4 ≤ BB ^ l := Nat.pow_le_pow_right BB_pos (by omega)
  have h2 : BB ^ 4 = 18446744073709551616 := by unfold BB; rfl
  have h3 : BB ^ l * 1 ≤ BB ^ l * u := Nat.mul_le_mul_left _ (by omega)
  omega
end NumR
theorem w32 {x : Nat} (h : x < BB) : IntKind.u32.wrap (x : Int) = (x : Int) := by
  unfold BB at h
  simp only [IntKind.wrap, IntKind.bits, IntKind.signed]
  simp
  omega
theorem limbs_of_r {l : List Nat} (h : NumR.Limbs l) : Limbs l := fun x hx => by have := h x hx; unfold NumR.BB at this; unfold BB; omega

set_option maxRecDepth 100000 in
set_option maxHeartbeats 1000000 in
theorem rof_c (n : Int) (w : World) (h1 : -9223372036854775808 ≤ n) (h2 : n ≤ 9223372036854775807) :
    Calls Tryz.prog 60 #[.int .i64 n] w fun e w' => (∃ v, e = .returned v ∧ IsRef w' v n) ∧ Below w.heap.size w w' := by
  obtain ⟨i0, hi, hz0, hz1, hz2⟩ := info_parts info32
  obtain ⟨m, hm⟩ : ∃ m : Nat, m = n.natAbs := ⟨_, rfl⟩
  have hmB : m < 18446744073709551616 := by omega
  by_cases h0 : n < 0
  · have e1 : IntKind.u64.wrap (-IntKind.u64.wrap n) = (m : Int) := by
      simp only [IntKind.wrap, IntKind.bits, IntKind.signed]
      simp
      omega
    have HS := Lib.hid (show sg true m = n by simp [sg]; omega)
    clear hm
    go_enter Tryz.func60, Tryz.ntmps60
    go_wp2
    have hB := Below.refl w.heap.size w
    refine wp_name fun w0 hW0 => ?_
    have r0f : w0.frozen? ⟨w.heap.size, 0, none⟩ = false := by rw [hW0]; simp [go_sem, *]
    have r0 : w0.cell? ⟨w.heap.size, 0, none⟩ = some (.bool false) := by rw [hW0]; exact (by first | assumption | exact cell_new (by with_reducible first | rfl | (simp; done) | (simp; omega)) rfl | (repeat (first | assumption | exact cell_new (by with_reducible first | rfl | (simp; done) | (simp; omega)) rfl | refine cell_alloc ?_ _ | refine cell_drew ?_ | refine cell_drewN ?_ _ | refine cell_far ?_ (by simp) _ | (refine cell_far ?_ (by simp <;> omega) _))) | simp [go_sem, *])
    have zr0 := cell_lt r0
    have r1f : w0.frozen? ⟨w.heap.size, 1, none⟩ = false := by rw [hW0]; simp [go_sem, *]
    have r1 : w0.cell? ⟨w.heap.size, 1, none⟩ = some (.slice none 0 0) := by rw [hW0]; exact (by first | assumption | exact cell_new (by with_reducible first | rfl | (simp; done) | (simp; omega)) rfl | (repeat (first | assumption | exact cell_new (by with_reducible first | rfl | (simp; done) | (simp; omega)) rfl | refine cell_alloc ?_ _ | refine cell_drew ?_ | refine cell_drewN ?_ _ | refine cell_far ?_ (by simp) _ | (refine cell_far ?_ (by simp <;> omega) _))) | simp [go_sem, *])
    have hB : Below w.heap.size w w0 := by rw [hW0]; repeat (first | exact Below.refl _ _ | exact hB | refine Below.drew ?_ | refine below_drewN ?_ _ | refine bset ?_ (by simp <;> omega) _ | refine bal ?_ _)
    have hz : w.heap.size ≤ w0.heap.size := hB.size
    clear hW0
    go_loopw [3, 4] (fun x d wr => ∃ (u : Nat) (L : List Nat), x = .int .u64 u ∧ Own32 w0 wr d L ∧ NumR.Limbs L ∧ Hid (NumR.val L + NumR.BB ^ L.length * u = m)) (fun x _ _ => (intOf x).toNat)
    case atStart => exact ⟨m, [], rfl, Own32.nil (Below.refl _ _), (fun _ h => by cases h), Lib.hid (by simp [NumR.val])⟩
    case round =>
      obtain ⟨u, L, rfl, hO, hL, hV⟩ := hrel
      by_cases hu : 0 < u
      · have hl := NumR.big hmB hu (Nat.le_trans (Nat.le_add_left _ _) (Nat.le_of_eq hV.out))
        have hum : u ≤ m := by
          have h1 := hV.out
          have h2 : 1 * u ≤ NumR.BB ^ L.length * u := Nat.mul_le_mul_right _ (Nat.pow_pos NumR.BB_pos)
          omega
        obtain ⟨y, hy⟩ : ∃ y, y = u % 65536 := ⟨_, rfl⟩
        obtain ⟨z, hz⟩ : ∃ z, z = u / 65536 := ⟨_, rfl⟩
        have ey : (u : Int) % 65536 = (y : Int) := by omega
        have ez : (u : Int) / 65536 = (z : Int) := by omega
        have hyB : y < 65536 := by omega
        have hzu : z < u := by omega
        have ez2 := w64 (x := z) (by unfold BB; omega)
        have HU := Lib.hid (show y + 65536 * z = u by omega)
        clear hy hz
        go_wp2_with (at_builtin; refine app32 (X := [y]) rfl rfl hO rfl rfl ?_ ?_; (simp; omega); intro v' w1 hO1; clear hO)
        refine ⟨⟨z, L ++ [y], rfl, hO1, NumR.limbs_snoc hL hyB, Lib.hid ?_⟩, by simp [intOf] <;> omega⟩
        rw [← hV.out, ← HU.out, NumR.val_append, List.length_append, List.length_singleton, Nat.pow_succ]
        simp only [NumR.val, Nat.mul_add, Nat.mul_zero, Nat.add_zero, Nat.mul_assoc, Nat.add_assoc]
        rfl
      · obtain rfl : u = 0 := by omega
        have HV := Lib.hid (show NumR.val L = m by simpa using hV.out)
        clear hV
        obtain ⟨a1, c1, rfl, hU⟩ := hO.u32 (limbs_of_r hL)
        have hB1 := hO.2
        have r0f := bkeepf hB1 r0 r0f
        have r0 := bkeep hB1 r0
        have r1f := bkeepf hB1 r1 r1f
        have r1 := bkeep hB1 r1
        have hB := bthen hB hB1
        have hz := hB.size
        clear hO
        go_wp2_with fail
        refine (rnorm_c true a1 c1 L wr hU hL).mono ?_
        rintro e w2 ⟨⟨v, rfl, hi⟩, hb2⟩
        have r0f := bkeepf hb2 r0 r0f
        have r0 := bkeep hb2 r0
        have r1f := bkeepf hb2 r1 r1f
        have r1 := bkeep hb2 r1
        have hB := bthen hB hb2
        have hz := hB.size
        rw [HV.out, HS.out] at hi
        have HI2 := Lib.hid (hi.put2 r0 r1)
        obtain ⟨n2, a2, c2, l2, rfl, _, _, _, _, _⟩ := hi
        unfold iv at *
        go_wp2
        refine bodyPost_ret (v := .agg #[.bool n2, .slice a2 l2.length c2]) (by simp [results, Tryz.results60, go_sem, *]) rfl ⟨⟨_, rfl, HI2.out _ _⟩, ?_⟩
        repeat (first | exact Below.refl _ _ | exact hB | refine Below.drew ?_ | refine below_drewN ?_ _ | refine bset ?_ (by simp <;> omega) _ | refine bal ?_ _)
  · obtain rfl : n = m := by omega
    have HS := Lib.hid (show sg false m = m by simp [sg])
    clear hm
    go_enter Tryz.func60, Tryz.ntmps60
    go_wp2
    have hB := Below.refl w.heap.size w
    refine wp_name fun w0 hW0 => ?_
    have r0f : w0.frozen? ⟨w.heap.size, 0, none⟩ = false := by rw [hW0]; simp [go_sem, *]
    have r0 : w0.cell? ⟨w.heap.size, 0, none⟩ = some (.bool false) := by rw [hW0]; exact (by first | assumption | exact cell_new (by with_reducible first | rfl | (simp; done) | (simp; omega)) rfl | (repeat (first | assumption | exact cell_new (by with_reducible first | rfl | (simp; done) | (simp; omega)) rfl | refine cell_alloc ?_ _ | refine cell_drew ?_ | refine cell_drewN ?_ _ | refine cell_far ?_ (by simp) _ | (refine cell_far ?_ (by simp <;> omega) _))) | simp [go_sem, *])
    have zr0 := cell_lt r0
    have r1f : w0.frozen? ⟨w.heap.size, 1, none⟩ = false := by rw [hW0]; simp [go_sem, *]
    have r1 : w0.cell? ⟨w.heap.size, 1, none⟩ = some (.slice none 0 0) := by rw [hW0]; exact (by first | assumption | exact cell_new (by with_reducible first | rfl | (simp; done) | (simp; omega)) rfl | (repeat (first | assumption | exact cell_new (by with_reducible first | rfl | (simp; done) | (simp; omega)) rfl | refine cell_alloc ?_ _ | refine cell_drew ?_ | refine cell_drewN ?_ _ | refine cell_far ?_ (by simp) _ | (refine cell_far ?_ (by simp <;> omega) _))) | simp [go_sem, *])
    have hB : Below w.heap.size w w0 := by rw [hW0]; repeat (first | exact Below.refl _ _ | exact hB | refine Below.drew ?_ | refine below_drewN ?_ _ | refine bset ?_ (by simp <;> omega) _ | refine bal ?_ _)
    have hz : w.heap.size ≤ w0.heap.size := hB.size
    clear hW0
    go_loopw [3, 4] (fun x d wr => ∃ (u : Nat) (L : List Nat), x = .int .u64 u ∧ Own32 w0 wr d L ∧ NumR.Limbs L ∧ Hid (NumR.val L + NumR.BB ^ L.length * u = m)) (fun x _ _ => (intOf x).toNat)
    case atStart => exact ⟨m, [], rfl, Own32.nil (Below.refl _ _), (fun _ h => by cases h), Lib.hid (by simp [NumR.val])⟩
    case round =>
      obtain ⟨u, L, rfl, hO, hL, hV⟩ := hrel
      by_cases hu : 0 < u
      · have hl := NumR.big hmB hu (Nat.le_trans (Nat.le_add_left _ _) (Nat.le_of_eq hV.out))
        have hum : u ≤ m := by
          have h1 := hV.out
          have h2 : 1 * u ≤ NumR.BB ^ L.length * u := Nat.mul_le_mul_right _ (Nat.pow_pos NumR.BB_pos)
          omega
        obtain ⟨y, hy⟩ : ∃ y, y = u % 65536 := ⟨_, rfl⟩
        obtain ⟨z, hz⟩ : ∃ z, z = u / 65536 := ⟨_, rfl⟩
        have ey : (u : Int) % 65536 = (y : Int) := by omega
        have ez : (u : Int) / 65536 = (z : Int) := by omega
        have hyB : y < 65536 := by omega
        have hzu : z < u := by omega
        have ez2 := w64 (x := z) (by unfold BB; omega)
        have HU := Lib.hid (show y + 65536 * z = u by omega)
        clear hy hz
        go_wp2_with (at_builtin; refine app32 (X := [y]) rfl rfl hO rfl rfl ?_ ?_; (simp; omega); intro v' w1 hO1; clear hO)
        refine ⟨⟨z, L ++ [y], rfl, hO1, NumR.limbs_snoc hL hyB, Lib.hid ?_⟩, by simp [intOf] <;> omega⟩
        rw [← hV.out, ← HU.out, NumR.val_append, List.length_append, List.length_singleton, Nat.pow_succ]
        simp only [NumR.val, Nat.mul_add, Nat.mul_zero, Nat.add_zero, Nat.mul_assoc, Nat.add_assoc]
        rfl
      · obtain rfl : u = 0 := by omega
        have HV := Lib.hid (show NumR.val L = m by simpa using hV.out)
        clear hV
        obtain ⟨a1, c1, rfl, hU⟩ := hO.u32 (limbs_of_r hL)
        have hB1 := hO.2
        have r0f := bkeepf hB1 r0 r0f
        have r0 := bkeep hB1 r0
        have r1f := bkeepf hB1 r1 r1f
        have r1 := bkeep hB1 r1
        have hB := bthen hB hB1
        have hz := hB.size
        clear hO
        go_wp2_with fail
        refine (rnorm_c false a1 c1 L wr hU hL).mono ?_
        rintro e w2 ⟨⟨v, rfl, hi⟩, hb2⟩
        have r0f := bkeepf hb2 r0 r0f
        have r0 := bkeep hb2 r0
        have r1f := bkeepf hb2 r1 r1f
        have r1 := bkeep hb2 r1
        have hB := bthen hB hb2
        have hz := hB.size
        rw [HV.out, HS.out] at hi
        have HI2 := Lib.hid (hi.put2 r0 r1)
        obtain ⟨n2, a2, c2, l2, rfl, _, _, _, _, _⟩ := hi
        unfold iv at *
        go_wp2
        refine bodyPost_ret (v := .agg #[.bool n2, .slice a2 l2.length c2]) (by simp [results, Tryz.results60, go_sem, *]) rfl ⟨⟨_, rfl, HI2.out _ _⟩, ?_⟩
        repeat (first | exact Below.refl _ _ | exact hB | refine Below.drew ?_ | refine below_drewN ?_ _ | refine bset ?_ (by simp <;> omega) _ | refine bal ?_ _)
end Go.Proofs.YthlphfjmdgcpdaaGreatDoor

/- The reference's numbers: size, Sign, Cmp, Same. -/
namespace Go.Proofs.YthlphfjmdgcpdaaGreatDoor
open Num
open Go.ChangeShapes Go.WideShapes Go.ChangeAt Go.RowKit
set_option linter.unusedVariables false
set_option linter.unusedSimpArgs false

set_option maxRecDepth 100000 in
set_option maxHeartbeats 1000000 in
theorem rsize_c (a b : Option Addr) (ca cb : Nat) (L M : List Nat) (w : World) (ha : U32 w a ca L) (hb : U32 w b cb M) (hL : NumR.Limbs L) (hM : NumR.Limbs M) (na : Nrm L) (nb : Nrm M) :
    Calls Tryz.prog 142 #[.slice a L.length ca, .slice b M.length cb] w fun e w' => e = .returned (.int .i64 (cmpN (NumR.val L) (NumR.val M))) ∧ Below w.heap.size w w' := by
  obtain ⟨hLca, hLm, -, hLc⟩ := ha
  obtain ⟨hMcb, hMm, -, hMc⟩ := hb
  unfold maxLen at hLm hMm
  rcases Nat.lt_trichotomy L.length M.length with hlt | heq | hgt
  · have hne : ((L.length : Int) != (M.length : Int)) = true := by simp; omega
    go_enter Tryz.func142, Tryz.ntmps142
    go_wp2
    go_ret
    exact ⟨by rw [cmpN_lt (NumR.val_lt_of_len hL nb hlt)]; rfl, Below.refl _ _⟩
  · clear na nb
    have HQ := Lib.hid heq
    clear heq
    generalize hM' : M.length = n at *
    have HM := Lib.hid hM'
    clear hM'
    generalize hL' : L.length = n' at *
    obtain rfl : n' = n := HQ.out
    have HL := Lib.hid hL'
    clear hL' HQ
    have hne : ((n' : Int) != (n' : Int)) = false := by simp
    go_enter Tryz.func142, Tryz.ntmps142
    go_wp2
    go_loopw [5] (fun x wr => ∃ k : Nat, k ≤ n' ∧ x = .int .i64 ((k : Int) - 1) ∧ L.drop k = M.drop k ∧ Below w.heap.size w wr) (fun x _ => (intOf x + 1).toNat)
    case atStart =>
      refine ⟨n', Nat.le_refl _, rfl, ?_, Below.refl _ _⟩
      rw [List.drop_eq_nil_of_le (by have := HL.out; omega), List.drop_eq_nil_of_le (by have := HM.out; omega)]
    case round =>
      obtain ⟨k, hk, rfl, hd, hB⟩ := hrel
      have HD := Lib.hid hd
      clear hd
      cases k with
      | zero =>
        go_wp2
        go_ret
        have e : L = M := by simpa using HD.out
        exact ⟨by rw [cmpN_eq (by rw [e])]; rfl, hB⟩
      | succ j =>
        have hjL : j < L.length := by have := HL.out; omega
        have hjM : j < M.length := by have := HM.out; omega
        rcases hLc with rfl | ⟨ba, oa, rfl, hca⟩
        · simp at hjL
        rcases hMc with rfl | ⟨bb, ob, rfl, hcb⟩
        · simp at hjM
        have cj := bkeep hB (hca j (by omega))
        have dj := bkeep hB (hcb j (by omega))
        have HLt := Lib.hid (fun h => NumR.val_lt_of_top hjL hjM hL HD.out h)
        have HGt := Lib.hid (fun h => NumR.val_lt_of_top hjM hjL hM HD.out.symm h)
        have HEq := Lib.hid (fun h => NumR.drop_step hjL hjM HD.out h)
        have hjn : (j : Int) < (n' : Int) := by omega
        generalize L.getD j 0 = x at *
        generalize M.getD j 0 = y at *
        rcases Nat.lt_trichotomy x y with h1 | h1 | h1
        · have h1' : (x : Int) < (y : Int) := by omega
          go_wp2
          go_quiet (fail)
          go_wp2
          go_ret
          exact ⟨by rw [cmpN_lt (HLt.out h1)]; rfl, by repeat (first | exact hB | refine below_drewN ?_ _)⟩
        · subst h1
          go_wp2
          go_quiet (fail)
          go_wp2
          go_quiet (fail)
          go_wp2
          exact ⟨⟨j, by omega, rfl, HEq.out (by trivial), by repeat (first | exact hB | refine below_drewN ?_ _)⟩, by simp [intOf] <;> omega⟩
        · have h1' : ¬ ((x : Int) < (y : Int)) := by omega
          have h1'' : ((y : Int) < (x : Int)) := by omega
          go_wp2
          go_quiet (fail)
          go_wp2
          go_quiet (fail)
          go_wp2
          go_ret
          exact ⟨by rw [cmpN_gt (HGt.out h1)]; rfl, by repeat (first | exact hB | refine below_drewN ?_ _)⟩
  · have hne : ((L.length : Int) != (M.length : Int)) = true := by simp; omega
    have hc1 : ¬ (L.length < M.length) := by omega
    go_enter Tryz.func142, Tryz.ntmps142
    go_wp2
    go_ret
    exact ⟨by rw [cmpN_gt (NumR.val_lt_of_len hM na hgt)]; rfl, Below.refl _ _⟩

namespace Num
end Num

namespace Num
theorem cmpI_zero {x y : Int} : (cmpI x y == 0) = decide (x = y) := by
  unfold cmpI
  (repeat' split) <;> simp <;> omega
end Num
end Go.Proofs.YthlphfjmdgcpdaaGreatDoor

/- Plain: the reference's sums, differences, binary digits. -/
namespace Go.Proofs.YthlphfjmdgcpdaaGreatDoor.NumR
open Num (Nrm bitN bitN_half trimL)
theorem take_any (l : List Nat) (k : Nat) : val (l.take (k + 1)) = val (l.take k) + l.getD k 0 * BB ^ k := by
  by_cases h : k < l.length
  · exact val_take_succ h
  · rw [List.take_of_length_le (by omega), List.take_of_length_le (by omega)]; simp [show l.length ≤ k by omega]
theorem val_snoc (O : List Nat) (x : Nat) : val (O ++ [x]) = val O + x * BB ^ O.length := by rw [val_append]; simp [val, Nat.mul_comm]
theorem minus_step {O A B : List Nat} {i c r c' : Nat} (hO : O.length = i) (hr : r + (c + B.getD i 0) = A.getD i 0 + c' * BB) (h : val O + val (B.take i) = val (A.take i) + c * BB ^ i) :
    val (O ++ [r]) + val (B.take (i + 1)) = val (A.take (i + 1)) + c' * BB ^ (i + 1) := by
  rw [val_snoc, take_any, take_any, hO]
  have e := congrArg (· * BB ^ i) hr
  simp only [Nat.add_mul] at e
  have e2 : c' * BB * BB ^ i = c' * BB ^ (i + 1) := by rw [Nat.pow_succ]; ac_rfl
  omega
theorem minus_end {A B : List Nat} {V c : Nat} (hA : Limbs A) (hle : val B ≤ val A) (hlen : B.length ≤ A.length) (h : V + val (B.take A.length) = val (A.take A.length) + c * BB ^ A.length) (hV : V < BB ^ A.length) : V + val B = val A := by
  rw [List.take_of_length_le hlen, List.take_length] at h
  rcases Nat.eq_zero_or_pos c with rfl | hc
  · omega
  · have : 1 * BB ^ A.length ≤ c * BB ^ A.length := Nat.mul_le_mul hc (Nat.le_refl _)
    omega
theorem BB_pow (n : Nat) : BB ^ n = 2 ^ (16 * n) := by rw [Nat.pow_mul]; rfl
theorem bitN_snoc {l : List Nat} {x : Nat} (hl : Limbs l) (hx : x ≠ 0) : bitN (val (l ++ [x])) = 16 * l.length + bitN x := by
  have h1 := val_lt hl
  rw [val_append]
  simp only [val, Nat.mul_zero, Nat.add_zero]
  rw [BB_pow] at *
  have hp : 0 < 2 ^ (16 * l.length) := Nat.pow_pos (by omega)
  have h2 : 2 ^ (16 * l.length) * 1 ≤ 2 ^ (16 * l.length) * x := Nat.mul_le_mul_left _ (by omega)
  unfold bitN
  rw [if_neg (by omega), if_neg hx]
  have e : (val l + 2 ^ (16 * l.length) * x).log2 = 16 * l.length + x.log2 := by
    rw [Nat.log2_eq_iff (by omega)]
    have k1 := Nat.log2_self_le hx
    have k2 := @Nat.lt_log2_self x
    constructor
    · rw [Nat.pow_add]
      have := Nat.mul_le_mul_left (2 ^ (16 * l.length)) k1
      omega
    · rw [Nat.add_assoc, Nat.pow_add]
      have := Nat.mul_le_mul_left (2 ^ (16 * l.length)) (show x + 1 ≤ 2 ^ (x.log2 + 1) from k2)
      rw [Nat.mul_add] at this
      omega
  omega
theorem bitN_nrm {l : List Nat} {k : Nat} (hl : Limbs l) (hn : Nrm l) (hk : l.length = k + 1) : bitN (val l) = 16 * k + bitN (l.getD k 0) := by
  obtain ⟨m, x, rfl⟩ : ∃ m x, l = m ++ [x] := ⟨l.dropLast, l.getLast (by intro e; subst e; simp at hk), (List.dropLast_concat_getLast _).symm⟩
  simp at hk
  have hx := hn (by simp)
  simp at hx
  rw [bitN_snoc (fun y hy => hl y (by simp [hy])) hx, hk]
  congr 2
  simp [← hk]
theorem lt_bitN (v : Nat) : v < 2 ^ bitN v := by
  unfold bitN
  split
  · subst_vars; simp
  · exact Nat.lt_log2_self
theorem bitN_le {v n : Nat} (h : v < 2 ^ n) : bitN v ≤ n := by
  unfold bitN
  split
  · omega
  · rename_i h0
    have := Nat.log2_self_le h0
    have h2 : 2 ^ v.log2 < 2 ^ n := Nat.lt_of_le_of_lt this h
    have := (Nat.pow_lt_pow_iff_right (a := 2) (by omega)).1 h2
    omega
/-- a digit, out of the value -/
theorem getD_val {l : List Nat} (hl : Limbs l) (j : Nat) : l.getD j 0 = val l / BB ^ j % BB := by
  induction l generalizing j with
  | nil => simp [val]
  | cons x l ih =>
    have hx : x < BB := hl x (by simp)
    have hl' : Limbs l := fun y hy => hl y (by simp [hy])
    cases j with
    | zero => simp [val]; exact (Nat.mod_eq_of_lt hx).symm
    | succ j =>
      rw [List.getD_cons_succ, ih hl' j, val, Nat.pow_succ, Nat.mul_comm (BB ^ j), ← Nat.div_div_eq_div_mul]
      rw [Nat.add_mul_div_left _ _ BB_pos, Nat.div_eq_of_lt hx, Nat.zero_add]
/-- a binary digit -/
theorem bit_val {l : List Nat} (hl : Limbs l) (k : Nat) : l.getD (k / 16) 0 / 2 ^ (k % 16) % 2 = val l / 2 ^ k % 2 := by
  rw [getD_val hl, BB_pow]
  have e1 : 2 ^ k = 2 ^ (16 * (k / 16)) * 2 ^ (k % 16) := by rw [← Nat.pow_add]; congr 1; omega
  rw [e1, ← Nat.div_div_eq_div_mul]
  generalize val l / 2 ^ (16 * (k / 16)) = x
  have hk : k % 16 < 16 := Nat.mod_lt _ (by omega)
  generalize k % 16 = m at *
  have e2 : BB = 2 ^ m * (2 * 2 ^ (15 - m)) := by
    show (2 : Nat) ^ 16 = _
    rw [← Nat.mul_assoc, ← Nat.pow_succ, ← Nat.pow_add]; congr 1; omega
  rw [e2, Nat.mod_mul_right_div_self, Nat.mod_mul_right_mod]
/-- twice a number, one place -/
theorem twice_step {R R0 : List Nat} {i c t V : Nat} (hi : i < R.length) (he : R.getD i 0 = R0.getD i 0) (ht : t = c + 2 * R0.getD i 0)
    (h : val R + c * BB ^ i = V + val (R0.take i)) : val (R.set i (t % BB)) + t / BB * BB ^ (i + 1) = V + val (R0.take (i + 1)) := by
  have a1 := val_set (l := R) (k := i) (t % BB) hi
  rw [take_any, ← he]
  have e : t * BB ^ i = t / BB * BB ^ (i + 1) + t % BB * BB ^ i := by
    conv => lhs; rw [← Nat.div_add_mod t BB, Nat.add_mul]
    rw [Nat.pow_succ]; congr 1; ac_rfl
  have e2 : t * BB ^ i = c * BB ^ i + 2 * (R.getD i 0 * BB ^ i) := by rw [ht, he]; simp only [Nat.add_mul]; congr 1; ac_rfl
  omega
theorem nrm_of_val {l : List Nat} (hl : Limbs l) (h : l ≠ [] → BB ^ (l.length - 1) ≤ val l) : Nrm l := by
  intro hn e
  obtain ⟨m, x, rfl⟩ : ∃ m x, l = m ++ [x] := ⟨l.dropLast, l.getLast hn, (List.dropLast_concat_getLast _).symm⟩
  simp at e
  subst e
  have h1 := h hn
  have h2 := val_lt (l := m) (fun y hy => hl y (by simp [hy]))
  rw [val_snoc] at h1
  simp at h1
  omega
/-- a binary digit is put in -/
theorem or_val {l : List Nat} {k Q : Nat} (hl : Limbs l) (hv : val l = Q * 2 ^ (k + 1)) : l.getD (k / 16) 0 ||| 2 ^ (k % 16) = l.getD (k / 16) 0 + 2 ^ (k % 16) ∧ l.getD (k / 16) 0 + 2 ^ (k % 16) < BB := by
  have hk : k % 16 < 16 := Nat.mod_lt _ (by omega)
  have e1 : l.getD (k / 16) 0 = 2 ^ (k % 16 + 1) * (Q % 2 ^ (15 - k % 16)) := by
    rw [getD_val hl, hv, BB_pow]
    have e1 : 2 ^ (k + 1) = 2 ^ (16 * (k / 16)) * 2 ^ (k % 16 + 1) := by rw [← Nat.pow_add]; congr 1; omega
    rw [e1, show Q * (2 ^ (16 * (k / 16)) * 2 ^ (k % 16 + 1)) = 2 ^ (16 * (k / 16)) * (2 ^ (k % 16 + 1) * Q) by ac_rfl, Nat.mul_div_cancel_left _ (Nat.pow_pos (by omega))]
    have e2 : BB = 2 ^ (k % 16 + 1) * 2 ^ (15 - k % 16) := by
      show (2 : Nat) ^ 16 = _
      rw [← Nat.pow_add]; congr 1; omega
    rw [e2, Nat.mul_mod_mul_left]
  have e2 : BB = 2 ^ (k % 16 + 1) * 2 ^ (15 - k % 16) := by
    show (2 : Nat) ^ 16 = _
    rw [← Nat.pow_add]; congr 1; omega
  have hm : Q % 2 ^ (15 - k % 16) < 2 ^ (15 - k % 16) := Nat.mod_lt _ (Nat.pow_pos (by omega))
  have hlt : 2 ^ (k % 16) < 2 ^ (k % 16 + 1) := Nat.pow_lt_pow_right (by omega) (by omega)
  generalize Q % 2 ^ (15 - k % 16) = z at *
  rw [e1]
  refine ⟨(Nat.two_pow_add_eq_or_of_lt hlt z).symm, ?_⟩
  rw [e2]
  have := Nat.mul_le_mul_left (2 ^ (k % 16 + 1)) hm
  rw [Nat.mul_succ] at this
  omega
theorem set_bit {l : List Nat} {k : Nat} (hk : k / 16 < l.length) : val (l.set (k / 16) (l.getD (k / 16) 0 + 2 ^ (k % 16))) = val l + 2 ^ k := by
  have a1 := val_set (l := l) (k := k / 16) (l.getD (k / 16) 0 + 2 ^ (k % 16)) hk
  have e1 : 2 ^ k = 2 ^ (k % 16) * BB ^ (k / 16) := by rw [BB_pow, ← Nat.pow_add]; congr 1; omega
  rw [Nat.add_mul, ← e1] at a1
  omega
/-- long division, one binary digit -/
theorem half_step (A k : Nat) : A / 2 ^ k = 2 * (A / 2 ^ (k + 1)) + A / 2 ^ k % 2 := by
  rw [Nat.pow_succ, ← Nat.div_div_eq_div_mul]
  have := Nat.div_add_mod (A / 2 ^ k) 2
  omega
theorem bit_take {A k Q R D V b : Nat} (h : A / 2 ^ (k + 1) = Q * D + R) (hb : b = A / 2 ^ k % 2) (hv : V = Q * 2 ^ (k + 1)) :
    A / 2 ^ k = 2 * Q * D + (b + 2 * R) ∧ V = 2 * Q * 2 ^ k := by
  have h1 := half_step A k
  rw [h, ← hb] at h1
  refine ⟨?_, by rw [hv, Nat.pow_succ]; ac_rfl⟩
  rw [h1, Nat.mul_add]
  have : 2 * (Q * D) = 2 * Q * D := by ac_rfl
  omega
theorem bit_more {X Q D R V k : Nat} (h : X = 2 * Q * D + R) (hD : D ≤ R) (hv : V = 2 * Q * 2 ^ k) : X = (2 * Q + 1) * D + (R - D) ∧ V + 2 ^ k = (2 * Q + 1) * 2 ^ k := by
  rw [Nat.add_mul, Nat.add_mul]
  omega
/-- short division, one digit -/
theorem short_step {O A : List Nat} {j c rest : Nat} (hc : 0 < c) (hO : j < O.length) (h0 : O.getD j 0 = 0) (hA : j < A.length)
    (h : val O * c + rest * BB ^ (j + 1) + val (A.take (j + 1)) = val A) : val (O.set j ((rest * BB + A.getD j 0) / c)) * c + (rest * BB + A.getD j 0) % c * BB ^ j + val (A.take j) = val A := by
  have a1 := val_set (l := O) (k := j) ((rest * BB + A.getD j 0) / c) hO
  rw [h0] at a1
  rw [take_any] at h
  have e := Nat.div_add_mod (rest * BB + A.getD j 0) c
  generalize (rest * BB + A.getD j 0) / c = q at *
  generalize (rest * BB + A.getD j 0) % c = m at *
  have e1 : val (O.set j q) = val O + q * BB ^ j := by omega
  rw [e1, Nat.add_mul]
  have e2 : (c * q + m) * BB ^ j = rest * BB ^ (j + 1) + A.getD j 0 * BB ^ j := by
    rw [e, Nat.add_mul, Nat.pow_succ]; congr 1; ac_rfl
  rw [Nat.add_mul] at e2
  have e3 : q * BB ^ j * c = c * q * BB ^ j := by ac_rfl
  omega
theorem short_lt {rest x c : Nat} (hr : rest < c) (hx : x < BB) : (rest * BB + x) / c < BB := by
  rw [Nat.div_lt_iff_lt_mul (by omega)]
  have : (rest + 1) * BB ≤ c * BB := Nat.mul_le_mul hr (Nat.le_refl _)
  rw [Nat.add_mul] at this
  rw [Nat.mul_comm BB c]
  omega
end Go.Proofs.YthlphfjmdgcpdaaGreatDoor.NumR

/- The reference's numbers: plus, minus. -/
namespace Go.Proofs.YthlphfjmdgcpdaaGreatDoor
open Num
open Go.ChangeShapes Go.WideShapes Go.ChangeAt Go.RowKit
set_option linter.unusedVariables false
set_option linter.unusedSimpArgs false

set_option maxRecDepth 100000 in
set_option maxHeartbeats 4000000 in
theorem rminus_c (a b : Option Addr) (ca cb : Nat) (A B : List Nat) (w : World) (ha : U32 w a ca A) (hb : U32 w b cb B) (hA : NumR.Limbs A) (hB : NumR.Limbs B) (h1 : A.length ≤ 2147483650) (h2 : B.length ≤ A.length) (hle : NumR.val B ≤ NumR.val A) :
    Calls Tryz.prog 143 #[.slice a A.length ca, .slice b B.length cb] w fun e w' => (∃ v, e = .returned v ∧ ∃ O, Own32 w w' v O ∧ NumR.Limbs O ∧ O.length = A.length ∧ NumR.val O + NumR.val B = NumR.val A) := by
  have HLE := Lib.hid (And.intro hle h2)
  clear hle
  go_enter Tryz.func143, Tryz.ntmps143
  go_wp2
  go_loopw [5, 6, 7] (fun d cx x wr => ∃ (i c : Nat) (O : List Nat), i ≤ A.length ∧ x = .int .i64 i ∧ cx = .int .u32 c ∧ c ≤ 1 ∧ Own32 w wr d O ∧ NumR.Limbs O ∧ Hid (O.length = i) ∧ Hid (NumR.val O + NumR.val (B.take i) = NumR.val (A.take i) + c * NumR.BB ^ i)) (fun _ _ x _ => A.length - (intOf x).toNat)
  case atStart => exact ⟨0, 0, [], by omega, rfl, rfl, by omega, Own32.nil (Below.refl _ _), (fun _ h => by cases h), Lib.hid rfl, Lib.hid (by simp [NumR.val])⟩
  case round =>
    obtain ⟨i, c, O, hi, rfl, rfl, hc1, hO, hOL, hOl, hV⟩ := hrel
    have HS := Lib.hid (fun r c' hr => NumR.minus_step (O := O) (A := A) (B := B) (i := i) (c := c) (r := r) (c' := c') hOl.out hr hV.out)
    by_cases hia : i < A.length
    · have hiaz : (i : Int) < (A.length : Int) := by omega
      rcases ha.2.2.2 with hn | ⟨ba, oa, rfl, hca⟩
      · subst hn; simp at hia
      have c0 := bkeep hO.2 (hca i hia)
      have hx := NumR.limb_get hA i
      by_cases hib : i < B.length
      · have hibz : (i : Int) < (B.length : Int) := by omega
        rcases hb.2.2.2 with hn | ⟨bb, ob, rfl, hcb⟩
        · subst hn; simp at hib
        have d0 := bkeep hO.2 (hcb i hib)
        have hy := NumR.limb_get hB i
        generalize A.getD i 0 = x at *
        generalize B.getD i 0 = y at *
        have e1 : IntKind.u32.wrap ((c : Int) + (y : Int)) = (c : Int) + (y : Int) := by rw [← Int.natCast_add]; exact w32 (by unfold NumR.BB at *; unfold BB; omega)
        have hy' : y < 65536 := hy
        have hx' : x < 65536 := hx
        by_cases hlow : x < c + y
        · have HS2 := Lib.hid (HS.out (x + NumR.BB - (c + y)) 1 (by unfold NumR.BB at *; omega))
          have e3 : IntKind.u32.wrap ((x : Int) + 65536) = (x : Int) + 65536 := by rw [show (x : Int) + 65536 = ((x + 65536 : Nat) : Int) by omega]; exact w32 (by unfold NumR.BB at *; unfold BB; omega)
          have e4 : IntKind.u32.wrap ((x : Int) + 65536 - ((c : Int) + (y : Int))) = ((x + NumR.BB - (c + y) : Nat) : Int) := by rw [show (x : Int) + 65536 - ((c : Int) + (y : Int)) = ((x + NumR.BB - (c + y) : Nat) : Int) by unfold NumR.BB; omega]; exact w32 (by unfold NumR.BB at *; unfold BB; omega)
          have e5 : (x : Int) + 65536 - ((c : Int) + (y : Int)) = ((x + NumR.BB - (c + y) : Nat) : Int) := by unfold NumR.BB; omega
          have hlz : (x : Int) < (c : Int) + (y : Int) := by omega
          have hrB : x + NumR.BB - (c + y) < NumR.BB := by unfold NumR.BB at *; omega
          have hOm : O.length ≤ 2147483652 := by have := hOl.out; omega
          generalize x + NumR.BB - (c + y) = r at *
          have hr' : r < 65536 := hrB
          have e7 : (r : Int) % 4294967296 = (r : Int) := by omega
          clear HS
          go_wp2_with (at_builtin; refine app32 (X := [r]) rfl rfl hO rfl rfl ?_ ?_; (simp; omega); intro v' w1 hO1; clear hO)
          refine ⟨⟨i + 1, 1, O ++ [r], by omega, by go_num, rfl, by omega, hO1, NumR.limbs_snoc hOL hrB, Lib.hid (by simpa using hOl.out), HS2⟩, by simp [intOf] <;> omega⟩
        · have HS2 := Lib.hid (HS.out (x - (c + y)) 0 (by omega))
          have e4 : IntKind.u32.wrap ((x : Int) - ((c : Int) + (y : Int))) = ((x - (c + y) : Nat) : Int) := by rw [show (x : Int) - ((c : Int) + (y : Int)) = ((x - (c + y) : Nat) : Int) by omega]; exact w32 (by unfold NumR.BB at *; unfold BB; omega)
          have e5 : (x : Int) - ((c : Int) + (y : Int)) = ((x - (c + y) : Nat) : Int) := by omega
          have hlz : ¬ (x : Int) < (c : Int) + (y : Int) := by omega
          have hrB : x - (c + y) < NumR.BB := by unfold NumR.BB at *; omega
          have hOm : O.length ≤ 2147483652 := by have := hOl.out; omega
          generalize x - (c + y) = r at *
          have hr' : r < 65536 := hrB
          have e7 : (r : Int) % 4294967296 = (r : Int) := by omega
          clear HS
          go_wp2_with (at_builtin; refine app32 (X := [r]) rfl rfl hO rfl rfl ?_ ?_; (simp; omega); intro v' w1 hO1; clear hO)
          refine ⟨⟨i + 1, 0, O ++ [r], by omega, by go_num, rfl, by omega, hO1, NumR.limbs_snoc hOL hrB, Lib.hid (by simpa using hOl.out), HS2⟩, by simp [intOf] <;> omega⟩
      · have hibd : decide (i < B.length) = false := by simpa using hib
        have hy0 : B.getD i 0 = 0 := by simp [show B.length ≤ i by omega]
        rw [hy0, Nat.add_zero] at HS
        generalize A.getD i 0 = x at *
        have hx' : x < 65536 := hx
        by_cases hlow : x < c
        · have HS2 := Lib.hid (HS.out (x + NumR.BB - (c)) 1 (by unfold NumR.BB at *; omega))
          have e3 : IntKind.u32.wrap ((x : Int) + 65536) = (x : Int) + 65536 := by rw [show (x : Int) + 65536 = ((x + 65536 : Nat) : Int) by omega]; exact w32 (by unfold NumR.BB at *; unfold BB; omega)
          have e4 : IntKind.u32.wrap ((x : Int) + 65536 - ((c : Int))) = ((x + NumR.BB - (c) : Nat) : Int) := by rw [show (x : Int) + 65536 - ((c : Int)) = ((x + NumR.BB - (c) : Nat) : Int) by unfold NumR.BB; omega]; exact w32 (by unfold NumR.BB at *; unfold BB; omega)
          have e5 : (x : Int) + 65536 - ((c : Int)) = ((x + NumR.BB - (c) : Nat) : Int) := by unfold NumR.BB; omega
          have hlz : (x : Int) < (c : Int) := by omega
          have hrB : x + NumR.BB - (c) < NumR.BB := by unfold NumR.BB at *; omega
          have hOm : O.length ≤ 2147483652 := by have := hOl.out; omega
          generalize x + NumR.BB - (c) = r at *
          have hr' : r < 65536 := hrB
          have e7 : (r : Int) % 4294967296 = (r : Int) := by omega
          clear HS
          go_wp2_with (at_builtin; refine app32 (X := [r]) rfl rfl hO rfl rfl ?_ ?_; (simp; omega); intro v' w1 hO1; clear hO)
          refine ⟨⟨i + 1, 1, O ++ [r], by omega, by go_num, rfl, by omega, hO1, NumR.limbs_snoc hOL hrB, Lib.hid (by simpa using hOl.out), HS2⟩, by simp [intOf] <;> omega⟩
        · have HS2 := Lib.hid (HS.out (x - (c)) 0 (by omega))
          have e4 : IntKind.u32.wrap ((x : Int) - ((c : Int))) = ((x - (c) : Nat) : Int) := by rw [show (x : Int) - ((c : Int)) = ((x - (c) : Nat) : Int) by omega]; exact w32 (by unfold NumR.BB at *; unfold BB; omega)
          have e5 : (x : Int) - ((c : Int)) = ((x - (c) : Nat) : Int) := by omega
          have hlz : ¬ (x : Int) < (c : Int) := by omega
          have hrB : x - (c) < NumR.BB := by unfold NumR.BB at *; omega
          have hOm : O.length ≤ 2147483652 := by have := hOl.out; omega
          generalize x - (c) = r at *
          have hr' : r < 65536 := hrB
          have e7 : (r : Int) % 4294967296 = (r : Int) := by omega
          clear HS
          go_wp2_with (at_builtin; refine app32 (X := [r]) rfl rfl hO rfl rfl ?_ ?_; (simp; omega); intro v' w1 hO1; clear hO)
          refine ⟨⟨i + 1, 0, O ++ [r], by omega, by go_num, rfl, by omega, hO1, NumR.limbs_snoc hOL hrB, Lib.hid (by simpa using hOl.out), HS2⟩, by simp [intOf] <;> omega⟩
    · obtain rfl : i = A.length := by omega
      have HV := Lib.hid (NumR.minus_end hA HLE.out.1 HLE.out.2 hV.out (by have := NumR.val_lt hOL; rwa [hOl.out] at this))
      go_wp2
      go_ret
      exact ⟨_, rfl, O, hO, hOL, hOl.out, HV.out⟩
end Go.Proofs.YthlphfjmdgcpdaaGreatDoor

/- What a piece of code may have written: 'Out X w w'': of w's blocks those outside X are as they were. -/
namespace Go.Proofs.YthlphfjmdgcpdaaGreatDoor
open Num
open Go.ChangeShapes Go.WideShapes Go.ChangeAt Go.RowKit
structure Out (X : Nat → Prop) (w w' : World) : Prop where
  os : w'.os = w.os
  tape : w'.tape = w.tape
  output : w'.output = w.output
  size : w.heap.size ≤ w'.heap.size
  block : ∀ k, k < w.heap.size → ¬ X k → w'.heap[k]? = w.heap[k]?
section
variable {X Y : Nat → Prop} {a b c w w' : World}
theorem Out.refl (X : Nat → Prop) (w : World) : Out X w w := ⟨rfl, rfl, rfl, Nat.le_refl _, fun _ _ _ => rfl⟩
theorem Out.trans (h : Out X a b) (k : Out X b c) : Out X a c :=
  ⟨k.os.trans h.os, k.tape.trans h.tape, k.output.trans h.output, Nat.le_trans h.size k.size, fun i hi hx => (k.block i (Nat.lt_of_lt_of_le hi h.size) hx).trans (h.block i hi hx)⟩
theorem Out.mono (h : Out X a b) (k : ∀ i, i < a.heap.size → X i → Y i) : Out Y a b := ⟨h.os, h.tape, h.output, h.size, fun i hi hx => h.block i hi fun hi' => hx (k i hi hi')⟩
/-- what comes behind may write, besides, what is new -/
theorem Out.then (h : Out X a b) (k : Out Y b c) (hy : ∀ i, i < a.heap.size → Y i → X i) : Out X a c :=
  ⟨k.os.trans h.os, k.tape.trans h.tape, k.output.trans h.output, Nat.le_trans h.size k.size, fun i hi hx => (k.block i (Nat.lt_of_lt_of_le hi h.size) fun h' => hx (hy i hi h')).trans (h.block i hi hx)⟩
theorem Out.of_below (X : Nat → Prop) (h : Below a.heap.size a b) : Out X a b := ⟨h.os, h.tape, h.output, h.size, fun i hi _ => h.block i hi⟩
theorem Out.below (h : Out X a b) (k : Below b.heap.size b c) : Out X a c := h.trans (.of_below X k)
theorem Out.alloc (h : Out X a b) (o : Obj) : Out X a (b.alloc o) := h.below (bal (Below.refl _ _) o)
theorem Out.drew (h : Out X a b) : Out X a b.drew := ⟨h.os, h.tape, h.output, h.size, h.block⟩
theorem Out.drewN (h : Out X a b) (n : Nat) : Out X a (b.drewN n) := h.below (below_drewN (Below.refl _ _) n)
theorem Out.set (h : Out X a b) {p : Addr} (hp : p.block < a.heap.size → X p.block) (u : Value) : Out X a (b.setCell p u) :=
  ⟨h.os, h.tape, h.output, Nat.le_trans h.size (by simp [World.setCell]), fun k hk hx => (Below.heap_setCell _ _ _ _ fun e => hx (by subst e; exact hp hk)).trans (h.block k hk hx)⟩
theorem Out.grown (h : Out X a b) {row : Option Nat} (hg : b.grownBy c row) (hr : ∀ k, row = some k → k < a.heap.size → X k) : Out X a c :=
  ⟨hg.os.trans h.os, hg.tape.trans h.tape, hg.output.trans h.output, Nat.le_trans h.size hg.size, fun k hk hx => (hg.block k (Nat.lt_of_lt_of_le hk h.size) fun e => hx (hr k e.symm hk)).trans (h.block k hk hx)⟩
/-- nothing that was there when a call began -/
theorem Out.to_below {B : Nat} (h : Out X a b) (hx : ∀ k, k < B → k < a.heap.size → ¬ X k) (hB : B ≤ a.heap.size) : Below B a b :=
  ⟨h.os, h.tape, h.output, h.size, fun k hk => h.block k (by omega) (hx k hk (by omega))⟩
theorem okeep (h : Out X a b) {q o : Nat} {s : Option Nat} {v : Value} (hc : a.cell? ⟨q, o, s⟩ = some v) (hx : ¬ X q) : b.cell? ⟨q, o, s⟩ = some v := by
  rw [World.cell?_of_block (w := a) (h.block q (cell_lt hc) hx)]; exact hc
theorem okeepf (h : Out X a b) {q o : Nat} {s : Option Nat} {v : Value} (hc : a.cell? ⟨q, o, s⟩ = some v) (hf : a.frozen? ⟨q, o, s⟩ = false) (hx : ¬ X q) : b.frozen? ⟨q, o, s⟩ = false := by
  rw [World.frozen?_of_block (w := a) (h.block q (cell_lt hc) hx)]; exact hf
theorem Out.blk (h : Out X a b) {g : Nat} {l : List Nat} (hb : Blk a g l) (hx : ¬ X g) : Blk b g l := (h.block g hb.lt hx).trans hb
/-- limbs stay where their block is not written -/
theorem C32.okeep {o : Option Addr} {l : List Nat} (h : C32 a o l) (k : Out X a b) (hx : ∀ q f, o = some ⟨q, f, none⟩ → ¬ X q) : C32 b o l := by
  rcases h with h | ⟨q, off, h1, h2⟩
  · exact .inl h
  · exact .inr ⟨q, off, h1, fun i hi => _root_.Go.Proofs.YthlphfjmdgcpdaaGreatDoor.okeep k (h2 i hi) (hx q off h1), by rw [typ_of_block (w := a) (k.block q (typ_lt h2.ty) (hx q off h1))]; exact h2.ty⟩
theorem U32.okeep {o : Option Addr} {cap : Nat} {l : List Nat} (h : U32 a o cap l) (k : Out X a b) (hx : ∀ q f, o = some ⟨q, f, none⟩ → ¬ X q) : U32 b o cap l := ⟨h.1, h.2.1, h.2.2.1, h.2.2.2.okeep k hx⟩
end
end Go.Proofs.YthlphfjmdgcpdaaGreatDoor

/- The reference's numbers: Mul. -/
namespace Go.Proofs.YthlphfjmdgcpdaaGreatDoor
open Num
open Go.ChangeShapes Go.WideShapes Go.ChangeAt Go.RowKit
set_option linter.unusedVariables false
set_option linter.unusedSimpArgs false
namespace NumR
theorem step_lt {x y o c : Nat} (hx : x < BB) (hy : y < BB) (ho : o < BB) (hc : c < BB) : c + o + x * y < BB * BB := by
  have h1 : x * y ≤ (BB - 1) * (BB - 1) := Nat.mul_le_mul (by omega) (by omega)
  have h2 : (BB - 1) * (BB - 1) + (BB - 1) + (BB - 1) + 1 = BB * BB := by unfold BB; rfl
  omega
end NumR
theorem rsg_bd {neg : Bool} {n k : Nat} (h : Bd k (sg neg n)) : n < 2 ^ k := by
  unfold Bd at h; rwa [sg_abs] at h
end Go.Proofs.YthlphfjmdgcpdaaGreatDoor

/- 'Lim w w'': no limb has turned. -/
namespace Go.Proofs.YthlphfjmdgcpdaaGreatDoor
open Num
open Go.ChangeShapes Go.WideShapes Go.ChangeAt Go.RowKit
set_option linter.unusedVariables false
set_option linter.unusedSimpArgs false
/-- every limb of w is there still -/
def Lim (w w' : World) : Prop := ∀ (b : Nat), typOf w b = some 121 → typOf w' b = some 121 ∧ ∀ (o : Nat) (n : Int), w.cell? ⟨b, o, none⟩ = some (.int .u32 n) → w'.cell? ⟨b, o, none⟩ = some (.int .u32 n)
section
variable {a b c w w' : World}
theorem Lim.refl (w : World) : Lim w w := fun _ h => ⟨h, fun _ _ h => h⟩
theorem Lim.trans (h : Lim a b) (k : Lim b c) : Lim a c := fun q ht => ⟨(k q (h q ht).1).1, fun o n hc => (k q (h q ht).1).2 o n ((h q ht).2 o n hc)⟩
theorem Lim.of_below (h : Below a.heap.size a b) : Lim a b := fun _ ht => ⟨typ_keep ht h, fun _ _ hc => bkeep h hc⟩
theorem Lim.below (h : Lim a b) (k : Below b.heap.size b c) : Lim a c := h.trans (.of_below k)
theorem Lim.alloc (h : Lim a b) (o : Obj) : Lim a (b.alloc o) := h.below (bal (Below.refl _ _) o)
theorem Lim.drew (h : Lim a b) : Lim a b.drew := h
theorem Lim.drewN (h : Lim a b) (n : Nat) : Lim a (b.drewN n) := h
/-- what is written is a row of another type -/
theorem Lim.grown {row : Option Nat} (h : Lim a b) (hg : b.grownBy c row) (hr : ∀ g, row = some g → typOf b g ≠ some 121) : Lim a c := h.trans fun q ht => by
  have e : c.heap[q]? = b.heap[q]? := hg.block q (typ_lt ht) fun e => hr q e.symm ht
  exact ⟨by rw [typ_of_block e]; exact ht, fun o n hc => by rw [World.cell?_of_block (w := b) e]; exact hc⟩
/-- a store into a cell that holds no limb -/
theorem Lim.put (h : Lim a b) {p : Addr} {v : Value} (hp : b.cell? p = some v) (hv : ∀ n, v ≠ .int .u32 n) (u : Value) : Lim a (b.setCell p u) := fun q ht => by
  refine ⟨by rw [typ_set]; exact (h q ht).1, fun o n hc => cell_far ((h q ht).2 o n hc) ?_ u⟩
  intro e
  rw [e, (h q ht).2 o n hc] at hp
  exact hv _ (Option.some.inj hp).symm
theorem Lim.bool (h : Lim a b) {p : Addr} {x : Bool} (hp : b.cell? p = some (.bool x)) (u : Value) : Lim a (b.setCell p u) := h.put hp (fun _ e => by cases e) u
theorem Lim.slice (h : Lim a b) {p : Addr} {x : Option Addr} {n m : Nat} (hp : b.cell? p = some (.slice x n m)) (u : Value) : Lim a (b.setCell p u) := h.put hp (fun _ e => by cases e) u
theorem C32.lim {o : Option Addr} {l : List Nat} (h : C32 a o l) (k : Lim a b) : C32 b o l := by
  rcases h with h | ⟨q, off, h1, h2⟩
  · exact .inl h
  · exact .inr ⟨q, off, h1, fun i hi => (k q h2.ty).2 _ _ (h2 i hi), (k q h2.ty).1⟩
theorem U32.lim {o : Option Addr} {cap : Nat} {l : List Nat} (h : U32 a o cap l) (k : Lim a b) : U32 b o cap l := ⟨h.1, h.2.1, h.2.2.1, h.2.2.2.lim k⟩
theorem IsInt.lim {v : Value} {z : Int} (h : IsInt a v z) (k : Lim a b) : IsInt b v z := by
  obtain ⟨neg, o, cap, l, h1, h2, h3⟩ := h
  exact ⟨neg, o, cap, l, h1, h2.lim k, h3⟩
theorem IsRef.lim {v : Value} {z : Int} (h : IsRef a v z) (k : Lim a b) : IsRef b v z := by
  obtain ⟨neg, o, cap, l, h1, h2, h3⟩ := h
  exact ⟨neg, o, cap, l, h1, h2.lim k, h3⟩
end
/-- what stays as long as no limb turns -/
def Lims (R : World → Value → Int → Prop) : Prop := ∀ w w' v z, R w v z → Lim w w' → R w' v z
theorem lims_int : Lims IsInt := fun _ _ _ _ h k => h.lim k
theorem lims_ref : Lims IsRef := fun _ _ _ _ h k => h.lim k
theorem own_typ {E : TypeId} {size n : Nat} {w0 wr : World} {v : Value} {xs : List Value} (h : OwnE E size w0 wr v n xs) {g : Nat} (hg : v.ownBlock = some g) : typOf wr g = some E := by
  rcases h.1.2 with ⟨rfl, _⟩ | ⟨g', c, cur, rfl, _, hh, _⟩
  · simp [Value.ownBlock] at hg
  · simp [Value.ownBlock] at hg
    subst hg
    unfold typOf; rw [hh]
end Go.Proofs.YthlphfjmdgcpdaaGreatDoor

