/- Texts of this seat, laid together: RefB, RefC. Each opens with its own remark, which says what it proves, and under which conditions. -/
import Derived.Test.YtdllbdfchloijaaGreatDoorE06
import Derived.Deep.AppendLies
set_option linter.unusedVariables false
set_option linter.unusedSimpArgs false
/- The reference's numbers: Of, Make. -/
namespace Go.Proofs.YtdllbdfchloijaaGreatDoor
open Num
open Go.ChangeShapes Go.WideShapes Go.ChangeAt Go.RowKit
set_option linter.unusedVariables false
set_option linter.unusedSimpArgs false
namespace NumR
theorem limbs_snoc {l : List Nat} {x : Nat} (h : Limbs l) (hx : x < BB) : Limbs (l ++ [x]) := by
  intro y hy
  rcases List.mem_append.1 hy with h1 | h1
  · exact h y h1
  · rw [List.mem_singleton.1 h1]; exact hx
theorem big {l : Nat} {u m : Nat} (hm : m < 18446744073709551616) (hu : 0 < u) (h : BB ^ l * u ≤ m) : l ≤ 3 := by
  apply Nat.le_of_not_lt
  intro h4
  have h1 : BB ^ 4 ≤ BB ^ l := Nat.pow_le_pow_right BB_pos (by omega)
  have h2 : BB ^ 4 = 18446744073709551616 := by unfold BB; rfl
  have h3 : BB ^ l * 1 ≤ BB ^ l * u := Nat.mul_le_mul_left _ (by omega)
  omega
end NumR
theorem w32 {x : Nat} (h : x < BB) : IntKind.u32.wrap (x : Int) = (x : Int) := by
  unfold BB at h
  simp only [IntKind.wrap, IntKind.bits, IntKind.signed]
  simp
  omega
theorem limbs_of_r {l : List Nat} (h : NumR.Limbs l) : Limbs l := fun x hx => by have := h x hx; unfold NumR.BB at this; unfold BB; omega

set_option maxRecDepth 100000 in
set_option maxHeartbeats 1000000 in
theorem rof_c (n : Int) (w : World) (h1 : -9223372036854775808 ≤ n) (h2 : n ≤ 9223372036854775807) :
    Calls Tryz.prog 54 #[.int .i64 n] w fun e w' => (∃ v, e = .returned v ∧ IsRef w' v n) ∧ Below w.heap.size w w' := by
  obtain ⟨i0, hi, hz0, hz1, hz2⟩ := info_parts info32
  obtain ⟨m, hm⟩ : ∃ m : Nat, m = n.natAbs := ⟨_, rfl⟩
  have hmB : m < 18446744073709551616 := by omega
  by_cases h0 : n < 0
  · have e1 : IntKind.u64.wrap (-IntKind.u64.wrap n) = (m : Int) := by
      simp only [IntKind.wrap, IntKind.bits, IntKind.signed]
      simp
      omega
    have HS := Lib.hid (show sg true m = n by simp [sg]; omega)
    clear hm
    go_enter Tryz.func54, Tryz.ntmps54
    go_wp2
    have hB := Below.refl w.heap.size w
    refine wp_name fun w0 hW0 => ?_
    have r0f : w0.frozen? ⟨w.heap.size, 0, none⟩ = false := by rw [hW0]; simp [go_sem, *]
    have r0 : w0.cell? ⟨w.heap.size, 0, none⟩ = some (.bool false) := by rw [hW0]; exact (by first | assumption | exact cell_new (by with_reducible first | rfl | (simp; done) | (simp; omega)) rfl | (repeat (first | assumption | exact cell_new (by with_reducible first | rfl | (simp; done) | (simp; omega)) rfl | refine cell_alloc ?_ _ | refine cell_drew ?_ | refine cell_drewN ?_ _ | refine cell_far ?_ (by simp) _ | (refine cell_far ?_ (by simp <;> omega) _))) | simp [go_sem, *])
    have zr0 := cell_lt r0
    have r1f : w0.frozen? ⟨w.heap.size, 1, none⟩ = false := by rw [hW0]; simp [go_sem, *]
    have r1 : w0.cell? ⟨w.heap.size, 1, none⟩ = some (.slice none 0 0) := by rw [hW0]; exact (by first | assumption | exact cell_new (by with_reducible first | rfl | (simp; done) | (simp; omega)) rfl | (repeat (first | assumption | exact cell_new (by with_reducible first | rfl | (simp; done) | (simp; omega)) rfl | refine cell_alloc ?_ _ | refine cell_drew ?_ | refine cell_drewN ?_ _ | refine cell_far ?_ (by simp) _ | (refine cell_far ?_ (by simp <;> omega) _))) | simp [go_sem, *])
    have hB : Below w.heap.size w w0 := by rw [hW0]; repeat (first | exact Below.refl _ _ | exact hB | refine Below.drew ?_ | refine below_drewN ?_ _ | refine bset ?_ (by simp <;> omega) _ | refine bal ?_ _)
    have hz : w.heap.size ≤ w0.heap.size := hB.size
    clear hW0
    go_loopw [3, 4] (fun x d wr => ∃ (u : Nat) (L : List Nat), x = .int .u64 u ∧ Own32 w0 wr d L ∧ NumR.Limbs L ∧ Hid (NumR.val L + NumR.BB ^ L.length * u = m)) (fun x _ _ => (intOf x).toNat)
    case atStart => exact ⟨m, [], rfl, Own32.nil (Below.refl _ _), (fun _ h => by cases h), Lib.hid (by simp [NumR.val])⟩
    case round =>
      obtain ⟨u, L, rfl, hO, hL, hV⟩ := hrel
      by_cases hu : 0 < u
      · have hl := NumR.big hmB hu (Nat.le_trans (Nat.le_add_left _ _) (Nat.le_of_eq hV.out))
        have hum : u ≤ m := by
          have h1 := hV.out
          have h2 : 1 * u ≤ NumR.BB ^ L.length * u := Nat.mul_le_mul_right _ (Nat.pow_pos NumR.BB_pos)
          omega
        obtain ⟨y, hy⟩ : ∃ y, y = u % 65536 := ⟨_, rfl⟩
        obtain ⟨z, hz⟩ : ∃ z, z = u / 65536 := ⟨_, rfl⟩
        have ey : (u : Int) % 65536 = (y : Int) := by omega
        have ez : (u : Int) / 65536 = (z : Int) := by omega
        have hyB : y < 65536 := by omega
        have hzu : z < u := by omega
        have ez2 := w64 (x := z) (by unfold BB; omega)
        have HU := Lib.hid (show y + 65536 * z = u by omega)
        clear hy hz
        go_wp2_with (at_builtin; refine app32 (X := [y]) rfl rfl hO rfl rfl ?_ ?_; (simp; omega); intro v' w1 hO1; clear hO)
        refine ⟨⟨z, L ++ [y], rfl, hO1, NumR.limbs_snoc hL hyB, Lib.hid ?_⟩, by simp [intOf] <;> omega⟩
        rw [← hV.out, ← HU.out, NumR.val_append, List.length_append, List.length_singleton, Nat.pow_succ]
        simp only [NumR.val, Nat.mul_add, Nat.mul_zero, Nat.add_zero, Nat.mul_assoc, Nat.add_assoc]
        rfl
      · obtain rfl : u = 0 := by omega
        have HV := Lib.hid (show NumR.val L = m by simpa using hV.out)
        clear hV
        obtain ⟨a1, c1, rfl, hU⟩ := hO.u32 (limbs_of_r hL)
        have hB1 := hO.2
        have r0f := bkeepf hB1 r0 r0f
        have r0 := bkeep hB1 r0
        have r1f := bkeepf hB1 r1 r1f
        have r1 := bkeep hB1 r1
        have hB := bthen hB hB1
        have hz := hB.size
        clear hO
        go_wp2_with fail
        refine (rnorm_c true a1 c1 L wr hU hL).mono ?_
        rintro e w2 ⟨⟨v, rfl, hi⟩, hb2⟩
        have r0f := bkeepf hb2 r0 r0f
        have r0 := bkeep hb2 r0
        have r1f := bkeepf hb2 r1 r1f
        have r1 := bkeep hb2 r1
        have hB := bthen hB hb2
        have hz := hB.size
        rw [HV.out, HS.out] at hi
        have HI2 := Lib.hid (hi.put2 r0 r1)
        obtain ⟨n2, a2, c2, l2, rfl, _, _, _, _, _⟩ := hi
        unfold iv at *
        go_wp2
        refine bodyPost_ret (v := .agg #[.bool n2, .slice a2 l2.length c2]) (by simp [results, Tryz.results54, go_sem, *]) rfl ⟨⟨_, rfl, HI2.out _ _⟩, ?_⟩
        repeat (first | exact Below.refl _ _ | exact hB | refine Below.drew ?_ | refine below_drewN ?_ _ | refine bset ?_ (by simp <;> omega) _ | refine bal ?_ _)
  · obtain rfl : n = m := by omega
    have HS := Lib.hid (show sg false m = m by simp [sg])
    clear hm
    go_enter Tryz.func54, Tryz.ntmps54
    go_wp2
    have hB := Below.refl w.heap.size w
    refine wp_name fun w0 hW0 => ?_
    have r0f : w0.frozen? ⟨w.heap.size, 0, none⟩ = false := by rw [hW0]; simp [go_sem, *]
    have r0 : w0.cell? ⟨w.heap.size, 0, none⟩ = some (.bool false) := by rw [hW0]; exact (by first | assumption | exact cell_new (by with_reducible first | rfl | (simp; done) | (simp; omega)) rfl | (repeat (first | assumption | exact cell_new (by with_reducible first | rfl | (simp; done) | (simp; omega)) rfl | refine cell_alloc ?_ _ | refine cell_drew ?_ | refine cell_drewN ?_ _ | refine cell_far ?_ (by simp) _ | (refine cell_far ?_ (by simp <;> omega) _))) | simp [go_sem, *])
    have zr0 := cell_lt r0
    have r1f : w0.frozen? ⟨w.heap.size, 1, none⟩ = false := by rw [hW0]; simp [go_sem, *]
    have r1 : w0.cell? ⟨w.heap.size, 1, none⟩ = some (.slice none 0 0) := by rw [hW0]; exact (by first | assumption | exact cell_new (by with_reducible first | rfl | (simp; done) | (simp; omega)) rfl | (repeat (first | assumption | exact cell_new (by with_reducible first | rfl | (simp; done) | (simp; omega)) rfl | refine cell_alloc ?_ _ | refine cell_drew ?_ | refine cell_drewN ?_ _ | refine cell_far ?_ (by simp) _ | (refine cell_far ?_ (by simp <;> omega) _))) | simp [go_sem, *])
    have hB : Below w.heap.size w w0 := by rw [hW0]; repeat (first | exact Below.refl _ _ | exact hB | refine Below.drew ?_ | refine below_drewN ?_ _ | refine bset ?_ (by simp <;> omega) _ | refine bal ?_ _)
    have hz : w.heap.size ≤ w0.heap.size := hB.size
    clear hW0
    go_loopw [3, 4] (fun x d wr => ∃ (u : Nat) (L : List Nat), x = .int .u64 u ∧ Own32 w0 wr d L ∧ NumR.Limbs L ∧ Hid (NumR.val L + NumR.BB ^ L.length * u = m)) (fun x _ _ => (intOf x).toNat)
    case atStart => exact ⟨m, [], rfl, Own32.nil (Below.refl _ _), (fun _ h => by cases h), Lib.hid (by simp [NumR.val])⟩
    case round =>
      obtain ⟨u, L, rfl, hO, hL, hV⟩ := hrel
      by_cases hu : 0 < u
      · have hl := NumR.big hmB hu (Nat.le_trans (Nat.le_add_left _ _) (Nat.le_of_eq hV.out))
        have hum : u ≤ m := by
          have h1 := hV.out
          have h2 : 1 * u ≤ NumR.BB ^ L.length * u := Nat.mul_le_mul_right _ (Nat.pow_pos NumR.BB_pos)
          omega
        obtain ⟨y, hy⟩ : ∃ y, y = u % 65536 := ⟨_, rfl⟩
        obtain ⟨z, hz⟩ : ∃ z, z = u / 65536 := ⟨_, rfl⟩
        have ey : (u : Int) % 65536 = (y : Int) := by omega
        have ez : (u : Int) / 65536 = (z : Int) := by omega
        have hyB : y < 65536 := by omega
        have hzu : z < u := by omega
        have ez2 := w64 (x := z) (by unfold BB; omega)
        have HU := Lib.hid (show y + 65536 * z = u by omega)
        clear hy hz
        go_wp2_with (at_builtin; refine app32 (X := [y]) rfl rfl hO rfl rfl ?_ ?_; (simp; omega); intro v' w1 hO1; clear hO)
        refine ⟨⟨z, L ++ [y], rfl, hO1, NumR.limbs_snoc hL hyB, Lib.hid ?_⟩, by simp [intOf] <;> omega⟩
        rw [← hV.out, ← HU.out, NumR.val_append, List.length_append, List.length_singleton, Nat.pow_succ]
        simp only [NumR.val, Nat.mul_add, Nat.mul_zero, Nat.add_zero, Nat.mul_assoc, Nat.add_assoc]
        rfl
      · obtain rfl : u = 0 := by omega
        have HV := Lib.hid (show NumR.val L = m by simpa using hV.out)
        clear hV
        obtain ⟨a1, c1, rfl, hU⟩ := hO.u32 (limbs_of_r hL)
        have hB1 := hO.2
        have r0f := bkeepf hB1 r0 r0f
        have r0 := bkeep hB1 r0
        have r1f := bkeepf hB1 r1 r1f
        have r1 := bkeep hB1 r1
        have hB := bthen hB hB1
        have hz := hB.size
        clear hO
        go_wp2_with fail
        refine (rnorm_c false a1 c1 L wr hU hL).mono ?_
        rintro e w2 ⟨⟨v, rfl, hi⟩, hb2⟩
        have r0f := bkeepf hb2 r0 r0f
        have r0 := bkeep hb2 r0
        have r1f := bkeepf hb2 r1 r1f
        have r1 := bkeep hb2 r1
        have hB := bthen hB hb2
        have hz := hB.size
        rw [HV.out, HS.out] at hi
        have HI2 := Lib.hid (hi.put2 r0 r1)
        obtain ⟨n2, a2, c2, l2, rfl, _, _, _, _, _⟩ := hi
        unfold iv at *
        go_wp2
        refine bodyPost_ret (v := .agg #[.bool n2, .slice a2 l2.length c2]) (by simp [results, Tryz.results54, go_sem, *]) rfl ⟨⟨_, rfl, HI2.out _ _⟩, ?_⟩
        repeat (first | exact Below.refl _ _ | exact hB | refine Below.drew ?_ | refine below_drewN ?_ _ | refine bset ?_ (by simp <;> omega) _ | refine bal ?_ _)
end Go.Proofs.YtdllbdfchloijaaGreatDoor

/- The reference's numbers: size, Sign, Cmp, Same. -/
namespace Go.Proofs.YtdllbdfchloijaaGreatDoor
open Num
open Go.ChangeShapes Go.WideShapes Go.ChangeAt Go.RowKit
set_option linter.unusedVariables false
set_option linter.unusedSimpArgs false

set_option maxRecDepth 100000 in
set_option maxHeartbeats 1000000 in
theorem rsize_c (a b : Option Addr) (ca cb : Nat) (L M : List Nat) (w : World) (ha : U32 w a ca L) (hb : U32 w b cb M) (hL : NumR.Limbs L) (hM : NumR.Limbs M) (na : Nrm L) (nb : Nrm M) :
    Calls Tryz.prog 92 #[.slice a L.length ca, .slice b M.length cb] w fun e w' => e = .returned (.int .i64 (cmpN (NumR.val L) (NumR.val M))) ∧ Below w.heap.size w w' := by
  obtain ⟨hLca, hLm, -, hLc⟩ := ha
  obtain ⟨hMcb, hMm, -, hMc⟩ := hb
  unfold maxLen at hLm hMm
  rcases Nat.lt_trichotomy L.length M.length with hlt | heq | hgt
  · have hne : ((L.length : Int) != (M.length : Int)) = true := by simp; omega
    go_enter Tryz.func92, Tryz.ntmps92
    go_wp2
    go_ret
    exact ⟨by rw [cmpN_lt (NumR.val_lt_of_len hL nb hlt)]; rfl, Below.refl _ _⟩
  · clear na nb
    have HQ := Lib.hid heq
    clear heq
    generalize hM' : M.length = n at *
    have HM := Lib.hid hM'
    clear hM'
    generalize hL' : L.length = n' at *
    obtain rfl : n' = n := HQ.out
    have HL := Lib.hid hL'
    clear hL' HQ
    have hne : ((n' : Int) != (n' : Int)) = false := by simp
    go_enter Tryz.func92, Tryz.ntmps92
    go_wp2
    go_loopw [5] (fun x wr => ∃ k : Nat, k ≤ n' ∧ x = .int .i64 ((k : Int) - 1) ∧ L.drop k = M.drop k ∧ Below w.heap.size w wr) (fun x _ => (intOf x + 1).toNat)
    case atStart =>
      refine ⟨n', Nat.le_refl _, rfl, ?_, Below.refl _ _⟩
      rw [List.drop_eq_nil_of_le (by have := HL.out; omega), List.drop_eq_nil_of_le (by have := HM.out; omega)]
    case round =>
      obtain ⟨k, hk, rfl, hd, hB⟩ := hrel
      have HD := Lib.hid hd
      clear hd
      cases k with
      | zero =>
        go_wp2
        go_ret
        have e : L = M := by simpa using HD.out
        exact ⟨by rw [cmpN_eq (by rw [e])]; rfl, hB⟩
      | succ j =>
        have hjL : j < L.length := by have := HL.out; omega
        have hjM : j < M.length := by have := HM.out; omega
        rcases hLc with rfl | ⟨ba, oa, rfl, hca⟩
        · simp at hjL
        rcases hMc with rfl | ⟨bb, ob, rfl, hcb⟩
        · simp at hjM
        have cj := bkeep hB (hca j (by omega))
        have dj := bkeep hB (hcb j (by omega))
        have HLt := Lib.hid (fun h => NumR.val_lt_of_top hjL hjM hL HD.out h)
        have HGt := Lib.hid (fun h => NumR.val_lt_of_top hjM hjL hM HD.out.symm h)
        have HEq := Lib.hid (fun h => NumR.drop_step hjL hjM HD.out h)
        have hjn : (j : Int) < (n' : Int) := by omega
        generalize L.getD j 0 = x at *
        generalize M.getD j 0 = y at *
        rcases Nat.lt_trichotomy x y with h1 | h1 | h1
        · have h1' : (x : Int) < (y : Int) := by omega
          go_wp2
          go_quiet (fail)
          go_wp2
          go_ret
          exact ⟨by rw [cmpN_lt (HLt.out h1)]; rfl, by repeat (first | exact hB | refine below_drewN ?_ _)⟩
        · subst h1
          go_wp2
          go_quiet (fail)
          go_wp2
          go_quiet (fail)
          go_wp2
          exact ⟨⟨j, by omega, rfl, HEq.out (by trivial), by repeat (first | exact hB | refine below_drewN ?_ _)⟩, by simp [intOf] <;> omega⟩
        · have h1' : ¬ ((x : Int) < (y : Int)) := by omega
          have h1'' : ((y : Int) < (x : Int)) := by omega
          go_wp2
          go_quiet (fail)
          go_wp2
          go_quiet (fail)
          go_wp2
          go_ret
          exact ⟨by rw [cmpN_gt (HGt.out h1)]; rfl, by repeat (first | exact hB | refine below_drewN ?_ _)⟩
  · have hne : ((L.length : Int) != (M.length : Int)) = true := by simp; omega
    have hc1 : ¬ (L.length < M.length) := by omega
    go_enter Tryz.func92, Tryz.ntmps92
    go_wp2
    go_ret
    exact ⟨by rw [cmpN_gt (NumR.val_lt_of_len hM na hgt)]; rfl, Below.refl _ _⟩

theorem rsg_sign {neg : Bool} {l : List Nat} (hn : Nrm l) (hs : neg = true → l ≠ []) : (sg neg (NumR.val l)).sign = if l.length = 0 then 0 else if neg then -1 else 1 := by
  by_cases h0 : l = []
  · subst h0; cases neg <;> simp [sg, NumR.val]
  · have h1 : 0 < NumR.val l := Nat.pos_of_ne_zero (fun e => h0 ((NumR.val_nil_iff hn).1 e))
    have h2 : l.length ≠ 0 := by simpa using h0
    rw [if_neg h2]
    cases neg with
    | true => simp only [sg, if_true]; rw [Int.sign_neg, Int.sign_eq_one_of_pos (by omega)]
    | false => simp only [sg]; exact Int.sign_eq_one_of_pos (by simp; omega)

/-- the sign, by a number's parts -/
def sgV (n : Bool) (k : Nat) : Int := if k = 0 then 0 else if n then -1 else 1
theorem sgV_neg {n : Bool} {k : Nat} (h : sgV n k < 0) : n = true := by
  cases n with
  | true => rfl
  | false => exfalso; revert h; unfold sgV; split <;> simp
set_option maxRecDepth 100000 in
set_option maxHeartbeats 1000000 in
theorem rsignV_c (n1 : Bool) (a1 : Option Addr) (k c1 : Nat) (w : World) :
    Calls Tryz.prog 119 #[.agg #[.bool n1, .slice a1 k c1]] w fun e w' => e = .returned (.int .i64 (sgV n1 k)) ∧ Below w.heap.size w w' := by
  have hB0 := Below.refl w.heap.size w
  have HS := Lib.hid (show sgV n1 k = sgV n1 k from rfl)
  cases k with
  | zero =>
    go_enter Tryz.func119, Tryz.ntmps119
    go_wp2
    go_ret
    refine ⟨rfl, ?_⟩
    repeat (first | exact Below.refl _ _ | exact hB0 | refine Below.drew ?_ | refine below_drewN ?_ _ | refine bset ?_ (by simp <;> omega) _ | refine bal ?_ _)
  | succ k =>
    cases n1 with
    | true =>
      go_enter Tryz.func119, Tryz.ntmps119
      go_wp2
      go_ret
      refine ⟨rfl, ?_⟩
      repeat (first | exact Below.refl _ _ | exact hB0 | refine Below.drew ?_ | refine below_drewN ?_ _ | refine bset ?_ (by simp <;> omega) _ | refine bal ?_ _)
    | false =>
      go_enter Tryz.func119, Tryz.ntmps119
      go_wp2
      go_ret
      refine ⟨rfl, ?_⟩
      repeat (first | exact Below.refl _ _ | exact hB0 | refine Below.drew ?_ | refine below_drewN ?_ _ | refine bset ?_ (by simp <;> omega) _ | refine bal ?_ _)

namespace Num
theorem cmpI_sign_lt {x y : Int} (h : x.sign < y.sign) : cmpI x y = -1 := by
  unfold cmpI
  rw [if_pos]
  rcases Int.lt_trichotomy x 0 with h1 | h1 | h1 <;> rcases Int.lt_trichotomy y 0 with h2 | h2 | h2 <;>
    first
      | (rw [Int.sign_eq_neg_one_of_neg h1, Int.sign_eq_neg_one_of_neg h2] at h; omega)
      | (rw [Int.sign_eq_one_of_pos h1, Int.sign_eq_one_of_pos h2] at h; omega)
      | (rw [Int.sign_eq_one_of_pos h1, Int.sign_eq_neg_one_of_neg h2] at h; omega)
      | (subst h1; rw [Int.sign_eq_neg_one_of_neg h2] at h; simp at h; done)
      | (subst h2; rw [Int.sign_eq_one_of_pos h1] at h; simp at h; done)
      | (subst h1; subst h2; simp at h; done)
      | omega
theorem cmpI_swap (x y : Int) : cmpI x y = -cmpI y x := by
  unfold cmpI
  (repeat' split) <;> first | rfl | omega
theorem cmpI_sign_gt {x y : Int} (h : y.sign < x.sign) : cmpI x y = 1 := by
  rw [cmpI_swap, cmpI_sign_lt h]; rfl
end Num

set_option maxRecDepth 100000 in
set_option maxHeartbeats 2000000 in
theorem rcmp_c (vx vy : Value) (x y : Int) (w : World) (hx : IsRef w vx x) (hy : IsRef w vy y) :
    Calls Tryz.prog 77 #[vx, vy] w fun e w' => e = .returned (.int .i64 (cmpI x y)) ∧ Below w.heap.size w w' := by
  obtain ⟨n1, a1, c1, l1, rfl, u1, q1, g1, s1, hv1⟩ := hx
  obtain ⟨n2, a2, c2, l2, rfl, u2, q2, g2, s2, hv2⟩ := hy
  have hB := Below.refl w.heap.size w
  have e1 : sgV n1 l1.length = x.sign := by rw [hv1, rsg_sign g1 s1]; rfl
  have e2 : sgV n2 l2.length = y.sign := by rw [hv2, rsg_sign g2 s2]; rfl
  have sc1 : ∀ w, _ := fun w => rsignV_c n1 a1 l1.length c1 w
  have sc2 : ∀ w, _ := fun w => rsignV_c n2 a2 l2.length c2 w
  rw [e1] at sc1
  rw [e2] at sc2
  have HX := Lib.hid hv1
  have HY := Lib.hid hv2
  have HE1 := Lib.hid e1
  have HE2 := Lib.hid e2
  clear hv1 hv2 e1 e2
  unfold iv
  have hcase : x.sign < y.sign ∨ y.sign < x.sign ∨ x.sign = y.sign := by omega
  have hbx : -1 ≤ x.sign ∧ x.sign ≤ 1 := by
    rw [← HE1.out]; unfold sgV; (repeat' split) <;> omega
  rcases hcase with h | h | h
  · have HC := Lib.hid (cmpI_sign_lt h)
    have t1 : (x.sign != y.sign) = true := by simp; omega
    generalize x.sign = X at *
    generalize y.sign = Y at *
    go_enter Tryz.func77, Tryz.ntmps77
    go_wp2
    refine wp_name fun w0 hW0 => ?_
    have x0 : w0.cell? ⟨w.heap.size, 0, none⟩ = some (.bool n1) := by rw [hW0]; exact (by first | assumption | exact cell_new (by with_reducible first | rfl | (simp; done) | (simp; omega)) rfl | (repeat (first | assumption | exact cell_new (by with_reducible first | rfl | (simp; done) | (simp; omega)) rfl | refine cell_alloc ?_ _ | refine cell_drew ?_ | refine cell_drewN ?_ _ | refine cell_far ?_ (by simp) _ | (refine cell_far ?_ (by simp <;> omega) _))) | simp [go_sem, *])
    have zx0 := cell_lt x0
    have x1 : w0.cell? ⟨w.heap.size, 1, none⟩ = some (.slice a1 l1.length c1) := by rw [hW0]; exact (by first | assumption | exact cell_new (by with_reducible first | rfl | (simp; done) | (simp; omega)) rfl | (repeat (first | assumption | exact cell_new (by with_reducible first | rfl | (simp; done) | (simp; omega)) rfl | refine cell_alloc ?_ _ | refine cell_drew ?_ | refine cell_drewN ?_ _ | refine cell_far ?_ (by simp) _ | (refine cell_far ?_ (by simp <;> omega) _))) | simp [go_sem, *])
    have y0 : w0.cell? ⟨w.heap.size + 1, 0, none⟩ = some (.bool n2) := by rw [hW0]; exact (by first | assumption | exact cell_new (by with_reducible first | rfl | (simp; done) | (simp; omega)) rfl | (repeat (first | assumption | exact cell_new (by with_reducible first | rfl | (simp; done) | (simp; omega)) rfl | refine cell_alloc ?_ _ | refine cell_drew ?_ | refine cell_drewN ?_ _ | refine cell_far ?_ (by simp) _ | (refine cell_far ?_ (by simp <;> omega) _))) | simp [go_sem, *])
    have zy0 := cell_lt y0
    have y1 : w0.cell? ⟨w.heap.size + 1, 1, none⟩ = some (.slice a2 l2.length c2) := by rw [hW0]; exact (by first | assumption | exact cell_new (by with_reducible first | rfl | (simp; done) | (simp; omega)) rfl | (repeat (first | assumption | exact cell_new (by with_reducible first | rfl | (simp; done) | (simp; omega)) rfl | refine cell_alloc ?_ _ | refine cell_drew ?_ | refine cell_drewN ?_ _ | refine cell_far ?_ (by simp) _ | (refine cell_far ?_ (by simp <;> omega) _))) | simp [go_sem, *])
    have hB : Below w.heap.size w w0 := by rw [hW0]; repeat (first | exact Below.refl _ _ | exact hB | refine Below.drew ?_ | refine below_drewN ?_ _ | refine bset ?_ (by simp <;> omega) _ | refine bal ?_ _)
    have hz : w.heap.size ≤ w0.heap.size := hB.size
    clear hW0
    refine wp_region_grow (w := w0) (by kernel_rfl) (by kernel_rfl) ?_
    have x0g : ∀ gs, (grow w0 gs).cell? ⟨w.heap.size, 0, none⟩ = some (.bool n1) := fun gs => bkeep gs.below x0
    have x1g : ∀ gs, (grow w0 gs).cell? ⟨w.heap.size, 1, none⟩ = some (.slice a1 l1.length c1) := fun gs => bkeep gs.below x1
    have y0g : ∀ gs, (grow w0 gs).cell? ⟨w.heap.size + 1, 0, none⟩ = some (.bool n2) := fun gs => bkeep gs.below y0
    have y1g : ∀ gs, (grow w0 gs).cell? ⟨w.heap.size + 1, 1, none⟩ = some (.slice a2 l2.length c2) := fun gs => bkeep gs.below y1
    repeat (go_big_quiet_step (first | (go_at_call 119; with_reducible refine grow_of (sc1 _)) | (go_at_call 119; with_reducible refine grow_of (sc2 _))))
    refine wpQuiet_nil ?_
    intro w1 hb1
    clear x0g
    clear x1g
    clear y0g
    clear y1g
    have x0 : w1.cell? ⟨w.heap.size, 0, none⟩ = some (.bool n1) := bkc hb1
    have zx0 := cell_lt x0
    have x1 : w1.cell? ⟨w.heap.size, 1, none⟩ = some (.slice a1 l1.length c1) := bkc hb1
    have y0 : w1.cell? ⟨w.heap.size + 1, 0, none⟩ = some (.bool n2) := bkc hb1
    have zy0 := cell_lt y0
    have y1 : w1.cell? ⟨w.heap.size + 1, 1, none⟩ = some (.slice a2 l2.length c2) := bkc hb1
    have hB : Below w.heap.size w w1 := bthen (by repeat (first | exact Below.refl _ _ | exact hB | refine Below.drew ?_ | refine below_drewN ?_ _ | refine bset ?_ (by simp <;> omega) _ | refine bal ?_ _)) hb1
    have hz : w.heap.size ≤ w1.heap.size := hB.size
    go_wp2
    go_ret
    exact ⟨by rw [HC.out]; rfl, hB⟩
  · have HC := Lib.hid (cmpI_sign_gt h)
    have t1 : (x.sign != y.sign) = true := by simp; omega
    have t2 : ¬ x.sign < y.sign := by omega
    generalize x.sign = X at *
    generalize y.sign = Y at *
    go_enter Tryz.func77, Tryz.ntmps77
    go_wp2
    refine wp_name fun w0 hW0 => ?_
    have x0 : w0.cell? ⟨w.heap.size, 0, none⟩ = some (.bool n1) := by rw [hW0]; exact (by first | assumption | exact cell_new (by with_reducible first | rfl | (simp; done) | (simp; omega)) rfl | (repeat (first | assumption | exact cell_new (by with_reducible first | rfl | (simp; done) | (simp; omega)) rfl | refine cell_alloc ?_ _ | refine cell_drew ?_ | refine cell_drewN ?_ _ | refine cell_far ?_ (by simp) _ | (refine cell_far ?_ (by simp <;> omega) _))) | simp [go_sem, *])
    have zx0 := cell_lt x0
    have x1 : w0.cell? ⟨w.heap.size, 1, none⟩ = some (.slice a1 l1.length c1) := by rw [hW0]; exact (by first | assumption | exact cell_new (by with_reducible first | rfl | (simp; done) | (simp; omega)) rfl | (repeat (first | assumption | exact cell_new (by with_reducible first | rfl | (simp; done) | (simp; omega)) rfl | refine cell_alloc ?_ _ | refine cell_drew ?_ | refine cell_drewN ?_ _ | refine cell_far ?_ (by simp) _ | (refine cell_far ?_ (by simp <;> omega) _))) | simp [go_sem, *])
    have y0 : w0.cell? ⟨w.heap.size + 1, 0, none⟩ = some (.bool n2) := by rw [hW0]; exact (by first | assumption | exact cell_new (by with_reducible first | rfl | (simp; done) | (simp; omega)) rfl | (repeat (first | assumption | exact cell_new (by with_reducible first | rfl | (simp; done) | (simp; omega)) rfl | refine cell_alloc ?_ _ | refine cell_drew ?_ | refine cell_drewN ?_ _ | refine cell_far ?_ (by simp) _ | (refine cell_far ?_ (by simp <;> omega) _))) | simp [go_sem, *])
    have zy0 := cell_lt y0
    have y1 : w0.cell? ⟨w.heap.size + 1, 1, none⟩ = some (.slice a2 l2.length c2) := by rw [hW0]; exact (by first | assumption | exact cell_new (by with_reducible first | rfl | (simp; done) | (simp; omega)) rfl | (repeat (first | assumption | exact cell_new (by with_reducible first | rfl | (simp; done) | (simp; omega)) rfl | refine cell_alloc ?_ _ | refine cell_drew ?_ | refine cell_drewN ?_ _ | refine cell_far ?_ (by simp) _ | (refine cell_far ?_ (by simp <;> omega) _))) | simp [go_sem, *])
    have hB : Below w.heap.size w w0 := by rw [hW0]; repeat (first | exact Below.refl _ _ | exact hB | refine Below.drew ?_ | refine below_drewN ?_ _ | refine bset ?_ (by simp <;> omega) _ | refine bal ?_ _)
    have hz : w.heap.size ≤ w0.heap.size := hB.size
    clear hW0
    refine wp_region_grow (w := w0) (by kernel_rfl) (by kernel_rfl) ?_
    have x0g : ∀ gs, (grow w0 gs).cell? ⟨w.heap.size, 0, none⟩ = some (.bool n1) := fun gs => bkeep gs.below x0
    have x1g : ∀ gs, (grow w0 gs).cell? ⟨w.heap.size, 1, none⟩ = some (.slice a1 l1.length c1) := fun gs => bkeep gs.below x1
    have y0g : ∀ gs, (grow w0 gs).cell? ⟨w.heap.size + 1, 0, none⟩ = some (.bool n2) := fun gs => bkeep gs.below y0
    have y1g : ∀ gs, (grow w0 gs).cell? ⟨w.heap.size + 1, 1, none⟩ = some (.slice a2 l2.length c2) := fun gs => bkeep gs.below y1
    repeat (go_big_quiet_step (first | (go_at_call 119; with_reducible refine grow_of (sc1 _)) | (go_at_call 119; with_reducible refine grow_of (sc2 _))))
    refine wpQuiet_nil ?_
    intro w1 hb1
    clear x0g
    clear x1g
    clear y0g
    clear y1g
    have x0 : w1.cell? ⟨w.heap.size, 0, none⟩ = some (.bool n1) := bkc hb1
    have zx0 := cell_lt x0
    have x1 : w1.cell? ⟨w.heap.size, 1, none⟩ = some (.slice a1 l1.length c1) := bkc hb1
    have y0 : w1.cell? ⟨w.heap.size + 1, 0, none⟩ = some (.bool n2) := bkc hb1
    have zy0 := cell_lt y0
    have y1 : w1.cell? ⟨w.heap.size + 1, 1, none⟩ = some (.slice a2 l2.length c2) := bkc hb1
    have hB : Below w.heap.size w w1 := bthen (by repeat (first | exact Below.refl _ _ | exact hB | refine Below.drew ?_ | refine below_drewN ?_ _ | refine bset ?_ (by simp <;> omega) _ | refine bal ?_ _)) hb1
    have hz : w.heap.size ≤ w1.heap.size := hB.size
    go_wp2
    go_ret
    exact ⟨by rw [HC.out]; rfl, hB⟩
  · have zc1 := fun w hx hy => rsize_c a1 a2 c1 c2 l1 l2 w hx hy q1 q2 g1 g2
    have zc2 := fun w hx hy => rsize_c a2 a1 c2 c1 l2 l1 w hx hy q2 q1 g2 g1
    have t1 : (x.sign != y.sign) = false := by simp [h]
    rw [← h] at sc2 t1
    by_cases hn : x.sign < 0
    · have HC := Lib.hid (show cmpN (NumR.val l2) (NumR.val l1) = cmpI x y by
        have k1 : n1 = true := sgV_neg (by rw [HE1.out]; omega)
        have k2 : n2 = true := sgV_neg (by rw [HE2.out]; omega)
        rw [HX.out, HY.out, k1, k2, cmpI_nn])
      clear h hbx
      generalize x.sign = X at *
      generalize cmpN (NumR.val l2) (NumR.val l1) = z at *
      clear zc1
      go_enter Tryz.func77, Tryz.ntmps77
      go_wp2
      refine wp_name fun w0 hW0 => ?_
      have x0 : w0.cell? ⟨w.heap.size, 0, none⟩ = some (.bool n1) := by rw [hW0]; exact (by first | assumption | exact cell_new (by with_reducible first | rfl | (simp; done) | (simp; omega)) rfl | (repeat (first | assumption | exact cell_new (by with_reducible first | rfl | (simp; done) | (simp; omega)) rfl | refine cell_alloc ?_ _ | refine cell_drew ?_ | refine cell_drewN ?_ _ | refine cell_far ?_ (by simp) _ | (refine cell_far ?_ (by simp <;> omega) _))) | simp [go_sem, *])
      have zx0 := cell_lt x0
      have x1 : w0.cell? ⟨w.heap.size, 1, none⟩ = some (.slice a1 l1.length c1) := by rw [hW0]; exact (by first | assumption | exact cell_new (by with_reducible first | rfl | (simp; done) | (simp; omega)) rfl | (repeat (first | assumption | exact cell_new (by with_reducible first | rfl | (simp; done) | (simp; omega)) rfl | refine cell_alloc ?_ _ | refine cell_drew ?_ | refine cell_drewN ?_ _ | refine cell_far ?_ (by simp) _ | (refine cell_far ?_ (by simp <;> omega) _))) | simp [go_sem, *])
      have y0 : w0.cell? ⟨w.heap.size + 1, 0, none⟩ = some (.bool n2) := by rw [hW0]; exact (by first | assumption | exact cell_new (by with_reducible first | rfl | (simp; done) | (simp; omega)) rfl | (repeat (first | assumption | exact cell_new (by with_reducible first | rfl | (simp; done) | (simp; omega)) rfl | refine cell_alloc ?_ _ | refine cell_drew ?_ | refine cell_drewN ?_ _ | refine cell_far ?_ (by simp) _ | (refine cell_far ?_ (by simp <;> omega) _))) | simp [go_sem, *])
      have zy0 := cell_lt y0
      have y1 : w0.cell? ⟨w.heap.size + 1, 1, none⟩ = some (.slice a2 l2.length c2) := by rw [hW0]; exact (by first | assumption | exact cell_new (by with_reducible first | rfl | (simp; done) | (simp; omega)) rfl | (repeat (first | assumption | exact cell_new (by with_reducible first | rfl | (simp; done) | (simp; omega)) rfl | refine cell_alloc ?_ _ | refine cell_drew ?_ | refine cell_drewN ?_ _ | refine cell_far ?_ (by simp) _ | (refine cell_far ?_ (by simp <;> omega) _))) | simp [go_sem, *])
      have hB : Below w.heap.size w w0 := by rw [hW0]; repeat (first | exact Below.refl _ _ | exact hB | refine Below.drew ?_ | refine below_drewN ?_ _ | refine bset ?_ (by simp <;> omega) _ | refine bal ?_ _)
      have hz : w.heap.size ≤ w0.heap.size := hB.size
      clear hW0
      refine wp_region_grow (w := w0) (by kernel_rfl) (by kernel_rfl) ?_
      have x0g : ∀ gs, (grow w0 gs).cell? ⟨w.heap.size, 0, none⟩ = some (.bool n1) := fun gs => bkeep gs.below x0
      have x1g : ∀ gs, (grow w0 gs).cell? ⟨w.heap.size, 1, none⟩ = some (.slice a1 l1.length c1) := fun gs => bkeep gs.below x1
      have y0g : ∀ gs, (grow w0 gs).cell? ⟨w.heap.size + 1, 0, none⟩ = some (.bool n2) := fun gs => bkeep gs.below y0
      have y1g : ∀ gs, (grow w0 gs).cell? ⟨w.heap.size + 1, 1, none⟩ = some (.slice a2 l2.length c2) := fun gs => bkeep gs.below y1
      repeat (go_big_quiet_step (first | (go_at_call 119; with_reducible refine grow_of (sc1 _)) | (go_at_call 119; with_reducible refine grow_of (sc2 _))))
      refine wpQuiet_nil ?_
      intro w1 hb1
      clear x0g
      clear x1g
      clear y0g
      clear y1g
      have x0 : w1.cell? ⟨w.heap.size, 0, none⟩ = some (.bool n1) := bkc hb1
      have zx0 := cell_lt x0
      have x1 : w1.cell? ⟨w.heap.size, 1, none⟩ = some (.slice a1 l1.length c1) := bkc hb1
      have y0 : w1.cell? ⟨w.heap.size + 1, 0, none⟩ = some (.bool n2) := bkc hb1
      have zy0 := cell_lt y0
      have y1 : w1.cell? ⟨w.heap.size + 1, 1, none⟩ = some (.slice a2 l2.length c2) := bkc hb1
      have hB : Below w.heap.size w w1 := bthen (by repeat (first | exact Below.refl _ _ | exact hB | refine Below.drew ?_ | refine below_drewN ?_ _ | refine bset ?_ (by simp <;> omega) _ | refine bal ?_ _)) hb1
      have hz : w.heap.size ≤ w1.heap.size := hB.size
      go_wp2_with fail
      refine (zc2 _ (u2.keep hB) (u1.keep hB)).mono ?_
      rintro e w2 ⟨rfl, hb2⟩
      go_wp2
      go_ret
      exact ⟨by rw [HC.out]; rfl, bthen hB hb2⟩
    · have HC := Lib.hid (show cmpN (NumR.val l1) (NumR.val l2) = cmpI x y by
        have k1 : x = sg false (NumR.val l1) := by
          have h1 := HX.out
          cases n1 with
          | false => exact h1
          | true =>
            by_cases h0 : l1 = []
            · rw [h1, h0]; rfl
            · exfalso; have := HE1.out; unfold sgV at this; rw [if_neg (by simpa using h0)] at this; simp at this; omega
        have k2 : y = sg false (NumR.val l2) := by
          have h1 := HY.out
          cases n2 with
          | false => exact h1
          | true =>
            by_cases h0 : l2 = []
            · rw [h1, h0]; rfl
            · exfalso; have := HE2.out; unfold sgV at this; rw [if_neg (by simpa using h0)] at this; simp at this; omega
        rw [k1, k2, cmpI_pp])
      clear h hbx
      generalize x.sign = X at *
      generalize cmpN (NumR.val l1) (NumR.val l2) = z at *
      clear zc2
      go_enter Tryz.func77, Tryz.ntmps77
      go_wp2
      refine wp_name fun w0 hW0 => ?_
      have x0 : w0.cell? ⟨w.heap.size, 0, none⟩ = some (.bool n1) := by rw [hW0]; exact (by first | assumption | exact cell_new (by with_reducible first | rfl | (simp; done) | (simp; omega)) rfl | (repeat (first | assumption | exact cell_new (by with_reducible first | rfl | (simp; done) | (simp; omega)) rfl | refine cell_alloc ?_ _ | refine cell_drew ?_ | refine cell_drewN ?_ _ | refine cell_far ?_ (by simp) _ | (refine cell_far ?_ (by simp <;> omega) _))) | simp [go_sem, *])
      have zx0 := cell_lt x0
      have x1 : w0.cell? ⟨w.heap.size, 1, none⟩ = some (.slice a1 l1.length c1) := by rw [hW0]; exact (by first | assumption | exact cell_new (by with_reducible first | rfl | (simp; done) | (simp; omega)) rfl | (repeat (first | assumption | exact cell_new (by with_reducible first | rfl | (simp; done) | (simp; omega)) rfl | refine cell_alloc ?_ _ | refine cell_drew ?_ | refine cell_drewN ?_ _ | refine cell_far ?_ (by simp) _ | (refine cell_far ?_ (by simp <;> omega) _))) | simp [go_sem, *])
      have y0 : w0.cell? ⟨w.heap.size + 1, 0, none⟩ = some (.bool n2) := by rw [hW0]; exact (by first | assumption | exact cell_new (by with_reducible first | rfl | (simp; done) | (simp; omega)) rfl | (repeat (first | assumption | exact cell_new (by with_reducible first | rfl | (simp; done) | (simp; omega)) rfl | refine cell_alloc ?_ _ | refine cell_drew ?_ | refine cell_drewN ?_ _ | refine cell_far ?_ (by simp) _ | (refine cell_far ?_ (by simp <;> omega) _))) | simp [go_sem, *])
      have zy0 := cell_lt y0
      have y1 : w0.cell? ⟨w.heap.size + 1, 1, none⟩ = some (.slice a2 l2.length c2) := by rw [hW0]; exact (by first | assumption | exact cell_new (by with_reducible first | rfl | (simp; done) | (simp; omega)) rfl | (repeat (first | assumption | exact cell_new (by with_reducible first | rfl | (simp; done) | (simp; omega)) rfl | refine cell_alloc ?_ _ | refine cell_drew ?_ | refine cell_drewN ?_ _ | refine cell_far ?_ (by simp) _ | (refine cell_far ?_ (by simp <;> omega) _))) | simp [go_sem, *])
      have hB : Below w.heap.size w w0 := by rw [hW0]; repeat (first | exact Below.refl _ _ | exact hB | refine Below.drew ?_ | refine below_drewN ?_ _ | refine bset ?_ (by simp <;> omega) _ | refine bal ?_ _)
      have hz : w.heap.size ≤ w0.heap.size := hB.size
      clear hW0
      refine wp_region_grow (w := w0) (by kernel_rfl) (by kernel_rfl) ?_
      have x0g : ∀ gs, (grow w0 gs).cell? ⟨w.heap.size, 0, none⟩ = some (.bool n1) := fun gs => bkeep gs.below x0
      have x1g : ∀ gs, (grow w0 gs).cell? ⟨w.heap.size, 1, none⟩ = some (.slice a1 l1.length c1) := fun gs => bkeep gs.below x1
      have y0g : ∀ gs, (grow w0 gs).cell? ⟨w.heap.size + 1, 0, none⟩ = some (.bool n2) := fun gs => bkeep gs.below y0
      have y1g : ∀ gs, (grow w0 gs).cell? ⟨w.heap.size + 1, 1, none⟩ = some (.slice a2 l2.length c2) := fun gs => bkeep gs.below y1
      repeat (go_big_quiet_step (first | (go_at_call 119; with_reducible refine grow_of (sc1 _)) | (go_at_call 119; with_reducible refine grow_of (sc2 _))))
      refine wpQuiet_nil ?_
      intro w1 hb1
      clear x0g
      clear x1g
      clear y0g
      clear y1g
      have x0 : w1.cell? ⟨w.heap.size, 0, none⟩ = some (.bool n1) := bkc hb1
      have zx0 := cell_lt x0
      have x1 : w1.cell? ⟨w.heap.size, 1, none⟩ = some (.slice a1 l1.length c1) := bkc hb1
      have y0 : w1.cell? ⟨w.heap.size + 1, 0, none⟩ = some (.bool n2) := bkc hb1
      have zy0 := cell_lt y0
      have y1 : w1.cell? ⟨w.heap.size + 1, 1, none⟩ = some (.slice a2 l2.length c2) := bkc hb1
      have hB : Below w.heap.size w w1 := bthen (by repeat (first | exact Below.refl _ _ | exact hB | refine Below.drew ?_ | refine below_drewN ?_ _ | refine bset ?_ (by simp <;> omega) _ | refine bal ?_ _)) hb1
      have hz : w.heap.size ≤ w1.heap.size := hB.size
      go_wp2_with fail
      refine (zc1 _ (u1.keep hB) (u2.keep hB)).mono ?_
      rintro e w2 ⟨rfl, hb2⟩
      go_wp2
      go_ret
      exact ⟨by rw [HC.out]; rfl, bthen hB hb2⟩

namespace Num
theorem cmpI_zero {x y : Int} : (cmpI x y == 0) = decide (x = y) := by
  unfold cmpI
  (repeat' split) <;> simp <;> omega
end Num
set_option maxRecDepth 100000 in
set_option maxHeartbeats 1000000 in
theorem rsame_c (vx vy : Value) (x y : Int) (w : World) (hx : IsRef w vx x) (hy : IsRef w vy y) :
    Calls Tryz.prog 43 #[vx, vy] w fun e w' => e = .returned (.bool (decide (x = y))) ∧ Below w.heap.size w w' := by
  have rc := fun w h1 h2 => rcmp_c vx vy x y w h1 h2
  have HX := Lib.hid hx
  have HY := Lib.hid hy
  obtain ⟨n1, a1, c1, l1, rfl, -⟩ := hx
  obtain ⟨n2, a2, c2, l2, rfl, -⟩ := hy
  have HZ := Lib.hid (cmpI_zero (x := x) (y := y))
  have hB0 := Below.refl w.heap.size w
  generalize cmpI x y = z at *
  unfold iv at *
  go_enter Tryz.func43, Tryz.ntmps43
  go_wp2_with fail
  refine (rc _ (HX.out.keep (by repeat (first | exact Below.refl _ _ | exact hB0 | refine Below.drew ?_ | refine below_drewN ?_ _ | refine bset ?_ (by simp <;> omega) _ | refine bal ?_ _))) (HY.out.keep (by repeat (first | exact Below.refl _ _ | exact hB0 | refine Below.drew ?_ | refine below_drewN ?_ _ | refine bset ?_ (by simp <;> omega) _ | refine bal ?_ _)))).mono ?_
  rintro e w2 ⟨rfl, hb2⟩
  go_wp2
  go_ret
  refine ⟨by rw [← HZ.out]; rfl, ?_⟩
  refine bthen ?_ hb2
  repeat (first | exact Below.refl _ _ | exact hB0 | refine Below.drew ?_ | refine below_drewN ?_ _ | refine bset ?_ (by simp <;> omega) _ | refine bal ?_ _)
end Go.Proofs.YtdllbdfchloijaaGreatDoor

