/- Texts of this seat, laid together: IntE, IntF, RefA, RefB, RefC, Lims, NumS, IntBits, IntG. Each opens with its own remark, which says what it proves, and under which conditions. -/
import Derived.Test.YtdllbdfchloijaaGreatDoorW04
import Derived.Test.YtdllbdfchloijaaGreatDoorW02
import Derived.Laws.AppendOwn
import Derived.Deep.AppendLies
set_option linter.unusedVariables false
set_option linter.unusedSimpArgs false
/- integer: Cmp. -/
namespace Go.Proofs.YtdllbdfchloijaaGreatDoor
open Num
open Go.ChangeShapes Go.WideShapes Go.ChangeAt Go.RowKit
set_option linter.unusedVariables false
set_option linter.unusedSimpArgs false
namespace Num
/-- less, like, more -/
def cmpI (x y : Int) : Int := if x < y then -1 else if x = y then 0 else 1
theorem cmpI_nn (m n : Nat) : cmpI (sg true m) (sg true n) = cmpN n m := by
  simp only [cmpI, cmpN, sg, if_true]
  (repeat' split) <;> first | rfl | omega
theorem cmpI_pp (m n : Nat) : cmpI (sg false m) (sg false n) = cmpN m n := by
  have e : ∀ k : Nat, sg false k = (k : Int) := fun _ => rfl
  rw [e, e]
  unfold cmpI cmpN
  (repeat' split) <;> first | rfl | omega
theorem cmpI_np (m n : Nat) (h : 0 < m) : cmpI (sg true m) (sg false n) = -1 := by
  have e : sg false n = (n : Int) := rfl
  have e' : sg true m = -(m : Int) := rfl
  rw [e, e']
  unfold cmpI; rw [if_pos (by omega)]
theorem cmpI_pn (m n : Nat) (h : 0 < n) : cmpI (sg false m) (sg true n) = 1 := by
  have e : sg false m = (m : Int) := rfl
  have e' : sg true n = -(n : Int) := rfl
  rw [e, e']
  unfold cmpI; rw [if_neg (by omega), if_neg (by omega)]
end Num

set_option maxRecDepth 100000 in
set_option maxHeartbeats 1000000 in
theorem cmp_c (vx vy : Value) (x y : Int) (w : World) (hx : IsInt w vx x) (hy : IsInt w vy y) :
    Calls Tryz.prog 48 #[vx, vy] w fun e w' => e = .returned (.int .i64 (cmpI x y)) ∧ Below w.heap.size w w' := by
  obtain ⟨n1, a1, c1, l1, rfl, u1, g1, s1, rfl⟩ := hx
  obtain ⟨n2, a2, c2, l2, rfl, u2, g2, s2, rfl⟩ := hy
  have hB0 := Below.refl w.heap.size w
  unfold iv
  cases n1 with
  | true =>
    have p1 : 0 < val l1 := Nat.pos_of_ne_zero (fun e => s1 rfl ((val_nil_iff g1).1 e))
    cases n2 with
    | true =>
      have HC := Lib.hid (cmpI_nn (val l1) (val l2))
      have cc := fun w hx hy => limbCmp_c a2 a1 c2 c1 l2 l1 w hx hy
      generalize cmpN (val l2) (val l1) = z at *
      clear g1 g2 s1 s2 p1
      go_enter Tryz.func48, Tryz.ntmps48
      go_wp2_with (go_at_call 85; refine (cc _ (u2.keep (by repeat (first | exact Below.refl _ _ | exact hB0 | refine Below.drew ?_ | refine below_drewN ?_ _ | refine bset ?_ (by simp <;> omega) _ | refine bal ?_ _))) (u1.keep (by repeat (first | exact Below.refl _ _ | exact hB0 | refine Below.drew ?_ | refine below_drewN ?_ _ | refine bset ?_ (by simp <;> omega) _ | refine bal ?_ _)))).mono ?_; rintro e w1 ⟨rfl, hb1⟩)
      go_ret
      refine ⟨by rw [HC.out]; rfl, ?_⟩
      refine bthen ?_ hb1
      repeat (first | exact Below.refl _ _ | exact hB0 | refine Below.drew ?_ | refine below_drewN ?_ _ | refine bset ?_ (by simp <;> omega) _ | refine bal ?_ _)
    | false =>
      have HC := Lib.hid (cmpI_np (val l1) (val l2) p1)
      clear g1 g2 s1 s2 p1
      go_enter Tryz.func48, Tryz.ntmps48
      go_wp2
      go_ret
      refine ⟨by rw [HC.out]; rfl, ?_⟩
      repeat (first | exact Below.refl _ _ | exact hB0 | refine Below.drew ?_ | refine below_drewN ?_ _ | refine bset ?_ (by simp <;> omega) _ | refine bal ?_ _)
  | false =>
    cases n2 with
    | true =>
      have p2 : 0 < val l2 := Nat.pos_of_ne_zero (fun e => s2 rfl ((val_nil_iff g2).1 e))
      have HC := Lib.hid (cmpI_pn (val l1) (val l2) p2)
      clear g1 g2 s1 s2 p2
      go_enter Tryz.func48, Tryz.ntmps48
      go_wp2
      go_ret
      refine ⟨by rw [HC.out]; rfl, ?_⟩
      repeat (first | exact Below.refl _ _ | exact hB0 | refine Below.drew ?_ | refine below_drewN ?_ _ | refine bset ?_ (by simp <;> omega) _ | refine bal ?_ _)
    | false =>
      have HC := Lib.hid (cmpI_pp (val l1) (val l2))
      have cc := fun w hx hy => limbCmp_c a1 a2 c1 c2 l1 l2 w hx hy
      generalize cmpN (val l1) (val l2) = z at *
      clear g1 g2 s1 s2
      go_enter Tryz.func48, Tryz.ntmps48
      go_wp2_with (go_at_call 85; refine (cc _ (u1.keep (by repeat (first | exact Below.refl _ _ | exact hB0 | refine Below.drew ?_ | refine below_drewN ?_ _ | refine bset ?_ (by simp <;> omega) _ | refine bal ?_ _))) (u2.keep (by repeat (first | exact Below.refl _ _ | exact hB0 | refine Below.drew ?_ | refine below_drewN ?_ _ | refine bset ?_ (by simp <;> omega) _ | refine bal ?_ _)))).mono ?_; rintro e w1 ⟨rfl, hb1⟩)
      go_ret
      refine ⟨by rw [HC.out]; rfl, ?_⟩
      refine bthen ?_ hb1
      repeat (first | exact Below.refl _ _ | exact hB0 | refine Below.drew ?_ | refine below_drewN ?_ _ | refine bset ?_ (by simp <;> omega) _ | refine bal ?_ _)
end Go.Proofs.YtdllbdfchloijaaGreatDoor

/- slices.Clone at limbs; integer: Limbs. -/
namespace Go.Proofs.YtdllbdfchloijaaGreatDoor
open Num
open Go.ChangeShapes Go.WideShapes Go.ChangeAt Go.RowKit
set_option linter.unusedVariables false
set_option linter.unusedSimpArgs false

end Go.Proofs.YtdllbdfchloijaaGreatDoor

/- The reference's numbers (digits to the base 65536): norm, Of, Make, Sign. -/
namespace Go.Proofs.YtdllbdfchloijaaGreatDoor
open Num
open Go.ChangeShapes Go.WideShapes Go.ChangeAt Go.RowKit
set_option linter.unusedVariables false
set_option linter.unusedSimpArgs false

/-- a value is the reference's number z -/
def IsRef (w : World) (v : Value) (z : Int) : Prop := ∃ neg a cap l, v = iv neg a (List.length l) cap ∧ U32 w a cap l ∧ NumR.Limbs l ∧ Nrm l ∧ (neg = true → l ≠ []) ∧ z = sg neg (NumR.val l)
theorem IsRef.keep {w w' : World} {v : Value} {z : Int} (h : IsRef w v z) (hb : Below w.heap.size w w') : IsRef w' v z := by
  obtain ⟨neg, a, cap, l, h1, h2, h3⟩ := h
  exact ⟨neg, a, cap, l, h1, h2.keep hb, h3⟩
theorem IsRef.put {w : World} {x : Value} {z : Int} {p : Addr} {v : Value} (h : IsRef w x z) (hp : w.cell? p = some v) (hv : ∀ n, v ≠ .int .u32 n) (u : Value) : IsRef (w.setCell p u) x z := by
  obtain ⟨neg, a, cap, l, h1, h2, h3⟩ := h
  exact ⟨neg, a, cap, l, h1, h2.put hp hv u, h3⟩
theorem IsRef.put2 {w : World} {x : Value} {z : Int} {g : Nat} {b : Bool} {a : Option Addr} {n c : Nat} (h : IsRef w x z) (r0 : w.cell? ⟨g, 0, none⟩ = some (.bool b)) (r1 : w.cell? ⟨g, 1, none⟩ = some (.slice a n c)) (u v : Value) : IsRef ((w.setCell ⟨g, 0, none⟩ u).setCell ⟨g, 1, none⟩ v) x z :=
  (h.put r0 (fun _ e => by cases e) u).put (cell_far r1 (by simp) u) (fun _ e => by cases e) v
theorem U32.cap {w : World} {a : Option Addr} {cap : Nat} {l m : List Nat} (h : U32 w a cap l) (hp : m <+: l) : U32 w a cap m :=
  ⟨Nat.le_trans hp.length_le h.1, h.2.1, fun x hx => h.2.2.1 x (hp.subset hx), h.2.2.2.take hp⟩

set_option maxRecDepth 100000 in
set_option maxHeartbeats 1000000 in
theorem rnormK_c (neg : Bool) (a : Option Addr) (ca : Nat) (l : List Nat) (w : World) (ha : U32 w a ca l) :
    Calls Tryz.prog 89 #[.bool neg, .slice a l.length ca] w fun e w' => e = .returned (iv (neg && decide (0 < (trimL l).length)) a (trimL l).length ca) ∧ Below w.heap.size w w' := by
  obtain ⟨hc, hm, hl, hcs⟩ := ha
  unfold maxLen at hm
  go_enter Tryz.func89, Tryz.ntmps89
  go_wp2
  go_loop [5] (fun x => ∃ k : Nat, k ≤ l.length ∧ x = .int .i64 k ∧ trimL (l.take k) = trimL l) (fun x => (intOf x).toNat)
  case atStart => exact ⟨l.length, Nat.le_refl _, rfl, by rw [List.take_length]⟩
  case round =>
    obtain ⟨k, hk, rfl, ht⟩ := hrel
    have HT := Lib.hid ht
    clear ht
    cases k with
    | zero =>
      have hz : (trimL l).length = 0 := by have := HT.out; rw [List.take_zero] at this; rw [← this]; rfl
      have HZ := Lib.hid hz
      clear hz
      cases neg with
      | true =>
        go_wp2
        refine bodyPost_ret (v := iv false a 0 ca) (by simp [iv, results, Tryz.results89, go_sem, *]) rfl ⟨by rw [HZ.out] <;> simp, ?_⟩
        repeat (first | exact Below.refl _ _ | exact Below.refl _ _ | refine Below.drew ?_ | refine below_drewN ?_ _ | refine bset ?_ (by simp <;> omega) _ | refine bal ?_ _)
      | false =>
        go_wp2
        refine bodyPost_ret (v := iv false a 0 ca) (by simp [iv, results, Tryz.results89, go_sem, *]) rfl ⟨by rw [HZ.out] <;> simp, ?_⟩
        repeat (first | exact Below.refl _ _ | exact Below.refl _ _ | refine Below.drew ?_ | refine below_drewN ?_ _ | refine bset ?_ (by simp <;> omega) _ | refine bal ?_ _)
    | succ j =>
      rcases hcs with rfl | ⟨b, off, rfl, hcell⟩
      · simp at hk
      have hj := cell_alloc (hcell j (by omega)) (.cells #[.bool false, .slice none 0 0] 54)
      by_cases h0 : l.getD j 0 = 0
      · have HN := Lib.hid (trim_take_zero (by omega : j < l.length) h0)
        rw [h0] at hj
        go_wp2
        exact ⟨⟨j, by omega, rfl, HN.out.symm.trans HT.out⟩, by simp [intOf] <;> omega⟩
      · have HN := Lib.hid (trim_take_pos (by omega : j < l.length) h0)
        generalize hx : l.getD j 0 = x at *
        have hx0 : ((x : Int) == 0) = false := by simp; omega
        have HL := Lib.hid (show (trimL l).length = j + 1 by rw [← HT.out, HN.out]; simp; omega)
        cases neg with
        | true =>
          go_wp2
          refine bodyPost_ret (v := iv true (some ⟨b, off, none⟩) (j + 1) ca) (by simp [iv, results, Tryz.results89, go_sem, *]) rfl ⟨by rw [HL.out] <;> simp, ?_⟩
          repeat (first | exact Below.refl _ _ | exact Below.refl _ _ | refine Below.drew ?_ | refine below_drewN ?_ _ | refine bset ?_ (by simp <;> omega) _ | refine bal ?_ _)
        | false =>
          go_wp2
          refine bodyPost_ret (v := iv false (some ⟨b, off, none⟩) (j + 1) ca) (by simp [iv, results, Tryz.results89, go_sem, *]) rfl ⟨by rw [HL.out] <;> simp, ?_⟩
          repeat (first | exact Below.refl _ _ | exact Below.refl _ _ | refine Below.drew ?_ | refine below_drewN ?_ _ | refine bset ?_ (by simp <;> omega) _ | refine bal ?_ _)

theorem rnorm_c (neg : Bool) (a : Option Addr) (ca : Nat) (l : List Nat) (w : World) (ha : U32 w a ca l) (hr : NumR.Limbs l) :
    Calls Tryz.prog 89 #[.bool neg, .slice a l.length ca] w fun e w' => (∃ v, e = .returned v ∧ IsRef w' v (sg neg (NumR.val l))) ∧ Below w.heap.size w w' := by
  have key := rnormK_c neg a ca l w ha
  refine key.mono ?_
  rintro e w1 ⟨rfl, hB⟩
  refine ⟨⟨_, rfl, _, a, ca, trimL l, rfl, (ha.cap (trim_prefix l)).keep hB, NumR.trim_limbs hr, trim_nrm l, ?_, ?_⟩, hB⟩
  · intro h; simp at h; intro e; rw [e] at h; simp at h
  · rw [← NumR.val_trim l]
    by_cases h0 : trimL l = []
    · rw [h0]; simp [sg, NumR.val]
    · have : 0 < (trimL l).length := List.length_pos_iff.2 h0
      simp [this, sg]
end Go.Proofs.YtdllbdfchloijaaGreatDoor

/- The reference's numbers: Of, Make. -/
namespace Go.Proofs.YtdllbdfchloijaaGreatDoor
open Num
open Go.ChangeShapes Go.WideShapes Go.ChangeAt Go.RowKit
set_option linter.unusedVariables false
set_option linter.unusedSimpArgs false
namespace NumR
theorem limbs_snoc {l : List Nat} {x : Nat} (h : Limbs l) (hx : x < BB) : Limbs (l ++ [x]) := by
  intro y hy
  rcases List.mem_append.1 hy with h1 | h1
  · exact h y h1
  · rw [List.mem_singleton.1 h1]; exact hx
theorem big {l : Nat} {u m : Nat} (hm : m < 18446744073709551616) (hu : 0 < u) (h : BB ^ l * u ≤ m) : l ≤ 3 := by
  apply Nat.le_of_not_lt
  intro h4
  have h1 : BB ^ 4 ≤ BB ^ l := Nat.pow_le_pow_right BB_pos (by omega)
  have h2 : BB ^ 4 = 18446744073709551616 := by unfold BB; rfl
  have h3 : BB ^ l * 1 ≤ BB ^ l * u := Nat.mul_le_mul_left _ (by omega)
  omega
end NumR
theorem w32 {x : Nat} (h : x < BB) : IntKind.u32.wrap (x : Int) = (x : Int) := by
  unfold BB at h
  simp only [IntKind.wrap, IntKind.bits, IntKind.signed]
  simp
  omega
theorem limbs_of_r {l : List Nat} (h : NumR.Limbs l) : Limbs l := fun x hx => by have := h x hx; unfold NumR.BB at this; unfold BB; omega

set_option maxRecDepth 100000 in
set_option maxHeartbeats 1000000 in
theorem rof_c (n : Int) (w : World) (h1 : -9223372036854775808 ≤ n) (h2 : n ≤ 9223372036854775807) :
    Calls Tryz.prog 54 #[.int .i64 n] w fun e w' => (∃ v, e = .returned v ∧ IsRef w' v n) ∧ Below w.heap.size w w' := by
  obtain ⟨i0, hi, hz0, hz1, hz2⟩ := info_parts info32
  obtain ⟨m, hm⟩ : ∃ m : Nat, m = n.natAbs := ⟨_, rfl⟩
  have hmB : m < 18446744073709551616 := by omega
  by_cases h0 : n < 0
  · have e1 : IntKind.u64.wrap (-IntKind.u64.wrap n) = (m : Int) := by
      simp only [IntKind.wrap, IntKind.bits, IntKind.signed]
      simp
      omega
    have HS := Lib.hid (show sg true m = n by simp [sg]; omega)
    clear hm
    go_enter Tryz.func54, Tryz.ntmps54
    go_wp2
    have hB := Below.refl w.heap.size w
    refine wp_name fun w0 hW0 => ?_
    have r0f : w0.frozen? ⟨w.heap.size, 0, none⟩ = false := by rw [hW0]; simp [go_sem, *]
    have r0 : w0.cell? ⟨w.heap.size, 0, none⟩ = some (.bool false) := by rw [hW0]; exact (by first | assumption | exact cell_new (by with_reducible first | rfl | (simp; done) | (simp; omega)) rfl | (repeat (first | assumption | exact cell_new (by with_reducible first | rfl | (simp; done) | (simp; omega)) rfl | refine cell_alloc ?_ _ | refine cell_drew ?_ | refine cell_drewN ?_ _ | refine cell_far ?_ (by simp) _ | (refine cell_far ?_ (by simp <;> omega) _))) | simp [go_sem, *])
    have zr0 := cell_lt r0
    have r1f : w0.frozen? ⟨w.heap.size, 1, none⟩ = false := by rw [hW0]; simp [go_sem, *]
    have r1 : w0.cell? ⟨w.heap.size, 1, none⟩ = some (.slice none 0 0) := by rw [hW0]; exact (by first | assumption | exact cell_new (by with_reducible first | rfl | (simp; done) | (simp; omega)) rfl | (repeat (first | assumption | exact cell_new (by with_reducible first | rfl | (simp; done) | (simp; omega)) rfl | refine cell_alloc ?_ _ | refine cell_drew ?_ | refine cell_drewN ?_ _ | refine cell_far ?_ (by simp) _ | (refine cell_far ?_ (by simp <;> omega) _))) | simp [go_sem, *])
    have hB : Below w.heap.size w w0 := by rw [hW0]; repeat (first | exact Below.refl _ _ | exact hB | refine Below.drew ?_ | refine below_drewN ?_ _ | refine bset ?_ (by simp <;> omega) _ | refine bal ?_ _)
    have hz : w.heap.size ≤ w0.heap.size := hB.size
    clear hW0
    go_loopw [3, 4] (fun x d wr => ∃ (u : Nat) (L : List Nat), x = .int .u64 u ∧ Own32 w0 wr d L ∧ NumR.Limbs L ∧ Hid (NumR.val L + NumR.BB ^ L.length * u = m)) (fun x _ _ => (intOf x).toNat)
    case atStart => exact ⟨m, [], rfl, Own32.nil (Below.refl _ _), (fun _ h => by cases h), Lib.hid (by simp [NumR.val])⟩
    case round =>
      obtain ⟨u, L, rfl, hO, hL, hV⟩ := hrel
      by_cases hu : 0 < u
      · have hl := NumR.big hmB hu (Nat.le_trans (Nat.le_add_left _ _) (Nat.le_of_eq hV.out))
        have hum : u ≤ m := by
          have h1 := hV.out
          have h2 : 1 * u ≤ NumR.BB ^ L.length * u := Nat.mul_le_mul_right _ (Nat.pow_pos NumR.BB_pos)
          omega
        obtain ⟨y, hy⟩ : ∃ y, y = u % 65536 := ⟨_, rfl⟩
        obtain ⟨z, hz⟩ : ∃ z, z = u / 65536 := ⟨_, rfl⟩
        have ey : (u : Int) % 65536 = (y : Int) := by omega
        have ez : (u : Int) / 65536 = (z : Int) := by omega
        have hyB : y < 65536 := by omega
        have hzu : z < u := by omega
        have ez2 := w64 (x := z) (by unfold BB; omega)
        have HU := Lib.hid (show y + 65536 * z = u by omega)
        clear hy hz
        go_wp2_with (at_builtin; refine app32 (X := [y]) rfl rfl hO rfl rfl ?_ ?_; (simp; omega); intro v' w1 hO1; clear hO)
        refine ⟨⟨z, L ++ [y], rfl, hO1, NumR.limbs_snoc hL hyB, Lib.hid ?_⟩, by simp [intOf] <;> omega⟩
        rw [← hV.out, ← HU.out, NumR.val_append, List.length_append, List.length_singleton, Nat.pow_succ]
        simp only [NumR.val, Nat.mul_add, Nat.mul_zero, Nat.add_zero, Nat.mul_assoc, Nat.add_assoc]
        rfl
      · obtain rfl : u = 0 := by omega
        have HV := Lib.hid (show NumR.val L = m by simpa using hV.out)
        clear hV
        obtain ⟨a1, c1, rfl, hU⟩ := hO.u32 (limbs_of_r hL)
        have hB1 := hO.2
        have r0f := bkeepf hB1 r0 r0f
        have r0 := bkeep hB1 r0
        have r1f := bkeepf hB1 r1 r1f
        have r1 := bkeep hB1 r1
        have hB := bthen hB hB1
        have hz := hB.size
        clear hO
        go_wp2_with fail
        refine (rnorm_c true a1 c1 L wr hU hL).mono ?_
        rintro e w2 ⟨⟨v, rfl, hi⟩, hb2⟩
        have r0f := bkeepf hb2 r0 r0f
        have r0 := bkeep hb2 r0
        have r1f := bkeepf hb2 r1 r1f
        have r1 := bkeep hb2 r1
        have hB := bthen hB hb2
        have hz := hB.size
        rw [HV.out, HS.out] at hi
        have HI2 := Lib.hid (hi.put2 r0 r1)
        obtain ⟨n2, a2, c2, l2, rfl, _, _, _, _, _⟩ := hi
        unfold iv at *
        go_wp2
        refine bodyPost_ret (v := .agg #[.bool n2, .slice a2 l2.length c2]) (by simp [results, Tryz.results54, go_sem, *]) rfl ⟨⟨_, rfl, HI2.out _ _⟩, ?_⟩
        repeat (first | exact Below.refl _ _ | exact hB | refine Below.drew ?_ | refine below_drewN ?_ _ | refine bset ?_ (by simp <;> omega) _ | refine bal ?_ _)
  · obtain rfl : n = m := by omega
    have HS := Lib.hid (show sg false m = m by simp [sg])
    clear hm
    go_enter Tryz.func54, Tryz.ntmps54
    go_wp2
    have hB := Below.refl w.heap.size w
    refine wp_name fun w0 hW0 => ?_
    have r0f : w0.frozen? ⟨w.heap.size, 0, none⟩ = false := by rw [hW0]; simp [go_sem, *]
    have r0 : w0.cell? ⟨w.heap.size, 0, none⟩ = some (.bool false) := by rw [hW0]; exact (by first | assumption | exact cell_new (by with_reducible first | rfl | (simp; done) | (simp; omega)) rfl | (repeat (first | assumption | exact cell_new (by with_reducible first | rfl | (simp; done) | (simp; omega)) rfl | refine cell_alloc ?_ _ | refine cell_drew ?_ | refine cell_drewN ?_ _ | refine cell_far ?_ (by simp) _ | (refine cell_far ?_ (by simp <;> omega) _))) | simp [go_sem, *])
    have zr0 := cell_lt r0
    have r1f : w0.frozen? ⟨w.heap.size, 1, none⟩ = false := by rw [hW0]; simp [go_sem, *]
    have r1 : w0.cell? ⟨w.heap.size, 1, none⟩ = some (.slice none 0 0) := by rw [hW0]; exact (by first | assumption | exact cell_new (by with_reducible first | rfl | (simp; done) | (simp; omega)) rfl | (repeat (first | assumption | exact cell_new (by with_reducible first | rfl | (simp; done) | (simp; omega)) rfl | refine cell_alloc ?_ _ | refine cell_drew ?_ | refine cell_drewN ?_ _ | refine cell_far ?_ (by simp) _ | (refine cell_far ?_ (by simp <;> omega) _))) | simp [go_sem, *])
    have hB : Below w.heap.size w w0 := by rw [hW0]; repeat (first | exact Below.refl _ _ | exact hB | refine Below.drew ?_ | refine below_drewN ?_ _ | refine bset ?_ (by simp <;> omega) _ | refine bal ?_ _)
    have hz : w.heap.size ≤ w0.heap.size := hB.size
    clear hW0
    go_loopw [3, 4] (fun x d wr => ∃ (u : Nat) (L : List Nat), x = .int .u64 u ∧ Own32 w0 wr d L ∧ NumR.Limbs L ∧ Hid (NumR.val L + NumR.BB ^ L.length * u = m)) (fun x _ _ => (intOf x).toNat)
    case atStart => exact ⟨m, [], rfl, Own32.nil (Below.refl _ _), (fun _ h => by cases h), Lib.hid (by simp [NumR.val])⟩
    case round =>
      obtain ⟨u, L, rfl, hO, hL, hV⟩ := hrel
      by_cases hu : 0 < u
      · have hl := NumR.big hmB hu (Nat.le_trans (Nat.le_add_left _ _) (Nat.le_of_eq hV.out))
        have hum : u ≤ m := by
          have h1 := hV.out
          have h2 : 1 * u ≤ NumR.BB ^ L.length * u := Nat.mul_le_mul_right _ (Nat.pow_pos NumR.BB_pos)
          omega
        obtain ⟨y, hy⟩ : ∃ y, y = u % 65536 := ⟨_, rfl⟩
        obtain ⟨z, hz⟩ : ∃ z, z = u / 65536 := ⟨_, rfl⟩
        have ey : (u : Int) % 65536 = (y : Int) := by omega
        have ez : (u : Int) / 65536 = (z : Int) := by omega
        have hyB : y < 65536 := by omega
        have hzu : z < u := by omega
        have ez2 := w64 (x := z) (by unfold BB; omega)
        have HU := Lib.hid (show y + 65536 * z = u by omega)
        clear hy hz
        go_wp2_with (at_builtin; refine app32 (X := [y]) rfl rfl hO rfl rfl ?_ ?_; (simp; omega); intro v' w1 hO1; clear hO)
        refine ⟨⟨z, L ++ [y], rfl, hO1, NumR.limbs_snoc hL hyB, Lib.hid ?_⟩, by simp [intOf] <;> omega⟩
        rw [← hV.out, ← HU.out, NumR.val_append, List.length_append, List.length_singleton, Nat.pow_succ]
        simp only [NumR.val, Nat.mul_add, Nat.mul_zero, Nat.add_zero, Nat.mul_assoc, Nat.add_assoc]
        rfl
      · obtain rfl : u = 0 := by omega
        have HV := Lib.hid (show NumR.val L = m by simpa using hV.out)
        clear hV
        obtain ⟨a1, c1, rfl, hU⟩ := hO.u32 (limbs_of_r hL)
        have hB1 := hO.2
        have r0f := bkeepf hB1 r0 r0f
        have r0 := bkeep hB1 r0
        have r1f := bkeepf hB1 r1 r1f
        have r1 := bkeep hB1 r1
        have hB := bthen hB hB1
        have hz := hB.size
        clear hO
        go_wp2_with fail
        refine (rnorm_c false a1 c1 L wr hU hL).mono ?_
        rintro e w2 ⟨⟨v, rfl, hi⟩, hb2⟩
        have r0f := bkeepf hb2 r0 r0f
        have r0 := bkeep hb2 r0
        have r1f := bkeepf hb2 r1 r1f
        have r1 := bkeep hb2 r1
        have hB := bthen hB hb2
        have hz := hB.size
        rw [HV.out, HS.out] at hi
        have HI2 := Lib.hid (hi.put2 r0 r1)
        obtain ⟨n2, a2, c2, l2, rfl, _, _, _, _, _⟩ := hi
        unfold iv at *
        go_wp2
        refine bodyPost_ret (v := .agg #[.bool n2, .slice a2 l2.length c2]) (by simp [results, Tryz.results54, go_sem, *]) rfl ⟨⟨_, rfl, HI2.out _ _⟩, ?_⟩
        repeat (first | exact Below.refl _ _ | exact hB | refine Below.drew ?_ | refine below_drewN ?_ _ | refine bset ?_ (by simp <;> omega) _ | refine bal ?_ _)
end Go.Proofs.YtdllbdfchloijaaGreatDoor

/- The reference's numbers: size, Sign, Cmp, Same. -/
namespace Go.Proofs.YtdllbdfchloijaaGreatDoor
open Num
open Go.ChangeShapes Go.WideShapes Go.ChangeAt Go.RowKit
set_option linter.unusedVariables false
set_option linter.unusedSimpArgs false

set_option maxRecDepth 100000 in
set_option maxHeartbeats 1000000 in
theorem rsize_c (a b : Option Addr) (ca cb : Nat) (L M : List Nat) (w : World) (ha : U32 w a ca L) (hb : U32 w b cb M) (hL : NumR.Limbs L) (hM : NumR.Limbs M) (na : Nrm L) (nb : Nrm M) :
    Calls Tryz.prog 92 #[.slice a L.length ca, .slice b M.length cb] w fun e w' => e = .returned (.int .i64 (cmpN (NumR.val L) (NumR.val M))) ∧ Below w.heap.size w w' := by
  obtain ⟨hLca, hLm, -, hLc⟩ := ha
  obtain ⟨hMcb, hMm, -, hMc⟩ := hb
  unfold maxLen at hLm hMm
  rcases Nat.lt_trichotomy L.length M.length with hlt | heq | hgt
  · have hne : ((L.length : Int) != (M.length : Int)) = true := by simp; omega
    go_enter Tryz.func92, Tryz.ntmps92
    go_wp2
    go_ret
    exact ⟨by rw [cmpN_lt (NumR.val_lt_of_len hL nb hlt)]; rfl, Below.refl _ _⟩
  · clear na nb
    have HQ := Lib.hid heq
    clear heq
    generalize hM' : M.length = n at *
    have HM := Lib.hid hM'
    clear hM'
    generalize hL' : L.length = n' at *
    obtain rfl : n' = n := HQ.out
    have HL := Lib.hid hL'
    clear hL' HQ
    have hne : ((n' : Int) != (n' : Int)) = false := by simp
    go_enter Tryz.func92, Tryz.ntmps92
    go_wp2
    go_loopw [5] (fun x wr => ∃ k : Nat, k ≤ n' ∧ x = .int .i64 ((k : Int) - 1) ∧ L.drop k = M.drop k ∧ Below w.heap.size w wr) (fun x _ => (intOf x + 1).toNat)
    case atStart =>
      refine ⟨n', Nat.le_refl _, rfl, ?_, Below.refl _ _⟩
      rw [List.drop_eq_nil_of_le (by have := HL.out; omega), List.drop_eq_nil_of_le (by have := HM.out; omega)]
    case round =>
      obtain ⟨k, hk, rfl, hd, hB⟩ := hrel
      have HD := Lib.hid hd
      clear hd
      cases k with
      | zero =>
        go_wp2
        go_ret
        have e : L = M := by simpa using HD.out
        exact ⟨by rw [cmpN_eq (by rw [e])]; rfl, hB⟩
      | succ j =>
        have hjL : j < L.length := by have := HL.out; omega
        have hjM : j < M.length := by have := HM.out; omega
        rcases hLc with rfl | ⟨ba, oa, rfl, hca⟩
        · simp at hjL
        rcases hMc with rfl | ⟨bb, ob, rfl, hcb⟩
        · simp at hjM
        have cj := bkeep hB (hca j (by omega))
        have dj := bkeep hB (hcb j (by omega))
        have HLt := Lib.hid (fun h => NumR.val_lt_of_top hjL hjM hL HD.out h)
        have HGt := Lib.hid (fun h => NumR.val_lt_of_top hjM hjL hM HD.out.symm h)
        have HEq := Lib.hid (fun h => NumR.drop_step hjL hjM HD.out h)
        have hjn : (j : Int) < (n' : Int) := by omega
        generalize L.getD j 0 = x at *
        generalize M.getD j 0 = y at *
        rcases Nat.lt_trichotomy x y with h1 | h1 | h1
        · have h1' : (x : Int) < (y : Int) := by omega
          go_wp2
          go_quiet (fail)
          go_wp2
          go_ret
          exact ⟨by rw [cmpN_lt (HLt.out h1)]; rfl, by repeat (first | exact hB | refine below_drewN ?_ _)⟩
        · subst h1
          go_wp2
          go_quiet (fail)
          go_wp2
          go_quiet (fail)
          go_wp2
          exact ⟨⟨j, by omega, rfl, HEq.out (by trivial), by repeat (first | exact hB | refine below_drewN ?_ _)⟩, by simp [intOf] <;> omega⟩
        · have h1' : ¬ ((x : Int) < (y : Int)) := by omega
          have h1'' : ((y : Int) < (x : Int)) := by omega
          go_wp2
          go_quiet (fail)
          go_wp2
          go_quiet (fail)
          go_wp2
          go_ret
          exact ⟨by rw [cmpN_gt (HGt.out h1)]; rfl, by repeat (first | exact hB | refine below_drewN ?_ _)⟩
  · have hne : ((L.length : Int) != (M.length : Int)) = true := by simp; omega
    have hc1 : ¬ (L.length < M.length) := by omega
    go_enter Tryz.func92, Tryz.ntmps92
    go_wp2
    go_ret
    exact ⟨by rw [cmpN_gt (NumR.val_lt_of_len hM na hgt)]; rfl, Below.refl _ _⟩

namespace Num
end Num

namespace Num
end Num
end Go.Proofs.YtdllbdfchloijaaGreatDoor

/- 'Lim w w'': no limb has turned. -/
namespace Go.Proofs.YtdllbdfchloijaaGreatDoor
open Num
open Go.ChangeShapes Go.WideShapes Go.ChangeAt Go.RowKit
set_option linter.unusedVariables false
set_option linter.unusedSimpArgs false
/-- every limb of w is there still -/
def Lim (w w' : World) : Prop := ∀ (b : Nat), typOf w b = some 106 → typOf w' b = some 106 ∧ ∀ (o : Nat) (n : Int), w.cell? ⟨b, o, none⟩ = some (.int .u32 n) → w'.cell? ⟨b, o, none⟩ = some (.int .u32 n)
section
variable {a b c w w' : World}
theorem Lim.refl (w : World) : Lim w w := fun _ h => ⟨h, fun _ _ h => h⟩
theorem Lim.trans (h : Lim a b) (k : Lim b c) : Lim a c := fun q ht => ⟨(k q (h q ht).1).1, fun o n hc => (k q (h q ht).1).2 o n ((h q ht).2 o n hc)⟩
theorem Lim.of_below (h : Below a.heap.size a b) : Lim a b := fun _ ht => ⟨typ_keep ht h, fun _ _ hc => bkeep h hc⟩
theorem Lim.below (h : Lim a b) (k : Below b.heap.size b c) : Lim a c := h.trans (.of_below k)
theorem Lim.alloc (h : Lim a b) (o : Obj) : Lim a (b.alloc o) := h.below (bal (Below.refl _ _) o)
theorem Lim.drew (h : Lim a b) : Lim a b.drew := h
theorem Lim.drewN (h : Lim a b) (n : Nat) : Lim a (b.drewN n) := h
/-- what is written is a row of another type -/
theorem Lim.grown {row : Option Nat} (h : Lim a b) (hg : b.grownBy c row) (hr : ∀ g, row = some g → typOf b g ≠ some 106) : Lim a c := h.trans fun q ht => by
  have e : c.heap[q]? = b.heap[q]? := hg.block q (typ_lt ht) fun e => hr q e.symm ht
  exact ⟨by rw [typ_of_block e]; exact ht, fun o n hc => by rw [World.cell?_of_block (w := b) e]; exact hc⟩
/-- a store into a cell that holds no limb -/
theorem Lim.put (h : Lim a b) {p : Addr} {v : Value} (hp : b.cell? p = some v) (hv : ∀ n, v ≠ .int .u32 n) (u : Value) : Lim a (b.setCell p u) := fun q ht => by
  refine ⟨by rw [typ_set]; exact (h q ht).1, fun o n hc => cell_far ((h q ht).2 o n hc) ?_ u⟩
  intro e
  rw [e, (h q ht).2 o n hc] at hp
  exact hv _ (Option.some.inj hp).symm
theorem Lim.bool (h : Lim a b) {p : Addr} {x : Bool} (hp : b.cell? p = some (.bool x)) (u : Value) : Lim a (b.setCell p u) := h.put hp (fun _ e => by cases e) u
theorem Lim.slice (h : Lim a b) {p : Addr} {x : Option Addr} {n m : Nat} (hp : b.cell? p = some (.slice x n m)) (u : Value) : Lim a (b.setCell p u) := h.put hp (fun _ e => by cases e) u
theorem C32.lim {o : Option Addr} {l : List Nat} (h : C32 a o l) (k : Lim a b) : C32 b o l := by
  rcases h with h | ⟨q, off, h1, h2⟩
  · exact .inl h
  · exact .inr ⟨q, off, h1, fun i hi => (k q h2.ty).2 _ _ (h2 i hi), (k q h2.ty).1⟩
theorem U32.lim {o : Option Addr} {cap : Nat} {l : List Nat} (h : U32 a o cap l) (k : Lim a b) : U32 b o cap l := ⟨h.1, h.2.1, h.2.2.1, h.2.2.2.lim k⟩
theorem IsInt.lim {v : Value} {z : Int} (h : IsInt a v z) (k : Lim a b) : IsInt b v z := by
  obtain ⟨neg, o, cap, l, h1, h2, h3⟩ := h
  exact ⟨neg, o, cap, l, h1, h2.lim k, h3⟩
theorem IsRef.lim {v : Value} {z : Int} (h : IsRef a v z) (k : Lim a b) : IsRef b v z := by
  obtain ⟨neg, o, cap, l, h1, h2, h3⟩ := h
  exact ⟨neg, o, cap, l, h1, h2.lim k, h3⟩
end
/-- what stays as long as no limb turns -/
def Lims (R : World → Value → Int → Prop) : Prop := ∀ w w' v z, R w v z → Lim w w' → R w' v z
theorem lims_int : Lims IsInt := fun _ _ _ _ h k => h.lim k
theorem lims_ref : Lims IsRef := fun _ _ _ _ h k => h.lim k
theorem own_typ {E : TypeId} {size n : Nat} {w0 wr : World} {v : Value} {xs : List Value} (h : OwnE E size w0 wr v n xs) {g : Nat} (hg : v.ownBlock = some g) : typOf wr g = some E := by
  rcases h.1.2 with ⟨rfl, _⟩ | ⟨g', c, cur, rfl, _, hh, _⟩
  · simp [Value.ownBlock] at hg
  · simp [Value.ownBlock] at hg
    subst hg
    unfold typOf; rw [hh]
end Go.Proofs.YtdllbdfchloijaaGreatDoor

/- Plain laws: sums, differences, small quotients, shifts of numbers as lists of limbs. -/
namespace Go.Proofs.YtdllbdfchloijaaGreatDoor.Num

theorem val_set0 {l : List Nat} {k : Nat} (x : Nat) (hk : k < l.length) (h0 : l.getD k 0 = 0) : val (l.set k x) = val l + x * BB ^ k := by
  have := val_set x hk
  rw [h0] at this
  omega
theorem take_over {l : List Nat} {k : Nat} (hk : l.length ≤ k) : val (l.take (k + 1)) = val (l.take k) := by
  rw [List.take_of_length_le hk, List.take_of_length_le (by omega)]
theorem getD_set_ne {l : List Nat} {i j x : Nat} (h : i ≠ j) : (l.set i x).getD j 0 = l.getD j 0 := by
  simp [List.getD_eq_getElem?_getD, List.getElem?_set_ne h]
/-- a place of a sum -/
theorem add_step {O A B : List Nat} {i c t : Nat} (hO : i < O.length) (h0 : O.getD i 0 = 0) (hA : i < A.length) (ht : t = c + A.getD i 0 + B.getD i 0)
    (h : val O + c * BB ^ i = val (A.take i) + val (B.take i)) : val (O.set i (t % BB)) + t / BB * BB ^ (i + 1) = val (A.take (i + 1)) + val (B.take (i + 1)) := by
  have hB : val (B.take (i + 1)) = val (B.take i) + B.getD i 0 * BB ^ i := by
    by_cases hb : i < B.length
    · exact val_take_succ hb
    · rw [take_over (by omega)]; simp [hb]
  rw [val_set0 _ hO h0, val_take_succ hA, hB]
  have e : t * BB ^ i = t / BB * BB ^ (i + 1) + t % BB * BB ^ i := by
    conv => lhs; rw [← Nat.div_add_mod t BB, Nat.add_mul]
    rw [Nat.pow_succ]
    congr 1
    ac_rfl
  have e2 : t * BB ^ i = c * BB ^ i + A.getD i 0 * BB ^ i + B.getD i 0 * BB ^ i := by rw [ht]; simp only [Nat.add_mul]
  omega
/-- a place of a difference: what is borrowed is 0 or 1 -/
theorem sub_step {O A B : List Nat} {i br r br' : Nat} (hO : i < O.length) (h0 : O.getD i 0 = 0) (hA : i < A.length) (hr : r + (br + B.getD i 0) = A.getD i 0 + br' * BB)
    (h : val O + val (B.take i) = val (A.take i) - 0 + br * BB ^ i) : val (O.set i r) + val (B.take (i + 1)) = val (A.take (i + 1)) - 0 + br' * BB ^ (i + 1) := by
  have hB : val (B.take (i + 1)) = val (B.take i) + B.getD i 0 * BB ^ i := by
    by_cases hb : i < B.length
    · exact val_take_succ hb
    · rw [take_over (by omega)]; simp [hb]
  rw [val_set0 _ hO h0, val_take_succ hA, hB]
  have e := congrArg (· * BB ^ i) hr
  simp only [Nat.add_mul] at e
  have e2 : br' * BB * BB ^ i = br' * BB ^ (i + 1) := by rw [Nat.pow_succ]; ac_rfl
  omega
theorem sub_end {A B : List Nat} {V br : Nat} (hA : Limbs A) (hle : val B ≤ val A) (h : V + val (B.take A.length) = val (A.take A.length) - 0 + br * BB ^ A.length) (hV : V < BB ^ A.length) : V + val B = val A := by
  rw [List.take_length] at h
  have hlt := val_lt hA
  have hsplit : val B = val (B.take A.length) + BB ^ A.length * val (B.drop A.length) := by
    by_cases hb : A.length ≤ B.length
    · conv => lhs; rw [← List.take_append_drop A.length B, val_append]
      rw [List.length_take, Nat.min_eq_left hb]
    · rw [List.take_of_length_le (by omega), List.drop_eq_nil_of_le (by omega)]; simp [val]
  have hd : val (B.drop A.length) = 0 := by
    apply Nat.eq_zero_of_not_pos
    intro hp
    have : BB ^ A.length * 1 ≤ BB ^ A.length * val (B.drop A.length) := Nat.mul_le_mul_left _ hp
    omega
  rw [hd] at hsplit
  simp at hsplit
  rw [hsplit]
  cases br with
  | zero => omega
  | succ n =>
    exfalso
    have : BB ^ A.length * 1 ≤ BB ^ A.length * (n + 1) := Nat.mul_le_mul_left _ (by omega)
    rw [Nat.mul_comm] at h
    have e : (n + 1) * BB ^ A.length = BB ^ A.length * (n + 1) := Nat.mul_comm _ _
    omega
/-- a place of a quotient by a limb -/
theorem div_step {O A : List Nat} {j c rest : Nat} (hO : j < O.length) (h0 : O.getD j 0 = 0) (hA : j < A.length)
    (h : val O * c + rest * BB ^ (j + 1) + val (A.take (j + 1)) = val A) :
    val (O.set j ((rest * BB + A.getD j 0) / c)) * c + (rest * BB + A.getD j 0) % c * BB ^ j + val (A.take j) = val A := by
  rw [val_set0 _ hO h0, ← h, val_take_succ hA, Nat.add_mul]
  have e : (rest * BB + A.getD j 0) * BB ^ j = (rest * BB + A.getD j 0) / c * BB ^ j * c + (rest * BB + A.getD j 0) % c * BB ^ j := by
    conv => lhs; rw [← Nat.div_add_mod (rest * BB + A.getD j 0) c, Nat.add_mul]
    congr 1
    ac_rfl
  have e2 : (rest * BB + A.getD j 0) * BB ^ j = rest * BB ^ (j + 1) + A.getD j 0 * BB ^ j := by rw [Nat.add_mul, Nat.pow_succ, Nat.mul_assoc, Nat.mul_comm BB (BB ^ j)]
  omega
theorem div_lt {rest x c : Nat} (hr : rest < c) (hx : x < BB) : (rest * BB + x) / c < BB := by
  apply Nat.div_lt_of_lt_mul
  have : (rest + 1) * BB ≤ c * BB := Nat.mul_le_mul_right _ hr
  rw [Nat.add_mul] at this
  omega
/-- shifting up: a place; m limbs and k bits -/
theorem shl_step {O A : List Nat} {i m p x : Nat} (hO : i + m + 1 < O.length) (h0 : O.getD (i + m + 1) 0 = 0) (hA : i < A.length) (hx : x = A.getD i 0)
    (h : val O = val (A.take i) * (p * BB ^ m)) : val ((O.set (i + m) (O.getD (i + m) 0 + x * p % BB)).set (i + m + 1) (x * p / BB)) = val (A.take (i + 1)) * (p * BB ^ m) := by
  have h1 : (O.set (i + m) (O.getD (i + m) 0 + x * p % BB)).getD (i + m + 1) 0 = 0 := by rw [getD_set_ne (by omega), h0]
  rw [val_set0 _ (by simpa using hO) h1]
  have h2 := val_set (l := O) (k := i + m) (O.getD (i + m) 0 + x * p % BB) (by omega)
  rw [Nat.add_mul (O.getD (i + m) 0)] at h2
  rw [val_take_succ hA, ← hx, Nat.add_mul, ← h]
  have e : x * p * BB ^ (i + m) = x * p / BB * BB ^ (i + m + 1) + x * p % BB * BB ^ (i + m) := by
    conv => lhs; rw [← Nat.div_add_mod (x * p) BB, Nat.add_mul]
    rw [Nat.pow_succ]
    congr 1
    ac_rfl
  have e2 : x * BB ^ i * (p * BB ^ m) = x * p * BB ^ (i + m) := by rw [Nat.pow_add]; ac_rfl
  omega
/-- the low part of a place that is shifted up meets no bit -/
theorem or_low {x k o : Nat} (ho : o < 2 ^ k) (hk : k ≤ 32) : (x * 2 ^ k % BB) ||| o = o + x * 2 ^ k % BB := by
  have e : BB = 2 ^ k * 2 ^ (32 - k) := by rw [← Nat.pow_add, Nat.add_sub_cancel' hk]; rfl
  have e2 : x * 2 ^ k % BB = 2 ^ k * (x % 2 ^ (32 - k)) := by rw [e, Nat.mul_comm x, Nat.mul_mod_mul_left]
  rw [e2, ← Nat.two_pow_add_eq_or_of_lt ho]
  omega
theorem shl_hi {x k : Nat} (hx : x < BB) : x * 2 ^ k / BB < 2 ^ k := by
  apply Nat.div_lt_of_lt_mul
  rw [Nat.mul_comm BB, Nat.mul_comm]
  exact Nat.mul_lt_mul_of_pos_left hx (Nat.pow_pos (by omega))
theorem shl_lo {x k o : Nat} (ho : o < 2 ^ k) (hk : k ≤ 32) : o + x * 2 ^ k % BB < BB := by
  have e : BB = 2 ^ k * 2 ^ (32 - k) := by rw [← Nat.pow_add, Nat.add_sub_cancel' hk]; rfl
  have e2 : x * 2 ^ k % BB = 2 ^ k * (x % 2 ^ (32 - k)) := by rw [e, Nat.mul_comm x, Nat.mul_mod_mul_left]
  rw [e2, e]
  have h1 : x % 2 ^ (32 - k) < 2 ^ (32 - k) := Nat.mod_lt _ (Nat.pow_pos (by omega))
  have h2 : 2 ^ k * (x % 2 ^ (32 - k) + 1) ≤ 2 ^ k * 2 ^ (32 - k) := Nat.mul_le_mul_left _ h1
  rw [Nat.mul_add] at h2
  omega
/-- shifting down by less than a limb -/
def shrL (k : Nat) : List Nat → List Nat
  | [] => []
  | x :: l => (x + l.getD 0 0 * BB) / 2 ^ k % BB :: shrL k l
theorem shrL_len (k : Nat) (l : List Nat) : (shrL k l).length = l.length := by
  induction l with
  | nil => rfl
  | cons x l ih => simp [shrL, ih]
theorem shrL_get (k : Nat) (l : List Nat) (i : Nat) (hi : i < l.length) : (shrL k l).getD i 0 = (l.getD i 0 + l.getD (i + 1) 0 * BB) / 2 ^ k % BB := by
  induction l generalizing i with
  | nil => simp at hi
  | cons x l ih =>
    cases i with
    | zero => rw [shrL, List.getD_cons_zero, List.getD_cons_zero, List.getD_cons_succ]
    | succ i => rw [shrL, List.getD_cons_succ, List.getD_cons_succ, List.getD_cons_succ]; exact ih i (by simpa using hi)
theorem shrL_limbs (k : Nat) (l : List Nat) : Limbs (shrL k l) := by
  induction l with
  | nil => intro x hx; cases hx
  | cons x l ih =>
    intro y hy
    rcases List.mem_cons.1 hy with rfl | h
    · exact Nat.mod_lt _ BB_pos
    · exact ih y h
theorem shr_arith {B b K x V y : Nat} (e : B = b * K) (hp : 0 < b) (hx : x < B) (hmod : V % b = y % b) : (x + y * B) / b % B + B * (V / b) = (x + B * V) / b := by
  have h1 : (x + B * V) / b = x / b + K * V := by rw [e, Nat.mul_assoc, Nat.add_mul_div_left _ _ hp]
  have h2 : (x + y * B) / b = x / b + K * y := by rw [e, show y * (b * K) = b * (K * y) from by ac_rfl, Nat.add_mul_div_left _ _ hp]
  rw [h1, h2]
  have hxb : x / b < K := Nat.div_lt_of_lt_mul (by rw [← e]; exact hx)
  have key : ∀ z, (x / b + K * z) % B = x / b + K * (z % b) := fun z => by
    have e3 : K * z = B * (z / b) + K * (z % b) := by
      conv => lhs; rw [← Nat.div_add_mod z b, Nat.mul_add]
      rw [e]
      congr 1
      ac_rfl
    rw [e3, show x / b + (B * (z / b) + K * (z % b)) = x / b + K * (z % b) + B * (z / b) from by omega, Nat.add_mul_mod_self_left]
    apply Nat.mod_eq_of_lt
    have h5 : z % b + 1 ≤ b := Nat.mod_lt _ hp
    have h6 : K * (z % b + 1) ≤ K * b := Nat.mul_le_mul_left _ h5
    rw [Nat.mul_add] at h6
    rw [e, Nat.mul_comm b K]
    omega
  rw [key, ← hmod]
  have e4 : K * V = B * (V / b) + K * (V % b) := by
    conv => lhs; rw [← Nat.div_add_mod V b, Nat.mul_add]
    rw [e]
    congr 1
    ac_rfl
  omega
theorem BB_split {k : Nat} (hk : k ≤ 32) : BB = 2 ^ k * 2 ^ (32 - k) := by rw [← Nat.pow_add, Nat.add_sub_cancel' hk]; rfl
theorem val_mod (k : Nat) (hk : k ≤ 32) (l : List Nat) : val l % 2 ^ k = l.getD 0 0 % 2 ^ k := by
  cases l with
  | nil => rfl
  | cons y l =>
    rw [val, BB_split hk, Nat.mul_assoc, Nat.add_mul_mod_self_left]
    rfl
theorem shrL_val (k : Nat) (hk : k < 32) (l : List Nat) (hl : Limbs l) : val (shrL k l) = val l / 2 ^ k := by
  induction l with
  | nil => simp [shrL, val]
  | cons x l ih =>
    have hx := hl x (by simp)
    have ih := ih (fun y hy => hl y (by simp [hy]))
    rw [shrL, val, val, ih]
    exact shr_arith (BB_split (by omega)) (Nat.pow_pos (by omega)) hx (val_mod k (by omega) l)
theorem val_drop {l : List Nat} {m : Nat} (hl : Limbs l) (hm : m ≤ l.length) : val (l.drop m) = val l / BB ^ m := by
  have h : val l = val (l.take m) + BB ^ m * val (l.drop m) := by
    conv => lhs; rw [← List.take_append_drop m l, val_append]
    rw [List.length_take, Nat.min_eq_left hm]
  have h2 := val_lt (limbs_take hl m)
  rw [List.length_take, Nat.min_eq_left hm] at h2
  rw [h, Nat.add_mul_div_left _ _ (Nat.pow_pos BB_pos), Nat.div_eq_of_lt h2, Nat.zero_add]
end Go.Proofs.YtdllbdfchloijaaGreatDoor.Num

/- integer: Bits. -/
namespace Go.Proofs.YtdllbdfchloijaaGreatDoor
open Num
open Go.ChangeShapes Go.WideShapes Go.ChangeAt Go.RowKit
set_option linter.unusedVariables false
set_option linter.unusedSimpArgs false
end Go.Proofs.YtdllbdfchloijaaGreatDoor

/- integer: Pow, where the exponent is not below 0 and the power is not too long. -/
namespace Go.Proofs.YtdllbdfchloijaaGreatDoor
open Num
open Go.ChangeShapes Go.WideShapes Go.ChangeAt Go.RowKit
set_option linter.unusedVariables false
set_option linter.unusedSimpArgs false
namespace Num
theorem Bd.pow {k : Nat} {x : Int} (h : Bd k x) (n : Nat) : Bd (n * k + 1) (x ^ n) := by
  induction n with
  | zero => simp [Bd]
  | succ n ih =>
    rw [Int.pow_succ, Nat.succ_mul]
    exact (ih.mul h).mono (by omega)
end Num

end Go.Proofs.YtdllbdfchloijaaGreatDoor

