/- Texts of this seat, laid together: RefA, RefB. Each opens with its own remark, which says what it proves, and under which conditions. -/
import Derived.Test.YtannhpadoooedaaDoorG01
import Derived.Test.YtannhpadoooedaaDoorG07
import Derived.Deep.AppendLies
/- The reference's numbers (digits to the base 65536): norm, Of, Make, Sign. -/
namespace Go.Proofs.YtannhpadoooedaaDoor
open Num
open Go.ChangeShapes Go.WideShapes Go.ChangeAt Go.RowKit
set_option linter.unusedVariables false
set_option linter.unusedSimpArgs false

/-- a value is the reference's number z -/
def IsRef (w : World) (v : Value) (z : Int) : Prop := ∃ neg a cap l, v = iv neg a (List.length l) cap ∧ U32 w a cap l ∧ NumR.Limbs l ∧ Nrm l ∧ (neg = true → l ≠ []) ∧ z = sg neg (NumR.val l)
theorem IsRef.keep {w w' : World} {v : Value} {z : Int} (h : IsRef w v z) (hb : Below w.heap.size w w') : IsRef w' v z := by
  obtain ⟨neg, a, cap, l, h1, h2, h3⟩ := h
  exact ⟨neg, a, cap, l, h1, h2.keep hb, h3⟩
theorem IsRef.put {w : World} {x : Value} {z : Int} {p : Addr} {v : Value} (h : IsRef w x z) (hp : w.cell? p = some v) (hv : ∀ n, v ≠ .int .u32 n) (u : Value) : IsRef (w.setCell p u) x z := by
  obtain ⟨neg, a, cap, l, h1, h2, h3⟩ := h
  exact ⟨neg, a, cap, l, h1, h2.put hp hv u, h3⟩
theorem IsRef.put2 {w : World} {x : Value} {z : Int} {g : Nat} {b : Bool} {a : Option Addr} {n c : Nat} (h : IsRef w x z) (r0 : w.cell? ⟨g, 0, none⟩ = some (.bool b)) (r1 : w.cell? ⟨g, 1, none⟩ = some (.slice a n c)) (u v : Value) : IsRef ((w.setCell ⟨g, 0, none⟩ u).setCell ⟨g, 1, none⟩ v) x z :=
  (h.put r0 (fun _ e => by cases e) u).put (cell_far r1 (by simp) u) (fun _ e => by cases e) v
theorem U32.cap {w : World} {a : Option Addr} {cap : Nat} {l m : List Nat} (h : U32 w a cap l) (hp : m <+: l) : U32 w a cap m :=
  ⟨Nat.le_trans hp.length_le h.1, h.2.1, fun x hx => h.2.2.1 x (hp.subset hx), h.2.2.2.take hp⟩

set_option maxRecDepth 100000 in
set_option maxHeartbeats 1000000 in
theorem rnormK_c (neg : Bool) (a : Option Addr) (ca : Nat) (l : List Nat) (w : World) (ha : U32 w a ca l) :
    Calls Tryd.prog 63 #[.bool neg, .slice a l.length ca] w fun e w' => e = .returned (iv (neg && decide (0 < (trimL l).length)) a (trimL l).length ca) ∧ Below w.heap.size w w' := by
  obtain ⟨hc, hm, hl, hcs⟩ := ha
  unfold maxLen at hm
  go_enter Tryd.func63, Tryd.ntmps63
  go_wp2
  go_loop [5] (fun x => ∃ k : Nat, k ≤ l.length ∧ x = .int .i64 k ∧ trimL (l.take k) = trimL l) (fun x => (intOf x).toNat)
  case atStart => exact ⟨l.length, Nat.le_refl _, rfl, by rw [List.take_length]⟩
  case round =>
    obtain ⟨k, hk, rfl, ht⟩ := hrel
    have HT := Lib.hid ht
    clear ht
    cases k with
    | zero =>
      have hz : (trimL l).length = 0 := by have := HT.out; rw [List.take_zero] at this; rw [← this]; rfl
      have HZ := Lib.hid hz
      clear hz
      cases neg with
      | true =>
        go_wp2
        refine bodyPost_ret (v := iv false a 0 ca) (by simp [iv, results, Tryd.results63, go_sem, *]) rfl ⟨by rw [HZ.out] <;> simp, ?_⟩
        repeat (first | exact Below.refl _ _ | exact Below.refl _ _ | refine Below.drew ?_ | refine below_drewN ?_ _ | refine bset ?_ (by simp <;> omega) _ | refine bal ?_ _)
      | false =>
        go_wp2
        refine bodyPost_ret (v := iv false a 0 ca) (by simp [iv, results, Tryd.results63, go_sem, *]) rfl ⟨by rw [HZ.out] <;> simp, ?_⟩
        repeat (first | exact Below.refl _ _ | exact Below.refl _ _ | refine Below.drew ?_ | refine below_drewN ?_ _ | refine bset ?_ (by simp <;> omega) _ | refine bal ?_ _)
    | succ j =>
      rcases hcs with rfl | ⟨b, off, rfl, hcell⟩
      · simp at hk
      have hj := cell_alloc (hcell j (by omega)) (.cells #[.bool false, .slice none 0 0] 84)
      by_cases h0 : l.getD j 0 = 0
      · have HN := Lib.hid (trim_take_zero (by omega : j < l.length) h0)
        rw [h0] at hj
        go_wp2
        exact ⟨⟨j, by omega, rfl, HN.out.symm.trans HT.out⟩, by simp [intOf] <;> omega⟩
      · have HN := Lib.hid (trim_take_pos (by omega : j < l.length) h0)
        generalize hx : l.getD j 0 = x at *
        have hx0 : ((x : Int) == 0) = false := by simp; omega
        have HL := Lib.hid (show (trimL l).length = j + 1 by rw [← HT.out, HN.out]; simp; omega)
        cases neg with
        | true =>
          go_wp2
          refine bodyPost_ret (v := iv true (some ⟨b, off, none⟩) (j + 1) ca) (by simp [iv, results, Tryd.results63, go_sem, *]) rfl ⟨by rw [HL.out] <;> simp, ?_⟩
          repeat (first | exact Below.refl _ _ | exact Below.refl _ _ | refine Below.drew ?_ | refine below_drewN ?_ _ | refine bset ?_ (by simp <;> omega) _ | refine bal ?_ _)
        | false =>
          go_wp2
          refine bodyPost_ret (v := iv false (some ⟨b, off, none⟩) (j + 1) ca) (by simp [iv, results, Tryd.results63, go_sem, *]) rfl ⟨by rw [HL.out] <;> simp, ?_⟩
          repeat (first | exact Below.refl _ _ | exact Below.refl _ _ | refine Below.drew ?_ | refine below_drewN ?_ _ | refine bset ?_ (by simp <;> omega) _ | refine bal ?_ _)

theorem rnorm_c (neg : Bool) (a : Option Addr) (ca : Nat) (l : List Nat) (w : World) (ha : U32 w a ca l) (hr : NumR.Limbs l) :
    Calls Tryd.prog 63 #[.bool neg, .slice a l.length ca] w fun e w' => (∃ v, e = .returned v ∧ IsRef w' v (sg neg (NumR.val l))) ∧ Below w.heap.size w w' := by
  have key := rnormK_c neg a ca l w ha
  refine key.mono ?_
  rintro e w1 ⟨rfl, hB⟩
  refine ⟨⟨_, rfl, _, a, ca, trimL l, rfl, (ha.cap (trim_prefix l)).keep hB, NumR.trim_limbs hr, trim_nrm l, ?_, ?_⟩, hB⟩
  · intro h; simp at h; intro e; rw [e] at h; simp at h
  · rw [← NumR.val_trim l]
    by_cases h0 : trimL l = []
    · rw [h0]; simp [sg, NumR.val]
    · have : 0 < (trimL l).length := List.length_pos_iff.2 h0
      simp [this, sg]
end Go.Proofs.YtannhpadoooedaaDoor
/- The reference's numbers: Of, Make. -/
namespace Go.Proofs.YtannhpadoooedaaDoor
open Num
open Go.ChangeShapes Go.WideShapes Go.ChangeAt Go.RowKit
set_option linter.unusedVariables false
set_option linter.unusedSimpArgs false
namespace NumR
theorem limbs_snoc {l : List Nat} {x : Nat} (h : Limbs l) (hx : x < BB) : Limbs (l ++ [x]) := by
  intro y hy
  rcases List.mem_append.1 hy with h1 | h1
  · exact h y h1
  · rw [List.mem_singleton.1 h1]; exact hx
theorem limbs_snoc2 {l : List Nat} {x y : Nat} (h : Limbs l) (hx : x < BB) (hy : y < BB) : Limbs (l ++ [x, y]) := by
  have := limbs_snoc (limbs_snoc h hx) hy
  simpa using this
theorem big {l : Nat} {u m : Nat} (hm : m < 18446744073709551616) (hu : 0 < u) (h : BB ^ l * u ≤ m) : l ≤ 3 := by
  apply Nat.le_of_not_lt
  intro h4
  have h1 : BB ^ 4 ≤ BB ^ l := Nat.pow_le_pow_right BB_pos (by omega)
  have h2 : BB ^ 4 = 18446744073709551616 := by unfold BB; rfl
  have h3 : BB ^ l * 1 ≤ BB ^ l * u := Nat.mul_le_mul_left _ (by omega)
  omega
/-- two digits for each limb -/
theorem val_two {l L : List Nat} {k x y : Nat} (hk : k < l.length) (hx : x + 65536 * y = l.getD k 0) (hL : L.length = 2 * k) (hv : val L = Num.val (l.take k)) : val (L ++ [x, y]) = Num.val (l.take (k + 1)) := by
  rw [Num.val_take_succ hk, val_append, hv, hL, ← hx]
  have e : BB ^ (2 * k) = Num.BB ^ k := by rw [Nat.pow_mul]; rfl
  rw [e]
  simp only [val, Nat.mul_zero, Nat.add_zero]
  rw [Nat.mul_comm (Num.BB ^ k)]
  rfl
end NumR
theorem w32 {x : Nat} (h : x < BB) : IntKind.u32.wrap (x : Int) = (x : Int) := by
  unfold BB at h
  simp only [IntKind.wrap, IntKind.bits, IntKind.signed]
  simp
  omega
theorem limbs_of_r {l : List Nat} (h : NumR.Limbs l) : Limbs l := fun x hx => by have := h x hx; unfold NumR.BB at this; unfold BB; omega

set_option maxRecDepth 100000 in
set_option maxHeartbeats 1000000 in
theorem rof_c (n : Int) (w : World) (h1 : -9223372036854775808 ≤ n) (h2 : n ≤ 9223372036854775807) :
    Calls Tryd.prog 39 #[.int .i64 n] w fun e w' => (∃ v, e = .returned v ∧ IsRef w' v n) ∧ Below w.heap.size w w' := by
  obtain ⟨i0, hi, hz0, hz1, hz2⟩ := info_parts info32
  obtain ⟨m, hm⟩ : ∃ m : Nat, m = n.natAbs := ⟨_, rfl⟩
  have hmB : m < 18446744073709551616 := by omega
  by_cases h0 : n < 0
  · have e1 : IntKind.u64.wrap (-IntKind.u64.wrap n) = (m : Int) := by
      simp only [IntKind.wrap, IntKind.bits, IntKind.signed]
      simp
      omega
    have HS := Lib.hid (show sg true m = n by simp [sg]; omega)
    clear hm
    go_enter Tryd.func39, Tryd.ntmps39
    go_wp2
    have hB := Below.refl w.heap.size w
    refine wp_name fun w0 hW0 => ?_
    have r0f : w0.frozen? ⟨w.heap.size, 0, none⟩ = false := by rw [hW0]; simp [go_sem, *]
    have r0 : w0.cell? ⟨w.heap.size, 0, none⟩ = some (.bool false) := by rw [hW0]; exact (by first | assumption | exact cell_new (by with_reducible first | rfl | (simp; done) | (simp; omega)) rfl | (repeat (first | assumption | exact cell_new (by with_reducible first | rfl | (simp; done) | (simp; omega)) rfl | refine cell_alloc ?_ _ | refine cell_drew ?_ | refine cell_drewN ?_ _ | refine cell_far ?_ (by simp) _ | (refine cell_far ?_ (by simp <;> omega) _))) | simp [go_sem, *])
    have zr0 := cell_lt r0
    have r1f : w0.frozen? ⟨w.heap.size, 1, none⟩ = false := by rw [hW0]; simp [go_sem, *]
    have r1 : w0.cell? ⟨w.heap.size, 1, none⟩ = some (.slice none 0 0) := by rw [hW0]; exact (by first | assumption | exact cell_new (by with_reducible first | rfl | (simp; done) | (simp; omega)) rfl | (repeat (first | assumption | exact cell_new (by with_reducible first | rfl | (simp; done) | (simp; omega)) rfl | refine cell_alloc ?_ _ | refine cell_drew ?_ | refine cell_drewN ?_ _ | refine cell_far ?_ (by simp) _ | (refine cell_far ?_ (by simp <;> omega) _))) | simp [go_sem, *])
    have hB : Below w.heap.size w w0 := by rw [hW0]; repeat (first | exact Below.refl _ _ | exact hB | refine Below.drew ?_ | refine below_drewN ?_ _ | refine bset ?_ (by simp <;> omega) _ | refine bal ?_ _)
    have hz : w.heap.size ≤ w0.heap.size := hB.size
    clear hW0
    go_loopw [3, 4] (fun x d wr => ∃ (u : Nat) (L : List Nat), x = .int .u64 u ∧ Own32 w0 wr d L ∧ NumR.Limbs L ∧ Hid (NumR.val L + NumR.BB ^ L.length * u = m)) (fun x _ _ => (intOf x).toNat)
    case atStart => exact ⟨m, [], rfl, Own32.nil (Below.refl _ _), (fun _ h => by cases h), Lib.hid (by simp [NumR.val])⟩
    case round =>
      obtain ⟨u, L, rfl, hO, hL, hV⟩ := hrel
      by_cases hu : 0 < u
      · have hl := NumR.big hmB hu (Nat.le_trans (Nat.le_add_left _ _) (Nat.le_of_eq hV.out))
        have hum : u ≤ m := by
          have h1 := hV.out
          have h2 : 1 * u ≤ NumR.BB ^ L.length * u := Nat.mul_le_mul_right _ (Nat.pow_pos NumR.BB_pos)
          omega
        obtain ⟨y, hy⟩ : ∃ y, y = u % 65536 := ⟨_, rfl⟩
        obtain ⟨z, hz⟩ : ∃ z, z = u / 65536 := ⟨_, rfl⟩
        have ey : (u : Int) % 65536 = (y : Int) := by omega
        have ez : (u : Int) / 65536 = (z : Int) := by omega
        have hyB : y < 65536 := by omega
        have hzu : z < u := by omega
        have ez2 := w64 (x := z) (by unfold BB; omega)
        have HU := Lib.hid (show y + 65536 * z = u by omega)
        clear hy hz
        go_wp2_with (at_builtin; refine app32 (X := [y]) rfl rfl hO rfl rfl ?_ ?_; (simp; omega); intro v' w1 hO1; clear hO)
        refine ⟨⟨z, L ++ [y], rfl, hO1, NumR.limbs_snoc hL hyB, Lib.hid ?_⟩, by simp [intOf] <;> omega⟩
        rw [← hV.out, ← HU.out, NumR.val_append, List.length_append, List.length_singleton, Nat.pow_succ]
        simp only [NumR.val, Nat.mul_add, Nat.mul_zero, Nat.add_zero, Nat.mul_assoc, Nat.add_assoc]
        rfl
      · obtain rfl : u = 0 := by omega
        have HV := Lib.hid (show NumR.val L = m by simpa using hV.out)
        clear hV
        obtain ⟨a1, c1, rfl, hU⟩ := hO.u32 (limbs_of_r hL)
        have hB1 := hO.2
        have r0f := bkeepf hB1 r0 r0f
        have r0 := bkeep hB1 r0
        have r1f := bkeepf hB1 r1 r1f
        have r1 := bkeep hB1 r1
        have hB := bthen hB hB1
        have hz := hB.size
        clear hO
        go_wp2_with fail
        refine (rnorm_c true a1 c1 L wr hU hL).mono ?_
        rintro e w2 ⟨⟨v, rfl, hi⟩, hb2⟩
        have r0f := bkeepf hb2 r0 r0f
        have r0 := bkeep hb2 r0
        have r1f := bkeepf hb2 r1 r1f
        have r1 := bkeep hb2 r1
        have hB := bthen hB hb2
        have hz := hB.size
        rw [HV.out, HS.out] at hi
        have HI2 := Lib.hid (hi.put2 r0 r1)
        obtain ⟨n2, a2, c2, l2, rfl, _, _, _, _, _⟩ := hi
        unfold iv at *
        go_wp2
        refine bodyPost_ret (v := .agg #[.bool n2, .slice a2 l2.length c2]) (by simp [results, Tryd.results39, go_sem, *]) rfl ⟨⟨_, rfl, HI2.out _ _⟩, ?_⟩
        repeat (first | exact Below.refl _ _ | exact hB | refine Below.drew ?_ | refine below_drewN ?_ _ | refine bset ?_ (by simp <;> omega) _ | refine bal ?_ _)
  · obtain rfl : n = m := by omega
    have HS := Lib.hid (show sg false m = m by simp [sg])
    clear hm
    go_enter Tryd.func39, Tryd.ntmps39
    go_wp2
    have hB := Below.refl w.heap.size w
    refine wp_name fun w0 hW0 => ?_
    have r0f : w0.frozen? ⟨w.heap.size, 0, none⟩ = false := by rw [hW0]; simp [go_sem, *]
    have r0 : w0.cell? ⟨w.heap.size, 0, none⟩ = some (.bool false) := by rw [hW0]; exact (by first | assumption | exact cell_new (by with_reducible first | rfl | (simp; done) | (simp; omega)) rfl | (repeat (first | assumption | exact cell_new (by with_reducible first | rfl | (simp; done) | (simp; omega)) rfl | refine cell_alloc ?_ _ | refine cell_drew ?_ | refine cell_drewN ?_ _ | refine cell_far ?_ (by simp) _ | (refine cell_far ?_ (by simp <;> omega) _))) | simp [go_sem, *])
    have zr0 := cell_lt r0
    have r1f : w0.frozen? ⟨w.heap.size, 1, none⟩ = false := by rw [hW0]; simp [go_sem, *]
    have r1 : w0.cell? ⟨w.heap.size, 1, none⟩ = some (.slice none 0 0) := by rw [hW0]; exact (by first | assumption | exact cell_new (by with_reducible first | rfl | (simp; done) | (simp; omega)) rfl | (repeat (first | assumption | exact cell_new (by with_reducible first | rfl | (simp; done) | (simp; omega)) rfl | refine cell_alloc ?_ _ | refine cell_drew ?_ | refine cell_drewN ?_ _ | refine cell_far ?_ (by simp) _ | (refine cell_far ?_ (by simp <;> omega) _))) | simp [go_sem, *])
    have hB : Below w.heap.size w w0 := by rw [hW0]; repeat (first | exact Below.refl _ _ | exact hB | refine Below.drew ?_ | refine below_drewN ?_ _ | refine bset ?_ (by simp <;> omega) _ | refine bal ?_ _)
    have hz : w.heap.size ≤ w0.heap.size := hB.size
    clear hW0
    go_loopw [3, 4] (fun x d wr => ∃ (u : Nat) (L : List Nat), x = .int .u64 u ∧ Own32 w0 wr d L ∧ NumR.Limbs L ∧ Hid (NumR.val L + NumR.BB ^ L.length * u = m)) (fun x _ _ => (intOf x).toNat)
    case atStart => exact ⟨m, [], rfl, Own32.nil (Below.refl _ _), (fun _ h => by cases h), Lib.hid (by simp [NumR.val])⟩
    case round =>
      obtain ⟨u, L, rfl, hO, hL, hV⟩ := hrel
      by_cases hu : 0 < u
      · have hl := NumR.big hmB hu (Nat.le_trans (Nat.le_add_left _ _) (Nat.le_of_eq hV.out))
        have hum : u ≤ m := by
          have h1 := hV.out
          have h2 : 1 * u ≤ NumR.BB ^ L.length * u := Nat.mul_le_mul_right _ (Nat.pow_pos NumR.BB_pos)
          omega
        obtain ⟨y, hy⟩ : ∃ y, y = u % 65536 := ⟨_, rfl⟩
        obtain ⟨z, hz⟩ : ∃ z, z = u / 65536 := ⟨_, rfl⟩
        have ey : (u : Int) % 65536 = (y : Int) := by omega
        have ez : (u : Int) / 65536 = (z : Int) := by omega
        have hyB : y < 65536 := by omega
        have hzu : z < u := by omega
        have ez2 := w64 (x := z) (by unfold BB; omega)
        have HU := Lib.hid (show y + 65536 * z = u by omega)
        clear hy hz
        go_wp2_with (at_builtin; refine app32 (X := [y]) rfl rfl hO rfl rfl ?_ ?_; (simp; omega); intro v' w1 hO1; clear hO)
        refine ⟨⟨z, L ++ [y], rfl, hO1, NumR.limbs_snoc hL hyB, Lib.hid ?_⟩, by simp [intOf] <;> omega⟩
        rw [← hV.out, ← HU.out, NumR.val_append, List.length_append, List.length_singleton, Nat.pow_succ]
        simp only [NumR.val, Nat.mul_add, Nat.mul_zero, Nat.add_zero, Nat.mul_assoc, Nat.add_assoc]
        rfl
      · obtain rfl : u = 0 := by omega
        have HV := Lib.hid (show NumR.val L = m by simpa using hV.out)
        clear hV
        obtain ⟨a1, c1, rfl, hU⟩ := hO.u32 (limbs_of_r hL)
        have hB1 := hO.2
        have r0f := bkeepf hB1 r0 r0f
        have r0 := bkeep hB1 r0
        have r1f := bkeepf hB1 r1 r1f
        have r1 := bkeep hB1 r1
        have hB := bthen hB hB1
        have hz := hB.size
        clear hO
        go_wp2_with fail
        refine (rnorm_c false a1 c1 L wr hU hL).mono ?_
        rintro e w2 ⟨⟨v, rfl, hi⟩, hb2⟩
        have r0f := bkeepf hb2 r0 r0f
        have r0 := bkeep hb2 r0
        have r1f := bkeepf hb2 r1 r1f
        have r1 := bkeep hb2 r1
        have hB := bthen hB hb2
        have hz := hB.size
        rw [HV.out, HS.out] at hi
        have HI2 := Lib.hid (hi.put2 r0 r1)
        obtain ⟨n2, a2, c2, l2, rfl, _, _, _, _, _⟩ := hi
        unfold iv at *
        go_wp2
        refine bodyPost_ret (v := .agg #[.bool n2, .slice a2 l2.length c2]) (by simp [results, Tryd.results39, go_sem, *]) rfl ⟨⟨_, rfl, HI2.out _ _⟩, ?_⟩
        repeat (first | exact Below.refl _ _ | exact hB | refine Below.drew ?_ | refine below_drewN ?_ _ | refine bset ?_ (by simp <;> omega) _ | refine bal ?_ _)
end Go.Proofs.YtannhpadoooedaaDoor
