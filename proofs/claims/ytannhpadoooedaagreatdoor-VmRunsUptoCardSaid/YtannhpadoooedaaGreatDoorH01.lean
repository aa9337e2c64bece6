/- Texts of this seat, laid together: RefM, RefN. Each opens with its own remark, which says what it proves, and under which conditions. -/
import Derived.Test.YtannhpadoooedaaGreatDoorG26
set_option linter.unusedVariables false
set_option linter.unusedSimpArgs false
/- The reference's numbers: Power. -/
namespace Go.Proofs.YtannhpadoooedaaGreatDoor
open Num
open Go.ChangeShapes Go.WideShapes Go.ChangeAt Go.RowKit
set_option linter.unusedVariables false
set_option linter.unusedSimpArgs false
theorem pow_limbs (q m : Nat) (hm : m < 16) : NumR.Limbs ((List.replicate (q + 1) 0).set q (2 ^ m)) ∧ NumR.val ((List.replicate (q + 1) 0).set q (2 ^ m)) = 2 ^ (16 * q + m) := by
  have h2 : 2 ^ m < 65536 := Nat.lt_of_lt_of_le (Nat.pow_lt_pow_right (by omega) hm) (by decide)
  have e : (List.replicate (q + 1) 0).set q (2 ^ m) = List.replicate q 0 ++ [2 ^ m] := by
    rw [List.replicate_succ', List.set_append_right _ _ (by simp)]
    simp
  rw [e]
  refine ⟨fun x hx => ?_, ?_⟩
  · simp only [List.mem_append, List.mem_replicate, List.mem_singleton] at hx
    rcases hx with ⟨_, rfl⟩ | rfl
    · exact NumR.BB_pos
    · exact h2
  · rw [NumR.val_append, NumR.val_zeros]
    simp only [NumR.val, List.length_replicate, Nat.mul_zero, Nat.add_zero, Nat.zero_add]
    rw [Nat.pow_add, Nat.pow_mul]
    rfl
set_option maxRecDepth 100000 in
set_option maxHeartbeats 1000000 in
theorem rpower_c (n : Nat) (w : World) (hn : n ≤ 1048576) :
    Calls Tryz.prog 160 #[.int .i64 (n : Int)] w fun e w' => (∃ v, e = .returned v ∧ IsRef w' v (2 ^ n)) ∧ Below w.heap.size w w' := by
  obtain ⟨q, hq⟩ : ∃ q, q = n / 16 := ⟨_, rfl⟩
  obtain ⟨m, hm⟩ : ∃ m, m = n % 16 := ⟨_, rfl⟩
  have hnn : n = 16 * q + m := by omega
  have e1 : (n : Int) / 16 = (q : Int) := by omega
  have e1' : (n : Int).tdiv 16 = (q : Int) := by rw [Int.tdiv_eq_ediv_of_nonneg (by omega)]; exact e1
  have e2 : (n : Int) % 16 = (m : Int) := by omega
  have e2' : (n : Int).tmod 16 = (m : Int) := by rw [Int.tmod_eq_emod_of_nonneg (by omega)]; exact e2
  have hm16 : m < 16 := by omega
  have hqk : q ≤ 65536 := by omega
  have HP := Lib.hid (pow_limbs q m hm16)
  have HN := Lib.hid (show (2 : Int) ^ n = sg false (NumR.val ((List.replicate (q + 1) 0).set q (2 ^ m))) by rw [(pow_limbs q m hm16).2, ← hnn]; simp [sg])
  have hmk := mk32 (q + 1) (by omega)
  have ec : ((q + 1 : Nat) : Int) = (q : Int) + 1 := by omega
  rw [ec] at hmk
  have h2 : 2 ^ m < 65536 := Nat.lt_of_lt_of_le (Nat.pow_lt_pow_right (by omega) hm16) (by decide)
  obtain ⟨y, hy⟩ : ∃ y, y = 2 ^ m := ⟨_, rfl⟩
  rw [← hy] at HP HN h2
  have e3 : (2 : Int) ^ m = (y : Int) := by rw [hy, Int.natCast_pow]; rfl
  have e4 : IntKind.u32.wrap (y : Int) = (y : Int) := w32 (by unfold BB; omega)
  clear hq hm hy ec hnn
  have hs : w.heap.size + 1 = (w.alloc (.cells #[.bool false, .slice none 0 0] 44)).heap.size := by rw [World.size_alloc]
  have hb : Blk ((w.alloc (.cells #[.bool false, .slice none 0 0] 44)).alloc (.cells (cel (List.replicate (q + 1) 0)).toArray 137)) (w.heap.size + 1) (List.replicate (q + 1) 0) := blk_at hs
  have c0 := hb.cell q (by simp)
  have f0 := hb.frozen q
  have hu : U32 ((w.alloc (.cells #[.bool false, .slice none 0 0] 44)).alloc (.cells ((cel (List.replicate (q + 1) 0)).set q (.int .u32 (y : Int))).toArray 137)) (some ⟨w.heap.size + 1, 0, none⟩) (q + 1) ((List.replicate (q + 1) 0).set q y) := by
    have h := (blk_at (l := (List.replicate (q + 1) 0).set q y) hs).u32 (limbs_of_r HP.out.1) (by unfold maxLen; simp; omega)
    rw [List.length_set, List.length_replicate, show cel ((List.replicate (q + 1) 0).set q y) = (cel (List.replicate (q + 1) 0)).set q (.int .u32 (y : Int)) by simp [cel, List.map_set]] at h
    exact h
  have nc := rnorm_c false _ _ _ _ hu HP.out.1
  rw [← HN.out] at nc
  rw [List.length_set, List.length_replicate] at nc
  clear hu
  clear hb hs
  go_enter Tryz.func160, Tryz.ntmps160
  go_wp2_with fail
  refine nc.mono ?_
  rintro e w1 ⟨⟨v, rfl, hi⟩, hb1⟩
  have hB := bthen (bal (bal (Below.refl w.heap.size w) _) _) hb1
  have x0 : w1.cell? ⟨w.heap.size, 0, none⟩ = some (.bool false) := bkeep hb1 (by first | assumption | exact cell_new (by with_reducible first | rfl | (simp; done) | (simp; omega)) rfl | (repeat (first | assumption | exact cell_new (by with_reducible first | rfl | (simp; done) | (simp; omega)) rfl | refine cell_alloc ?_ _ | refine cell_drew ?_ | refine cell_drewN ?_ _ | refine cell_far ?_ (by simp) _ | (refine cell_far ?_ (by simp <;> omega) _))) | simp [go_sem, *])
  have zx0 := cell_lt x0
  have x0f : w1.frozen? ⟨w.heap.size, 0, none⟩ = false := bkeepf (v := .bool false) hb1 (by first | assumption | exact cell_new (by with_reducible first | rfl | (simp; done) | (simp; omega)) rfl | (repeat (first | assumption | exact cell_new (by with_reducible first | rfl | (simp; done) | (simp; omega)) rfl | refine cell_alloc ?_ _ | refine cell_drew ?_ | refine cell_drewN ?_ _ | refine cell_far ?_ (by simp) _ | (refine cell_far ?_ (by simp <;> omega) _))) | simp [go_sem, *]) (by first | assumption | (simp <;> assumption) | simp [go_sem, *])
  have x1 : w1.cell? ⟨w.heap.size, 1, none⟩ = some (.slice none 0 0) := bkeep hb1 (by first | assumption | exact cell_new (by with_reducible first | rfl | (simp; done) | (simp; omega)) rfl | (repeat (first | assumption | exact cell_new (by with_reducible first | rfl | (simp; done) | (simp; omega)) rfl | refine cell_alloc ?_ _ | refine cell_drew ?_ | refine cell_drewN ?_ _ | refine cell_far ?_ (by simp) _ | (refine cell_far ?_ (by simp <;> omega) _))) | simp [go_sem, *])
  have x1f : w1.frozen? ⟨w.heap.size, 1, none⟩ = false := bkeepf (v := .slice none 0 0) hb1 (by first | assumption | exact cell_new (by with_reducible first | rfl | (simp; done) | (simp; omega)) rfl | (repeat (first | assumption | exact cell_new (by with_reducible first | rfl | (simp; done) | (simp; omega)) rfl | refine cell_alloc ?_ _ | refine cell_drew ?_ | refine cell_drewN ?_ _ | refine cell_far ?_ (by simp) _ | (refine cell_far ?_ (by simp <;> omega) _))) | simp [go_sem, *]) (by first | assumption | (simp <;> assumption) | simp [go_sem, *])
  have hB : Below w.heap.size w w1 := bthen (by repeat (first | exact Below.refl _ _ | exact hB | refine Below.drew ?_ | refine below_drewN ?_ _ | refine bset ?_ (by simp <;> omega) _ | refine bal ?_ _)) hb1
  have hz : w.heap.size ≤ w1.heap.size := hB.size
  have HI := Lib.hid (hi.put2 x0 x1)
  obtain ⟨n1, a1, c1, l1, rfl, -⟩ := hi
  unfold iv at *
  clear nc c0 f0
  go_wp2
  refine bodyPost_ret (v := .agg #[.bool n1, .slice a1 l1.length c1]) (by simp [results, Tryz.results160, go_sem, *]) rfl ⟨⟨_, rfl, HI.out _ _⟩, ?_⟩
  repeat (first | exact Below.refl _ _ | exact hB | refine Below.drew ?_ | refine below_drewN ?_ _ | refine bset ?_ (by simp <;> omega) _ | refine bal ?_ _)
end Go.Proofs.YtannhpadoooedaaGreatDoor
/- The reference's numbers: norm, with the world that it leaves. -/
namespace Go.Proofs.YtannhpadoooedaaGreatDoor
open Num
open Go.ChangeShapes Go.WideShapes Go.ChangeAt Go.RowKit
set_option linter.unusedVariables false
set_option linter.unusedSimpArgs false
set_option maxRecDepth 100000 in
set_option maxHeartbeats 1000000 in
theorem rnormW_c (neg : Bool) (a : Option Addr) (ca : Nat) (l : List Nat) (w : World) (ha : U32 w a ca l) :
    Calls Tryz.prog 99 #[.bool neg, .slice a l.length ca] w fun e w' => e = .returned (iv (neg && decide (0 < (trimL l).length)) a (trimL l).length ca) ∧ w' = w.alloc (.cells #[.bool (neg && decide (0 < (trimL l).length)), .slice a (trimL l).length ca] 44) := by
  obtain ⟨hc, hm, hl, hcs⟩ := ha
  unfold maxLen at hm
  go_enter Tryz.func99, Tryz.ntmps99
  go_wp2
  go_loop [5] (fun x => ∃ k : Nat, k ≤ l.length ∧ x = .int .i64 k ∧ trimL (l.take k) = trimL l) (fun x => (intOf x).toNat)
  case atStart => exact ⟨l.length, Nat.le_refl _, rfl, by rw [List.take_length]⟩
  case round =>
    obtain ⟨k, hk, rfl, ht⟩ := hrel
    have HT := Lib.hid ht
    clear ht
    cases k with
    | zero =>
      have hz : (trimL l).length = 0 := by have := HT.out; rw [List.take_zero] at this; rw [← this]; rfl
      have HZ := Lib.hid hz
      clear hz
      cases neg with
      | true =>
        go_wp2
        refine bodyPost_ret (v := iv false a 0 ca) (by simp [iv, results, Tryz.results99, go_sem, *]) rfl ⟨by rw [HZ.out] <;> simp, by rw [HZ.out] <;> simp⟩
      | false =>
        go_wp2
        refine bodyPost_ret (v := iv false a 0 ca) (by simp [iv, results, Tryz.results99, go_sem, *]) rfl ⟨by rw [HZ.out] <;> simp, by rw [HZ.out] <;> simp⟩
    | succ j =>
      rcases hcs with rfl | ⟨b, off, rfl, hcell⟩
      · simp at hk
      have hj := cell_alloc (hcell j (by omega)) (.cells #[.bool false, .slice none 0 0] 44)
      by_cases h0 : l.getD j 0 = 0
      · have HN := Lib.hid (trim_take_zero (by omega : j < l.length) h0)
        rw [h0] at hj
        go_wp2
        exact ⟨⟨j, by omega, rfl, HN.out.symm.trans HT.out⟩, by simp [intOf] <;> omega⟩
      · have HN := Lib.hid (trim_take_pos (by omega : j < l.length) h0)
        generalize hx : l.getD j 0 = x at *
        have hx0 : ((x : Int) == 0) = false := by simp; omega
        have HL := Lib.hid (show (trimL l).length = j + 1 by rw [← HT.out, HN.out]; simp; omega)
        cases neg with
        | true =>
          go_wp2
          refine bodyPost_ret (v := iv true (some ⟨b, off, none⟩) (j + 1) ca) (by simp [iv, results, Tryz.results99, go_sem, *]) rfl ⟨by rw [HL.out] <;> simp, by rw [HL.out] <;> simp⟩
        | false =>
          go_wp2
          refine bodyPost_ret (v := iv false (some ⟨b, off, none⟩) (j + 1) ca) (by simp [iv, results, Tryz.results99, go_sem, *]) rfl ⟨by rw [HL.out] <;> simp, by rw [HL.out] <;> simp⟩

end Go.Proofs.YtannhpadoooedaaGreatDoor
