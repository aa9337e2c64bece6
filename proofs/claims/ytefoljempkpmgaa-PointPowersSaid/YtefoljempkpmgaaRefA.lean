/- The reference's numbers (digits to the base 65536): norm, Of, Make, Sign. -/
import Derived.Test.YtefoljempkpmgaaNumR
import Derived.Test.YtefoljempkpmgaaIntF
namespace Go.Proofs.Ytefoljempkpmgaa
open Num
open Go.ChangeShapes Go.WideShapes Go.ChangeAt Go.RowKit
set_option linter.unusedVariables false
set_option linter.unusedSimpArgs false

/-- a value is the reference's number z -/
def IsRef (w : World) (v : Value) (z : Int) : Prop := ∃ neg a cap l, v = iv neg a (List.length l) cap ∧ U32 w a cap l ∧ NumR.Limbs l ∧ Nrm l ∧ (neg = true → l ≠ []) ∧ z = sg neg (NumR.val l)
theorem IsRef.keep {w w' : World} {v : Value} {z : Int} (h : IsRef w v z) (hb : Below w.heap.size w w') : IsRef w' v z := by
  obtain ⟨neg, a, cap, l, h1, h2, h3⟩ := h
  exact ⟨neg, a, cap, l, h1, h2.keep hb, h3⟩
theorem IsRef.put {w : World} {x : Value} {z : Int} {p : Addr} {v : Value} (h : IsRef w x z) (hp : w.cell? p = some v) (hv : ∀ n, v ≠ .int .u32 n) (u : Value) : IsRef (w.setCell p u) x z := by
  obtain ⟨neg, a, cap, l, h1, h2, h3⟩ := h
  exact ⟨neg, a, cap, l, h1, h2.put hp hv u, h3⟩
theorem IsRef.put2 {w : World} {x : Value} {z : Int} {g : Nat} {b : Bool} {a : Option Addr} {n c : Nat} (h : IsRef w x z) (r0 : w.cell? ⟨g, 0, none⟩ = some (.bool b)) (r1 : w.cell? ⟨g, 1, none⟩ = some (.slice a n c)) (u v : Value) : IsRef ((w.setCell ⟨g, 0, none⟩ u).setCell ⟨g, 1, none⟩ v) x z :=
  (h.put r0 (fun _ e => by cases e) u).put (cell_far r1 (by simp) u) (fun _ e => by cases e) v
theorem U32.cap {w : World} {a : Option Addr} {cap : Nat} {l m : List Nat} (h : U32 w a cap l) (hp : m <+: l) : U32 w a cap m :=
  ⟨Nat.le_trans hp.length_le h.1, h.2.1, fun x hx => h.2.2.1 x (hp.subset hx), h.2.2.2.take hp⟩

set_option maxHeartbeats 1000000 in
theorem rnorm_c (neg : Bool) (a : Option Addr) (ca : Nat) (l : List Nat) (w : World) (ha : U32 w a ca l) (hr : NumR.Limbs l) :
    Calls Try.prog 52 #[.bool neg, .slice a l.length ca] w fun e w' => (∃ v, e = .returned v ∧ IsRef w' v (sg neg (NumR.val l))) ∧ Below w.heap.size w w' := by
  have key : Calls Try.prog 52 #[.bool neg, .slice a l.length ca] w fun e w' => e = .returned (iv (neg && decide (0 < (trimL l).length)) a (trimL l).length ca) ∧ Below w.heap.size w w' := by
    obtain ⟨hc, hm, hl, hcs⟩ := ha
    unfold maxLen at hm
    clear hr
    go_enter Try.func52, Try.ntmps52
    go_wp2
    go_loop [5] (fun x => ∃ k : Nat, k ≤ l.length ∧ x = .int .i64 k ∧ trimL (l.take k) = trimL l) (fun x => (intOf x).toNat)
    case atStart => exact ⟨l.length, Nat.le_refl _, rfl, by rw [List.take_length]⟩
    case round =>
      obtain ⟨k, hk, rfl, ht⟩ := hrel
      have HT := Lib.hid ht
      clear ht
      cases k with
      | zero =>
        have hz : (trimL l).length = 0 := by have := HT.out; rw [List.take_zero] at this; rw [← this]; rfl
        have HZ := Lib.hid hz
        clear hz
        cases neg with
        | true =>
          go_wp2
          refine bodyPost_ret (v := iv false a 0 ca) (by simp [iv, results, Try.results52, go_sem, *]) rfl ⟨by rw [HZ.out] <;> simp, ?_⟩
          repeat (first | exact Below.refl _ _ | exact Below.refl _ _ | refine Below.drew ?_ | refine below_drewN ?_ _ | refine bset ?_ (by simp <;> omega) _ | refine bal ?_ _)
        | false =>
          go_wp2
          refine bodyPost_ret (v := iv false a 0 ca) (by simp [iv, results, Try.results52, go_sem, *]) rfl ⟨by rw [HZ.out] <;> simp, ?_⟩
          repeat (first | exact Below.refl _ _ | exact Below.refl _ _ | refine Below.drew ?_ | refine below_drewN ?_ _ | refine bset ?_ (by simp <;> omega) _ | refine bal ?_ _)
      | succ j =>
        rcases hcs with rfl | ⟨b, off, rfl, hcell⟩
        · simp at hk
        have hj := cell_alloc (hcell j (by omega)) (.cells #[.bool false, .slice none 0 0] 59)
        by_cases h0 : l.getD j 0 = 0
        · have HN := Lib.hid (trim_take_zero (by omega : j < l.length) h0)
          rw [h0] at hj
          go_wp2
          exact ⟨⟨j, by omega, rfl, HN.out.symm.trans HT.out⟩, by simp [intOf] <;> omega⟩
        · have HN := Lib.hid (trim_take_pos (by omega : j < l.length) h0)
          generalize hx : l.getD j 0 = x at *
          have hx0 : ((x : Int) == 0) = false := by simp; omega
          have HL := Lib.hid (show (trimL l).length = j + 1 by rw [← HT.out, HN.out]; simp; omega)
          cases neg with
          | true =>
            go_wp2
            refine bodyPost_ret (v := iv true (some ⟨b, off, none⟩) (j + 1) ca) (by simp [iv, results, Try.results52, go_sem, *]) rfl ⟨by rw [HL.out] <;> simp, ?_⟩
            repeat (first | exact Below.refl _ _ | exact Below.refl _ _ | refine Below.drew ?_ | refine below_drewN ?_ _ | refine bset ?_ (by simp <;> omega) _ | refine bal ?_ _)
          | false =>
            go_wp2
            refine bodyPost_ret (v := iv false (some ⟨b, off, none⟩) (j + 1) ca) (by simp [iv, results, Try.results52, go_sem, *]) rfl ⟨by rw [HL.out] <;> simp, ?_⟩
            repeat (first | exact Below.refl _ _ | exact Below.refl _ _ | refine Below.drew ?_ | refine below_drewN ?_ _ | refine bset ?_ (by simp <;> omega) _ | refine bal ?_ _)
  refine key.mono ?_
  rintro e w1 ⟨rfl, hB⟩
  refine ⟨⟨_, rfl, _, a, ca, trimL l, rfl, (ha.cap (trim_prefix l)).keep hB, NumR.trim_limbs hr, trim_nrm l, ?_, ?_⟩, hB⟩
  · intro h; simp at h; intro e; rw [e] at h; simp at h
  · rw [← NumR.val_trim l]
    by_cases h0 : trimL l = []
    · rw [h0]; simp [sg, NumR.val]
    · have : 0 < (trimL l).length := List.length_pos_iff.2 h0
      simp [this, sg]
end Go.Proofs.Ytefoljempkpmgaa
