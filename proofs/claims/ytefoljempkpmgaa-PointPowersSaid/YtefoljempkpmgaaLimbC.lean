/- limb: Cmp. -/
import Derived.Test.YtefoljempkpmgaaLimbB
namespace Go.Proofs.Ytefoljempkpmgaa
open Num
open Go.ChangeShapes Go.WideShapes Go.ChangeAt Go.RowKit
set_option linter.unusedVariables false
set_option linter.unusedSimpArgs false
namespace Num
/-- less, like, more -/
def cmpN (x y : Nat) : Int := if x < y then -1 else if x = y then 0 else 1
theorem cmpN_lt {x y : Nat} (h : x < y) : cmpN x y = -1 := by unfold cmpN; rw [if_pos h]
theorem cmpN_eq {x y : Nat} (h : x = y) : cmpN x y = 0 := by unfold cmpN; rw [if_neg (by omega), if_pos h]
theorem cmpN_gt {x y : Nat} (h : y < x) : cmpN x y = 1 := by unfold cmpN; rw [if_neg (by omega), if_neg (by omega)]
theorem val_split {l : List Nat} {k : Nat} (hk : k < l.length) : val l = val (l.take k) + BB ^ k * (l.getD k 0 + BB * val (l.drop (k + 1))) := by
  have e : l = l.take k ++ (l.getD k 0 :: l.drop (k + 1)) := by
    conv => lhs; rw [← List.take_append_drop k l, List.drop_eq_getElem_cons hk]
    simp [hk]
  conv => lhs; rw [e, val_append]
  simp only [val, List.length_take, Nat.min_eq_left (Nat.le_of_lt hk)]
theorem limbs_take {l : List Nat} (h : Limbs l) (k : Nat) : Limbs (l.take k) := fun x hx => h x (List.mem_of_mem_take hx)
theorem val_lt_of_top {l m : List Nat} {k : Nat} (hk : k < l.length) (hm : k < m.length) (hl : Limbs l) (hd : l.drop (k + 1) = m.drop (k + 1)) (h : l.getD k 0 < m.getD k 0) : val l < val m := by
  rw [val_split hk, val_split hm, hd]
  have h1 := val_lt (limbs_take hl k)
  rw [List.length_take, Nat.min_eq_left (Nat.le_of_lt hk)] at h1
  have h2 : BB ^ k * (l.getD k 0 + BB * val (m.drop (k + 1)) + 1) ≤ BB ^ k * (m.getD k 0 + BB * val (m.drop (k + 1))) := Nat.mul_le_mul_left _ (by omega)
  rw [Nat.mul_add _ _ 1] at h2
  omega
theorem val_lt_of_len {l m : List Nat} (hl : Limbs l) (nm : Nrm m) (h : l.length < m.length) : val l < val m := by
  have h1 := val_lt hl
  have h2 := nrm_val_pos nm (by intro e; subst e; simp at h)
  have h3 : BB ^ l.length ≤ BB ^ (m.length - 1) := Nat.pow_le_pow_right BB_pos (by omega)
  omega
theorem drop_step {l m : List Nat} {k : Nat} (hk : k < l.length) (hm : k < m.length) (hd : l.drop (k + 1) = m.drop (k + 1)) (h : l.getD k 0 = m.getD k 0) : l.drop k = m.drop k := by
  rw [List.drop_eq_getElem_cons hk, List.drop_eq_getElem_cons hm, hd]
  simp [hk, hm] at h
  rw [h]
end Num

set_option maxHeartbeats 1000000 in
theorem limbCmp_c (a b : Option Addr) (ca cb : Nat) (l m : List Nat) (w : World) (ha : U32 w a ca l) (hb : U32 w b cb m) :
    Calls Try.prog 48 #[.slice a l.length ca, .slice b m.length cb] w fun e w' => e = .returned (.int .i64 (cmpN (val l) (val m))) ∧ Below w.heap.size w w' := by
  have tca := trim_c a ca l w ha
  have tcb := trim_c b cb m w hb
  have ha2 := ha.trim
  have hb2 := hb.trim
  have na := trim_nrm l
  have nb := trim_nrm m
  rw [← val_trim l, ← val_trim m]
  generalize trimL l = L at *
  generalize trimL m = M at *
  go_enter Try.func48, Try.ntmps48
  go_wp2_with fail
  refine tca.mono ?_
  rintro e w1 ⟨rfl, rfl⟩
  clear tca
  go_wp2_with fail
  refine tcb.mono ?_
  rintro e w1 ⟨rfl, rfl⟩
  clear tcb
  obtain ⟨_, hLm, hL, hLc⟩ := ha2
  obtain ⟨_, hMm, hM, hMc⟩ := hb2
  unfold maxLen at hLm hMm
  rcases Nat.lt_trichotomy L.length M.length with hlt | heq | hgt
  · go_wp2
    go_ret
    exact ⟨by rw [cmpN_lt (val_lt_of_len hL nb hlt)]; rfl, Below.refl _ _⟩
  · clear na nb
    have hc1 : ¬ (L.length < M.length) := by omega
    have hc2 : ¬ (M.length < L.length) := by omega
    have HQ := Lib.hid heq
    clear heq
    generalize hM' : M.length = n at *
    have HM := Lib.hid hM'
    clear hM'
    go_wp2
    go_loopw [5] (fun x wr => ∃ k : Nat, k ≤ n ∧ x = .int .i64 ((k : Int) - 1) ∧ L.drop k = M.drop k ∧ Below w.heap.size w wr) (fun x _ => (intOf x + 1).toNat)
    case atStart =>
      refine ⟨n, Nat.le_refl _, ?_, ?_, Below.refl _ _⟩
      · rw [HQ.out]
      · rw [List.drop_eq_nil_of_le (by have := HQ.out; omega), List.drop_eq_nil_of_le (by have := HM.out; omega)]
    case round =>
      obtain ⟨k, hk, rfl, hd, hB⟩ := hrel
      have HD := Lib.hid hd
      clear hd
      cases k with
      | zero =>
        go_wp2
        go_ret
        have e : L = M := by simpa using HD.out
        exact ⟨by rw [cmpN_eq (by rw [e])]; rfl, hB⟩
      | succ j =>
        have hjL : j < L.length := by have := HQ.out; omega
        have hjM : j < M.length := by have := HM.out; omega
        rcases hLc with rfl | ⟨ba, oa, rfl, hca⟩
        · simp at hjL
        rcases hMc with rfl | ⟨bb, ob, rfl, hcb⟩
        · simp at hjM
        have cj := bkeep hB (hca j hjL)
        have dj := bkeep hB (hcb j hjM)
        have HLt := Lib.hid (fun h => val_lt_of_top hjL hjM hL HD.out h)
        have HGt := Lib.hid (fun h => val_lt_of_top hjM hjL hM HD.out.symm h)
        have HEq := Lib.hid (fun h => drop_step hjL hjM HD.out h)
        have hjn : (j : Int) < (L.length : Int) := by omega
        generalize L.getD j 0 = x at *
        generalize M.getD j 0 = y at *
        rcases Nat.lt_trichotomy x y with h1 | h1 | h1
        · have h1' : (x : Int) < (y : Int) := by omega
          go_wp2
          go_quiet (fail)
          go_wp2
          go_ret
          exact ⟨by rw [cmpN_lt (HLt.out h1)]; rfl, by repeat (first | exact hB | refine below_drewN ?_ _)⟩
        · subst h1
          go_wp2
          go_quiet (fail)
          go_wp2
          go_quiet (fail)
          go_wp2
          exact ⟨⟨j, by omega, rfl, HEq.out (by trivial), by repeat (first | exact hB | refine below_drewN ?_ _)⟩, by simp [intOf] <;> omega⟩
        · have h1' : ¬ ((x : Int) < (y : Int)) := by omega
          have h1'' : ((y : Int) < (x : Int)) := by omega
          go_wp2
          go_quiet (fail)
          go_wp2
          go_quiet (fail)
          go_wp2
          go_ret
          exact ⟨by rw [cmpN_gt (HGt.out h1)]; rfl, by repeat (first | exact hB | refine below_drewN ?_ _)⟩
  · have hc1 : ¬ (L.length < M.length) := by omega
    go_wp2
    go_ret
    exact ⟨by rw [cmpN_gt (val_lt_of_len hM na hgt)]; rfl, Below.refl _ _⟩
end Go.Proofs.Ytefoljempkpmgaa
