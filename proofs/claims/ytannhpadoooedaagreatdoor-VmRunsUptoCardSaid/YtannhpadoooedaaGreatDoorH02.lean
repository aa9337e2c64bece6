/- Texts of this seat, laid together: RefP, RefS. Each opens with its own remark, which says what it proves, and under which conditions. -/
import Derived.Test.YtannhpadoooedaaGreatDoorH01
import Derived.Test.YtannhpadoooedaaGreatDoorG24
import Derived.Test.YtannhpadoooedaaGreatDoorG11
set_option linter.unusedVariables false
set_option linter.unusedSimpArgs false
/- Plain laws: a quotient and a remainder out of those of the sizes. -/
namespace Go.Proofs.YtannhpadoooedaaGreatDoor
open Num
open Go.ChangeShapes Go.WideShapes Go.ChangeAt Go.RowKit
/-- no remainder, or what is divided is not below 0 -/
theorem dm_low {n1 n2 : Bool} {A B : Nat} (hB : 0 < B) (h : n1 = false ∨ A % B = 0) : sg n1 A / sg n2 B = sg (!(n1 == n2)) (A / B) ∧ sg n1 A % sg n2 B = ((A % B : Nat) : Int) := by
  have hm : (A : Int) % (B : Int) = ((A % B : Nat) : Int) := (Int.natCast_emod A B).symm
  have hd : (A : Int) / (B : Int) = ((A / B : Nat) : Int) := (Int.natCast_ediv A B).symm
  cases n1 with
  | false =>
    cases n2 with
    | false => simp only [sg, Bool.false_eq_true, if_false, beq_self_eq_true, Bool.not_true]; exact ⟨hd, hm⟩
    | true =>
      simp only [sg, Bool.false_eq_true, if_false, if_true, show (!(false == true)) = true from rfl]
      rw [Int.ediv_neg, Int.emod_neg]
      exact ⟨by rw [hd], hm⟩
  | true =>
    have h0 : A % B = 0 := by simpa using h
    have hdv : (B : Int) ∣ (A : Int) := Int.natCast_dvd_natCast.2 (Nat.dvd_of_mod_eq_zero h0)
    have hz : (-(A : Int)) % (B : Int) = 0 := Int.emod_eq_zero_of_dvd (Int.dvd_neg.2 hdv)
    have hq : (-(A : Int)) / (B : Int) = -((A / B : Nat) : Int) := by rw [Int.neg_ediv_of_dvd hdv, hd]
    rw [h0]
    cases n2 with
    | false =>
      simp only [sg, Bool.false_eq_true, if_false, if_true, show (!(true == false)) = true from rfl]
      exact ⟨hq, hz⟩
    | true =>
      simp only [sg, Bool.false_eq_true, if_false, if_true, show (!(true == true)) = false from rfl]
      rw [Int.ediv_neg, Int.emod_neg]
      exact ⟨by rw [hq, Int.neg_neg], hz⟩
/-- a remainder, and what is divided is below 0 -/
theorem dm_high {n2 : Bool} {A B : Nat} (hB : 0 < B) (h : 0 < A % B) : sg true A / sg n2 B = sg (!(true == n2)) (A / B) - (sg n2 B).sign ∧ sg true A % sg n2 B = sg true (A % B) + ((sg n2 B).natAbs : Int) := by
  have e := Nat.div_add_mod A B
  have hl := Nat.mod_lt A hB
  have hs : (B : Int).sign = 1 := Int.sign_eq_one_of_pos (by omega)
  have key : (-(A : Int)) / (B : Int) = -((A / B : Nat) : Int) - 1 ∧ (-(A : Int)) % (B : Int) = (B : Int) - ((A % B : Nat) : Int) := by
    have e2 : -(A : Int) = ((B : Int) - ((A % B : Nat) : Int)) + (B : Int) * (-((A / B : Nat) : Int) - 1) := by
      have : (A : Int) = (B : Int) * ((A / B : Nat) : Int) + ((A % B : Nat) : Int) := by rw [← Int.natCast_mul, ← Int.natCast_add, e]
      rw [Int.mul_sub, Int.mul_neg]; omega
    constructor
    · rw [e2, Int.add_mul_ediv_left _ _ (by omega), Int.ediv_eq_zero_of_lt (by omega) (by omega)]; omega
    · rw [e2, Int.add_mul_emod_self_left, Int.emod_eq_of_lt (by omega) (by omega)]
  cases n2 with
  | false => simp only [sg, if_true, if_false, Bool.false_eq_true]; rw [key.1, key.2]; simp [hs]; omega
  | true => simp only [sg, if_true]; rw [Int.ediv_neg, Int.emod_neg, key.1, key.2]; simp [hs]; omega
/-- a number out of its digits and a sign that stands where there are digits -/
theorem ref_of {w : World} {a : Option Addr} {c : Nat} {l : List Nat} {b s : Bool} (hu : U32 w a c l) (hl : NumR.Limbs l) (hn : Nrm l) (hb : b = (s && decide (0 < l.length))) : IsRef w (.agg #[.bool b, .slice a l.length c]) (sg s (NumR.val l)) := by
  refine ⟨b, a, c, l, rfl, hu, hl, hn, ?_, ?_⟩
  · intro h
    rw [hb] at h
    simp at h
    intro e
    rw [e] at h
    simp at h
  · cases l with
    | nil => cases s <;> cases b <;> simp [sg, NumR.val]
    | cons x t => simp at hb; rw [hb]
end Go.Proofs.YtannhpadoooedaaGreatDoor
/- The reference's numbers: Sub; Add and Sub of numbers no greater than one of so many digits. -/
namespace Go.Proofs.YtannhpadoooedaaGreatDoor
open Num
open Go.ChangeShapes Go.WideShapes Go.ChangeAt Go.RowKit
set_option linter.unusedVariables false
set_option linter.unusedSimpArgs false
/-- a number of at most so many digits, by its size -/
theorem rlen_le {l B : List Nat} (hn : Nrm l) (hB : NumR.Limbs B) (h : NumR.val l ≤ NumR.val B) : l.length ≤ B.length := by
  apply Nat.le_of_not_lt; intro hl
  have := NumR.val_lt_of_len hB hn hl
  omega
theorem radd_n (vx vy : Value) (x y : Int) (B : List Nat) (w : World) (hx : IsRef w vx x) (hy : IsRef w vy y) (hB : NumR.Limbs B) (bx : x.natAbs ≤ NumR.val B) (by' : y.natAbs ≤ NumR.val B) (hk : B.length ≤ 2147483650) :
    Calls Tryz.prog 147 #[vx, vy] w fun e w' => (∃ v, e = .returned v ∧ IsRef w' v (x + y)) ∧ Below w.heap.size w w' := by
  obtain ⟨n1, a1, c1, l1, rfl, u1, q1, g1, s1, rfl⟩ := hx
  obtain ⟨n2, a2, c2, l2, rfl, u2, q2, g2, s2, rfl⟩ := hy
  rw [sg_abs] at bx by'
  exact raddV_c n1 n2 a1 a2 c1 c2 l1 l2 w u1 u2 q1 q2 g1 g2 (Nat.le_trans (rlen_le g1 hB bx) hk) (Nat.le_trans (rlen_le g2 hB by') hk)
set_option maxRecDepth 100000 in
set_option maxHeartbeats 2000000 in
theorem rsub_n (vx vy : Value) (x y : Int) (B : List Nat) (w : World) (hx : IsRef w vx x) (hy : IsRef w vy y) (hB' : NumR.Limbs B) (bx : x.natAbs ≤ NumR.val B) (by' : y.natAbs ≤ NumR.val B) (hk : B.length ≤ 2147483650) :
    Calls Tryz.prog 163 #[vx, vy] w fun e w' => (∃ v, e = .returned v ∧ IsRef w' v (x - y)) ∧ Below w.heap.size w w' := by
  have nx := fun W (k : Below w.heap.size w W) => rneg_c vy y W (hy.keep k)
  have ad := fun vz W (k : Below w.heap.size w W) (hz : IsRef W vz (-y)) => radd_n vx vz x (-y) B W (hx.keep k) hz hB' bx (by rw [Int.natAbs_neg]; exact by') hk
  obtain ⟨n1, a1, c1, l1, rfl, -⟩ := hx
  obtain ⟨n2, a2, c2, l2, rfl, -⟩ := hy
  unfold iv at *
  have HE := Lib.hid (show x + -y = x - y by omega)
  clear bx by' hk hB'
  have hB := Below.refl w.heap.size w
  go_enter Tryz.func163, Tryz.ntmps163
  go_wp2
  refine wp_name fun w0 hW0 => ?_
  have x0 : w0.cell? ⟨w.heap.size, 0, none⟩ = some (.bool n1) := by rw [hW0]; exact (by first | assumption | exact cell_new (by with_reducible first | rfl | (simp; done) | (simp; omega)) rfl | (repeat (first | assumption | exact cell_new (by with_reducible first | rfl | (simp; done) | (simp; omega)) rfl | refine cell_alloc ?_ _ | refine cell_drew ?_ | refine cell_drewN ?_ _ | refine cell_far ?_ (by simp) _ | (refine cell_far ?_ (by simp <;> omega) _))) | simp [go_sem, *])
  have zx0 := cell_lt x0
  have x1 : w0.cell? ⟨w.heap.size, 1, none⟩ = some (.slice a1 l1.length c1) := by rw [hW0]; exact (by first | assumption | exact cell_new (by with_reducible first | rfl | (simp; done) | (simp; omega)) rfl | (repeat (first | assumption | exact cell_new (by with_reducible first | rfl | (simp; done) | (simp; omega)) rfl | refine cell_alloc ?_ _ | refine cell_drew ?_ | refine cell_drewN ?_ _ | refine cell_far ?_ (by simp) _ | (refine cell_far ?_ (by simp <;> omega) _))) | simp [go_sem, *])
  have y0 : w0.cell? ⟨w.heap.size + 1, 0, none⟩ = some (.bool n2) := by rw [hW0]; exact (by first | assumption | exact cell_new (by with_reducible first | rfl | (simp; done) | (simp; omega)) rfl | (repeat (first | assumption | exact cell_new (by with_reducible first | rfl | (simp; done) | (simp; omega)) rfl | refine cell_alloc ?_ _ | refine cell_drew ?_ | refine cell_drewN ?_ _ | refine cell_far ?_ (by simp) _ | (refine cell_far ?_ (by simp <;> omega) _))) | simp [go_sem, *])
  have zy0 := cell_lt y0
  have y1 : w0.cell? ⟨w.heap.size + 1, 1, none⟩ = some (.slice a2 l2.length c2) := by rw [hW0]; exact (by first | assumption | exact cell_new (by with_reducible first | rfl | (simp; done) | (simp; omega)) rfl | (repeat (first | assumption | exact cell_new (by with_reducible first | rfl | (simp; done) | (simp; omega)) rfl | refine cell_alloc ?_ _ | refine cell_drew ?_ | refine cell_drewN ?_ _ | refine cell_far ?_ (by simp) _ | (refine cell_far ?_ (by simp <;> omega) _))) | simp [go_sem, *])
  have r0f : w0.frozen? ⟨w.heap.size + 2, 0, none⟩ = false := by rw [hW0]; simp [go_sem, *]
  have r0 : w0.cell? ⟨w.heap.size + 2, 0, none⟩ = some (.bool false) := by rw [hW0]; exact (by first | assumption | exact cell_new (by with_reducible first | rfl | (simp; done) | (simp; omega)) rfl | (repeat (first | assumption | exact cell_new (by with_reducible first | rfl | (simp; done) | (simp; omega)) rfl | refine cell_alloc ?_ _ | refine cell_drew ?_ | refine cell_drewN ?_ _ | refine cell_far ?_ (by simp) _ | (refine cell_far ?_ (by simp <;> omega) _))) | simp [go_sem, *])
  have zr0 := cell_lt r0
  have r1f : w0.frozen? ⟨w.heap.size + 2, 1, none⟩ = false := by rw [hW0]; simp [go_sem, *]
  have r1 : w0.cell? ⟨w.heap.size + 2, 1, none⟩ = some (.slice none 0 0) := by rw [hW0]; exact (by first | assumption | exact cell_new (by with_reducible first | rfl | (simp; done) | (simp; omega)) rfl | (repeat (first | assumption | exact cell_new (by with_reducible first | rfl | (simp; done) | (simp; omega)) rfl | refine cell_alloc ?_ _ | refine cell_drew ?_ | refine cell_drewN ?_ _ | refine cell_far ?_ (by simp) _ | (refine cell_far ?_ (by simp <;> omega) _))) | simp [go_sem, *])
  have hB : Below w.heap.size w w0 := by rw [hW0]; repeat (first | exact Below.refl _ _ | exact hB | refine Below.drew ?_ | refine below_drewN ?_ _ | refine bset ?_ (by simp <;> omega) _ | refine bal ?_ _)
  have hz : w.heap.size ≤ w0.heap.size := hB.size
  clear hW0
  have hBc : Below w0.heap.size w0 w0.drew := (Below.refl _ _).drew
  have HB0 := Lib.hid hB
  go_region_held3 (fun w' => w'.cell? ⟨w.heap.size, 0, none⟩ = some (.bool n1) ∧ w'.cell? ⟨w.heap.size, 1, none⟩ = some (.slice a1 l1.length c1) ∧ w'.cell? ⟨w.heap.size + 1, 0, none⟩ = some (.bool n2) ∧ w'.cell? ⟨w.heap.size + 1, 1, none⟩ = some (.slice a2 l2.length c2))
    (first | exact ⟨x0, x1, y0, y1⟩ | exact ⟨bkeep hBc x0, bkeep hBc x1, bkeep hBc y0, bkeep hBc y1⟩ | exact ⟨cell_far (cell_far (bkeep hBc x0) (addr_ne (by omega)) _) (addr_ne (by omega)) _, cell_far (cell_far (bkeep hBc x1) (addr_ne (by omega)) _) (addr_ne (by omega)) _, cell_far (cell_far (bkeep hBc y0) (addr_ne (by omega)) _) (addr_ne (by omega)) _, cell_far (cell_far (bkeep hBc y1) (addr_ne (by omega)) _) (addr_ne (by omega)) _⟩)
    (first
      | (go_at_call 162; refine (nx _ (bthen HB0.out hBc)).mono ?_; rintro e w3 ⟨⟨v3, rfl, hi3⟩, hb3⟩; (replace hBc := bthen hBc hb3); (have HI3 := Lib.hid hi3); clear hi3)
      | (go_at_call 147; refine (ad _ _ (bthen HB0.out hBc) HI3.out).mono ?_; rintro e w4 ⟨⟨v, rfl, hi⟩, hb4⟩; (replace hBc := bthen hBc hb4); (replace r0f := bkeepf hBc r0 r0f); (replace r1f := bkeepf hBc r1 r1f); (replace r0 := bkeep hBc r0); (replace r1 := bkeep hBc r1); (have HI2 := Lib.hid (hi.put2 r0 r1)); (obtain ⟨n4, a4, c4, l4, rfl, _, _, _, _⟩ := hi); unfold iv at *))
  have hB9 := bthen HB0.out hBc
  clear x0 x1 y0 y1
  rw [HE.out] at HI2
  go_wp2
  refine bodyPost_ret (v := .agg #[.bool n4, .slice a4 l4.length c4]) (by simp [results, Tryz.results163, go_sem, *]) rfl ⟨⟨_, rfl, HI2.out _ _⟩, ?_⟩
  repeat (first | exact Below.refl _ _ | exact hB9 | refine Below.drew ?_ | refine below_drewN ?_ _ | refine bset ?_ (by simp <;> omega) _ | refine bal ?_ _)
end Go.Proofs.YtannhpadoooedaaGreatDoor
