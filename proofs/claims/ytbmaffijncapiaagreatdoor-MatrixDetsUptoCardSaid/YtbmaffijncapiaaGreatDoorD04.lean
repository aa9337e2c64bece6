/- Texts of this seat, laid together: RefC, RefD, Ints. Each opens with its own remark, which says what it proves, and under which conditions. -/
import Derived.Test.YtbmaffijncapiaaGreatDoorD03
import Derived.Test.YtbmaffijncapiaaGreatDoorD01
set_option linter.unusedVariables false
set_option linter.unusedSimpArgs false
/- The reference's numbers: size, Sign, Cmp, Same. -/
namespace Go.Proofs.YtbmaffijncapiaaGreatDoor
open Num
open Go.ChangeShapes Go.WideShapes Go.ChangeAt Go.RowKit
set_option linter.unusedVariables false
set_option linter.unusedSimpArgs false

set_option maxRecDepth 100000 in
set_option maxHeartbeats 1000000 in
theorem rsize_c (a b : Option Addr) (ca cb : Nat) (L M : List Nat) (w : World) (ha : U32 w a ca L) (hb : U32 w b cb M) (hL : NumR.Limbs L) (hM : NumR.Limbs M) (na : Nrm L) (nb : Nrm M) :
    Calls Tryz.prog 206 #[.slice a L.length ca, .slice b M.length cb] w fun e w' => e = .returned (.int .i64 (cmpN (NumR.val L) (NumR.val M))) ∧ Below w.heap.size w w' := by
  obtain ⟨hLca, hLm, -, hLc⟩ := ha
  obtain ⟨hMcb, hMm, -, hMc⟩ := hb
  unfold maxLen at hLm hMm
  rcases Nat.lt_trichotomy L.length M.length with hlt | heq | hgt
  · have hne : ((L.length : Int) != (M.length : Int)) = true := by simp; omega
    go_enter Tryz.func206, Tryz.ntmps206
    go_wp2
    go_ret
    exact ⟨by rw [cmpN_lt (NumR.val_lt_of_len hL nb hlt)]; rfl, Below.refl _ _⟩
  · clear na nb
    have HQ := Lib.hid heq
    clear heq
    generalize hM' : M.length = n at *
    have HM := Lib.hid hM'
    clear hM'
    generalize hL' : L.length = n' at *
    obtain rfl : n' = n := HQ.out
    have HL := Lib.hid hL'
    clear hL' HQ
    have hne : ((n' : Int) != (n' : Int)) = false := by simp
    go_enter Tryz.func206, Tryz.ntmps206
    go_wp2
    go_loopw [5] (fun x wr => ∃ k : Nat, k ≤ n' ∧ x = .int .i64 ((k : Int) - 1) ∧ L.drop k = M.drop k ∧ Below w.heap.size w wr) (fun x _ => (intOf x + 1).toNat)
    case atStart =>
      refine ⟨n', Nat.le_refl _, rfl, ?_, Below.refl _ _⟩
      rw [List.drop_eq_nil_of_le (by have := HL.out; omega), List.drop_eq_nil_of_le (by have := HM.out; omega)]
    case round =>
      obtain ⟨k, hk, rfl, hd, hB⟩ := hrel
      have HD := Lib.hid hd
      clear hd
      cases k with
      | zero =>
        go_wp2
        go_ret
        have e : L = M := by simpa using HD.out
        exact ⟨by rw [cmpN_eq (by rw [e])]; rfl, hB⟩
      | succ j =>
        have hjL : j < L.length := by have := HL.out; omega
        have hjM : j < M.length := by have := HM.out; omega
        rcases hLc with rfl | ⟨ba, oa, rfl, hca⟩
        · simp at hjL
        rcases hMc with rfl | ⟨bb, ob, rfl, hcb⟩
        · simp at hjM
        have cj := bkeep hB (hca j (by omega))
        have dj := bkeep hB (hcb j (by omega))
        have HLt := Lib.hid (fun h => NumR.val_lt_of_top hjL hjM hL HD.out h)
        have HGt := Lib.hid (fun h => NumR.val_lt_of_top hjM hjL hM HD.out.symm h)
        have HEq := Lib.hid (fun h => NumR.drop_step hjL hjM HD.out h)
        have hjn : (j : Int) < (n' : Int) := by omega
        generalize L.getD j 0 = x at *
        generalize M.getD j 0 = y at *
        rcases Nat.lt_trichotomy x y with h1 | h1 | h1
        · have h1' : (x : Int) < (y : Int) := by omega
          go_wp2
          go_quiet (fail)
          go_wp2
          go_ret
          exact ⟨by rw [cmpN_lt (HLt.out h1)]; rfl, by repeat (first | exact hB | refine below_drewN ?_ _)⟩
        · subst h1
          go_wp2
          go_quiet (fail)
          go_wp2
          go_quiet (fail)
          go_wp2
          exact ⟨⟨j, by omega, rfl, HEq.out (by trivial), by repeat (first | exact hB | refine below_drewN ?_ _)⟩, by simp [intOf] <;> omega⟩
        · have h1' : ¬ ((x : Int) < (y : Int)) := by omega
          have h1'' : ((y : Int) < (x : Int)) := by omega
          go_wp2
          go_quiet (fail)
          go_wp2
          go_quiet (fail)
          go_wp2
          go_ret
          exact ⟨by rw [cmpN_gt (HGt.out h1)]; rfl, by repeat (first | exact hB | refine below_drewN ?_ _)⟩
  · have hne : ((L.length : Int) != (M.length : Int)) = true := by simp; omega
    have hc1 : ¬ (L.length < M.length) := by omega
    go_enter Tryz.func206, Tryz.ntmps206
    go_wp2
    go_ret
    exact ⟨by rw [cmpN_gt (NumR.val_lt_of_len hM na hgt)]; rfl, Below.refl _ _⟩

theorem rsg_sign {neg : Bool} {l : List Nat} (hn : Nrm l) (hs : neg = true → l ≠ []) : (sg neg (NumR.val l)).sign = if l.length = 0 then 0 else if neg then -1 else 1 := by
  by_cases h0 : l = []
  · subst h0; cases neg <;> simp [sg, NumR.val]
  · have h1 : 0 < NumR.val l := Nat.pos_of_ne_zero (fun e => h0 ((NumR.val_nil_iff hn).1 e))
    have h2 : l.length ≠ 0 := by simpa using h0
    rw [if_neg h2]
    cases neg with
    | true => simp only [sg, if_true]; rw [Int.sign_neg, Int.sign_eq_one_of_pos (by omega)]
    | false => simp only [sg]; exact Int.sign_eq_one_of_pos (by simp; omega)

def sgV (n : Bool) (k : Nat) : Int := if k = 0 then 0 else if n then -1 else 1
set_option maxRecDepth 100000 in
set_option maxHeartbeats 1000000 in
theorem rsignV_c (n1 : Bool) (a1 : Option Addr) (k c1 : Nat) (w : World) :
    Calls Tryz.prog 75 #[.agg #[.bool n1, .slice a1 k c1]] w fun e w' => e = .returned (.int .i64 (sgV n1 k)) ∧ Below w.heap.size w w' := by
  have hB0 := Below.refl w.heap.size w
  have HS := Lib.hid (show sgV n1 k = sgV n1 k from rfl)
  cases k with
  | zero =>
    go_enter Tryz.func75, Tryz.ntmps75
    go_wp2
    go_ret
    refine ⟨rfl, ?_⟩
    repeat (first|exact bzR _ _|exact hB0|refine bzD ?_|refine bzN ?_|refine bzS ?_|refine bzA ?_)
  | succ k =>
    cases n1 with
    | true =>
      go_enter Tryz.func75, Tryz.ntmps75
      go_wp2
      go_ret
      refine ⟨rfl, ?_⟩
      repeat (first|exact bzR _ _|exact hB0|refine bzD ?_|refine bzN ?_|refine bzS ?_|refine bzA ?_)
    | false =>
      go_enter Tryz.func75, Tryz.ntmps75
      go_wp2
      go_ret
      refine ⟨rfl, ?_⟩
      repeat (first|exact bzR _ _|exact hB0|refine bzD ?_|refine bzN ?_|refine bzS ?_|refine bzA ?_)

namespace Num
end Num

namespace Num
end Num
end Go.Proofs.YtbmaffijncapiaaGreatDoor

/- The reference's numbers: Mul. -/
namespace Go.Proofs.YtbmaffijncapiaaGreatDoor
open Num
open Go.ChangeShapes Go.WideShapes Go.ChangeAt Go.RowKit
set_option linter.unusedVariables false
set_option linter.unusedSimpArgs false
namespace NumR
theorem carry_end {l m : List Nat} {i j c x V : Nat} (hl : Limbs l) (hm : Limbs m) (hi : i ≤ l.length) (hx : x < BB) (hc : 0 < c) (hj : m.length ≤ j)
    (h : V + c * BB ^ (i + j) = val (l.take i) * val m + x * val (m.take j) * BB ^ i) : j = m.length := by
  rw [List.take_of_length_le hj] at h
  have h1 := val_lt (limbs_take hl i)
  rw [List.length_take, Nat.min_eq_left hi] at h1
  have h2 := val_lt hm
  have h3 : val (l.take i) * val m + x * val m * BB ^ i < BB ^ (i + m.length + 1) := by
    have e : BB ^ (i + m.length + 1) = BB ^ i * (BB * BB ^ m.length) := by rw [Nat.pow_succ, Nat.pow_add]; ac_rfl
    rw [e]
    have k1 : val (l.take i) * val m ≤ BB ^ i * val m := Nat.mul_le_mul_right _ (by omega)
    have k2 : x * val m * BB ^ i = BB ^ i * (x * val m) := by ac_rfl
    rw [k2]
    have k3 : BB ^ i * val m + BB ^ i * (x * val m) = BB ^ i * ((x + 1) * val m) := by rw [← Nat.mul_add, Nat.add_mul]; congr 1; omega
    have k4 : (x + 1) * val m ≤ BB * val m := Nat.mul_le_mul_right _ (by omega)
    have k5 : BB * val m < BB * BB ^ m.length := Nat.mul_lt_mul_of_pos_left h2 BB_pos
    have k6 : BB ^ i * ((x + 1) * val m) < BB ^ i * (BB * BB ^ m.length) := Nat.mul_lt_mul_of_pos_left (by omega) (Nat.pow_pos BB_pos)
    omega
  have h4 : BB ^ (i + j) ≤ c * BB ^ (i + j) := Nat.le_mul_of_pos_left _ hc
  have h5 : BB ^ (i + j) < BB ^ (i + m.length + 1) := by omega
  have h6 := (Nat.pow_lt_pow_iff_right (a := BB) (by unfold BB; omega)).1 h5
  omega
theorem mul_step {Q : List Nat} {m : List Nat} {i k x c t V : Nat} (hq : i + k < Q.length) (ht : t = c + Q.getD (i + k) 0 + x * m.getD k 0) (hk : k < m.length)
    (h : val Q + c * BB ^ (i + k) = V + x * val (m.take k) * BB ^ i) :
    val (Q.set (i + k) (t % BB)) + t / BB * BB ^ (i + (k + 1)) = V + x * val (m.take (k + 1)) * BB ^ i := by
  have a1 := val_set (l := Q) (k := i + k) (t % BB) hq
  have a3 := Nat.div_add_mod t BB
  rw [val_take_succ hk]
  have p1 : BB ^ (i + (k + 1)) = BB * BB ^ (i + k) := by rw [← Nat.add_assoc, Nat.pow_succ, Nat.mul_comm]
  have p2 : BB ^ (i + k) = BB ^ i * BB ^ k := Nat.pow_add _ _ _
  rw [p1]
  have a6 : t * BB ^ (i + k) = BB * (t / BB) * BB ^ (i + k) + t % BB * BB ^ (i + k) := by rw [← Nat.add_mul, a3]
  have a7 : t * BB ^ (i + k) = c * BB ^ (i + k) + Q.getD (i + k) 0 * BB ^ (i + k) + x * m.getD k 0 * BB ^ (i + k) := by rw [ht]; simp only [Nat.add_mul]
  have a8 : x * (val (List.take k m) + m.getD k 0 * BB ^ k) * BB ^ i = x * val (List.take k m) * BB ^ i + x * m.getD k 0 * BB ^ (i + k) := by
    rw [p2, Nat.mul_add, Nat.add_mul]; congr 1; ac_rfl
  have a9 : t / BB * (BB * BB ^ (i + k)) = BB * (t / BB) * BB ^ (i + k) := by ac_rfl
  rw [a8, a9]
  omega
theorem mul_last {Q : List Nat} {m : List Nat} {i x c t V : Nat} (hq : i + m.length < Q.length) (ht : t = c + Q.getD (i + m.length) 0)
    (h : val Q + c * BB ^ (i + m.length) = V + x * val (m.take m.length) * BB ^ i) :
    val (Q.set (i + m.length) (t % BB)) + t / BB * BB ^ (i + (m.length + 1)) = V + x * val (m.take (m.length + 1)) * BB ^ i := by
  have a1 := val_set (l := Q) (k := i + m.length) (t % BB) hq
  have a3 := Nat.div_add_mod t BB
  rw [List.take_of_length_le (by omega)] at h ⊢
  have p1 : BB ^ (i + (m.length + 1)) = BB * BB ^ (i + m.length) := by rw [← Nat.add_assoc, Nat.pow_succ, Nat.mul_comm]
  rw [p1]
  have a6 : t * BB ^ (i + m.length) = BB * (t / BB) * BB ^ (i + m.length) + t % BB * BB ^ (i + m.length) := by rw [← Nat.add_mul, a3]
  have a7 : t * BB ^ (i + m.length) = c * BB ^ (i + m.length) + Q.getD (i + m.length) 0 * BB ^ (i + m.length) := by rw [ht]; simp only [Nat.add_mul]
  have a9 : t / BB * (BB * BB ^ (i + m.length)) = BB * (t / BB) * BB ^ (i + m.length) := by ac_rfl
  rw [a9]
  omega
theorem mul_done {l m Q : List Nat} {i k x : Nat} (hi : i < l.length) (hk : m.length ≤ k) (hx : x = l.getD i 0)
    (h : val Q + 0 * BB ^ (i + k) = val (l.take i) * val m + x * val (m.take k) * BB ^ i) : val Q = val (l.take (i + 1)) * val m := by
  rw [val_take_succ hi, List.take_of_length_le hk] at *
  rw [← hx, Nat.add_mul]
  have : x * BB ^ i * val m = x * val m * BB ^ i := by ac_rfl
  omega
theorem step_lt {x y o c : Nat} (hx : x < BB) (hy : y < BB) (ho : o < BB) (hc : c < BB) : c + o + x * y < BB * BB := by
  have h1 : x * y ≤ (BB - 1) * (BB - 1) := Nat.mul_le_mul (by omega) (by omega)
  have h2 : (BB - 1) * (BB - 1) + (BB - 1) + (BB - 1) + 1 = BB * BB := by unfold BB; rfl
  omega
theorem w64' {x : Nat} (h : x < BB * BB) : IntKind.u64.wrap (x : Int) = (x : Int) := w64 (by unfold BB at h; unfold Num.BB; omega)
end NumR
theorem rsg_bd {neg : Bool} {n k : Nat} (h : Bd k (sg neg n)) : n < 2 ^ k := by
  unfold Bd at h; rwa [sg_abs] at h
theorem rbd_len {l : List Nat} {k : Nat} (hn : Nrm l) (h : NumR.val l < 2 ^ k) (hk : k ≤ 17179869184) : l.length ≤ 1073741825 := by
  by_cases h0 : l = []
  · subst h0; simp
  · have h1 := NumR.nrm_val_pos hn h0
    have e : NumR.BB ^ (l.length - 1) = 2 ^ (16 * (l.length - 1)) := by rw [Nat.pow_mul]; rfl
    rw [e] at h1
    have h2 : 16 * (l.length - 1) < k := (Nat.pow_lt_pow_iff_right (a := 2) (by omega)).1 (Nat.lt_of_le_of_lt h1 h)
    omega

set_option maxRecDepth 100000 in
set_option maxHeartbeats 4000000 in
theorem rmulV_c (n1 n2 : Bool) (a b : Option Addr) (ca cb : Nat) (l m : List Nat) (w : World) (ha : U32 w a ca l) (hb : U32 w b cb m) (hl : NumR.Limbs l) (hm : NumR.Limbs m) (h1 : l.length ≤ 1073741825) (h2 : m.length ≤ 1073741825) :
    Calls Tryz.prog 114 #[.agg #[.bool n1, .slice a l.length ca], .agg #[.bool n2, .slice b m.length cb]] w fun e w' => (∃ v, e = .returned v ∧ IsRef w' v (sg n1 (NumR.val l) * sg n2 (NumR.val m))) ∧ Below w.heap.size w w' := by
  have hmk := mk32 (l.length + m.length + 1) (by omega)
  have ec : ((l.length + m.length + 1 : Nat) : Int) = (l.length : Int) + (m.length : Int) + 1 := by omega
  rw [ec] at hmk
  clear ec
  have hB := Below.refl w.heap.size w
  go_enter Tryz.func114, Tryz.ntmps114
  go_wp2
  clear hmk
  refine wp_name fun w0 hW0 => ?_
  have x0 : w0.cell? ⟨w.heap.size, 0, none⟩ = some (.bool n1) := by rw [hW0]; exact (by first | assumption | exact cell_new (by with_reducible first | rfl | (simp; done) | (simp; omega)) rfl | (repeat (first | assumption | exact cell_new (by with_reducible first | rfl | (simp; done) | (simp; omega)) rfl | refine cell_alloc ?_ _ | refine cell_drew ?_ | refine cell_drewN ?_ _ | refine cell_far ?_ (by simp) _ | (refine cell_far ?_ (by simp <;> omega) _))) | simp [go_sem, *])
  have zx0 := cell_lt x0
  have x1 : w0.cell? ⟨w.heap.size, 1, none⟩ = some (.slice a l.length ca) := by rw [hW0]; exact (by first | assumption | exact cell_new (by with_reducible first | rfl | (simp; done) | (simp; omega)) rfl | (repeat (first | assumption | exact cell_new (by with_reducible first | rfl | (simp; done) | (simp; omega)) rfl | refine cell_alloc ?_ _ | refine cell_drew ?_ | refine cell_drewN ?_ _ | refine cell_far ?_ (by simp) _ | (refine cell_far ?_ (by simp <;> omega) _))) | simp [go_sem, *])
  have y0 : w0.cell? ⟨w.heap.size + 1, 0, none⟩ = some (.bool n2) := by rw [hW0]; exact (by first | assumption | exact cell_new (by with_reducible first | rfl | (simp; done) | (simp; omega)) rfl | (repeat (first | assumption | exact cell_new (by with_reducible first | rfl | (simp; done) | (simp; omega)) rfl | refine cell_alloc ?_ _ | refine cell_drew ?_ | refine cell_drewN ?_ _ | refine cell_far ?_ (by simp) _ | (refine cell_far ?_ (by simp <;> omega) _))) | simp [go_sem, *])
  have zy0 := cell_lt y0
  have y1 : w0.cell? ⟨w.heap.size + 1, 1, none⟩ = some (.slice b m.length cb) := by rw [hW0]; exact (by first | assumption | exact cell_new (by with_reducible first | rfl | (simp; done) | (simp; omega)) rfl | (repeat (first | assumption | exact cell_new (by with_reducible first | rfl | (simp; done) | (simp; omega)) rfl | refine cell_alloc ?_ _ | refine cell_drew ?_ | refine cell_drewN ?_ _ | refine cell_far ?_ (by simp) _ | (refine cell_far ?_ (by simp <;> omega) _))) | simp [go_sem, *])
  have r0f : w0.frozen? ⟨w.heap.size + 2, 0, none⟩ = false := by rw [hW0]; simp [go_sem, *]
  have r0 : w0.cell? ⟨w.heap.size + 2, 0, none⟩ = some (.bool false) := by rw [hW0]; exact (by first | assumption | exact cell_new (by with_reducible first | rfl | (simp; done) | (simp; omega)) rfl | (repeat (first | assumption | exact cell_new (by with_reducible first | rfl | (simp; done) | (simp; omega)) rfl | refine cell_alloc ?_ _ | refine cell_drew ?_ | refine cell_drewN ?_ _ | refine cell_far ?_ (by simp) _ | (refine cell_far ?_ (by simp <;> omega) _))) | simp [go_sem, *])
  have zr0 := cell_lt r0
  have r1f : w0.frozen? ⟨w.heap.size + 2, 1, none⟩ = false := by rw [hW0]; simp [go_sem, *]
  have r1 : w0.cell? ⟨w.heap.size + 2, 1, none⟩ = some (.slice none 0 0) := by rw [hW0]; exact (by first | assumption | exact cell_new (by with_reducible first | rfl | (simp; done) | (simp; omega)) rfl | (repeat (first | assumption | exact cell_new (by with_reducible first | rfl | (simp; done) | (simp; omega)) rfl | refine cell_alloc ?_ _ | refine cell_drew ?_ | refine cell_drewN ?_ _ | refine cell_far ?_ (by simp) _ | (refine cell_far ?_ (by simp <;> omega) _))) | simp [go_sem, *])
  have hB : Below w.heap.size w w0 := by rw [hW0]; repeat (first|exact bzR _ _|exact hB|refine bzD ?_|refine bzN ?_|refine bzS ?_|refine bzA ?_)
  have hO0 : Blk w0 (w.heap.size + 3) (List.replicate (l.length + m.length + 1) 0) := by rw [hW0]; exact blk_at (by simp)
  have hs0 : w0.heap.size = w.heap.size + 4 := by rw [hW0]; simp
  have hz : w.heap.size ≤ w0.heap.size := hB.size
  clear hW0
  have HA := Lib.hid (ha.keep hB)
  have HB := Lib.hid (hb.keep hB)
  have HS0 := Lib.hid hs0
  have hag : ∀ q f, a = some ⟨q, f, none⟩ → l ≠ [] → q < w.heap.size := fun q f e hn => by
    rcases ha.2.2.2 with h | ⟨q', f', h', hc⟩
    · exact absurd h hn
    · rw [h'] at e; cases e; exact cell_lt (hc 0 (List.length_pos_iff.2 hn))
  have hbg : ∀ q f, b = some ⟨q, f, none⟩ → m ≠ [] → q < w.heap.size := fun q f e hn => by
    rcases hb.2.2.2 with h | ⟨q', f', h', hc⟩
    · exact absurd h hn
    · rw [h'] at e; cases e; exact cell_lt (hc 0 (List.length_pos_iff.2 hn))
  have HAG := Lib.hid hag
  have HBG := Lib.hid hbg
  clear ha hb hs0 hag hbg
  have HF := Lib.hid (And.intro x0 (And.intro x1 (And.intro y0 (And.intro y1 (And.intro r0 (And.intro r0f (And.intro r1 (r1f))))))))
  clear x0 x1 y0 y1 r0 r0f r1 r1f
  go_loopw [6] (fun x wr => ∃ (i : Nat) (O : List Nat), i ≤ l.length ∧ x = .int .i64 i ∧ Blk wr (w.heap.size + 3) O ∧ Hid (O.length = l.length + m.length + 1) ∧ NumR.Limbs O ∧ Hid (NumR.val O = NumR.val (l.take i) * NumR.val m) ∧ Out (· = w.heap.size + 3) w0 wr) (fun x _ => l.length - (intOf x).toNat)
  case atStart => exact ⟨0, _, by omega, rfl, hO0, Lib.hid (by simp), (fun y hy => by simp at hy; rw [hy]; exact NumR.BB_pos), Lib.hid (by simp [NumR.val, NumR.val_zeros]), Out.refl _ _⟩
  case round =>
    obtain ⟨i, O, hi, rfl, hO, hOl, hOL, hV, hOut⟩ := hrel
    obtain ⟨x0, x1, y0, y1, r0, r0f, r1, r1f⟩ := HF.out
    replace x0 := okeep hOut x0 (fun h => by first | (have h2 : _ = _ := h; omega) | (rcases (show _ ∨ _ from h) with h | h <;> omega) | (rcases (show _ ∨ _ ∨ _ from h) with h | h | h <;> omega))
    replace x1 := okeep hOut x1 (fun h => by first | (have h2 : _ = _ := h; omega) | (rcases (show _ ∨ _ from h) with h | h <;> omega) | (rcases (show _ ∨ _ ∨ _ from h) with h | h | h <;> omega))
    replace y0 := okeep hOut y0 (fun h => by first | (have h2 : _ = _ := h; omega) | (rcases (show _ ∨ _ from h) with h | h <;> omega) | (rcases (show _ ∨ _ ∨ _ from h) with h | h | h <;> omega))
    replace y1 := okeep hOut y1 (fun h => by first | (have h2 : _ = _ := h; omega) | (rcases (show _ ∨ _ from h) with h | h <;> omega) | (rcases (show _ ∨ _ ∨ _ from h) with h | h | h <;> omega))
    replace r0f := okeepf hOut r0 r0f (fun h => by first | (have h2 : _ = _ := h; omega) | (rcases (show _ ∨ _ from h) with h | h <;> omega) | (rcases (show _ ∨ _ ∨ _ from h) with h | h | h <;> omega))
    replace r0 := okeep hOut r0 (fun h => by first | (have h2 : _ = _ := h; omega) | (rcases (show _ ∨ _ from h) with h | h <;> omega) | (rcases (show _ ∨ _ ∨ _ from h) with h | h | h <;> omega))
    replace r1f := okeepf hOut r1 r1f (fun h => by first | (have h2 : _ = _ := h; omega) | (rcases (show _ ∨ _ from h) with h | h <;> omega) | (rcases (show _ ∨ _ ∨ _ from h) with h | h | h <;> omega))
    replace r1 := okeep hOut r1 (fun h => by first | (have h2 : _ = _ := h; omega) | (rcases (show _ ∨ _ from h) with h | h <;> omega) | (rcases (show _ ∨ _ ∨ _ from h) with h | h | h <;> omega))
    by_cases hlt : i < l.length
    · have hln : l ≠ [] := by intro e; subst e; simp at hlt
      rcases HA.out.2.2.2 with hl0 | ⟨ba, oa, rfl, hca⟩
      · exact absurd hl0 hln
      have hba := HAG.out ba oa rfl hln
      have c0 := hca i hlt
      have hx := NumR.limb_get hl i
      obtain ⟨x, hxe⟩ : ∃ x, x = l.getD i 0 := ⟨_, rfl⟩
      rw [← hxe] at c0 hx
      have HX := Lib.hid hxe
      clear hxe
      go_wp2
      go_loopw [7, 8] (fun cv y wi => ∃ (k c : Nat) (Q : List Nat), k ≤ m.length + 1 ∧ y = .int .i64 k ∧ cv = .int .u64 c ∧ c < NumR.BB ∧ Blk wi (w.heap.size + 3) Q ∧ Hid (Q.length = l.length + m.length + 1) ∧ NumR.Limbs Q ∧ Hid (NumR.val Q + c * NumR.BB ^ (i + k) = NumR.val (l.take i) * NumR.val m + x * NumR.val (m.take k) * NumR.BB ^ i) ∧ Out (· = w.heap.size + 3) w0 wi) (fun _ y _ => m.length + 2 - (intOf y).toNat)
      case atStart => exact ⟨0, 0, O, by omega, rfl, rfl, NumR.BB_pos, hO, hOl, hOL, Lib.hid (by simp [NumR.val, hV.out]), hOut⟩
      case round =>
        rename World => wi
        obtain ⟨k, c, Q, hk, rfl, rfl, hcB, hQ, hQl, hQL, hQV, hOut⟩ := hrel
        clear x0 x1 y0 y1 r0 r0f r1 r1f
        obtain ⟨x0, x1, y0, y1, r0, r0f, r1, r1f⟩ := HF.out
        replace x0 := okeep hOut x0 (fun h => by first | (have h2 : _ = _ := h; omega) | (rcases (show _ ∨ _ from h) with h | h <;> omega) | (rcases (show _ ∨ _ ∨ _ from h) with h | h | h <;> omega))
        replace x1 := okeep hOut x1 (fun h => by first | (have h2 : _ = _ := h; omega) | (rcases (show _ ∨ _ from h) with h | h <;> omega) | (rcases (show _ ∨ _ ∨ _ from h) with h | h | h <;> omega))
        replace y0 := okeep hOut y0 (fun h => by first | (have h2 : _ = _ := h; omega) | (rcases (show _ ∨ _ from h) with h | h <;> omega) | (rcases (show _ ∨ _ ∨ _ from h) with h | h | h <;> omega))
        replace y1 := okeep hOut y1 (fun h => by first | (have h2 : _ = _ := h; omega) | (rcases (show _ ∨ _ from h) with h | h <;> omega) | (rcases (show _ ∨ _ ∨ _ from h) with h | h | h <;> omega))
        replace r0f := okeepf hOut r0 r0f (fun h => by first | (have h2 : _ = _ := h; omega) | (rcases (show _ ∨ _ from h) with h | h <;> omega) | (rcases (show _ ∨ _ ∨ _ from h) with h | h | h <;> omega))
        replace r0 := okeep hOut r0 (fun h => by first | (have h2 : _ = _ := h; omega) | (rcases (show _ ∨ _ from h) with h | h <;> omega) | (rcases (show _ ∨ _ ∨ _ from h) with h | h | h <;> omega))
        replace r1f := okeepf hOut r1 r1f (fun h => by first | (have h2 : _ = _ := h; omega) | (rcases (show _ ∨ _ from h) with h | h <;> omega) | (rcases (show _ ∨ _ ∨ _ from h) with h | h | h <;> omega))
        replace r1 := okeep hOut r1 (fun h => by first | (have h2 : _ = _ := h; omega) | (rcases (show _ ∨ _ from h) with h | h <;> omega) | (rcases (show _ ∨ _ ∨ _ from h) with h | h | h <;> omega))
        have c1 := okeep hOut c0 (fun h => absurd (show _ = _ from h) (by omega))
        have HQS := Lib.hid (fun t => NumR.mul_step (Q := Q) (m := m) (i := i) (k := k) (x := x) (c := c) (t := t) (V := NumR.val (l.take i) * NumR.val m))
        have hql := hQl.out
        by_cases hkm : k < m.length
        · have hmn : m ≠ [] := by intro e; subst e; simp at hkm
          rcases HB.out.2.2.2 with hm0 | ⟨bb, ob, rfl, hcb⟩
          · exact absurd hm0 hmn
          have hbb := HBG.out bb ob rfl hmn
          have d1 := okeep hOut (hcb k hkm) (fun h => absurd (show _ = _ from h) (by omega))
          have hy := NumR.limb_get hm k
          have q0 := hQ.cell (i + k) (by omega)
          have qf := hQ.frozen (i + k)
          have ho := NumR.limb_get hQL (i + k)
          have HQ1 := Lib.hid (HQS.out (c + Q.getD (i + k) 0 + x * m.getD k 0) (by omega) rfl hkm hQV.out)
          have HLt := Lib.hid (NumR.step_lt hx hy ho hcB)
          generalize m.getD k 0 = y at *
          generalize Q.getD (i + k) 0 = o at *
          have hlt2 : (i : Int) + (k : Int) < (l.length : Int) + (m.length : Int) + 1 := by omega
          have e1 := NumR.w64' (x := x) (by unfold NumR.BB at *; omega)
          have e2 := NumR.w64' (x := y) (by unfold NumR.BB at *; omega)
          have e3 := NumR.w64' (x := o) (by unfold NumR.BB at *; omega)
          have e4 : IntKind.u64.wrap ((x : Int) * (y : Int)) = ((x * y : Nat) : Int) := by rw [← Int.natCast_mul]; exact NumR.w64' (by have := HLt.out; omega)
          have e5 : IntKind.u64.wrap ((c : Int) + (o : Int)) = ((c + o : Nat) : Int) := by rw [← Int.natCast_add]; exact NumR.w64' (by have := HLt.out; omega)
          have e6 : IntKind.u64.wrap (((c + o : Nat) : Int) + ((x * y : Nat) : Int)) = ((c + o + x * y : Nat) : Int) := by rw [← Int.natCast_add]; exact NumR.w64' HLt.out
          generalize x * y = p at e4 e6 HQ1 HLt
          generalize c + o = t1 at e5 e6 HQ1 HLt
          generalize t1 + p = t at e6 HQ1 HLt
          have qb := hQ.set (i + k) (t % NumR.BB)
          have ql := NumR.limbs_set hQL (k := i + k) (Nat.mod_lt t NumR.BB_pos)
          have hOut2 := hOut.set (p := ⟨w.heap.size + 3, i + k, none⟩) (fun _ => rfl) (.int .u32 ((t % NumR.BB : Nat) : Int))
          obtain ⟨r, hr⟩ : ∃ r, r = t % NumR.BB := ⟨_, rfl⟩
          obtain ⟨z, hz⟩ : ∃ z, z = t / NumR.BB := ⟨_, rfl⟩
          rw [← hr] at qb ql hOut2 HQ1
          rw [← hz] at HQ1
          have er : (t : Int) % 65536 = (r : Int) := by unfold NumR.BB at hr; omega
          have er2 : (t : Int).tmod 65536 = (r : Int) := by rw [Int.tmod_eq_emod_of_nonneg (by omega)]; exact er
          have hrB : r < 65536 := by unfold NumR.BB at hr; omega
          have er3 := w32 (x := r) (by unfold BB; omega)
          have ez : (t : Int) / 65536 = (z : Int) := by unfold NumR.BB at hz; omega
          have hzB : z < NumR.BB := by rw [hz]; exact Nat.div_lt_of_lt_mul HLt.out
          have ez2 := NumR.w64' (x := z) (by unfold NumR.BB at *; omega)
          clear hr hz hql
          go_wp2
          go_quiet (fail)
          go_wp2
          refine ⟨⟨k + 1, z, _, by omega, by go_num, rfl, hzB, qb, Lib.hid (by simpa using hQl.out), ql, HQ1, hOut2.drewN _⟩, by simp [intOf]; omega⟩
        · have hkm' : decide (k < m.length) = false := by simp; omega
          by_cases hc0 : 0 < c
          · have HK := Lib.hid (NumR.carry_end hl hm hi hx hc0 (by omega) hQV.out)
            obtain rfl : k = m.length := HK.out
            clear HK
            have q0 := hQ.cell (i + m.length) (by omega)
            have qf := hQ.frozen (i + m.length)
            have ho := NumR.limb_get hQL (i + m.length)
            have HQ1 := Lib.hid (NumR.mul_last (m := m) (x := x) (V := NumR.val (l.take i) * NumR.val m) (t := c + Q.getD (i + m.length) 0) (by omega) rfl hQV.out)
            generalize Q.getD (i + m.length) 0 = o at *
            have hlt2 : (i : Int) + (m.length : Int) < (l.length : Int) + (m.length : Int) + 1 := by omega
            have e3 := NumR.w64' (x := o) (by unfold NumR.BB at *; omega)
            have e5 : IntKind.u64.wrap ((c : Int) + (o : Int)) = ((c + o : Nat) : Int) := by rw [← Int.natCast_add]; exact NumR.w64' (by unfold NumR.BB at *; omega)
            have HLt : c + o < NumR.BB * NumR.BB := by unfold NumR.BB at *; omega
            generalize c + o = t at e5 HQ1 HLt
            have qb := hQ.set (i + m.length) (t % NumR.BB)
            have ql := NumR.limbs_set hQL (k := i + m.length) (Nat.mod_lt t NumR.BB_pos)
            have hOut2 := hOut.set (p := ⟨w.heap.size + 3, i + m.length, none⟩) (fun _ => rfl) (.int .u32 ((t % NumR.BB : Nat) : Int))
            obtain ⟨r, hr⟩ : ∃ r, r = t % NumR.BB := ⟨_, rfl⟩
            obtain ⟨z, hz⟩ : ∃ z, z = t / NumR.BB := ⟨_, rfl⟩
            rw [← hr] at qb ql hOut2 HQ1
            rw [← hz] at HQ1
            have er : (t : Int) % 65536 = (r : Int) := by unfold NumR.BB at hr; omega
            have er2 : (t : Int).tmod 65536 = (r : Int) := by rw [Int.tmod_eq_emod_of_nonneg (by omega)]; exact er
            have hrB : r < 65536 := by unfold NumR.BB at hr; omega
            have er3 := w32 (x := r) (by unfold BB; omega)
            have ez : (t : Int) / 65536 = (z : Int) := by unfold NumR.BB at hz; omega
            have hzB : z < NumR.BB := by rw [hz]; exact Nat.div_lt_of_lt_mul HLt
            have ez2 := NumR.w64' (x := z) (by unfold NumR.BB at *; omega)
            clear hr hz hql HLt
            go_wp2
            refine ⟨⟨m.length + 1, z, _, by omega, by go_num, rfl, hzB, qb, Lib.hid (by simpa using hQl.out), ql, HQ1, hOut2⟩, by simp [intOf] <;> omega⟩
          · obtain rfl : c = 0 := by omega
            have HD := Lib.hid (NumR.mul_done hlt (by omega) HX.out hQV.out)
            clear hql
            go_wp2
            refine ⟨⟨i + 1, Q, by omega, by go_num, hQ, hQl, hQL, HD, hOut⟩, by simp [intOf]; omega⟩
    · obtain rfl : i = l.length := by omega
      have hu := hO.u32 (limbs_of_r hOL) (by have := hOl.out; unfold maxLen; omega)
      have HV := Lib.hid (show sg (n1 != n2) (NumR.val O) = sg n1 (NumR.val l) * sg n2 (NumR.val m) by rw [hV.out, List.take_length, sg_mul])
      have nc := fun W h => rnorm_c (n1 != n2) (some ⟨w.heap.size + 3, 0, none⟩) O.length O W h hOL
      rw [HV.out] at nc
      have hB2 : Below w.heap.size w wr := hB.trans (hOut.to_below (fun k hk _ h => absurd (show _ = _ from h) (by omega)) hz)
      have hol := hOl.out
      have hne : ∀ w', (binOp .neq 4 (.bool n1) (.bool n2)).run Tryz.prog w' = .ok (.bool (n1 != n2)) w' := fun w' => by cases n1 <;> cases n2 <;> rfl
      rw [hol] at nc hu
      have HU := Lib.hid hu
      clear hol hV hu hOl
      go_wp2_with fail
      refine (nc _ HU.out).mono ?_
      rintro e w2 ⟨⟨v, rfl, hi⟩, hb2⟩
      replace r0f := bkeepf hb2 r0 r0f
      replace r1f := bkeepf hb2 r1 r1f
      replace r0 := bkeep hb2 r0
      replace r1 := bkeep hb2 r1
      have hB3 := bthen hB2 hb2
      have HI2 := Lib.hid (hi.put2 r0 r1)
      obtain ⟨n3, a3, c3, l3, rfl, _, _, _, _, _⟩ := hi
      unfold iv at *
      have hz3 := hB3.size
      have hz4 := cell_lt r0
      clear x0 x1 y0 y1
      go_wp2
      refine bodyPost_ret (v := .agg #[.bool n3, .slice a3 l3.length c3]) (by simp [results, Tryz.results114, go_sem, *]) rfl ⟨⟨_, rfl, HI2.out _ _⟩, ?_⟩
      repeat (first|exact bzR _ _|exact hB3|refine bzD ?_|refine bzN ?_|refine bzS ?_|refine bzA ?_)
theorem rmul_c (vx vy : Value) (x y : Int) (k m : Nat) (w : World) (hx : IsRef w vx x) (hy : IsRef w vy y) (bx : Bd k x) (by' : Bd m y) (hk : k ≤ 17179869184) (hm : m ≤ 17179869184) :
    Calls Tryz.prog 114 #[vx, vy] w fun e w' => (∃ v, e = .returned v ∧ IsRef w' v (x * y)) ∧ Below w.heap.size w w' := by
  obtain ⟨n1, a1, c1, l1, rfl, u1, q1, g1, s1, rfl⟩ := hx
  obtain ⟨n2, a2, c2, l2, rfl, u2, q2, g2, s2, rfl⟩ := hy
  exact rmulV_c n1 n2 a1 a2 c1 c2 l1 l2 w u1 u2 q1 q2 (rbd_len g1 (rsg_bd bx) hk) (rbd_len g2 (rsg_bd by') hm)
end Go.Proofs.YtbmaffijncapiaaGreatDoor

/- Rows of numbers in memory. -/
namespace Go.Proofs.YtbmaffijncapiaaGreatDoor
open Num
open Go.ChangeShapes Go.WideShapes Go.ChangeAt Go.RowKit
set_option linter.unusedVariables false
set_option linter.unusedSimpArgs false
def IntsF (R : World → Value → Int → Prop) (w : World) (b off n : Nat) (f : Nat → Int) : Prop :=
  ∀ k, k < n → ∃ nb a len c, w.cell? ⟨b, off + k * 2, none⟩ = some (.bool nb) ∧ w.cell? ⟨b, off + k * 2 + 1, none⟩ = some (.slice a len c) ∧ R w (.agg #[.bool nb, .slice a len c]) (f k)
section
variable {R : World → Value → Int → Prop} {w w' : World} {b off n : Nat} {f f' : Nat → Int}
theorem IntsF.congr (h : IntsF R w b off n f) (he : ∀ k, k < n → f k = f' k) : IntsF R w b off n f' := fun k hk => by
  rw [← he k hk]; exact h k hk
theorem IntsF.take {m : Nat} (h : IntsF R w b off n f) (hm : m ≤ n) : IntsF R w b off m f := fun k hk => h k (by omega)
theorem IntsF.stay (hR : Lims R) (h : IntsF R w b off n f) (hb : w'.heap[b]? = w.heap[b]?) (hl : Lim w w') : IntsF R w' b off n f := fun k hk => by
  obtain ⟨nb, a, len, c, h1, h2, h3⟩ := h k hk
  exact ⟨nb, a, len, c, by rw [World.cell?_of_block (w := w) hb]; exact h1, by rw [World.cell?_of_block (w := w) hb]; exact h2, hR _ _ _ _ h3 hl⟩
theorem IntsF.keep (hR : Lims R) (h : IntsF R w b off n f) (hb : Below w.heap.size w w') : IntsF R w' b off n f := fun k hk => by
  obtain ⟨nb, a, len, c, h1, h2, h3⟩ := h k hk
  exact ⟨nb, a, len, c, bkeep hb h1, bkeep hb h2, hR _ _ _ _ h3 (.of_below hb)⟩
theorem IntsF.out {X : Nat → Prop} (hR : Lims R) (h : IntsF R w b off n f) (ho : Out X w w') (hx : ¬ X b) (hl : Lim w w') : IntsF R w' b off n f := fun k hk => by
  obtain ⟨nb, a, len, c, h1, h2, h3⟩ := h k hk
  exact ⟨nb, a, len, c, okeep ho h1 hx, okeep ho h2 hx, hR _ _ _ _ h3 hl⟩
theorem IntsF.store (hR : Lims R) (h : IntsF R w b off n f) {k : Nat} (hk : k < n) {nb : Bool} {a : Option Addr} {len c : Nat} {z : Int} (hv : R w (.agg #[.bool nb, .slice a len c]) z) :
    IntsF R ((w.setCell ⟨b, off + k * 2, none⟩ (.bool nb)).setCell ⟨b, off + k * 2 + 1, none⟩ (.slice a len c)) b off n (fun i => if i = k then z else f i) := by
  obtain ⟨nb0, a0, len0, c0, h1, h2, h3⟩ := h k hk
  have hl : Lim w ((w.setCell ⟨b, off + k * 2, none⟩ (.bool nb)).setCell ⟨b, off + k * 2 + 1, none⟩ (.slice a len c)) :=
    ((Lim.refl w).bool h1 _).slice (cell_far h2 (by simp) _) _
  intro i hi
  by_cases e : i = k
  · subst e
    refine ⟨nb, a, len, c, cell_far (cell_here h1 _) (by simp) _, cell_here (cell_far h2 (by simp) _) _, ?_⟩
    simp only [if_true]
    exact hR _ _ _ _ hv hl
  · obtain ⟨nb1, a1, len1, c1, k1, k2, k3⟩ := h i hi
    refine ⟨nb1, a1, len1, c1, cell_far (cell_far k1 (by simp <;> omega) _) (by simp <;> omega) _, cell_far (cell_far k2 (by simp <;> omega) _) (by simp <;> omega) _, ?_⟩
    show R _ _ (if i = k then z else f i)
    rw [if_neg e]
    exact hR _ _ _ _ k3 hl
theorem IntsF.far (hR : Lims R) (h : IntsF R w b off n f) {g o : Nat} (hg : g ≠ b) {x : Bool} {y : Option Addr} {p q : Nat} (r0 : w.cell? ⟨g, o, none⟩ = some (.bool x)) (r1 : w.cell? ⟨g, o + 1, none⟩ = some (.slice y p q)) (u v : Value) :
    IntsF R ((w.setCell ⟨g, o, none⟩ u).setCell ⟨g, o + 1, none⟩ v) b off n f := fun i hi => by
  obtain ⟨nb1, a1, len1, c1, k1, k2, k3⟩ := h i hi
  exact ⟨nb1, a1, len1, c1, cell_far (cell_far k1 (addr_ne hg) _) (addr_ne hg) _, cell_far (cell_far k2 (addr_ne hg) _) (addr_ne hg) _, hR _ _ _ _ k3 (((Lim.refl w).bool r0 _).slice (cell_far r1 (by simp) _) _)⟩
end
theorem isInt_zero (w : World) : IsInt w (.agg #[.bool false, .slice none 0 0]) 0 :=
  ⟨false, none, 0, [], rfl, ⟨Nat.le_refl _, by unfold maxLen; omega, (fun _ h => by cases h), .inl rfl⟩, (fun h => absurd rfl h), (fun h => by cases h), rfl⟩
theorem isRef_zero (w : World) : IsRef w (.agg #[.bool false, .slice none 0 0]) 0 :=
  ⟨false, none, 0, [], rfl, ⟨Nat.le_refl _, by unfold maxLen; omega, (fun _ h => by cases h), .inl rfl⟩, (fun _ h => by cases h), (fun h => absurd rfl h), (fun h => by cases h), rfl⟩
def zcel (n : Nat) : Array Value := madeCells #[.bool false, .slice none 0 0] (n * 2)
theorem infoInt : (Tryz.prog.info? 50).map (fun i => (i.zero, i.size, i.bytes)) = some (some (.agg #[.bool false, .slice none 0 0]), 2, 32) := by kernel_rfl
def OwnF (R : World → Value → Int → Prop) (E : TypeId) (w0 wr : World) (v : Value) (n : Nat) (f : Nat → Int) : Prop :=
  ∃ xs, OwnE E 2 w0 wr v n xs ∧ ∀ k, k < n → ∃ nb a len c, xs[k * 2]? = some (.bool nb) ∧ xs[k * 2 + 1]? = some (.slice a len c) ∧ R wr (.agg #[.bool nb, .slice a len c]) (f k)
section
variable {R : World → Value → Int → Prop} {E : TypeId} {w0 wr w' : World} {v : Value} {n : Nat} {f : Nat → Int}
theorem OwnF.nil (R : World → Value → Int → Prop) (E : TypeId) {w0 wr : World} (f : Nat → Int) (hb : Below w0.heap.size w0 wr) : OwnF R E w0 wr (.slice none 0 0) 0 f := ⟨[], OwnE.nil _ _ hb, fun k hk => absurd hk (by omega)⟩
theorem OwnF.below (hR : Lims R) (h : OwnF R E w0 wr v n f) (hb : Below wr.heap.size wr w') : OwnF R E w0 w' v n f := by
  obtain ⟨xs, h1, h2⟩ := h
  refine ⟨xs, h1.below hb, fun k hk => ?_⟩
  obtain ⟨nb, a, len, c, k1, k2, k3⟩ := h2 k hk
  exact ⟨nb, a, len, c, k1, k2, hR _ _ _ _ k3 (.of_below hb)⟩
theorem OwnF.bel (h : OwnF R E w0 wr v n f) : Below w0.heap.size w0 wr := by obtain ⟨xs, h1, _⟩ := h; exact h1.2
theorem OwnF.view (h : OwnF R E w0 wr v n f) : ∃ a c, v = .slice a n c ∧ n ≤ c ∧ c ≤ maxLen ∧ (n = 0 ∨ ∃ g, a = some ⟨g, 0, none⟩ ∧ w0.heap.size ≤ g ∧ IntsF R wr g 0 n f) := by
  obtain ⟨xs, ⟨⟨hl, h1⟩, _⟩, h2⟩ := h
  rcases h1 with ⟨rfl, rfl⟩ | ⟨g, cap, cur, rfl, hg, hh, hc, hm, hs, ht⟩
  · exact ⟨none, 0, rfl, Nat.le_refl _, by unfold maxLen; omega, .inl rfl⟩
  · refine ⟨_, cap, rfl, hc, hm, .inr ⟨g, rfl, hg, fun k hk => ?_⟩⟩
    obtain ⟨nb, a, len, c, k1, k2, k3⟩ := h2 k hk
    have cel : ∀ j u, xs[j]? = some u → wr.cell? ⟨g, j, none⟩ = some u := fun j u hj => by
      have hj2 : j < n * 2 := by have := (List.getElem?_eq_some_iff.1 hj).1; omega
      rw [← ht, List.getElem?_take_of_lt (by omega)] at hj
      simpa [World.cell?, hh] using hj
    exact ⟨nb, a, len, c, by rw [Nat.zero_add]; exact cel _ _ k1, by rw [Nat.zero_add]; exact cel _ _ k2, k3⟩
end
theorem own_snoc {R : World → Value → Int → Prop} (hR : Lims R) {E : TypeId} {w0 wr w' : World} {v' : Value} {n : Nat} {f : Nat → Int} {xs : List Value} {nb : Bool} {a : Option Addr} {len c : Nat} {z : Int}
    (h2 : ∀ k, k < n → ∃ nb a len c, xs[k * 2]? = some (.bool nb) ∧ xs[k * 2 + 1]? = some (.slice a len c) ∧ R wr (.agg #[.bool nb, .slice a len c]) (f k)) (hl : xs.length = n * 2)
    (hv : R wr (.agg #[.bool nb, .slice a len c]) z) (hlim : Lim wr w') (hO : OwnE E 2 w0 w' v' (n + 1) (xs ++ [.bool nb, .slice a len c])) : OwnF R E w0 w' v' (n + 1) (fun i => if i = n then z else f i) := by
  refine ⟨_, hO, fun k hk => ?_⟩
  by_cases e : k = n
  · subst e
    refine ⟨nb, a, len, c, ?_, ?_, ?_⟩
    · rw [List.getElem?_append_right (by omega), hl]; simp
    · rw [List.getElem?_append_right (by omega), hl]; simp
    · simp only [if_true]; exact hR _ _ _ _ hv hlim
  · obtain ⟨nb1, a1, len1, c1, k1, k2, k3⟩ := h2 k (by omega)
    refine ⟨nb1, a1, len1, c1, ?_, ?_, ?_⟩
    · rw [List.getElem?_append_left (by omega)]; exact k1
    · rw [List.getElem?_append_left (by omega)]; exact k2
    · show R _ _ (if k = n then z else f k)
      rw [if_neg e]; exact hR _ _ _ _ k3 hlim
section
variable {P : Program} {T E : TypeId} {bytes : Nat} {R : World → Value → Int → Prop} {ops : Array Oper} {o : Oper} {a : Act} {Q : Exit → Act → World → Prop} {w0 wr : World} {v : Value} {n : Nat} {f : Nat → Int} {t : TypeId} {s x : Operand} {nb : Bool} {ad : Option Addr} {len c m cc : Nat} {z : Int}
theorem app_num {rest : List Oper} (el : Elt P T E 2 bytes) (hE : E ≠ 177) (hR : Lims R) (hgd : o.guard = none)
    (ho : o.op = .call { callee := .builtin .append, args := #[s, x], argTypes := #[T, T] }) (hO : OwnF R E w0 wr v n f) (hv : R wr (.agg #[.bool nb, .slice ad len c]) z) (hs : a.eval s = v)
    (hx : a.eval x = .slice (some ⟨wr.heap.size, 0, none⟩) 1 cc) (hn : n + 1 ≤ 1099511627776)
    (h : ∀ v' w', OwnF R E w0 w' v' (n + 1) (fun i => if i = n then z else f i) → Lim wr w' → Out (fun k => v.ownBlock = some k) wr w' → wpList P ops Q rest (a.put o.dst v') w') : wpList P ops Q (o :: rest) a (wr.alloc (.cells #[.bool nb, .slice ad len c] t)) := by
  obtain ⟨i, z0, hi, hz, hsize, hby, hzs⟩ := el.info
  obtain ⟨xs, h1, h2⟩ := hO
  have hb : (n + 1) * bytes ≤ 1099511627776 * 128 := Nat.mul_le_mul hn el.small
  refine wpList_append_own _ hgd s x T ho w0.heap.size E i z0 2 bytes el.ht hi hz hsize hby hzs el.pos v n xs hs (h1.1.alloc _) ⟨wr.heap.size, 0, none⟩ 1 cc [.bool nb, .slice ad len c] hx rfl (cells_new wr _ t) (fun u hu => by simp at hu; rcases hu with rfl | rfl <;> rfl) (by unfold maxLen; omega) (by omega) (by have := h1.2.size; simp; omega) ?_
  intro v' w' hown hg _
  have hl : Lim wr w' := ((Lim.refl wr).alloc _).grown hg fun g hg' ht => hE (by
    rw [typ_keep (own_typ h1 hg') (bal (Below.refl _ _) _)] at ht
    exact Option.some.inj ht)
  exact h v' w' (own_snoc hR h2 h1.1.1 hv hl ⟨hown, below_append (wr := wr) (bal h1.2 _) (h1.1.alloc _) hg⟩) hl (((Out.refl _ wr).alloc _).grown hg fun k hk _ => hk)
end
theorem infoRef : (Tryz.prog.info? 56).map (fun i => (i.zero, i.size, i.bytes)) = some (some (.agg #[.bool false, .slice none 0 0]), 2, 32) := by kernel_rfl
theorem elInt : Elt Tryz.prog 68 50 2 32 := Elt.mk' Tryz.underlying68 infoInt rfl (by decide) (by decide)
def Free (w : World) (g : Nat) : Prop := g < w.heap.size ∧ ∀ j, w.frozen? ⟨g, j, none⟩ = false
theorem Free.keep {w w' : World} {g : Nat} (h : Free w g) (hb : Below w.heap.size w w') : Free w' g :=
  ⟨Nat.lt_of_lt_of_le h.1 hb.size, fun j => by rw [hb.frozen h.1]; exact h.2 j⟩
theorem Free.new {w : World} {c : Array Value} {t : TypeId} {g : Nat} (hg : g = w.heap.size) : Free (w.alloc (.cells c t)) g :=
  ⟨by simp <;> omega, fun j => by rw [World.frozen?_alloc_at (hn := hg)] <;> rfl⟩
theorem Free.set {w : World} {g : Nat} (h : Free w g) (p : Addr) (v : Value) : Free (w.setCell p v) g := ⟨by simpa using h.1, fun j => by rw [World.frozen?_setCell]; exact h.2 j⟩
theorem Free.out {X : Nat → Prop} {w w' : World} {g : Nat} (h : Free w g) (ho : Out X w w') (hx : ¬ X g) : Free w' g :=
  ⟨Nat.lt_of_lt_of_le h.1 ho.size, fun j => by rw [World.frozen?_of_block (w := w) (ho.block g h.1 hx)]; exact h.2 j⟩
theorem IntsF.at0 {R : World → Value → Int → Prop} {w : World} {b n k : Nat} {f : Nat → Int} (h : IntsF R w b 0 n f) (hk : k < n) : ∃ nb a len c, w.cell? ⟨b, k * 2, none⟩ = some (.bool nb) ∧ w.cell? ⟨b, k * 2 + 1, none⟩ = some (.slice a len c) ∧ R w (.agg #[.bool nb, .slice a len c]) (f k) := by
  simpa using h k hk
theorem IntsF.store0 {R : World → Value → Int → Prop} {w : World} {b n : Nat} {f : Nat → Int} (hR : Lims R) (h : IntsF R w b 0 n f) {k : Nat} (hk : k < n) {nb : Bool} {a : Option Addr} {len c : Nat} {z : Int} (hv : R w (.agg #[.bool nb, .slice a len c]) z) :
    IntsF R ((w.setCell ⟨b, k * 2, none⟩ (.bool nb)).setCell ⟨b, k * 2 + 1, none⟩ (.slice a len c)) b 0 n (fun i => if i = k then z else f i) := by
  have := h.store hR hk hv
  simpa using this
theorem Lim.set2 {w : World} {g o : Nat} {x : Bool} {y : Option Addr} {p q : Nat} (r0 : w.cell? ⟨g, o, none⟩ = some (.bool x)) (r1 : w.cell? ⟨g, o + 1, none⟩ = some (.slice y p q)) (u v : Value) : Lim w ((w.setCell ⟨g, o, none⟩ u).setCell ⟨g, o + 1, none⟩ v) :=
  ((Lim.refl w).bool r0 _).slice (cell_far r1 (by simp) _) _
theorem Out.set2 {X : Nat → Prop} {a b : World} (h : Out X a b) {g o : Nat} (hx : g < a.heap.size → X g) (u v : Value) : Out X a ((b.setCell ⟨g, o, none⟩ u).setCell ⟨g, o + 1, none⟩ v) := (h.set hx u).set hx v
end Go.Proofs.YtbmaffijncapiaaGreatDoor

