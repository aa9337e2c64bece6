/- Texts of this seat, laid together: LimbI, Kn. Each opens with its own remark, which says what it proves, and under which conditions. -/
import Derived.Test.YtannhpadoooedaaDoorG17
import Derived.Test.YtannhpadoooedaaDoorG18
import Derived.Test.YtannhpadoooedaaDoorG14
/- math/bits.TrailingZeros32, limb: Twos. -/
namespace Go.Proofs.YtannhpadoooedaaDoor
open Num
open Go.ChangeShapes Go.WideShapes Go.ChangeAt Go.RowKit
set_option linter.unusedVariables false
set_option linter.unusedSimpArgs false

namespace Num
/-- 2 divides v just t times -/
def IsTwos (v t : Nat) : Prop := ∃ m, v = 2 ^ t * (2 * m + 1)
theorem IsTwos.dvd {v t n : Nat} (h : IsTwos v t) : 2 ^ n ∣ v ↔ n ≤ t := by
  obtain ⟨m, rfl⟩ := h
  constructor
  · intro hd
    apply Nat.le_of_not_lt
    intro hlt
    have h1 : 2 ^ (t + 1) ∣ 2 ^ t * (2 * m + 1) := Nat.dvd_trans (Nat.pow_dvd_pow 2 hlt) hd
    rw [Nat.pow_succ] at h1
    have h2 := Nat.dvd_of_mul_dvd_mul_left (Nat.pow_pos (by omega)) h1
    omega
  · intro hle
    exact Nat.dvd_trans (Nat.pow_dvd_pow 2 hle) (Nat.dvd_mul_right _ _)
theorem ctz_twos {x : Nat} (h0 : 0 < x) (hx : x < BB) : ∃ m, x = 2 ^ Lib.ctz 32 x * (2 * m + 1) := by
  obtain ⟨m, hm, _⟩ := Lib.ctzFrom_spec 32 x h0 hx
  have e : Lib.ctz 32 x = Lib.ctzFrom 32 x := by simp [Lib.ctz, Nat.ne_of_gt h0]
  rw [e]
  exact ⟨m, hm⟩
theorem twos_at {l : List Nat} {i : Nat} (hl : Limbs l) (hi : i < l.length) (h0 : val (l.take i) = 0) (hx : 0 < l.getD i 0) : IsTwos (val l) (32 * i + Lib.ctz 32 (l.getD i 0)) := by
  obtain ⟨m, hm⟩ := ctz_twos hx (limb_get hl i)
  rw [val_split hi, h0, Nat.zero_add, BB_pow]
  unfold IsTwos
  rw [Nat.pow_add]
  have hk : Lib.ctz 32 (l.getD i 0) < 32 := (Lib.lowest_bit 32 (l.getD i 0) (by omega) (limb_get hl i)).2
  have hB := BB_split (show Lib.ctz 32 (l.getD i 0) + 1 ≤ 32 by omega)
  refine ⟨m + 2 ^ (32 - (Lib.ctz 32 (l.getD i 0) + 1)) * val (l.drop (i + 1)), ?_⟩
  rw [Nat.mul_assoc]
  congr 1
  generalize Lib.ctz 32 (l.getD i 0) = t at *
  generalize val (l.drop (i + 1)) = V at *
  rw [hm, hB, Nat.pow_succ]
  generalize 2 ^ (32 - (t + 1)) = K
  generalize 2 ^ t = b
  rw [Nat.mul_add b, Nat.mul_one]
  have e1 : b * 2 * K * V = 2 * (b * (K * V)) := by ac_rfl
  have e2 : b * (2 * (m + K * V)) = b * (2 * m) + 2 * (b * (K * V)) := by rw [Nat.mul_add, Nat.mul_add]; congr 1; ac_rfl
  rw [e1, Nat.mul_add b, Nat.mul_one, e2]
  omega
end Num

set_option maxRecDepth 100000 in
set_option maxHeartbeats 1000000 in
theorem limbTwos_c (a : Option Addr) (ca : Nat) (l : List Nat) (w : World) (ha : U32 w a ca l) (h1 : l.length ≤ 1099511627776) (hp : 0 < val l) (hT : Tz32 w) :
    Calls Tryd.prog 126 #[.slice a l.length ca] w fun e w' => (∃ t : Nat, e = .returned (.int .i64 (t : Int)) ∧ IsTwos (val l) t ∧ t ≤ 35184372088832) ∧ w = w' := by
  have HT := Lib.hid hT
  clear hT
  go_enter Tryd.func126, Tryd.ntmps126
  go_wp2
  go_loop [7] (fun x => ∃ i : Nat, i ≤ l.length ∧ x = .int .i64 i ∧ val (l.take i) = 0) (fun x => l.length - (intOf x).toNat)
  case atStart => exact ⟨0, Nat.zero_le _, rfl, rfl⟩
  case round =>
    obtain ⟨i, hi, rfl, hz⟩ := hrel
    have HZ := Lib.hid hz
    clear hz
    by_cases hlt : i < l.length
    · rcases ha.2.2.2 with hl0 | ⟨ba, oa, rfl, hca⟩
      · subst hl0; simp at hlt
      have c0 := hca i hlt
      have hx := limb_get ha.2.2.1 i
      have HS := Lib.hid (val_take_succ hlt)
      by_cases h0 : l.getD i 0 = 0
      · have HN := Lib.hid (show val (l.take (i + 1)) = 0 by rw [HS.out, HZ.out, h0]; simp)
        rw [h0] at c0
        go_wp2
        exact ⟨⟨i + 1, by omega, by go_num, HN.out⟩, by simp [intOf]; omega⟩
      · have HW := Lib.hid (twos_at ha.2.2.1 hlt HZ.out (Nat.pos_of_ne_zero h0))
        have hk := (Lib.lowest_bit 32 (l.getD i 0) h0 hx).2
        have tc := tz32_c (l.getD i 0) w hx HT.out
        have hx0 : (0 : Int) < (l.getD i 0 : Nat) := by omega
        generalize l.getD i 0 = x at *
        generalize Lib.ctz 32 x = t at *
        go_wp2_with fail
        refine tc.mono ?_
        rintro e w1 ⟨rfl, rfl⟩
        clear tc
        go_wp2
        go_ret
        exact ⟨⟨32 * i + t, by simp [go_sem], HW.out, by omega⟩, rfl⟩
    · exfalso
      obtain rfl : i = l.length := by omega
      have := HZ.out
      rw [List.take_length] at this
      omega
end Go.Proofs.YtannhpadoooedaaDoor
/- Plain: long division, limb by limb. -/
namespace Go.Proofs.YtannhpadoooedaaDoor.Num
/-- i limbs of a list, from the k-th on -/
def win (U : List Nat) (k i : Nat) : Nat := val ((U.drop k).take i)
theorem take_any (l : List Nat) (k : Nat) : val (l.take (k + 1)) = val (l.take k) + l.getD k 0 * BB ^ k := by
  by_cases h : k < l.length
  · exact val_take_succ h
  · rw [List.take_of_length_le (by omega), List.take_of_length_le (by omega)]; simp [show l.length ≤ k by omega]
theorem win_zero (U : List Nat) (k : Nat) : win U k 0 = 0 := by simp [win, val]
theorem win_succ {U : List Nat} {k i : Nat} (h : k + i < U.length) : win U k (i + 1) = win U k i + U.getD (k + i) 0 * BB ^ i := by
  unfold win
  rw [val_take_succ (by simp; omega)]
  simp [List.getElem?_drop]
theorem win_set {U : List Nat} {k i j x : Nat} (h : j < k ∨ k + i ≤ j) : win (U.set j x) k i = win U k i := by
  unfold win
  congr 1
  apply List.ext_getElem?
  intro m
  simp only [List.getElem?_take, List.getElem?_drop, List.getElem?_set]
  by_cases hm : m < i
  · rw [if_pos hm, if_neg (by omega)]; simp [hm]
  · simp [hm]
theorem win_lt {U : List Nat} (h : Limbs U) (k i : Nat) : win U k i < BB ^ i := by
  unfold win
  refine Nat.lt_of_lt_of_le (val_lt (fun x hx => h x (List.mem_of_mem_drop (List.mem_of_mem_take hx)))) (Nat.pow_le_pow_right BB_pos ?_)
  simp; omega
theorem win_set_succ {U : List Nat} {k i x : Nat} (h : k + i < U.length) : win (U.set (k + i) x) k (i + 1) = win U k i + x * BB ^ i := by
  rw [win_succ (by simpa using h), win_set (.inr (Nat.le_refl _))]
  simp [h]
theorem getD_set_far {l : List Nat} {i j x : Nat} (h : i ≠ j) : (l.set i x).getD j 0 = l.getD j 0 := getD_set_ne h
/-- v, so many times, is taken: one limb -/
theorem less_arith {W V W0 c b P vi t ui m c1 r b1 B : Nat} (h : W + V * t = W0 + (c + b) * P) (hc : c + vi * t = c1 * B + m) (hr : r + m + b = ui + b1 * B) :
    W + r * P + (V + vi * P) * t = W0 + ui * P + (c1 + b1) * (B * P) := by
  have e1 : (V + vi * P) * t = V * t + vi * t * P := by rw [Nat.add_mul]; congr 1; ac_rfl
  have e2 : (c1 + b1) * (B * P) = c1 * B * P + b1 * B * P := by rw [Nat.add_mul]; congr 1 <;> ac_rfl
  have e3 : c * P + vi * t * P = c1 * B * P + m * P := by rw [← Nat.add_mul, hc, Nat.add_mul]
  have e4 : r * P + m * P + b * P = ui * P + b1 * B * P := by rw [← Nat.add_mul, ← Nat.add_mul, hr, Nat.add_mul]
  have e5 : (c + b) * P = c * P + b * P := Nat.add_mul _ _ _
  rw [e1, e2]
  omega
theorem back_arith {W V W1 c P vi ui c1 r B : Nat} (h : W + c * P = W1 + V) (hc : c + ui + vi = c1 * B + r) :
    W + r * P + c1 * (B * P) = W1 + ui * P + (V + vi * P) := by
  have e1 : c * P + ui * P + vi * P = c1 * (B * P) + r * P := by
    rw [← Nat.add_mul, ← Nat.add_mul, hc, Nat.add_mul]; congr 1; ac_rfl
  omega
/-- a list's value, by its two highest limbs -/
theorem top_two {v : List Nat} {n : Nat} (h : v.length = n + 2) : val v = v.getD (n + 1) 0 * BB ^ (n + 1) + v.getD n 0 * BB ^ n + val (v.take n) := by
  have h1 := val_take_succ (l := v) (k := n + 1) (by omega)
  have h2 := val_take_succ (l := v) (k := n) (by omega)
  rw [List.take_of_length_le (by omega)] at h1
  omega
theorem win_top {U : List Nat} {k n : Nat} (h : k + (n + 3) ≤ U.length) : win U k (n + 3) = (U.getD (k + (n + 2)) 0 * BB + U.getD (k + (n + 1)) 0) * BB ^ (n + 1) + U.getD (k + n) 0 * BB ^ n + win U k n := by
  rw [win_succ (by omega), win_succ (by omega), win_succ (by omega)]
  have : BB ^ (n + 2) = BB * BB ^ (n + 1) := by rw [Nat.pow_succ BB (n + 1), Nat.mul_comm]
  rw [this, Nat.add_mul]
  have : U.getD (k + (n + 2)) 0 * (BB * BB ^ (n + 1)) = U.getD (k + (n + 2)) 0 * BB * BB ^ (n + 1) := by ac_rfl
  omega
section
variable {N D v1 v2 low high u2 lowN P1 P2 B g r : Nat}
theorem kn_first (hP : 0 < P1) (hD : v1 * P1 ≤ D) (hN : N < (high + 1) * P1) (hD0 : 0 < D) (hv : 0 < v1) : N / D ≤ high / v1 := by
  rw [Nat.le_div_iff_mul_le hv]
  have h1 : N / D * D ≤ N := Nat.div_mul_le_self N D
  have h2 : N / D * (v1 * P1) ≤ N / D * D := Nat.mul_le_mul (Nat.le_refl _) hD
  have h3 : N / D * v1 * P1 < (high + 1) * P1 := by rw [Nat.mul_assoc]; omega
  have := Nat.lt_of_mul_lt_mul_right h3
  omega
theorem kn_big (h : N < D * B) : N / D < B := Nat.div_lt_of_lt_mul h
theorem kn_step (hP : 0 < P2) (hD0 : 0 < D) (hD : D = v1 * (B * P2) + v2 * P2 + low) (hN : N = high * (B * P2) + u2 * P2 + lowN) (hlN : lowN < P2) (hg : g * v1 + r = high) (ht : r * B + u2 < g * v2) : N / D < g := by
  rw [Nat.div_lt_iff_lt_mul hD0, hN, hD]
  have e1 : g * (v1 * (B * P2) + v2 * P2 + low) = g * v1 * (B * P2) + g * v2 * P2 + g * low := by
    rw [Nat.mul_add, Nat.mul_add]; congr 1; congr 1 <;> ac_rfl
  have e2 : high * (B * P2) = g * v1 * (B * P2) + r * B * P2 := by rw [← hg, Nat.add_mul]; congr 1; ac_rfl
  have e3 : (r * B + u2 + 1) * P2 ≤ g * v2 * P2 := Nat.mul_le_mul ht (Nat.le_refl _)
  have e4 : (r * B + u2 + 1) * P2 = r * B * P2 + u2 * P2 + P2 := by rw [Nat.add_mul, Nat.add_mul]; omega
  omega
theorem kn_exit (hv1 : 0 < v1) (hB : 0 < B) (hgB : g < B) (hlow : low < P2) (hD : D = v1 * (B * P2) + v2 * P2 + low) (hN : N = high * (B * P2) + u2 * P2 + lowN) (hg : g * v1 + r = high) (ht : g * v2 ≤ r * B + u2) : g * D < N + D := by
  have e1 : g * D = g * v1 * (B * P2) + g * v2 * P2 + g * low := by
    rw [hD, Nat.mul_add, Nat.mul_add]; congr 1; congr 1 <;> ac_rfl
  have e2 : high * (B * P2) = g * v1 * (B * P2) + r * B * P2 := by rw [← hg, Nat.add_mul]; congr 1; ac_rfl
  have e3 : g * v2 * P2 ≤ (r * B + u2) * P2 := Nat.mul_le_mul ht (Nat.le_refl _)
  have e4 : (r * B + u2) * P2 = r * B * P2 + u2 * P2 := Nat.add_mul _ _ _
  have e5 : g * low < B * P2 := Nat.mul_lt_mul'' hgB hlow
  have e6 : B * P2 ≤ v1 * (B * P2) := Nat.le_mul_of_pos_left _ hv1
  omega
theorem kn_far (hlow : v2 * P2 + low < B * P2) (hD : D = v1 * (B * P2) + v2 * P2 + low) (hN : N = high * (B * P2) + u2 * P2 + lowN) (hg : g * v1 + r = high) (hr : g ≤ r) : g * D ≤ N := by
  have e1 : D ≤ (v1 + 1) * (B * P2) := by rw [Nat.add_mul]; omega
  have e2 : g * D ≤ g * ((v1 + 1) * (B * P2)) := Nat.mul_le_mul (Nat.le_refl _) e1
  have e3 : g * ((v1 + 1) * (B * P2)) = (g * v1 + g) * (B * P2) := by rw [← Nat.mul_assoc, Nat.mul_add, Nat.mul_one]
  have e4 : (g * v1 + g) * (B * P2) ≤ high * (B * P2) := Nat.mul_le_mul (by omega) (Nat.le_refl _)
  omega
end
theorem low_two {v2 low P2 B : Nat} (h2 : v2 < B) (hl : low < P2) : v2 * P2 + low < B * P2 := by
  have : (v2 + 1) * P2 ≤ B * P2 := Nat.mul_le_mul h2 (Nat.le_refl _)
  rw [Nat.add_mul] at this
  omega
theorem kn_done {N D g W : Nat} (hD : 0 < D) (hq : N / D ≤ g) (h : W + D * g = N) : N / D = g ∧ N % D = W := by
  have h1 : g ≤ N / D := by rw [Nat.le_div_iff_mul_le hD, Nat.mul_comm]; omega
  have h2 : N / D = g := by omega
  refine ⟨h2, ?_⟩
  have := Nat.div_add_mod N D
  rw [h2] at this
  omega
theorem kn_over {N D g W P : Nat} (hD : 0 < D) (hg : g * D < N + D) (hW : W < P) (h : W + D * g = N + P) : g = N / D + 1 ∧ W + D = N % D + P := by
  have e : D * g = g * D := Nat.mul_comm _ _
  have h1 : N < g * D := by omega
  have h2 : N / D < g := (Nat.div_lt_iff_lt_mul hD).2 h1
  have h3 : g ≤ N / D + 1 := by
    apply Nat.le_of_not_lt
    intro hlt
    have : (N / D + 2) * D ≤ g * D := Nat.mul_le_mul hlt (Nat.le_refl _)
    have h4 := Nat.lt_div_mul_add (a := N) hD
    rw [Nat.add_mul] at this
    omega
  have hq : g = N / D + 1 := by omega
  refine ⟨hq, ?_⟩
  have := Nat.div_add_mod N D
  rw [hq, Nat.mul_add, Nat.mul_one] at h
  omega
theorem kn_back {R W P c : Nat} (hR : R < P) (hW : W < P) (h : W + c * P = R + P) : W = R := by
  rcases Nat.lt_or_ge c 1 with h0 | h0
  · obtain rfl : c = 0 := by omega
    omega
  · rcases Nat.lt_or_ge 1 c with h1 | h1
    · have : 2 * P ≤ c * P := Nat.mul_le_mul h1 (Nat.le_refl _)
      omega
    · obtain rfl : c = 1 := by omega
      omega
theorem val_win (U : List Nat) (k n : Nat) (h : U.length ≤ k + n) : val (U.drop k) = win U k n := by
  unfold win
  rw [List.take_of_length_le (by simp; omega)]
theorem val_cut {U : List Nat} {k : Nat} (h : k ≤ U.length) : val U = val (U.take k) + BB ^ k * val (U.drop k) := by
  conv => lhs; rw [← List.take_append_drop k U]
  rw [val_append, List.length_take, Nat.min_eq_left h]
end Go.Proofs.YtannhpadoooedaaDoor.Num
