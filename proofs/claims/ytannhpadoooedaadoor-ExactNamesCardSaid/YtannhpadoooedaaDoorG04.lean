/- Texts of this seat, laid together: NumB, IntA. Each opens with its own remark, which says what it proves, and under which conditions. -/
import Derived.Test.YtannhpadoooedaaDoorG03
import Derived.Shelf.Small.Bits
/- Plain laws: how many binary digits. -/
namespace Go.Proofs.YtannhpadoooedaaDoor
open Num
set_option linter.unusedVariables false
namespace Num
/-- how many binary digits -/
def bitN (v : Nat) : Nat := if v = 0 then 0 else v.log2 + 1
theorem bitN_half {x : Nat} (h : x ≠ 0) : bitN x = 1 + bitN (x / 2) := by
  unfold bitN
  rw [if_neg h, Nat.log2_def]
  by_cases h2 : 2 ≤ x
  · rw [if_pos h2, if_neg (by omega)]; omega
  · rw [if_neg h2, if_pos (by omega)]
theorem bitLen_eq (x : Nat) (h : x < 2 ^ 64) : Lib.bitLen x = bitN x := by
  induction x using Nat.strongRecOn with
  | ind x ih =>
    by_cases h0 : x = 0
    · subst h0; rfl
    · rw [Lib.bitLen_half x h0 h, bitN_half h0, ih (x / 2) (by omega) (by omega)]
theorem BB_pow (n : Nat) : BB ^ n = 2 ^ (32 * n) := by
  rw [Nat.pow_mul]; rfl
theorem bitN_snoc {l : List Nat} {x : Nat} (hl : Limbs l) (hx : x ≠ 0) : bitN (val (l ++ [x])) = 32 * l.length + bitN x := by
  have h1 := val_lt hl
  rw [val_append]
  simp only [val, Nat.mul_zero, Nat.add_zero]
  rw [BB_pow] at *
  have hp : 0 < 2 ^ (32 * l.length) := Nat.pow_pos (by omega)
  have h2 : 2 ^ (32 * l.length) * 1 ≤ 2 ^ (32 * l.length) * x := Nat.mul_le_mul_left _ (by omega)
  unfold bitN
  rw [if_neg (by omega), if_neg hx]
  have e : (val l + 2 ^ (32 * l.length) * x).log2 = 32 * l.length + x.log2 := by
    rw [Nat.log2_eq_iff (by omega)]
    have k1 := Nat.log2_self_le hx
    have k2 := @Nat.lt_log2_self x
    constructor
    · rw [Nat.pow_add]
      have := Nat.mul_le_mul_left (2 ^ (32 * l.length)) k1
      omega
    · rw [Nat.add_assoc, Nat.pow_add]
      have := Nat.mul_le_mul_left (2 ^ (32 * l.length)) (show x + 1 ≤ 2 ^ (x.log2 + 1) from k2)
      rw [Nat.mul_add] at this
      omega
  omega
theorem bitN_nrm {l : List Nat} {k : Nat} (hl : Limbs l) (hn : Nrm l) (hk : l.length = k + 1) : bitN (val l) = 32 * k + bitN (l.getD k 0) := by
  obtain ⟨m, x, rfl⟩ : ∃ m x, l = m ++ [x] := ⟨l.dropLast, l.getLast (by intro e; subst e; simp at hk), (List.dropLast_concat_getLast _).symm⟩
  simp at hk
  have hx := hn (by simp)
  simp at hx
  rw [bitN_snoc (fun y hy => hl y (by simp [hy])) hx, hk]
  congr 2
  simp [← hk]
theorem val_nil_iff {l : List Nat} (hn : Nrm l) : val l = 0 ↔ l = [] := by
  constructor
  · intro h
    by_cases h0 : l = []
    · exact h0
    · have := nrm_val_pos hn h0
      have : 0 < BB ^ (l.length - 1) := Nat.pow_pos BB_pos
      omega
  · rintro rfl; rfl
end Num
end Go.Proofs.YtannhpadoooedaaDoor
/- integer: numbers as values; made, Make, Of. -/
namespace Go.Proofs.YtannhpadoooedaaDoor
open Num
open Go.ChangeShapes Go.WideShapes Go.ChangeAt Go.RowKit
set_option linter.unusedVariables false
set_option linter.unusedSimpArgs false
namespace Num
/-- with a sign -/
def sg (neg : Bool) (n : Nat) : Int := if neg then -(n : Int) else n
theorem sg_zero (neg : Bool) : sg neg 0 = 0 := by cases neg <;> rfl
theorem sg_abs (neg : Bool) (n : Nat) : (sg neg n).natAbs = n := by cases neg <;> simp [sg]
theorem sg_mul (a b : Bool) (m n : Nat) : sg (a != b) (m * n) = sg a m * sg b n := by
  cases a <;> cases b <;> simp [sg, Int.mul_neg, Int.neg_mul]
/-- so many bits are enough -/
def Bd (k : Nat) (z : Int) : Prop := z.natAbs < 2 ^ k
theorem Bd.mul {k m : Nat} {x y : Int} (hx : Bd k x) (hy : Bd m y) : Bd (k + m) (x * y) := by
  unfold Bd at *
  rw [Int.natAbs_mul, Nat.pow_add]
  exact Nat.mul_lt_mul'' hx hy
theorem Bd.mono {k m : Nat} {x : Int} (hx : Bd k x) (h : k ≤ m) : Bd m x := Nat.lt_of_lt_of_le hx (Nat.pow_le_pow_right (by omega) h)
theorem bd_len {l : List Nat} {k : Nat} (hn : Nrm l) (h : val l < 2 ^ k) (hk : k ≤ 17179869184) : l.length ≤ 536870913 := by
  by_cases h0 : l = []
  · subst h0; simp
  · have h1 := nrm_val_pos hn h0
    rw [BB_pow] at h1
    have h2 : 32 * (l.length - 1) < k := (Nat.pow_lt_pow_iff_right (a := 2) (by omega)).1 (Nat.lt_of_le_of_lt h1 h)
    omega
end Num
/-- the value of a number, by its parts -/
def iv (neg : Bool) (a : Option Addr) (n cap : Nat) : Value := .agg #[.bool neg, .slice a n cap]
/-- a value is the number z -/
def IsInt (w : World) (v : Value) (z : Int) : Prop := ∃ neg a cap l, v = iv neg a (List.length l) cap ∧ U32 w a cap l ∧ Nrm l ∧ (neg = true → l ≠ []) ∧ z = sg neg (val l)
theorem IsInt.keep {w w' : World} {v : Value} {z : Int} (h : IsInt w v z) (hb : Below w.heap.size w w') : IsInt w' v z := by
  obtain ⟨neg, a, cap, l, h1, h2, h3, h4, h5⟩ := h
  exact ⟨neg, a, cap, l, h1, h2.keep hb, h3, h4, h5⟩
theorem addr_ne {b o b' o' : Nat} {s s' : Option Nat} (h : b ≠ b') : (⟨b, o, s⟩ : Addr) ≠ ⟨b', o', s'⟩ := fun e => h (congrArg Addr.block e)
/-- storing into a cell that holds no limb -/
theorem U32.put {w : World} {a : Option Addr} {cap : Nat} {l : List Nat} {p : Addr} {v : Value} (h : U32 w a cap l) (hp : w.cell? p = some v) (hv : ∀ n, v ≠ .int .u32 n) (u : Value) : U32 (w.setCell p u) a cap l := by
  refine ⟨h.1, h.2.1, h.2.2.1, ?_⟩
  rcases h.2.2.2 with h0 | ⟨b, off, h1, h2⟩
  · exact .inl h0
  · refine .inr ⟨b, off, h1, fun k hk => cell_far (h2 k hk) ?_ u, by rw [typ_set]; exact h2.ty⟩
    intro e
    rw [e, h2 k hk] at hp
    exact hv _ (Option.some.inj hp).symm
theorem IsInt.put {w : World} {x : Value} {z : Int} {p : Addr} {v : Value} (h : IsInt w x z) (hp : w.cell? p = some v) (hv : ∀ n, v ≠ .int .u32 n) (u : Value) : IsInt (w.setCell p u) x z := by
  obtain ⟨neg, a, cap, l, h1, h2, h3, h4, h5⟩ := h
  exact ⟨neg, a, cap, l, h1, h2.put hp hv u, h3, h4, h5⟩
theorem IsInt.put2 {w : World} {x : Value} {z : Int} {g : Nat} {b : Bool} {a : Option Addr} {n c : Nat} (h : IsInt w x z) (r0 : w.cell? ⟨g, 0, none⟩ = some (.bool b)) (r1 : w.cell? ⟨g, 1, none⟩ = some (.slice a n c)) (u v : Value) : IsInt ((w.setCell ⟨g, 0, none⟩ u).setCell ⟨g, 1, none⟩ v) x z :=
  (h.put r0 (fun _ e => by cases e) u).put (cell_far r1 (by simp) u) (fun _ e => by cases e) v

set_option maxRecDepth 100000 in
set_option maxHeartbeats 1000000 in
theorem made_c (neg : Bool) (a : Option Addr) (ca : Nat) (l : List Nat) (w : World) (ha : U32 w a ca l) (hn : Nrm l) :
    Calls Tryd.prog 34 #[.bool neg, .slice a l.length ca] w fun e w' => (∃ v, e = .returned v ∧ IsInt w' v (sg neg (val l))) ∧ Below w.heap.size w w' := by
  have key : Calls Tryd.prog 34 #[.bool neg, .slice a l.length ca] w fun e w' => e = .returned (iv (neg && decide (0 < l.length)) a l.length ca) ∧ Below w.heap.size w w' := by
    clear ha hn
    generalize hk : l.length = k
    clear hk
    cases neg with
    | false =>
      go_enter Tryd.func34, Tryd.ntmps34
      go_wp2
      refine bodyPost_ret (v := iv false a k ca) (by simp [iv, results, Tryd.results34, go_sem, *]) rfl ⟨rfl, ?_⟩
      repeat (first | exact Below.refl _ _ | exact Below.refl _ _ | refine Below.drew ?_ | refine below_drewN ?_ _ | refine bset ?_ (by simp <;> omega) _ | refine bal ?_ _)
    | true =>
      by_cases hk : 0 < k
      · have e : (0 : Int) < (k : Int) := by omega
        go_enter Tryd.func34, Tryd.ntmps34
        go_wp2
        refine bodyPost_ret (v := iv true a k ca) (by simp [iv, results, Tryd.results34, go_sem, *]) rfl ⟨by simp [hk], ?_⟩
        repeat (first | exact Below.refl _ _ | exact Below.refl _ _ | refine Below.drew ?_ | refine below_drewN ?_ _ | refine bset ?_ (by simp <;> omega) _ | refine bal ?_ _)
      · obtain rfl : k = 0 := by omega
        go_enter Tryd.func34, Tryd.ntmps34
        go_wp2
        refine bodyPost_ret (v := iv false a 0 ca) (by simp [iv, results, Tryd.results34, go_sem, *]) rfl ⟨by simp, ?_⟩
        repeat (first | exact Below.refl _ _ | exact Below.refl _ _ | refine Below.drew ?_ | refine below_drewN ?_ _ | refine bset ?_ (by simp <;> omega) _ | refine bal ?_ _)
  refine key.mono ?_
  rintro e w1 ⟨rfl, hB⟩
  refine ⟨⟨_, rfl, _, a, ca, l, rfl, ha.keep hB, hn, ?_, ?_⟩, hB⟩
  · intro h; simp at h; intro e; subst e; simp at h
  · by_cases h0 : l = []
    · subst h0; simp [sg, val]
    · have : 0 < l.length := List.length_pos_iff.2 h0
      simp [this, sg, h0]
end Go.Proofs.YtannhpadoooedaaDoor
