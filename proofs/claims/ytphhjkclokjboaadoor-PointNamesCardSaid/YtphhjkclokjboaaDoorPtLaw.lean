/- Plain laws on points, no program in sight: what divides both coordinates, norms, points that are one. -/
import Derived.Test.YtphhjkclokjboaaDoorRows
namespace Go.Proofs.YtphhjkclokjboaaDoor.Pt

/-- the coordinates are small enough -/
def PIn (a b : Int) : Prop := -16 ≤ a ∧ a ≤ 16 ∧ -16 ≤ b ∧ b ≤ 16
instance (a b : Int) : Decidable (PIn a b) := by unfold PIn; infer_instance
def inB (a b : Int) : Bool := decide (PIn a b)
def wi (x : Int) : Bool := decide (-16 ≤ x ∧ x ≤ 16)
theorem wi_yes {x : Int} (h : -16 ≤ x ∧ x ≤ 16) : wi x = true := by simp [wi, h]
theorem wi_no {x : Int} (h : ¬ (-16 ≤ x ∧ x ≤ 16)) : wi x = false := by unfold wi; exact decide_eq_false h
theorem inB_wi (a b : Int) : inB a b = (wi a && wi b) := by
  rw [Bool.eq_iff_iff]; simp only [inB, wi, Bool.and_eq_true, decide_eq_true_eq]; unfold PIn; omega
theorem inB_iff (a b : Int) : inB a b = true ↔ (-16 ≤ a ∧ a ≤ 16 ∧ -16 ≤ b ∧ b ≤ 16) := by simp only [inB, decide_eq_true_eq]; exact Iff.rfl
/-- both are noughts -/
def nn (a b : Int) : Bool := decide (a = 0 ∧ b = 0)
theorem nn_eq (a b : Int) : nn a b = (a == 0 && b == 0) := by rw [Bool.eq_iff_iff]; simp [nn]
theorem inB_yes {a b : Int} (h : PIn a b) : inB a b = true := by simp [inB, h]
theorem inB_no {a b : Int} (h : ¬ PIn a b) : inB a b = false := by simp [inB, h]

/-- the reference's search after k rounds -/
def cm (a b : Int) : Nat → Int
  | 0 => 0
  | k + 1 => if a.tmod ((k : Int) + 1) = 0 ∧ b.tmod ((k : Int) + 1) = 0 ∧ (!nn a b) = true then (k : Int) + 1 else cm a b k
theorem cm_bd (a b : Int) : ∀ k : Nat, 0 ≤ cm a b k ∧ cm a b k ≤ k
  | 0 => by simp [cm]
  | k + 1 => by
    have := cm_bd a b k
    unfold cm
    split <;> omega

theorem fin_all {p : Int → Int → Bool} (h : ((List.range 33).all fun i => (List.range 33).all fun j => p ((i : Int) - 16) ((j : Int) - 16)) = true) (a b : Int) (hp : PIn a b) : p a b = true := by
  obtain ⟨h1, h2, h3, h4⟩ := hp
  rw [List.all_eq_true] at h
  have := h (a + 16).toNat (by simp; omega)
  rw [List.all_eq_true] at this
  have := this (b + 16).toNat (by simp; omega)
  have e1 : (((a + 16).toNat : Nat) : Int) - 16 = a := by omega
  have e2 : (((b + 16).toNat : Nat) : Int) - 16 = b := by omega
  rwa [e1, e2] at this

theorem cm_gcd (a b : Int) (h : PIn a b) : cm a b 16 = (Int.gcd a b : Int) := by
  have := fin_all (p := fun a b => decide (cm a b 16 = (Int.gcd a b : Int))) (by decide +kernel) a b h
  simpa using this

/-- a norm -/
def nrm (a b : Int) : Int × Int :=
  if (Int.gcd a b : Int) = 0 then (a, b)
  else if b < 0 ∨ (b = 0 ∧ a < 0) then (a.tdiv (-(Int.gcd a b : Int)), b.tdiv (-(Int.gcd a b : Int)))
  else (a.tdiv (Int.gcd a b : Int), b.tdiv (Int.gcd a b : Int))

theorem gcd_bd (a b : Int) (h : PIn a b) : (Int.gcd a b : Int) ≤ 16 := by
  have := fin_all (p := fun a b => decide ((Int.gcd a b : Int) ≤ 16)) (by decide +kernel) a b h
  simpa using this
theorem nrm_in (a b : Int) (h : PIn a b) : PIn (nrm a b).1 (nrm a b).2 := by
  have := fin_all (p := fun a b => decide (PIn (nrm a b).1 (nrm a b).2)) (by decide +kernel) a b h
  simpa using this
theorem nrm_nrm (a b : Int) (h : PIn a b) : nrm (nrm a b).1 (nrm a b).2 = nrm a b := by
  have := fin_all (p := fun a b => decide (nrm (nrm a b).1 (nrm a b).2 = nrm a b)) (by decide +kernel) a b h
  simpa using this

/-- are they one, as the document says -/
def one (a b c d : Int) : Bool := if (a = 0 ∧ b = 0) ∨ (c = 0 ∧ d = 0) then (decide (a = 0 ∧ b = 0) && decide (c = 0 ∧ d = 0)) else a * d - c * b == 0

theorem nrm_spec (a b : Int) (h : PIn a b) : (a = 0 ∧ b = 0 ∧ nrm a b = (0, 0)) ∨ (¬ (a = 0 ∧ b = 0) ∧ ∃ g : Int, g ≠ 0 ∧ a = g * (nrm a b).1 ∧ b = g * (nrm a b).2 ∧ Int.gcd (nrm a b).1 (nrm a b).2 = 1 ∧ (0 < (nrm a b).2 ∨ ((nrm a b).2 = 0 ∧ (nrm a b).1 = 1))) := by
  have := fin_all (p := fun a b => decide ((a = 0 ∧ b = 0 ∧ nrm a b = (0, 0)) ∨ (¬ (a = 0 ∧ b = 0) ∧ (let g := (if b < 0 ∨ (b = 0 ∧ a < 0) then -(Int.gcd a b : Int) else (Int.gcd a b : Int)); g ≠ 0 ∧ a = g * (nrm a b).1 ∧ b = g * (nrm a b).2 ∧ Int.gcd (nrm a b).1 (nrm a b).2 = 1 ∧ (0 < (nrm a b).2 ∨ ((nrm a b).2 = 0 ∧ (nrm a b).1 = 1)))))) (by decide +kernel) a b h
  rw [decide_eq_true_eq] at this
  rcases this with h | ⟨h1, h2⟩
  · exact .inl h
  · exact .inr ⟨h1, _, h2⟩

theorem dvd_cop {y x v : Int} (h : y ∣ x * v) (hc : Int.gcd x y = 1) : y ∣ v := by
  have h1 : y.natAbs ∣ x.natAbs * v.natAbs := by rw [← Int.natAbs_mul]; exact Int.natAbs_dvd_natAbs.2 h
  have h2 : Nat.Coprime y.natAbs x.natAbs := by
    have : Nat.gcd x.natAbs y.natAbs = 1 := hc
    rw [Nat.Coprime, Nat.gcd_comm]; exact this
  exact Int.natAbs_dvd_natAbs.1 (h2.dvd_of_dvd_mul_left h1)
theorem cop_eq {x y u v : Int} (h1 : Int.gcd x y = 1) (h2 : Int.gcd u v = 1) (hy : 0 < y) (hv : 0 < v) (h : x * v = u * y) : x = u ∧ y = v := by
  have d1 : y ∣ v := dvd_cop (x := x) ⟨u, by rw [h]; exact Int.mul_comm _ _⟩ h1
  have d2 : v ∣ y := dvd_cop (x := u) ⟨x, by rw [← h]; exact Int.mul_comm _ _⟩ h2
  have e : y = v := Int.le_antisymm (Int.le_of_dvd hv d1) (Int.le_of_dvd hy d2)
  subst e
  exact ⟨Int.eq_of_mul_eq_mul_right (by omega) h, rfl⟩

theorem one_nrm (a b c d : Int) (h : PIn a b) (k : PIn c d) : one a b c d = decide (nrm a b = nrm c d) := by
  unfold one
  rcases nrm_spec a b h with ⟨rfl, rfl, e⟩ | ⟨n1, g, hg, ha, hb, hc, hs⟩
  · rcases nrm_spec c d k with ⟨rfl, rfl, e'⟩ | ⟨n2, g', hg', ha', hb', hc', hs'⟩
    · simp
    · have : ¬ (nrm 0 0 = nrm c d) := by
        rw [e]; intro he; rw [← he] at hc'; simp at hc'
      simp [n2, this]
  · rcases nrm_spec c d k with ⟨rfl, rfl, e'⟩ | ⟨n2, g', hg', ha', hb', hc', hs'⟩
    · have : ¬ (nrm a b = nrm 0 0) := by
        rw [e']; intro he; rw [he] at hc; simp at hc
      simp [n1, this]
    · simp only [n1, n2, or_self, if_false]
      generalize nrm a b = m at *
      generalize nrm c d = n at *
      obtain ⟨x, y⟩ := m
      obtain ⟨u, v⟩ := n
      simp only at ha hb hc hs ha' hb' hc' hs'
      have key : a * d - c * b = g * g' * (x * v - u * y) := by
        rw [ha, hb, ha', hb']
        simp only [Int.mul_sub]
        congr 1 <;> (simp only [Int.mul_assoc, Int.mul_left_comm])
      rw [key, Bool.eq_iff_iff]
      simp only [beq_iff_eq, decide_eq_true_eq, Prod.mk.injEq]
      constructor
      · intro hz
        have h0 : x * v - u * y = 0 := by
          rcases Int.mul_eq_zero.1 hz with h0 | h0
          · rcases Int.mul_eq_zero.1 h0 with h0 | h0 <;> contradiction
          · exact h0
        have h1 : x * v = u * y := by omega
        rcases hs with hs | ⟨hs, hx⟩
        · rcases hs' with hs' | ⟨hs', hx'⟩
          · exact cop_eq hc hc' hs hs' h1
          · subst hs' hx'; simp at h1; omega
        · subst hs hx
          rcases hs' with hs' | ⟨hs', hx'⟩
          · simp at h1; omega
          · exact ⟨hx'.symm, hs'.symm⟩
      · rintro ⟨rfl, rfl⟩
        simp [Int.sub_self]
theorem det_bd (a b c d : Int) (h : PIn a b) (k : PIn c d) : -512 ≤ a * d - c * b ∧ a * d - c * b ≤ 512 := by
  obtain ⟨h1, h2, h3, h4⟩ := h
  obtain ⟨k1, k2, k3, k4⟩ := k
  have mul_bd : ∀ x y : Int, -16 ≤ x → x ≤ 16 → -16 ≤ y → y ≤ 16 → -256 ≤ x * y ∧ x * y ≤ 256 := by
    intro x y a1 a2 b1 b2
    have := Int.natAbs_mul x y
    have h : x.natAbs * y.natAbs ≤ 16 * 16 := Nat.mul_le_mul (by omega) (by omega)
    omega
  have := mul_bd a d h1 h2 k3 k4
  have := mul_bd c b k1 k2 h3 h4
  omega
end Go.Proofs.YtphhjkclokjboaaDoor.Pt
