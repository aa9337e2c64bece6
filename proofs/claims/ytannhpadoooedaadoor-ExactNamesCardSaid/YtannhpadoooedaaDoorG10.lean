/- Texts of this seat, laid together: RefD, Lims. Each opens with its own remark, which says what it proves, and under which conditions. -/
import Derived.Test.YtannhpadoooedaaDoorG09
import Derived.Test.YtannhpadoooedaaDoorG08
import Derived.Test.YtannhpadoooedaaDoorG07
/- The reference's numbers: Mul. -/
namespace Go.Proofs.YtannhpadoooedaaDoor
open Num
open Go.ChangeShapes Go.WideShapes Go.ChangeAt Go.RowKit
set_option linter.unusedVariables false
set_option linter.unusedSimpArgs false
namespace NumR
theorem carry_end {l m : List Nat} {i j c x V : Nat} (hl : Limbs l) (hm : Limbs m) (hi : i ≤ l.length) (hx : x < BB) (hc : 0 < c) (hj : m.length ≤ j)
    (h : V + c * BB ^ (i + j) = val (l.take i) * val m + x * val (m.take j) * BB ^ i) : j = m.length := by
  rw [List.take_of_length_le hj] at h
  have h1 := val_lt (limbs_take hl i)
  rw [List.length_take, Nat.min_eq_left hi] at h1
  have h2 := val_lt hm
  have h3 : val (l.take i) * val m + x * val m * BB ^ i < BB ^ (i + m.length + 1) := by
    have e : BB ^ (i + m.length + 1) = BB ^ i * (BB * BB ^ m.length) := by rw [Nat.pow_succ, Nat.pow_add]; ac_rfl
    rw [e]
    have k1 : val (l.take i) * val m ≤ BB ^ i * val m := Nat.mul_le_mul_right _ (by omega)
    have k2 : x * val m * BB ^ i = BB ^ i * (x * val m) := by ac_rfl
    rw [k2]
    have k3 : BB ^ i * val m + BB ^ i * (x * val m) = BB ^ i * ((x + 1) * val m) := by rw [← Nat.mul_add, Nat.add_mul]; congr 1; omega
    have k4 : (x + 1) * val m ≤ BB * val m := Nat.mul_le_mul_right _ (by omega)
    have k5 : BB * val m < BB * BB ^ m.length := Nat.mul_lt_mul_of_pos_left h2 BB_pos
    have k6 : BB ^ i * ((x + 1) * val m) < BB ^ i * (BB * BB ^ m.length) := Nat.mul_lt_mul_of_pos_left (by omega) (Nat.pow_pos BB_pos)
    omega
  have h4 : BB ^ (i + j) ≤ c * BB ^ (i + j) := Nat.le_mul_of_pos_left _ hc
  have h5 : BB ^ (i + j) < BB ^ (i + m.length + 1) := by omega
  have h6 := (Nat.pow_lt_pow_iff_right (a := BB) (by unfold BB; omega)).1 h5
  omega
/-- one place of the inner loop -/
theorem mul_step {Q : List Nat} {m : List Nat} {i k x c t V : Nat} (hq : i + k < Q.length) (ht : t = c + Q.getD (i + k) 0 + x * m.getD k 0) (hk : k < m.length)
    (h : val Q + c * BB ^ (i + k) = V + x * val (m.take k) * BB ^ i) :
    val (Q.set (i + k) (t % BB)) + t / BB * BB ^ (i + (k + 1)) = V + x * val (m.take (k + 1)) * BB ^ i := by
  have a1 := val_set (l := Q) (k := i + k) (t % BB) hq
  have a3 := Nat.div_add_mod t BB
  rw [val_take_succ hk]
  have p1 : BB ^ (i + (k + 1)) = BB * BB ^ (i + k) := by rw [← Nat.add_assoc, Nat.pow_succ, Nat.mul_comm]
  have p2 : BB ^ (i + k) = BB ^ i * BB ^ k := Nat.pow_add _ _ _
  rw [p1]
  have a6 : t * BB ^ (i + k) = BB * (t / BB) * BB ^ (i + k) + t % BB * BB ^ (i + k) := by rw [← Nat.add_mul, a3]
  have a7 : t * BB ^ (i + k) = c * BB ^ (i + k) + Q.getD (i + k) 0 * BB ^ (i + k) + x * m.getD k 0 * BB ^ (i + k) := by rw [ht]; simp only [Nat.add_mul]
  have a8 : x * (val (List.take k m) + m.getD k 0 * BB ^ k) * BB ^ i = x * val (List.take k m) * BB ^ i + x * m.getD k 0 * BB ^ (i + k) := by
    rw [p2, Nat.mul_add, Nat.add_mul]; congr 1; ac_rfl
  have a9 : t / BB * (BB * BB ^ (i + k)) = BB * (t / BB) * BB ^ (i + k) := by ac_rfl
  rw [a8, a9]
  omega
theorem mul_last {Q : List Nat} {m : List Nat} {i x c t V : Nat} (hq : i + m.length < Q.length) (ht : t = c + Q.getD (i + m.length) 0)
    (h : val Q + c * BB ^ (i + m.length) = V + x * val (m.take m.length) * BB ^ i) :
    val (Q.set (i + m.length) (t % BB)) + t / BB * BB ^ (i + (m.length + 1)) = V + x * val (m.take (m.length + 1)) * BB ^ i := by
  have a1 := val_set (l := Q) (k := i + m.length) (t % BB) hq
  have a3 := Nat.div_add_mod t BB
  rw [List.take_of_length_le (by omega)] at h ⊢
  have p1 : BB ^ (i + (m.length + 1)) = BB * BB ^ (i + m.length) := by rw [← Nat.add_assoc, Nat.pow_succ, Nat.mul_comm]
  rw [p1]
  have a6 : t * BB ^ (i + m.length) = BB * (t / BB) * BB ^ (i + m.length) + t % BB * BB ^ (i + m.length) := by rw [← Nat.add_mul, a3]
  have a7 : t * BB ^ (i + m.length) = c * BB ^ (i + m.length) + Q.getD (i + m.length) 0 * BB ^ (i + m.length) := by rw [ht]; simp only [Nat.add_mul]
  have a9 : t / BB * (BB * BB ^ (i + m.length)) = BB * (t / BB) * BB ^ (i + m.length) := by ac_rfl
  rw [a9]
  omega
theorem mul_done {l m Q : List Nat} {i k x : Nat} (hi : i < l.length) (hk : m.length ≤ k) (hx : x = l.getD i 0)
    (h : val Q + 0 * BB ^ (i + k) = val (l.take i) * val m + x * val (m.take k) * BB ^ i) : val Q = val (l.take (i + 1)) * val m := by
  rw [val_take_succ hi, List.take_of_length_le hk] at *
  rw [← hx, Nat.add_mul]
  have : x * BB ^ i * val m = x * val m * BB ^ i := by ac_rfl
  omega
theorem step_lt {x y o c : Nat} (hx : x < BB) (hy : y < BB) (ho : o < BB) (hc : c < BB) : c + o + x * y < BB * BB := by
  have h1 : x * y ≤ (BB - 1) * (BB - 1) := Nat.mul_le_mul (by omega) (by omega)
  have h2 : (BB - 1) * (BB - 1) + (BB - 1) + (BB - 1) + 1 = BB * BB := by unfold BB; rfl
  omega
theorem w64' {x : Nat} (h : x < BB * BB) : IntKind.u64.wrap (x : Int) = (x : Int) := w64 (by unfold BB at h; unfold Num.BB; omega)
end NumR
theorem rsg_bd {neg : Bool} {n k : Nat} (h : Bd k (sg neg n)) : n < 2 ^ k := by
  unfold Bd at h; rwa [sg_abs] at h
theorem rbd_len {l : List Nat} {k : Nat} (hn : Nrm l) (h : NumR.val l < 2 ^ k) (hk : k ≤ 17179869184) : l.length ≤ 1073741825 := by
  by_cases h0 : l = []
  · subst h0; simp
  · have h1 := NumR.nrm_val_pos hn h0
    have e : NumR.BB ^ (l.length - 1) = 2 ^ (16 * (l.length - 1)) := by rw [Nat.pow_mul]; rfl
    rw [e] at h1
    have h2 : 16 * (l.length - 1) < k := (Nat.pow_lt_pow_iff_right (a := 2) (by omega)).1 (Nat.lt_of_le_of_lt h1 h)
    omega

end Go.Proofs.YtannhpadoooedaaDoor
/- 'Lim w w'': no limb has turned. -/
namespace Go.Proofs.YtannhpadoooedaaDoor
open Num
open Go.ChangeShapes Go.WideShapes Go.ChangeAt Go.RowKit
set_option linter.unusedVariables false
set_option linter.unusedSimpArgs false
/-- every limb of w is there still -/
def Lim (w w' : World) : Prop := ∀ (b : Nat), typOf w b = some 120 → typOf w' b = some 120 ∧ ∀ (o : Nat) (n : Int), w.cell? ⟨b, o, none⟩ = some (.int .u32 n) → w'.cell? ⟨b, o, none⟩ = some (.int .u32 n)
section
variable {a b c w w' : World}
theorem Lim.refl (w : World) : Lim w w := fun _ h => ⟨h, fun _ _ h => h⟩
theorem Lim.trans (h : Lim a b) (k : Lim b c) : Lim a c := fun q ht => ⟨(k q (h q ht).1).1, fun o n hc => (k q (h q ht).1).2 o n ((h q ht).2 o n hc)⟩
theorem Lim.of_below (h : Below a.heap.size a b) : Lim a b := fun _ ht => ⟨typ_keep ht h, fun _ _ hc => bkeep h hc⟩
theorem Lim.below (h : Lim a b) (k : Below b.heap.size b c) : Lim a c := h.trans (.of_below k)
theorem Lim.alloc (h : Lim a b) (o : Obj) : Lim a (b.alloc o) := h.below (bal (Below.refl _ _) o)
theorem Lim.drew (h : Lim a b) : Lim a b.drew := h
theorem Lim.drewN (h : Lim a b) (n : Nat) : Lim a (b.drewN n) := h
/-- what is written is a row of another type -/
theorem Lim.grown {row : Option Nat} (h : Lim a b) (hg : b.grownBy c row) (hr : ∀ g, row = some g → typOf b g ≠ some 120) : Lim a c := h.trans fun q ht => by
  have e : c.heap[q]? = b.heap[q]? := hg.block q (typ_lt ht) fun e => hr q e.symm ht
  exact ⟨by rw [typ_of_block e]; exact ht, fun o n hc => by rw [World.cell?_of_block (w := b) e]; exact hc⟩
/-- a store into a cell that holds no limb -/
theorem Lim.put (h : Lim a b) {p : Addr} {v : Value} (hp : b.cell? p = some v) (hv : ∀ n, v ≠ .int .u32 n) (u : Value) : Lim a (b.setCell p u) := fun q ht => by
  refine ⟨by rw [typ_set]; exact (h q ht).1, fun o n hc => cell_far ((h q ht).2 o n hc) ?_ u⟩
  intro e
  rw [e, (h q ht).2 o n hc] at hp
  exact hv _ (Option.some.inj hp).symm
theorem Lim.bool (h : Lim a b) {p : Addr} {x : Bool} (hp : b.cell? p = some (.bool x)) (u : Value) : Lim a (b.setCell p u) := h.put hp (fun _ e => by cases e) u
theorem Lim.slice (h : Lim a b) {p : Addr} {x : Option Addr} {n m : Nat} (hp : b.cell? p = some (.slice x n m)) (u : Value) : Lim a (b.setCell p u) := h.put hp (fun _ e => by cases e) u
theorem C32.lim {o : Option Addr} {l : List Nat} (h : C32 a o l) (k : Lim a b) : C32 b o l := by
  rcases h with h | ⟨q, off, h1, h2⟩
  · exact .inl h
  · exact .inr ⟨q, off, h1, fun i hi => (k q h2.ty).2 _ _ (h2 i hi), (k q h2.ty).1⟩
theorem U32.lim {o : Option Addr} {cap : Nat} {l : List Nat} (h : U32 a o cap l) (k : Lim a b) : U32 b o cap l := ⟨h.1, h.2.1, h.2.2.1, h.2.2.2.lim k⟩
theorem IsInt.lim {v : Value} {z : Int} (h : IsInt a v z) (k : Lim a b) : IsInt b v z := by
  obtain ⟨neg, o, cap, l, h1, h2, h3⟩ := h
  exact ⟨neg, o, cap, l, h1, h2.lim k, h3⟩
theorem IsRef.lim {v : Value} {z : Int} (h : IsRef a v z) (k : Lim a b) : IsRef b v z := by
  obtain ⟨neg, o, cap, l, h1, h2, h3⟩ := h
  exact ⟨neg, o, cap, l, h1, h2.lim k, h3⟩
end
/-- what stays as long as no limb turns -/
def Lims (R : World → Value → Int → Prop) : Prop := ∀ w w' v z, R w v z → Lim w w' → R w' v z
theorem lims_int : Lims IsInt := fun _ _ _ _ h k => h.lim k
theorem lims_ref : Lims IsRef := fun _ _ _ _ h k => h.lim k
theorem own_typ {E : TypeId} {size n : Nat} {w0 wr : World} {v : Value} {xs : List Value} (h : OwnE E size w0 wr v n xs) {g : Nat} (hg : v.ownBlock = some g) : typOf wr g = some E := by
  rcases h.1.2 with ⟨rfl, _⟩ | ⟨g', c, cur, rfl, _, hh, _⟩
  · simp [Value.ownBlock] at hg
  · simp [Value.ownBlock] at hg
    subst hg
    unfold typOf; rw [hh]
end Go.Proofs.YtannhpadoooedaaDoor
