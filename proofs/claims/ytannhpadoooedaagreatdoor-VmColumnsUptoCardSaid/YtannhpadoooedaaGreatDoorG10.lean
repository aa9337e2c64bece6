/- Texts of this seat, laid together: RefD, Lims. Each opens with its own remark, which says what it proves, and under which conditions. -/
import Derived.Test.YtannhpadoooedaaGreatDoorG09
import Derived.Test.YtannhpadoooedaaGreatDoorG08
import Derived.Test.YtannhpadoooedaaGreatDoorG07
/- The reference's numbers: Mul. -/
namespace Go.Proofs.YtannhpadoooedaaGreatDoor
open Num
open Go.ChangeShapes Go.WideShapes Go.ChangeAt Go.RowKit
set_option linter.unusedVariables false
set_option linter.unusedSimpArgs false
namespace NumR
theorem carry_end {l m : List Nat} {i j c x V : Nat} (hl : Limbs l) (hm : Limbs m) (hi : i ≤ l.length) (hx : x < BB) (hc : 0 < c) (hj : m.length ≤ j)
    (h : V + c * BB ^ (i + j) = val (l.take i) * val m + x * val (m.take j) * BB ^ i) : j = m.length := by
  rw [List.take_of_length_le hj] at h
  have h1 := val_lt (limbs_take hl i)
  rw [List.length_take, Nat.min_eq_left hi] at h1
  have h2 := val_lt hm
  have h3 : val (l.take i) * val m + x * val m * BB ^ i < BB ^ (i + m.length + 1) := by
    have e : BB ^ (i + m.length + 1) = BB ^ i * (BB * BB ^ m.length) := by rw [Nat.pow_succ, Nat.pow_add]; ac_rfl
    rw [e]
    have k1 : val (l.take i) * val m ≤ BB ^ i * val m := Nat.mul_le_mul_right _ (by omega)
    have k2 : x * val m * BB ^ i = BB ^ i * (x * val m) := by ac_rfl
    rw [k2]
    have k3 : BB ^ i * val m + BB ^ i * (x * val m) = BB ^ i * ((x + 1) * val m) := by rw [← Nat.mul_add, Nat.add_mul]; congr 1; omega
    have k4 : (x + 1) * val m ≤ BB * val m := Nat.mul_le_mul_right _ (by omega)
    have k5 : BB * val m < BB * BB ^ m.length := Nat.mul_lt_mul_of_pos_left h2 BB_pos
    have k6 : BB ^ i * ((x + 1) * val m) < BB ^ i * (BB * BB ^ m.length) := Nat.mul_lt_mul_of_pos_left (by omega) (Nat.pow_pos BB_pos)
    omega
  have h4 : BB ^ (i + j) ≤ c * BB ^ (i + j) := Nat.le_mul_of_pos_left _ hc
  have h5 : BB ^ (i + j) < BB ^ (i + m.length + 1) := by omega
  have h6 := (Nat.pow_lt_pow_iff_right (a := BB) (by unfold BB; omega)).1 h5
  omega
/-- one place of the inner loop -/
theorem mul_step {Q : List Nat} {m : List Nat} {i k x c t V : Nat} (hq : i + k < Q.length) (ht : t = c + Q.getD (i + k) 0 + x * m.getD k 0) (hk : k < m.length)
    (h : val Q + c * BB ^ (i + k) = V + x * val (m.take k) * BB ^ i) :
    val (Q.set (i + k) (t % BB)) + t / BB * BB ^ (i + (k + 1)) = V + x * val (m.take (k + 1)) * BB ^ i := by
  have a1 := val_set (l := Q) (k := i + k) (t % BB) hq
  have a3 := Nat.div_add_mod t BB
  rw [val_take_succ hk]
  have p1 : BB ^ (i + (k + 1)) = BB * BB ^ (i + k) := by rw [← Nat.add_assoc, Nat.pow_succ, Nat.mul_comm]
  have p2 : BB ^ (i + k) = BB ^ i * BB ^ k := Nat.pow_add _ _ _
  rw [p1]
  have a6 : t * BB ^ (i + k) = BB * (t / BB) * BB ^ (i + k) + t % BB * BB ^ (i + k) := by rw [← Nat.add_mul, a3]
  have a7 : t * BB ^ (i + k) = c * BB ^ (i + k) + Q.getD (i + k) 0 * BB ^ (i + k) + x * m.getD k 0 * BB ^ (i + k) := by rw [ht]; simp only [Nat.add_mul]
  have a8 : x * (val (List.take k m) + m.getD k 0 * BB ^ k) * BB ^ i = x * val (List.take k m) * BB ^ i + x * m.getD k 0 * BB ^ (i + k) := by
    rw [p2, Nat.mul_add, Nat.add_mul]; congr 1; ac_rfl
  have a9 : t / BB * (BB * BB ^ (i + k)) = BB * (t / BB) * BB ^ (i + k) := by ac_rfl
  rw [a8, a9]
  omega
theorem mul_last {Q : List Nat} {m : List Nat} {i x c t V : Nat} (hq : i + m.length < Q.length) (ht : t = c + Q.getD (i + m.length) 0)
    (h : val Q + c * BB ^ (i + m.length) = V + x * val (m.take m.length) * BB ^ i) :
    val (Q.set (i + m.length) (t % BB)) + t / BB * BB ^ (i + (m.length + 1)) = V + x * val (m.take (m.length + 1)) * BB ^ i := by
  have a1 := val_set (l := Q) (k := i + m.length) (t % BB) hq
  have a3 := Nat.div_add_mod t BB
  rw [List.take_of_length_le (by omega)] at h ⊢
  have p1 : BB ^ (i + (m.length + 1)) = BB * BB ^ (i + m.length) := by rw [← Nat.add_assoc, Nat.pow_succ, Nat.mul_comm]
  rw [p1]
  have a6 : t * BB ^ (i + m.length) = BB * (t / BB) * BB ^ (i + m.length) + t % BB * BB ^ (i + m.length) := by rw [← Nat.add_mul, a3]
  have a7 : t * BB ^ (i + m.length) = c * BB ^ (i + m.length) + Q.getD (i + m.length) 0 * BB ^ (i + m.length) := by rw [ht]; simp only [Nat.add_mul]
  have a9 : t / BB * (BB * BB ^ (i + m.length)) = BB * (t / BB) * BB ^ (i + m.length) := by ac_rfl
  rw [a9]
  omega
theorem mul_done {l m Q : List Nat} {i k x : Nat} (hi : i < l.length) (hk : m.length ≤ k) (hx : x = l.getD i 0)
    (h : val Q + 0 * BB ^ (i + k) = val (l.take i) * val m + x * val (m.take k) * BB ^ i) : val Q = val (l.take (i + 1)) * val m := by
  rw [val_take_succ hi, List.take_of_length_le hk] at *
  rw [← hx, Nat.add_mul]
  have : x * BB ^ i * val m = x * val m * BB ^ i := by ac_rfl
  omega
theorem step_lt {x y o c : Nat} (hx : x < BB) (hy : y < BB) (ho : o < BB) (hc : c < BB) : c + o + x * y < BB * BB := by
  have h1 : x * y ≤ (BB - 1) * (BB - 1) := Nat.mul_le_mul (by omega) (by omega)
  have h2 : (BB - 1) * (BB - 1) + (BB - 1) + (BB - 1) + 1 = BB * BB := by unfold BB; rfl
  omega
theorem w64' {x : Nat} (h : x < BB * BB) : IntKind.u64.wrap (x : Int) = (x : Int) := w64 (by unfold BB at h; unfold Num.BB; omega)
end NumR
theorem rsg_bd {neg : Bool} {n k : Nat} (h : Bd k (sg neg n)) : n < 2 ^ k := by
  unfold Bd at h; rwa [sg_abs] at h
theorem rbd_len {l : List Nat} {k : Nat} (hn : Nrm l) (h : NumR.val l < 2 ^ k) (hk : k ≤ 17179869184) : l.length ≤ 1073741825 := by
  by_cases h0 : l = []
  · subst h0; simp
  · have h1 := NumR.nrm_val_pos hn h0
    have e : NumR.BB ^ (l.length - 1) = 2 ^ (16 * (l.length - 1)) := by rw [Nat.pow_mul]; rfl
    rw [e] at h1
    have h2 : 16 * (l.length - 1) < k := (Nat.pow_lt_pow_iff_right (a := 2) (by omega)).1 (Nat.lt_of_le_of_lt h1 h)
    omega

set_option maxRecDepth 100000 in
set_option maxHeartbeats 4000000 in
theorem rmulV_c (n1 n2 : Bool) (a b : Option Addr) (ca cb : Nat) (l m : List Nat) (w : World) (ha : U32 w a ca l) (hb : U32 w b cb m) (hl : NumR.Limbs l) (hm : NumR.Limbs m) (h1 : l.length ≤ 1073741825) (h2 : m.length ≤ 1073741825) :
    Calls Tryz.prog 148 #[.agg #[.bool n1, .slice a l.length ca], .agg #[.bool n2, .slice b m.length cb]] w fun e w' => (∃ v, e = .returned v ∧ IsRef w' v (sg n1 (NumR.val l) * sg n2 (NumR.val m))) ∧ Below w.heap.size w w' := by
  have hmk := mk32 (l.length + m.length + 1) (by omega)
  have ec : ((l.length + m.length + 1 : Nat) : Int) = (l.length : Int) + (m.length : Int) + 1 := by omega
  rw [ec] at hmk
  clear ec
  have hB := Below.refl w.heap.size w
  go_enter Tryz.func148, Tryz.ntmps148
  go_wp2
  clear hmk
  refine wp_name fun w0 hW0 => ?_
  have x0 : w0.cell? ⟨w.heap.size, 0, none⟩ = some (.bool n1) := by rw [hW0]; exact (by first | assumption | exact cell_new (by with_reducible first | rfl | (simp; done) | (simp; omega)) rfl | (repeat (first | assumption | exact cell_new (by with_reducible first | rfl | (simp; done) | (simp; omega)) rfl | refine cell_alloc ?_ _ | refine cell_drew ?_ | refine cell_drewN ?_ _ | refine cell_far ?_ (by simp) _ | (refine cell_far ?_ (by simp <;> omega) _))) | simp [go_sem, *])
  have zx0 := cell_lt x0
  have x1 : w0.cell? ⟨w.heap.size, 1, none⟩ = some (.slice a l.length ca) := by rw [hW0]; exact (by first | assumption | exact cell_new (by with_reducible first | rfl | (simp; done) | (simp; omega)) rfl | (repeat (first | assumption | exact cell_new (by with_reducible first | rfl | (simp; done) | (simp; omega)) rfl | refine cell_alloc ?_ _ | refine cell_drew ?_ | refine cell_drewN ?_ _ | refine cell_far ?_ (by simp) _ | (refine cell_far ?_ (by simp <;> omega) _))) | simp [go_sem, *])
  have y0 : w0.cell? ⟨w.heap.size + 1, 0, none⟩ = some (.bool n2) := by rw [hW0]; exact (by first | assumption | exact cell_new (by with_reducible first | rfl | (simp; done) | (simp; omega)) rfl | (repeat (first | assumption | exact cell_new (by with_reducible first | rfl | (simp; done) | (simp; omega)) rfl | refine cell_alloc ?_ _ | refine cell_drew ?_ | refine cell_drewN ?_ _ | refine cell_far ?_ (by simp) _ | (refine cell_far ?_ (by simp <;> omega) _))) | simp [go_sem, *])
  have zy0 := cell_lt y0
  have y1 : w0.cell? ⟨w.heap.size + 1, 1, none⟩ = some (.slice b m.length cb) := by rw [hW0]; exact (by first | assumption | exact cell_new (by with_reducible first | rfl | (simp; done) | (simp; omega)) rfl | (repeat (first | assumption | exact cell_new (by with_reducible first | rfl | (simp; done) | (simp; omega)) rfl | refine cell_alloc ?_ _ | refine cell_drew ?_ | refine cell_drewN ?_ _ | refine cell_far ?_ (by simp) _ | (refine cell_far ?_ (by simp <;> omega) _))) | simp [go_sem, *])
  have r0f : w0.frozen? ⟨w.heap.size + 2, 0, none⟩ = false := by rw [hW0]; simp [go_sem, *]
  have r0 : w0.cell? ⟨w.heap.size + 2, 0, none⟩ = some (.bool false) := by rw [hW0]; exact (by first | assumption | exact cell_new (by with_reducible first | rfl | (simp; done) | (simp; omega)) rfl | (repeat (first | assumption | exact cell_new (by with_reducible first | rfl | (simp; done) | (simp; omega)) rfl | refine cell_alloc ?_ _ | refine cell_drew ?_ | refine cell_drewN ?_ _ | refine cell_far ?_ (by simp) _ | (refine cell_far ?_ (by simp <;> omega) _))) | simp [go_sem, *])
  have zr0 := cell_lt r0
  have r1f : w0.frozen? ⟨w.heap.size + 2, 1, none⟩ = false := by rw [hW0]; simp [go_sem, *]
  have r1 : w0.cell? ⟨w.heap.size + 2, 1, none⟩ = some (.slice none 0 0) := by rw [hW0]; exact (by first | assumption | exact cell_new (by with_reducible first | rfl | (simp; done) | (simp; omega)) rfl | (repeat (first | assumption | exact cell_new (by with_reducible first | rfl | (simp; done) | (simp; omega)) rfl | refine cell_alloc ?_ _ | refine cell_drew ?_ | refine cell_drewN ?_ _ | refine cell_far ?_ (by simp) _ | (refine cell_far ?_ (by simp <;> omega) _))) | simp [go_sem, *])
  have hB : Below w.heap.size w w0 := by rw [hW0]; repeat (first | exact Below.refl _ _ | exact hB | refine Below.drew ?_ | refine below_drewN ?_ _ | refine bset ?_ (by simp <;> omega) _ | refine bal ?_ _)
  have hO0 : Blk w0 (w.heap.size + 3) (List.replicate (l.length + m.length + 1) 0) := by rw [hW0]; exact blk_at (by simp)
  have hs0 : w0.heap.size = w.heap.size + 4 := by rw [hW0]; simp
  have hz : w.heap.size ≤ w0.heap.size := hB.size
  clear hW0
  have HA := Lib.hid (ha.keep hB)
  have HB := Lib.hid (hb.keep hB)
  have HS0 := Lib.hid hs0
  have hag : ∀ q f, a = some ⟨q, f, none⟩ → l ≠ [] → q < w.heap.size := fun q f e hn => by
    rcases ha.2.2.2 with h | ⟨q', f', h', hc⟩
    · exact absurd h hn
    · rw [h'] at e; cases e; exact cell_lt (hc 0 (List.length_pos_iff.2 hn))
  have hbg : ∀ q f, b = some ⟨q, f, none⟩ → m ≠ [] → q < w.heap.size := fun q f e hn => by
    rcases hb.2.2.2 with h | ⟨q', f', h', hc⟩
    · exact absurd h hn
    · rw [h'] at e; cases e; exact cell_lt (hc 0 (List.length_pos_iff.2 hn))
  have HAG := Lib.hid hag
  have HBG := Lib.hid hbg
  clear ha hb hs0 hag hbg
  have HF := Lib.hid (And.intro x0 (And.intro x1 (And.intro y0 (And.intro y1 (And.intro r0 (And.intro r0f (And.intro r1 (r1f))))))))
  clear x0 x1 y0 y1 r0 r0f r1 r1f
  go_loopw [6] (fun x wr => ∃ (i : Nat) (O : List Nat), i ≤ l.length ∧ x = .int .i64 i ∧ Blk wr (w.heap.size + 3) O ∧ Hid (O.length = l.length + m.length + 1) ∧ NumR.Limbs O ∧ Hid (NumR.val O = NumR.val (l.take i) * NumR.val m) ∧ Out (· = w.heap.size + 3) w0 wr) (fun x _ => l.length - (intOf x).toNat)
  case atStart => exact ⟨0, _, by omega, rfl, hO0, Lib.hid (by simp), (fun y hy => by simp at hy; rw [hy]; exact NumR.BB_pos), Lib.hid (by simp [NumR.val, NumR.val_zeros]), Out.refl _ _⟩
  case round =>
    obtain ⟨i, O, hi, rfl, hO, hOl, hOL, hV, hOut⟩ := hrel
    obtain ⟨x0, x1, y0, y1, r0, r0f, r1, r1f⟩ := HF.out
    replace x0 := okeep hOut x0 (fun h => by first | (have h2 : _ = _ := h; omega) | (rcases (show _ ∨ _ from h) with h | h <;> omega) | (rcases (show _ ∨ _ ∨ _ from h) with h | h | h <;> omega))
    replace x1 := okeep hOut x1 (fun h => by first | (have h2 : _ = _ := h; omega) | (rcases (show _ ∨ _ from h) with h | h <;> omega) | (rcases (show _ ∨ _ ∨ _ from h) with h | h | h <;> omega))
    replace y0 := okeep hOut y0 (fun h => by first | (have h2 : _ = _ := h; omega) | (rcases (show _ ∨ _ from h) with h | h <;> omega) | (rcases (show _ ∨ _ ∨ _ from h) with h | h | h <;> omega))
    replace y1 := okeep hOut y1 (fun h => by first | (have h2 : _ = _ := h; omega) | (rcases (show _ ∨ _ from h) with h | h <;> omega) | (rcases (show _ ∨ _ ∨ _ from h) with h | h | h <;> omega))
    replace r0f := okeepf hOut r0 r0f (fun h => by first | (have h2 : _ = _ := h; omega) | (rcases (show _ ∨ _ from h) with h | h <;> omega) | (rcases (show _ ∨ _ ∨ _ from h) with h | h | h <;> omega))
    replace r0 := okeep hOut r0 (fun h => by first | (have h2 : _ = _ := h; omega) | (rcases (show _ ∨ _ from h) with h | h <;> omega) | (rcases (show _ ∨ _ ∨ _ from h) with h | h | h <;> omega))
    replace r1f := okeepf hOut r1 r1f (fun h => by first | (have h2 : _ = _ := h; omega) | (rcases (show _ ∨ _ from h) with h | h <;> omega) | (rcases (show _ ∨ _ ∨ _ from h) with h | h | h <;> omega))
    replace r1 := okeep hOut r1 (fun h => by first | (have h2 : _ = _ := h; omega) | (rcases (show _ ∨ _ from h) with h | h <;> omega) | (rcases (show _ ∨ _ ∨ _ from h) with h | h | h <;> omega))
    by_cases hlt : i < l.length
    · have hln : l ≠ [] := by intro e; subst e; simp at hlt
      rcases HA.out.2.2.2 with hl0 | ⟨ba, oa, rfl, hca⟩
      · exact absurd hl0 hln
      have hba := HAG.out ba oa rfl hln
      have c0 := hca i hlt
      have hx := NumR.limb_get hl i
      obtain ⟨x, hxe⟩ : ∃ x, x = l.getD i 0 := ⟨_, rfl⟩
      rw [← hxe] at c0 hx
      have HX := Lib.hid hxe
      clear hxe
      go_wp2
      go_loopw [7, 8] (fun cv y wi => ∃ (k c : Nat) (Q : List Nat), k ≤ m.length + 1 ∧ y = .int .i64 k ∧ cv = .int .u64 c ∧ c < NumR.BB ∧ Blk wi (w.heap.size + 3) Q ∧ Hid (Q.length = l.length + m.length + 1) ∧ NumR.Limbs Q ∧ Hid (NumR.val Q + c * NumR.BB ^ (i + k) = NumR.val (l.take i) * NumR.val m + x * NumR.val (m.take k) * NumR.BB ^ i) ∧ Out (· = w.heap.size + 3) w0 wi) (fun _ y _ => m.length + 2 - (intOf y).toNat)
      case atStart => exact ⟨0, 0, O, by omega, rfl, rfl, NumR.BB_pos, hO, hOl, hOL, Lib.hid (by simp [NumR.val, hV.out]), hOut⟩
      case round =>
        rename World => wi
        obtain ⟨k, c, Q, hk, rfl, rfl, hcB, hQ, hQl, hQL, hQV, hOut⟩ := hrel
        clear x0 x1 y0 y1 r0 r0f r1 r1f
        obtain ⟨x0, x1, y0, y1, r0, r0f, r1, r1f⟩ := HF.out
        replace x0 := okeep hOut x0 (fun h => by first | (have h2 : _ = _ := h; omega) | (rcases (show _ ∨ _ from h) with h | h <;> omega) | (rcases (show _ ∨ _ ∨ _ from h) with h | h | h <;> omega))
        replace x1 := okeep hOut x1 (fun h => by first | (have h2 : _ = _ := h; omega) | (rcases (show _ ∨ _ from h) with h | h <;> omega) | (rcases (show _ ∨ _ ∨ _ from h) with h | h | h <;> omega))
        replace y0 := okeep hOut y0 (fun h => by first | (have h2 : _ = _ := h; omega) | (rcases (show _ ∨ _ from h) with h | h <;> omega) | (rcases (show _ ∨ _ ∨ _ from h) with h | h | h <;> omega))
        replace y1 := okeep hOut y1 (fun h => by first | (have h2 : _ = _ := h; omega) | (rcases (show _ ∨ _ from h) with h | h <;> omega) | (rcases (show _ ∨ _ ∨ _ from h) with h | h | h <;> omega))
        replace r0f := okeepf hOut r0 r0f (fun h => by first | (have h2 : _ = _ := h; omega) | (rcases (show _ ∨ _ from h) with h | h <;> omega) | (rcases (show _ ∨ _ ∨ _ from h) with h | h | h <;> omega))
        replace r0 := okeep hOut r0 (fun h => by first | (have h2 : _ = _ := h; omega) | (rcases (show _ ∨ _ from h) with h | h <;> omega) | (rcases (show _ ∨ _ ∨ _ from h) with h | h | h <;> omega))
        replace r1f := okeepf hOut r1 r1f (fun h => by first | (have h2 : _ = _ := h; omega) | (rcases (show _ ∨ _ from h) with h | h <;> omega) | (rcases (show _ ∨ _ ∨ _ from h) with h | h | h <;> omega))
        replace r1 := okeep hOut r1 (fun h => by first | (have h2 : _ = _ := h; omega) | (rcases (show _ ∨ _ from h) with h | h <;> omega) | (rcases (show _ ∨ _ ∨ _ from h) with h | h | h <;> omega))
        have c1 := okeep hOut c0 (fun h => absurd (show _ = _ from h) (by omega))
        have HQS := Lib.hid (fun t => NumR.mul_step (Q := Q) (m := m) (i := i) (k := k) (x := x) (c := c) (t := t) (V := NumR.val (l.take i) * NumR.val m))
        have hql := hQl.out
        by_cases hkm : k < m.length
        · have hmn : m ≠ [] := by intro e; subst e; simp at hkm
          rcases HB.out.2.2.2 with hm0 | ⟨bb, ob, rfl, hcb⟩
          · exact absurd hm0 hmn
          have hbb := HBG.out bb ob rfl hmn
          have d1 := okeep hOut (hcb k hkm) (fun h => absurd (show _ = _ from h) (by omega))
          have hy := NumR.limb_get hm k
          have q0 := hQ.cell (i + k) (by omega)
          have qf := hQ.frozen (i + k)
          have ho := NumR.limb_get hQL (i + k)
          have HQ1 := Lib.hid (HQS.out (c + Q.getD (i + k) 0 + x * m.getD k 0) (by omega) rfl hkm hQV.out)
          have HLt := Lib.hid (NumR.step_lt hx hy ho hcB)
          generalize m.getD k 0 = y at *
          generalize Q.getD (i + k) 0 = o at *
          have hlt2 : (i : Int) + (k : Int) < (l.length : Int) + (m.length : Int) + 1 := by omega
          have e1 := NumR.w64' (x := x) (by unfold NumR.BB at *; omega)
          have e2 := NumR.w64' (x := y) (by unfold NumR.BB at *; omega)
          have e3 := NumR.w64' (x := o) (by unfold NumR.BB at *; omega)
          have e4 : IntKind.u64.wrap ((x : Int) * (y : Int)) = ((x * y : Nat) : Int) := by rw [← Int.natCast_mul]; exact NumR.w64' (by have := HLt.out; omega)
          have e5 : IntKind.u64.wrap ((c : Int) + (o : Int)) = ((c + o : Nat) : Int) := by rw [← Int.natCast_add]; exact NumR.w64' (by have := HLt.out; omega)
          have e6 : IntKind.u64.wrap (((c + o : Nat) : Int) + ((x * y : Nat) : Int)) = ((c + o + x * y : Nat) : Int) := by rw [← Int.natCast_add]; exact NumR.w64' HLt.out
          generalize x * y = p at e4 e6 HQ1 HLt
          generalize c + o = t1 at e5 e6 HQ1 HLt
          generalize t1 + p = t at e6 HQ1 HLt
          have qb := hQ.set (i + k) (t % NumR.BB)
          have ql := NumR.limbs_set hQL (k := i + k) (Nat.mod_lt t NumR.BB_pos)
          have hOut2 := hOut.set (p := ⟨w.heap.size + 3, i + k, none⟩) (fun _ => rfl) (.int .u32 ((t % NumR.BB : Nat) : Int))
          obtain ⟨r, hr⟩ : ∃ r, r = t % NumR.BB := ⟨_, rfl⟩
          obtain ⟨z, hz⟩ : ∃ z, z = t / NumR.BB := ⟨_, rfl⟩
          rw [← hr] at qb ql hOut2 HQ1
          rw [← hz] at HQ1
          have er : (t : Int) % 65536 = (r : Int) := by unfold NumR.BB at hr; omega
          have er2 : (t : Int).tmod 65536 = (r : Int) := by rw [Int.tmod_eq_emod_of_nonneg (by omega)]; exact er
          have hrB : r < 65536 := by unfold NumR.BB at hr; omega
          have er3 := w32 (x := r) (by unfold BB; omega)
          have ez : (t : Int) / 65536 = (z : Int) := by unfold NumR.BB at hz; omega
          have hzB : z < NumR.BB := by rw [hz]; exact Nat.div_lt_of_lt_mul HLt.out
          have ez2 := NumR.w64' (x := z) (by unfold NumR.BB at *; omega)
          clear hr hz hql
          go_wp2
          go_quiet (fail)
          go_wp2
          refine ⟨⟨k + 1, z, _, by omega, by go_num, rfl, hzB, qb, Lib.hid (by simpa using hQl.out), ql, HQ1, hOut2.drewN _⟩, by simp [intOf]; omega⟩
        · have hkm' : decide (k < m.length) = false := by simp; omega
          by_cases hc0 : 0 < c
          · have HK := Lib.hid (NumR.carry_end hl hm hi hx hc0 (by omega) hQV.out)
            obtain rfl : k = m.length := HK.out
            clear HK
            have q0 := hQ.cell (i + m.length) (by omega)
            have qf := hQ.frozen (i + m.length)
            have ho := NumR.limb_get hQL (i + m.length)
            have HQ1 := Lib.hid (NumR.mul_last (m := m) (x := x) (V := NumR.val (l.take i) * NumR.val m) (t := c + Q.getD (i + m.length) 0) (by omega) rfl hQV.out)
            generalize Q.getD (i + m.length) 0 = o at *
            have hlt2 : (i : Int) + (m.length : Int) < (l.length : Int) + (m.length : Int) + 1 := by omega
            have e3 := NumR.w64' (x := o) (by unfold NumR.BB at *; omega)
            have e5 : IntKind.u64.wrap ((c : Int) + (o : Int)) = ((c + o : Nat) : Int) := by rw [← Int.natCast_add]; exact NumR.w64' (by unfold NumR.BB at *; omega)
            have HLt : c + o < NumR.BB * NumR.BB := by unfold NumR.BB at *; omega
            generalize c + o = t at e5 HQ1 HLt
            have qb := hQ.set (i + m.length) (t % NumR.BB)
            have ql := NumR.limbs_set hQL (k := i + m.length) (Nat.mod_lt t NumR.BB_pos)
            have hOut2 := hOut.set (p := ⟨w.heap.size + 3, i + m.length, none⟩) (fun _ => rfl) (.int .u32 ((t % NumR.BB : Nat) : Int))
            obtain ⟨r, hr⟩ : ∃ r, r = t % NumR.BB := ⟨_, rfl⟩
            obtain ⟨z, hz⟩ : ∃ z, z = t / NumR.BB := ⟨_, rfl⟩
            rw [← hr] at qb ql hOut2 HQ1
            rw [← hz] at HQ1
            have er : (t : Int) % 65536 = (r : Int) := by unfold NumR.BB at hr; omega
            have er2 : (t : Int).tmod 65536 = (r : Int) := by rw [Int.tmod_eq_emod_of_nonneg (by omega)]; exact er
            have hrB : r < 65536 := by unfold NumR.BB at hr; omega
            have er3 := w32 (x := r) (by unfold BB; omega)
            have ez : (t : Int) / 65536 = (z : Int) := by unfold NumR.BB at hz; omega
            have hzB : z < NumR.BB := by rw [hz]; exact Nat.div_lt_of_lt_mul HLt
            have ez2 := NumR.w64' (x := z) (by unfold NumR.BB at *; omega)
            clear hr hz hql HLt
            go_wp2
            refine ⟨⟨m.length + 1, z, _, by omega, by go_num, rfl, hzB, qb, Lib.hid (by simpa using hQl.out), ql, HQ1, hOut2⟩, by simp [intOf] <;> omega⟩
          · obtain rfl : c = 0 := by omega
            have HD := Lib.hid (NumR.mul_done hlt (by omega) HX.out hQV.out)
            clear hql
            go_wp2
            refine ⟨⟨i + 1, Q, by omega, by go_num, hQ, hQl, hQL, HD, hOut⟩, by simp [intOf]; omega⟩
    · obtain rfl : i = l.length := by omega
      have hu := hO.u32 (limbs_of_r hOL) (by have := hOl.out; unfold maxLen; omega)
      have HV := Lib.hid (show sg (n1 != n2) (NumR.val O) = sg n1 (NumR.val l) * sg n2 (NumR.val m) by rw [hV.out, List.take_length, sg_mul])
      have nc := fun W h => rnorm_c (n1 != n2) (some ⟨w.heap.size + 3, 0, none⟩) O.length O W h hOL
      rw [HV.out] at nc
      have hB2 : Below w.heap.size w wr := hB.trans (hOut.to_below (fun k hk _ h => absurd (show _ = _ from h) (by omega)) hz)
      have hol := hOl.out
      have hne : ∀ w', (binOp .neq 4 (.bool n1) (.bool n2)).run Tryz.prog w' = .ok (.bool (n1 != n2)) w' := fun w' => by cases n1 <;> cases n2 <;> rfl
      rw [hol] at nc hu
      have HU := Lib.hid hu
      clear hol hV hu hOl
      go_wp2_with fail
      refine (nc _ HU.out).mono ?_
      rintro e w2 ⟨⟨v, rfl, hi⟩, hb2⟩
      replace r0f := bkeepf hb2 r0 r0f
      replace r1f := bkeepf hb2 r1 r1f
      replace r0 := bkeep hb2 r0
      replace r1 := bkeep hb2 r1
      have hB3 := bthen hB2 hb2
      have HI2 := Lib.hid (hi.put2 r0 r1)
      obtain ⟨n3, a3, c3, l3, rfl, _, _, _, _, _⟩ := hi
      unfold iv at *
      have hz3 := hB3.size
      have hz4 := cell_lt r0
      clear x0 x1 y0 y1
      go_wp2
      refine bodyPost_ret (v := .agg #[.bool n3, .slice a3 l3.length c3]) (by simp [results, Tryz.results148, go_sem, *]) rfl ⟨⟨_, rfl, HI2.out _ _⟩, ?_⟩
      repeat (first | exact Below.refl _ _ | exact hB3 | refine Below.drew ?_ | refine below_drewN ?_ _ | refine bset ?_ (by simp <;> omega) _ | refine bal ?_ _)
theorem rmul_c (vx vy : Value) (x y : Int) (k m : Nat) (w : World) (hx : IsRef w vx x) (hy : IsRef w vy y) (bx : Bd k x) (by' : Bd m y) (hk : k ≤ 17179869184) (hm : m ≤ 17179869184) :
    Calls Tryz.prog 148 #[vx, vy] w fun e w' => (∃ v, e = .returned v ∧ IsRef w' v (x * y)) ∧ Below w.heap.size w w' := by
  obtain ⟨n1, a1, c1, l1, rfl, u1, q1, g1, s1, rfl⟩ := hx
  obtain ⟨n2, a2, c2, l2, rfl, u2, q2, g2, s2, rfl⟩ := hy
  exact rmulV_c n1 n2 a1 a2 c1 c2 l1 l2 w u1 u2 q1 q2 (rbd_len g1 (rsg_bd bx) hk) (rbd_len g2 (rsg_bd by') hm)
end Go.Proofs.YtannhpadoooedaaGreatDoor
/- 'Lim w w'': no limb has turned. -/
namespace Go.Proofs.YtannhpadoooedaaGreatDoor
open Num
open Go.ChangeShapes Go.WideShapes Go.ChangeAt Go.RowKit
set_option linter.unusedVariables false
set_option linter.unusedSimpArgs false
/-- every limb of w is there still -/
def Lim (w w' : World) : Prop := ∀ (b : Nat), typOf w b = some 137 → typOf w' b = some 137 ∧ ∀ (o : Nat) (n : Int), w.cell? ⟨b, o, none⟩ = some (.int .u32 n) → w'.cell? ⟨b, o, none⟩ = some (.int .u32 n)
section
variable {a b c w w' : World}
theorem Lim.refl (w : World) : Lim w w := fun _ h => ⟨h, fun _ _ h => h⟩
theorem Lim.trans (h : Lim a b) (k : Lim b c) : Lim a c := fun q ht => ⟨(k q (h q ht).1).1, fun o n hc => (k q (h q ht).1).2 o n ((h q ht).2 o n hc)⟩
theorem Lim.of_below (h : Below a.heap.size a b) : Lim a b := fun _ ht => ⟨typ_keep ht h, fun _ _ hc => bkeep h hc⟩
theorem Lim.below (h : Lim a b) (k : Below b.heap.size b c) : Lim a c := h.trans (.of_below k)
theorem Lim.alloc (h : Lim a b) (o : Obj) : Lim a (b.alloc o) := h.below (bal (Below.refl _ _) o)
theorem Lim.drew (h : Lim a b) : Lim a b.drew := h
theorem Lim.drewN (h : Lim a b) (n : Nat) : Lim a (b.drewN n) := h
/-- what is written is a row of another type -/
theorem Lim.grown {row : Option Nat} (h : Lim a b) (hg : b.grownBy c row) (hr : ∀ g, row = some g → typOf b g ≠ some 137) : Lim a c := h.trans fun q ht => by
  have e : c.heap[q]? = b.heap[q]? := hg.block q (typ_lt ht) fun e => hr q e.symm ht
  exact ⟨by rw [typ_of_block e]; exact ht, fun o n hc => by rw [World.cell?_of_block (w := b) e]; exact hc⟩
/-- a store into a cell that holds no limb -/
theorem Lim.put (h : Lim a b) {p : Addr} {v : Value} (hp : b.cell? p = some v) (hv : ∀ n, v ≠ .int .u32 n) (u : Value) : Lim a (b.setCell p u) := fun q ht => by
  refine ⟨by rw [typ_set]; exact (h q ht).1, fun o n hc => cell_far ((h q ht).2 o n hc) ?_ u⟩
  intro e
  rw [e, (h q ht).2 o n hc] at hp
  exact hv _ (Option.some.inj hp).symm
theorem Lim.bool (h : Lim a b) {p : Addr} {x : Bool} (hp : b.cell? p = some (.bool x)) (u : Value) : Lim a (b.setCell p u) := h.put hp (fun _ e => by cases e) u
theorem Lim.slice (h : Lim a b) {p : Addr} {x : Option Addr} {n m : Nat} (hp : b.cell? p = some (.slice x n m)) (u : Value) : Lim a (b.setCell p u) := h.put hp (fun _ e => by cases e) u
theorem C32.lim {o : Option Addr} {l : List Nat} (h : C32 a o l) (k : Lim a b) : C32 b o l := by
  rcases h with h | ⟨q, off, h1, h2⟩
  · exact .inl h
  · exact .inr ⟨q, off, h1, fun i hi => (k q h2.ty).2 _ _ (h2 i hi), (k q h2.ty).1⟩
theorem U32.lim {o : Option Addr} {cap : Nat} {l : List Nat} (h : U32 a o cap l) (k : Lim a b) : U32 b o cap l := ⟨h.1, h.2.1, h.2.2.1, h.2.2.2.lim k⟩
theorem IsInt.lim {v : Value} {z : Int} (h : IsInt a v z) (k : Lim a b) : IsInt b v z := by
  obtain ⟨neg, o, cap, l, h1, h2, h3⟩ := h
  exact ⟨neg, o, cap, l, h1, h2.lim k, h3⟩
theorem IsRef.lim {v : Value} {z : Int} (h : IsRef a v z) (k : Lim a b) : IsRef b v z := by
  obtain ⟨neg, o, cap, l, h1, h2, h3⟩ := h
  exact ⟨neg, o, cap, l, h1, h2.lim k, h3⟩
end
/-- what stays as long as no limb turns -/
def Lims (R : World → Value → Int → Prop) : Prop := ∀ w w' v z, R w v z → Lim w w' → R w' v z
theorem lims_int : Lims IsInt := fun _ _ _ _ h k => h.lim k
theorem lims_ref : Lims IsRef := fun _ _ _ _ h k => h.lim k
theorem own_typ {E : TypeId} {size n : Nat} {w0 wr : World} {v : Value} {xs : List Value} (h : OwnE E size w0 wr v n xs) {g : Nat} (hg : v.ownBlock = some g) : typOf wr g = some E := by
  rcases h.1.2 with ⟨rfl, _⟩ | ⟨g', c, cur, rfl, _, hh, _⟩
  · simp [Value.ownBlock] at hg
  · simp [Value.ownBlock] at hg
    subst hg
    unfold typOf; rw [hh]
end Go.Proofs.YtannhpadoooedaaGreatDoor
