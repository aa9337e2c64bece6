/- Texts of this seat, laid together: RefD, Ints, Row, RowH, VmA, Det, Bar, Bel, Bed, FrA, FrB. What each theorem proves, and under which conditions, its statement says. -/
import Derived.Test.YtbmaffijncapiaaGreatDoorB02
import Derived.OneCell
set_option maxRecDepth 100000
set_option maxHeartbeats 32000000
set_option linter.unusedVariables false
set_option linter.unusedSimpArgs false
namespace Go.Proofs.YtbmaffijncapiaaGreatDoor
open Num
open Go.ChangeShapes Go.WideShapes Go.ChangeAt Go.RowKit
namespace NumR
theorem carry_end {l m : List Nat} {i j c x V : Nat} (hl : Limbs l) (hm : Limbs m) (hi : i ≤ l.length) (hx : x < BB) (hc : 0 < c) (hj : m.length ≤ j)
 (h : V + c * BB ^ (i + j) = val (l.take i) * val m + x * val (m.take j) * BB ^ i) : j = m.length := by
 rw [List.take_of_length_le hj] at h
 have h1 := val_lt (limbs_take hl i)
 rw [List.length_take, Nat.min_eq_left hi] at h1
 have h2 := val_lt hm
 have h3 : val (l.take i) * val m + x * val m * BB ^ i < BB ^ (i + m.length + 1) := by
  have e : BB ^ (i + m.length + 1) = BB ^ i * (BB * BB ^ m.length) := by rw [Nat.pow_succ, Nat.pow_add]; ac_rfl
  rw [e]
  have k1 : val (l.take i) * val m ≤ BB ^ i * val m := Nat.mul_le_mul_right _ (by omega)
  have k2 : x * val m * BB ^ i = BB ^ i * (x * val m) := by ac_rfl
  rw [k2]
  have k3 : BB ^ i * val m + BB ^ i * (x * val m) = BB ^ i * ((x + 1) * val m) := by rw [← Nat.mul_add, Nat.add_mul]; congr 1; omega
  have k4 : (x + 1) * val m ≤ BB * val m := Nat.mul_le_mul_right _ (by omega)
  have k5 : BB * val m < BB * BB ^ m.length := Nat.mul_lt_mul_of_pos_left h2 BB_pos
  have k6 : BB ^ i * ((x + 1) * val m) < BB ^ i * (BB * BB ^ m.length) := Nat.mul_lt_mul_of_pos_left (by omega) (Nat.pow_pos BB_pos)
  omega
 have h4 : BB ^ (i + j) ≤ c * BB ^ (i + j) := Nat.le_mul_of_pos_left _ hc
 have h5 : BB ^ (i + j) < BB ^ (i + m.length + 1) := by omega
 have h6 := (Nat.pow_lt_pow_iff_right (a := BB) (by unfold BB; omega)).1 h5
 omega
theorem mul_step {Q : List Nat} {m : List Nat} {i k x c t V : Nat} (hq : i + k < Q.length) (ht : t = c + Q.getD (i + k) 0 + x * m.getD k 0) (hk : k < m.length)
 (h : val Q + c * BB ^ (i + k) = V + x * val (m.take k) * BB ^ i) :
 val (Q.set (i + k) (t % BB)) + t / BB * BB ^ (i + (k + 1)) = V + x * val (m.take (k + 1)) * BB ^ i := by
 have a1 := val_set (l := Q) (k := i + k) (t % BB) hq
 have a3 := Nat.div_add_mod t BB
 rw [val_take_succ hk]
 have p1 : BB ^ (i + (k + 1)) = BB * BB ^ (i + k) := by rw [← Nat.add_assoc, Nat.pow_succ, Nat.mul_comm]
 have p2 : BB ^ (i + k) = BB ^ i * BB ^ k := Nat.pow_add _ _ _
 rw [p1]
 have a6 : t * BB ^ (i + k) = BB * (t / BB) * BB ^ (i + k) + t % BB * BB ^ (i + k) := by rw [← Nat.add_mul, a3]
 have a7 : t * BB ^ (i + k) = c * BB ^ (i + k) + Q.getD (i + k) 0 * BB ^ (i + k) + x * m.getD k 0 * BB ^ (i + k) := by rw [ht]; simp only [Nat.add_mul]
 have a8 : x * (val (List.take k m) + m.getD k 0 * BB ^ k) * BB ^ i = x * val (List.take k m) * BB ^ i + x * m.getD k 0 * BB ^ (i + k) := by
  rw [p2, Nat.mul_add, Nat.add_mul]; congr 1; ac_rfl
 have a9 : t / BB * (BB * BB ^ (i + k)) = BB * (t / BB) * BB ^ (i + k) := by ac_rfl
 rw [a8, a9]
 omega
theorem mul_last {Q : List Nat} {m : List Nat} {i x c t V : Nat} (hq : i + m.length < Q.length) (ht : t = c + Q.getD (i + m.length) 0)
 (h : val Q + c * BB ^ (i + m.length) = V + x * val (m.take m.length) * BB ^ i) :
 val (Q.set (i + m.length) (t % BB)) + t / BB * BB ^ (i + (m.length + 1)) = V + x * val (m.take (m.length + 1)) * BB ^ i := by
 have a1 := val_set (l := Q) (k := i + m.length) (t % BB) hq
 have a3 := Nat.div_add_mod t BB
 rw [List.take_of_length_le (by omega)] at h ⊢
 have p1 : BB ^ (i + (m.length + 1)) = BB * BB ^ (i + m.length) := by rw [← Nat.add_assoc, Nat.pow_succ, Nat.mul_comm]
 rw [p1]
 have a6 : t * BB ^ (i + m.length) = BB * (t / BB) * BB ^ (i + m.length) + t % BB * BB ^ (i + m.length) := by rw [← Nat.add_mul, a3]
 have a7 : t * BB ^ (i + m.length) = c * BB ^ (i + m.length) + Q.getD (i + m.length) 0 * BB ^ (i + m.length) := by rw [ht]; simp only [Nat.add_mul]
 have a9 : t / BB * (BB * BB ^ (i + m.length)) = BB * (t / BB) * BB ^ (i + m.length) := by ac_rfl
 rw [a9]
 omega
theorem mul_done {l m Q : List Nat} {i k x : Nat} (hi : i < l.length) (hk : m.length ≤ k) (hx : x = l.getD i 0)
 (h : val Q + 0 * BB ^ (i + k) = val (l.take i) * val m + x * val (m.take k) * BB ^ i) : val Q = val (l.take (i + 1)) * val m := by
 rw [val_take_succ hi, List.take_of_length_le hk] at *
 rw [← hx, Nat.add_mul]
 have : x * BB ^ i * val m = x * val m * BB ^ i := by ac_rfl
 omega
theorem step_lt {x y o c : Nat} (hx : x < BB) (hy : y < BB) (ho : o < BB) (hc : c < BB) : c + o + x * y < BB * BB := by
 have h1 : x * y ≤ (BB - 1) * (BB - 1) := Nat.mul_le_mul (by omega) (by omega)
 have h2 : (BB - 1) * (BB - 1) + (BB - 1) + (BB - 1) + 1 = BB * BB := by unfold BB; rfl
 omega
theorem w64' {x : Nat} (h : x < BB * BB) : IntKind.u64.wrap (x : Int) = (x : Int) := w64 (by unfold BB at h; unfold Num.BB; omega)
end NumR
theorem rsg_bd {neg : Bool} {n k : Nat} (h : Bd k (sg neg n)) : n < 2 ^ k := by
 unfold Bd at h; rwa [sg_abs] at h
theorem rbd_len {l : List Nat} {k : Nat} (hn : Nrm l) (h : NumR.val l < 2 ^ k) (hk : k ≤ 17179869184) : l.length ≤ 1073741825 := by
 by_cases h0 : l = []
 · subst h0; simp
 · have h1 := NumR.nrm_val_pos hn h0
   have e : NumR.BB ^ (l.length - 1) = 2 ^ (16 * (l.length - 1)) := by rw [Nat.pow_mul]; rfl
   rw [e] at h1
   have h2 : 16 * (l.length - 1) < k := (Nat.pow_lt_pow_iff_right (a := 2) (by omega)).1 (Nat.lt_of_le_of_lt h1 h)
   omega

theorem rmulV_c (n1 n2 : Bool) (a b : Option Addr) (ca cb : Nat) (l m : List Nat) (w : World) (ha : U32 w a ca l) (hb : U32 w b cb m) (hl : NumR.Limbs l) (hm : NumR.Limbs m) (h1 : l.length ≤ 1073741825) (h2 : m.length ≤ 1073741825) :
 Calls Tryz.prog 114 #[.agg #[.bool n1, .slice a l.length ca], .agg #[.bool n2, .slice b m.length cb]] w fun e w' => (∃ v, e = .returned v ∧ IsRef w' v (sg n1 (NumR.val l) * sg n2 (NumR.val m))) ∧ Below w.heap.size w w' := by
 have hmk := mk32 (l.length + m.length + 1) (by omega)
 have ec : ((l.length + m.length + 1 : Nat) : Int) = (l.length : Int) + (m.length : Int) + 1 := by omega
 rw [ec] at hmk
 clear ec
 have hB := Below.refl w.heap.size w
 go_enter Tryz.func114, Tryz.ntmps114
 go_wp2
 clear hmk
 refine wp_name fun w0 hW0 => ?_
 have x0 : w0.cell? ⟨w.heap.size, 0, none⟩ = some (.bool n1) := bkn hW0
 have zx0 := cell_lt x0
 have x1 : w0.cell? ⟨w.heap.size, 1, none⟩ = some (.slice a l.length ca) := bkn hW0
 have y0 : w0.cell? ⟨w.heap.size + 1, 0, none⟩ = some (.bool n2) := bkn hW0
 have zy0 := cell_lt y0
 have y1 : w0.cell? ⟨w.heap.size + 1, 1, none⟩ = some (.slice b m.length cb) := bkn hW0
 have r0f : w0.frozen? ⟨w.heap.size + 2, 0, none⟩ = false := by rw [hW0]; simp [go_sem, *]
 have r0 : w0.cell? ⟨w.heap.size + 2, 0, none⟩ = some (.bool false) := bkn hW0
 have zr0 := cell_lt r0
 have r1f : w0.frozen? ⟨w.heap.size + 2, 1, none⟩ = false := by rw [hW0]; simp [go_sem, *]
 have r1 : w0.cell? ⟨w.heap.size + 2, 1, none⟩ = some (.slice none 0 0) := bkn hW0
 have hB : Below w.heap.size w w0 := by rw [hW0]; repeat (first|exact bzR _ _|exact hB|refine bzD ?_|refine bzN ?_|refine bzS ?_|refine bzA ?_)
 have hO0 : Blk w0 (w.heap.size + 3) (List.replicate (l.length + m.length + 1) 0) := by rw [hW0]; exact blk_at (by simp)
 have hs0 : w0.heap.size = w.heap.size + 4 := by rw [hW0]; simp
 have hz := hB.size
 clear hW0
 have HA := hZ (ha.keep hB)
 have HB := hZ (hb.keep hB)
 have HS0 := hZ hs0
 have hag : ∀ q f, a = some ⟨q, f, none⟩ → l ≠ [] → q < w.heap.size := fun q f e hn => by
  rcases ha.2.2.2 with h | ⟨q', f', h', hc⟩
  · exact absurd h hn
  · rw [h'] at e; cases e; exact cell_lt (hc 0 (List.length_pos_iff.2 hn))
 have hbg : ∀ q f, b = some ⟨q, f, none⟩ → m ≠ [] → q < w.heap.size := fun q f e hn => by
  rcases hb.2.2.2 with h | ⟨q', f', h', hc⟩
  · exact absurd h hn
  · rw [h'] at e; cases e; exact cell_lt (hc 0 (List.length_pos_iff.2 hn))
 have HAG := hZ hag
 have HBG := hZ hbg
 clear ha hb hs0 hag hbg
 have HF := hZ (And.intro x0 (And.intro x1 (And.intro y0 (And.intro y1 (And.intro r0 (And.intro r0f (And.intro r1 (r1f))))))))
 clear x0 x1 y0 y1 r0 r0f r1 r1f
 go_loopw [6] (fun x wr => ∃ (i : Nat) (O : List Nat), i ≤ l.length ∧ x = .int .i64 i ∧ Blk wr (w.heap.size + 3) O ∧ Hid (O.length = l.length + m.length + 1) ∧ NumR.Limbs O ∧ Hid (NumR.val O = NumR.val (l.take i) * NumR.val m) ∧ Out (· = w.heap.size + 3) w0 wr) (fun x _ => l.length - (intOf x).toNat)
 case atStart => exact ⟨0, _, by omega, rfl, hO0, hZ (by simp), (fun y hy => by simp at hy; rw [hy]; exact NumR.BB_pos), hZ (by simp [NumR.val, NumR.val_zeros]), Out.refl _ _⟩
 case round =>
  obtain ⟨i, O, hi, rfl, hO, hOl, hOL, hV, hOut⟩ := hrel
  obtain ⟨x0, x1, y0, y1, r0, r0f, r1, r1f⟩ := HF.out
  replace x0 := okeep hOut x0 (fun h => by first | (have h2 : _ = _ := h; omega) | (rcases (show _ ∨ _ from h) with h | h <;> omega) | (rcases (show _ ∨ _ ∨ _ from h) with h | h | h <;> omega))
  replace x1 := okeep hOut x1 (fun h => by first | (have h2 : _ = _ := h; omega) | (rcases (show _ ∨ _ from h) with h | h <;> omega) | (rcases (show _ ∨ _ ∨ _ from h) with h | h | h <;> omega))
  replace y0 := okeep hOut y0 (fun h => by first | (have h2 : _ = _ := h; omega) | (rcases (show _ ∨ _ from h) with h | h <;> omega) | (rcases (show _ ∨ _ ∨ _ from h) with h | h | h <;> omega))
  replace y1 := okeep hOut y1 (fun h => by first | (have h2 : _ = _ := h; omega) | (rcases (show _ ∨ _ from h) with h | h <;> omega) | (rcases (show _ ∨ _ ∨ _ from h) with h | h | h <;> omega))
  replace r0f := okeepf hOut r0 r0f (fun h => by first | (have h2 : _ = _ := h; omega) | (rcases (show _ ∨ _ from h) with h | h <;> omega) | (rcases (show _ ∨ _ ∨ _ from h) with h | h | h <;> omega))
  replace r0 := okeep hOut r0 (fun h => by first | (have h2 : _ = _ := h; omega) | (rcases (show _ ∨ _ from h) with h | h <;> omega) | (rcases (show _ ∨ _ ∨ _ from h) with h | h | h <;> omega))
  replace r1f := okeepf hOut r1 r1f (fun h => by first | (have h2 : _ = _ := h; omega) | (rcases (show _ ∨ _ from h) with h | h <;> omega) | (rcases (show _ ∨ _ ∨ _ from h) with h | h | h <;> omega))
  replace r1 := okeep hOut r1 (fun h => by first | (have h2 : _ = _ := h; omega) | (rcases (show _ ∨ _ from h) with h | h <;> omega) | (rcases (show _ ∨ _ ∨ _ from h) with h | h | h <;> omega))
  by_cases hlt : i < l.length
  · have hln : l ≠ [] := by intro e; subst e; simp at hlt
    rcases HA.out.2.2.2 with hl0 | ⟨ba, oa, rfl, hca⟩
    · exact absurd hl0 hln
    have hba := HAG.out ba oa rfl hln
    have c0 := hca i hlt
    have hx := NumR.limb_get hl i
    obtain ⟨x, hxe⟩ : ∃ x, x = l.getD i 0 := ⟨_, rfl⟩
    rw [← hxe] at c0 hx
    have HX := hZ hxe
    clear hxe
    go_wp2
    go_loopw [7, 8] (fun cv y wi => ∃ (k c : Nat) (Q : List Nat), k ≤ m.length + 1 ∧ y = .int .i64 k ∧ cv = .int .u64 c ∧ c < NumR.BB ∧ Blk wi (w.heap.size + 3) Q ∧ Hid (Q.length = l.length + m.length + 1) ∧ NumR.Limbs Q ∧ Hid (NumR.val Q + c * NumR.BB ^ (i + k) = NumR.val (l.take i) * NumR.val m + x * NumR.val (m.take k) * NumR.BB ^ i) ∧ Out (· = w.heap.size + 3) w0 wi) (fun _ y _ => m.length + 2 - (intOf y).toNat)
    case atStart => exact ⟨0, 0, O, by omega, rfl, rfl, NumR.BB_pos, hO, hOl, hOL, hZ (by simp [NumR.val, hV.out]), hOut⟩
    case round =>
     rename World => wi
     obtain ⟨k, c, Q, hk, rfl, rfl, hcB, hQ, hQl, hQL, hQV, hOut⟩ := hrel
     clear x0 x1 y0 y1 r0 r0f r1 r1f
     obtain ⟨x0, x1, y0, y1, r0, r0f, r1, r1f⟩ := HF.out
     replace x0 := okeep hOut x0 (fun h => by first | (have h2 : _ = _ := h; omega) | (rcases (show _ ∨ _ from h) with h | h <;> omega) | (rcases (show _ ∨ _ ∨ _ from h) with h | h | h <;> omega))
     replace x1 := okeep hOut x1 (fun h => by first | (have h2 : _ = _ := h; omega) | (rcases (show _ ∨ _ from h) with h | h <;> omega) | (rcases (show _ ∨ _ ∨ _ from h) with h | h | h <;> omega))
     replace y0 := okeep hOut y0 (fun h => by first | (have h2 : _ = _ := h; omega) | (rcases (show _ ∨ _ from h) with h | h <;> omega) | (rcases (show _ ∨ _ ∨ _ from h) with h | h | h <;> omega))
     replace y1 := okeep hOut y1 (fun h => by first | (have h2 : _ = _ := h; omega) | (rcases (show _ ∨ _ from h) with h | h <;> omega) | (rcases (show _ ∨ _ ∨ _ from h) with h | h | h <;> omega))
     replace r0f := okeepf hOut r0 r0f (fun h => by first | (have h2 : _ = _ := h; omega) | (rcases (show _ ∨ _ from h) with h | h <;> omega) | (rcases (show _ ∨ _ ∨ _ from h) with h | h | h <;> omega))
     replace r0 := okeep hOut r0 (fun h => by first | (have h2 : _ = _ := h; omega) | (rcases (show _ ∨ _ from h) with h | h <;> omega) | (rcases (show _ ∨ _ ∨ _ from h) with h | h | h <;> omega))
     replace r1f := okeepf hOut r1 r1f (fun h => by first | (have h2 : _ = _ := h; omega) | (rcases (show _ ∨ _ from h) with h | h <;> omega) | (rcases (show _ ∨ _ ∨ _ from h) with h | h | h <;> omega))
     replace r1 := okeep hOut r1 (fun h => by first | (have h2 : _ = _ := h; omega) | (rcases (show _ ∨ _ from h) with h | h <;> omega) | (rcases (show _ ∨ _ ∨ _ from h) with h | h | h <;> omega))
     have c1 := okeep hOut c0 (fun h => absurd (show _ = _ from h) (by omega))
     have HQS := hZ (fun t => NumR.mul_step (Q := Q) (m := m) (i := i) (k := k) (x := x) (c := c) (t := t) (V := NumR.val (l.take i) * NumR.val m))
     have hql := hQl.out
     by_cases hkm : k < m.length
     · have hmn : m ≠ [] := by intro e; subst e; simp at hkm
       rcases HB.out.2.2.2 with hm0 | ⟨bb, ob, rfl, hcb⟩
       · exact absurd hm0 hmn
       have hbb := HBG.out bb ob rfl hmn
       have d1 := okeep hOut (hcb k hkm) (fun h => absurd (show _ = _ from h) (by omega))
       have hy := NumR.limb_get hm k
       have q0 := hQ.cell (i + k) (by omega)
       have qf := hQ.frozen (i + k)
       have ho := NumR.limb_get hQL (i + k)
       have HQ1 := hZ (HQS.out (c + Q.getD (i + k) 0 + x * m.getD k 0) (by omega) rfl hkm hQV.out)
       have HLt := hZ (NumR.step_lt hx hy ho hcB)
       generalize m.getD k 0 = y at *
       generalize Q.getD (i + k) 0 = o at *
       have hlt2 : (i : Int) + (k : Int) < (l.length : Int) + (m.length : Int) + 1 := by omega
       have e1 := NumR.w64' (x := x) (by unfold NumR.BB at *; omega)
       have e2 := NumR.w64' (x := y) (by unfold NumR.BB at *; omega)
       have e3 := NumR.w64' (x := o) (by unfold NumR.BB at *; omega)
       have e4 : IntKind.u64.wrap ((x : Int) * (y : Int)) = ((x * y : Nat) : Int) := by rw [← Int.natCast_mul]; exact NumR.w64' (by have := HLt.out; omega)
       have e5 : IntKind.u64.wrap ((c : Int) + (o : Int)) = ((c + o : Nat) : Int) := by rw [← Int.natCast_add]; exact NumR.w64' (by have := HLt.out; omega)
       have e6 : IntKind.u64.wrap (((c + o : Nat) : Int) + ((x * y : Nat) : Int)) = ((c + o + x * y : Nat) : Int) := by rw [← Int.natCast_add]; exact NumR.w64' HLt.out
       generalize x * y = p at e4 e6 HQ1 HLt
       generalize c + o = t1 at e5 e6 HQ1 HLt
       generalize t1 + p = t at e6 HQ1 HLt
       have qb := hQ.set (i + k) (t % NumR.BB)
       have ql := NumR.limbs_set hQL (k := i + k) (Nat.mod_lt t NumR.BB_pos)
       have hOut2 := hOut.set (p := ⟨w.heap.size + 3, i + k, none⟩) (fun _ => rfl) (.int .u32 ((t % NumR.BB : Nat) : Int))
       obtain ⟨r, hr⟩ : ∃ r, r = t % NumR.BB := ⟨_, rfl⟩
       obtain ⟨z, hz⟩ : ∃ z, z = t / NumR.BB := ⟨_, rfl⟩
       rw [← hr] at qb ql hOut2 HQ1
       rw [← hz] at HQ1
       have er : (t : Int) % 65536 = (r : Int) := by unfold NumR.BB at hr; omega
       have er2 : (t : Int).tmod 65536 = (r : Int) := by rw [Int.tmod_eq_emod_of_nonneg (by omega)]; exact er
       have hrB : r < 65536 := by unfold NumR.BB at hr; omega
       have er3 := w32 (x := r) (by unfold BB; omega)
       have ez : (t : Int) / 65536 = (z : Int) := by unfold NumR.BB at hz; omega
       have hzB : z < NumR.BB := by rw [hz]; exact Nat.div_lt_of_lt_mul HLt.out
       have ez2 := NumR.w64' (x := z) (by unfold NumR.BB at *; omega)
       clear hr hz hql
       go_wp2
       go_quiet (fail)
       go_wp2
       refine ⟨⟨k + 1, z, _, by omega, by go_num, rfl, hzB, qb, hZ (by simpa using hQl.out), ql, HQ1, hOut2.drewN _⟩, by simp [intOf]; omega⟩
     · have hkm' : decide (k < m.length) = false := by simp; omega
       by_cases hc0 : 0 < c
       · have HK := hZ (NumR.carry_end hl hm hi hx hc0 (by omega) hQV.out)
         obtain rfl : k = m.length := HK.out
         clear HK
         have q0 := hQ.cell (i + m.length) (by omega)
         have qf := hQ.frozen (i + m.length)
         have ho := NumR.limb_get hQL (i + m.length)
         have HQ1 := hZ (NumR.mul_last (m := m) (x := x) (V := NumR.val (l.take i) * NumR.val m) (t := c + Q.getD (i + m.length) 0) (by omega) rfl hQV.out)
         generalize Q.getD (i + m.length) 0 = o at *
         have hlt2 : (i : Int) + (m.length : Int) < (l.length : Int) + (m.length : Int) + 1 := by omega
         have e3 := NumR.w64' (x := o) (by unfold NumR.BB at *; omega)
         have e5 : IntKind.u64.wrap ((c : Int) + (o : Int)) = ((c + o : Nat) : Int) := by rw [← Int.natCast_add]; exact NumR.w64' (by unfold NumR.BB at *; omega)
         have HLt : c + o < NumR.BB * NumR.BB := by unfold NumR.BB at *; omega
         generalize c + o = t at e5 HQ1 HLt
         have qb := hQ.set (i + m.length) (t % NumR.BB)
         have ql := NumR.limbs_set hQL (k := i + m.length) (Nat.mod_lt t NumR.BB_pos)
         have hOut2 := hOut.set (p := ⟨w.heap.size + 3, i + m.length, none⟩) (fun _ => rfl) (.int .u32 ((t % NumR.BB : Nat) : Int))
         obtain ⟨r, hr⟩ : ∃ r, r = t % NumR.BB := ⟨_, rfl⟩
         obtain ⟨z, hz⟩ : ∃ z, z = t / NumR.BB := ⟨_, rfl⟩
         rw [← hr] at qb ql hOut2 HQ1
         rw [← hz] at HQ1
         have er : (t : Int) % 65536 = (r : Int) := by unfold NumR.BB at hr; omega
         have er2 : (t : Int).tmod 65536 = (r : Int) := by rw [Int.tmod_eq_emod_of_nonneg (by omega)]; exact er
         have hrB : r < 65536 := by unfold NumR.BB at hr; omega
         have er3 := w32 (x := r) (by unfold BB; omega)
         have ez : (t : Int) / 65536 = (z : Int) := by unfold NumR.BB at hz; omega
         have hzB : z < NumR.BB := by rw [hz]; exact Nat.div_lt_of_lt_mul HLt
         have ez2 := NumR.w64' (x := z) (by unfold NumR.BB at *; omega)
         clear hr hz hql HLt
         go_wp2
         refine ⟨⟨m.length + 1, z, _, by omega, by go_num, rfl, hzB, qb, hZ (by simpa using hQl.out), ql, HQ1, hOut2⟩, by simp [intOf] <;> omega⟩
       · obtain rfl : c = 0 := by omega
         have HD := hZ (NumR.mul_done hlt (by omega) HX.out hQV.out)
         clear hql
         go_wp2
         refine ⟨⟨i + 1, Q, by omega, by go_num, hQ, hQl, hQL, HD, hOut⟩, by simp [intOf]; omega⟩
  · obtain rfl : i = l.length := by omega
    have hu := hO.u32 (limbs_of_r hOL) (by have := hOl.out; unfold maxLen; omega)
    have HV := hZ (show sg (n1 != n2) (NumR.val O) = sg n1 (NumR.val l) * sg n2 (NumR.val m) by rw [hV.out, List.take_length, sg_mul])
    have nc := fun W h => rnorm_c (n1 != n2) (some ⟨w.heap.size + 3, 0, none⟩) O.length O W h hOL
    rw [HV.out] at nc
    have hB2 : Below w.heap.size w wr := hB.trans (hOut.to_below (fun k hk _ h => absurd (show _ = _ from h) (by omega)) hz)
    have hol := hOl.out
    have hne : ∀ w', (binOp .neq 4 (.bool n1) (.bool n2)).run Tryz.prog w' = .ok (.bool (n1 != n2)) w' := fun w' => by cases n1 <;> cases n2 <;> rfl
    rw [hol] at nc hu
    have HU := hZ hu
    clear hol hV hu hOl
    go_wp2_with fail
    refine (nc _ HU.out).mono ?_
    rintro e w2 ⟨⟨v, rfl, hi⟩, hb2⟩
    replace r0f := bkeepf hb2 r0 r0f
    replace r1f := bkeepf hb2 r1 r1f
    replace r0 := bkeep hb2 r0
    replace r1 := bkeep hb2 r1
    have hB3 := bthen hB2 hb2
    have HI2 := hZ (hi.put2 r0 r1)
    obtain ⟨n3, a3, c3, l3, rfl, _, _, _, _, _⟩ := hi
    unfold iv at *
    have hz3 := hB3.size
    have hz4 := cell_lt r0
    clear x0 x1 y0 y1
    go_wp2
    refine bodyPost_ret (v := .agg #[.bool n3, .slice a3 l3.length c3]) (by simp [results, Tryz.results114, go_sem, *]) rfl ⟨⟨_, rfl, HI2.out _ _⟩, ?_⟩
    repeat exact bZ
theorem rmul_c (vx vy : Value) (x y : Int) (k m : Nat) (w : World) (hx : IsRef w vx x) (hy : IsRef w vy y) (bx : Bd k x) (by' : Bd m y) (hk : k ≤ 17179869184) (hm : m ≤ 17179869184) :
 Calls Tryz.prog 114 #[vx, vy] w fun e w' => (∃ v, e = .returned v ∧ IsRef w' v (x * y)) ∧ Below w.heap.size w w' := by
 obtain ⟨n1, a1, c1, l1, rfl, u1, q1, g1, s1, rfl⟩ := hx
 obtain ⟨n2, a2, c2, l2, rfl, u2, q2, g2, s2, rfl⟩ := hy
 exact rmulV_c n1 n2 a1 a2 c1 c2 l1 l2 w u1 u2 q1 q2 (rbd_len g1 (rsg_bd bx) hk) (rbd_len g2 (rsg_bd by') hm)
end Go.Proofs.YtbmaffijncapiaaGreatDoor
namespace Go.Proofs.YtbmaffijncapiaaGreatDoor
open Go.ChangeShapes Go.WideShapes Go.ChangeAt Go.RowKit
section
open Num
def IntsF (R : World → Value → Int → Prop) (w : World) (b off n : Nat) (f : Nat → Int) : Prop :=
 ∀ k, k < n → ∃ nb a len c, w.cell? ⟨b, off + k * 2, none⟩ = some (.bool nb) ∧ w.cell? ⟨b, off + k * 2 + 1, none⟩ = some (.slice a len c) ∧ R w (.agg #[.bool nb, .slice a len c]) (f k)
section
variable {R : World → Value → Int → Prop} {w w' : World} {b off n : Nat} {f f' : Nat → Int}
theorem IntsF.take {m : Nat} (h : IntsF R w b off n f) (hm : m ≤ n) : IntsF R w b off m f := fun k hk => h k (by omega)
theorem IntsF.stay (hR : Lims R) (h : IntsF R w b off n f) (hb : w'.heap[b]? = w.heap[b]?) (hl : Lim w w') : IntsF R w' b off n f := fun k hk => by
 obtain ⟨nb, a, len, c, h1, h2, h3⟩ := h k hk
 exact ⟨nb, a, len, c, by rw [World.cell?_of_block (w := w) hb]; exact h1, by rw [World.cell?_of_block (w := w) hb]; exact h2, hR _ _ _ _ h3 hl⟩
theorem IntsF.keep (hR : Lims R) (h : IntsF R w b off n f) (hb : Below w.heap.size w w') : IntsF R w' b off n f := fun k hk => by
 obtain ⟨nb, a, len, c, h1, h2, h3⟩ := h k hk
 exact ⟨nb, a, len, c, bkeep hb h1, bkeep hb h2, hR _ _ _ _ h3 (.of_below hb)⟩
theorem IntsF.out {X : Nat → Prop} (hR : Lims R) (h : IntsF R w b off n f) (ho : Out X w w') (hx : ¬ X b) (hl : Lim w w') : IntsF R w' b off n f := fun k hk => by
 obtain ⟨nb, a, len, c, h1, h2, h3⟩ := h k hk
 exact ⟨nb, a, len, c, okeep ho h1 hx, okeep ho h2 hx, hR _ _ _ _ h3 hl⟩
end
theorem isInt_zero (w : World) : IsInt w (.agg #[.bool false, .slice none 0 0]) 0 :=
 ⟨false, none, 0, [], rfl, ⟨Nat.le_refl _, by unfold maxLen; omega, (fun _ h => by cases h), .inl rfl⟩, (fun h => absurd rfl h), (fun h => by cases h), rfl⟩
theorem infoInt : (Tryz.prog.info? 50).map (fun i => (i.zero, i.size, i.bytes)) = some (some (.agg #[.bool false, .slice none 0 0]), 2, 32) := by kernel_rfl
def OwnF (R : World → Value → Int → Prop) (E : TypeId) (w0 wr : World) (v : Value) (n : Nat) (f : Nat → Int) : Prop :=
 ∃ xs, OwnE E 2 w0 wr v n xs ∧ ∀ k, k < n → ∃ nb a len c, xs[k * 2]? = some (.bool nb) ∧ xs[k * 2 + 1]? = some (.slice a len c) ∧ R wr (.agg #[.bool nb, .slice a len c]) (f k)
section
variable {R : World → Value → Int → Prop} {E : TypeId} {w0 wr w' : World} {v : Value} {n : Nat} {f : Nat → Int}
theorem OwnF.nil (R : World → Value → Int → Prop) (E : TypeId) {w0 wr : World} (f : Nat → Int) (hb : Below w0.heap.size w0 wr) : OwnF R E w0 wr (.slice none 0 0) 0 f := ⟨[], OwnE.nil _ _ hb, fun k hk => absurd hk (by omega)⟩
theorem OwnF.below (hR : Lims R) (h : OwnF R E w0 wr v n f) (hb : Below wr.heap.size wr w') : OwnF R E w0 w' v n f := by
 obtain ⟨xs, h1, h2⟩ := h
 refine ⟨xs, h1.below hb, fun k hk => ?_⟩
 obtain ⟨nb, a, len, c, k1, k2, k3⟩ := h2 k hk
 exact ⟨nb, a, len, c, k1, k2, hR _ _ _ _ k3 (.of_below hb)⟩
theorem OwnF.bel (h : OwnF R E w0 wr v n f) : Below w0.heap.size w0 wr := by obtain ⟨xs, h1, _⟩ := h; exact h1.2
theorem OwnF.view (h : OwnF R E w0 wr v n f) : ∃ a c, v = .slice a n c ∧ n ≤ c ∧ c ≤ maxLen ∧ (n = 0 ∨ ∃ g, a = some ⟨g, 0, none⟩ ∧ w0.heap.size ≤ g ∧ IntsF R wr g 0 n f) := by
 obtain ⟨xs, ⟨⟨hl, h1⟩, _⟩, h2⟩ := h
 rcases h1 with ⟨rfl, rfl⟩ | ⟨g, cap, cur, rfl, hg, hh, hc, hm, hs, ht⟩
 · exact ⟨none, 0, rfl, Nat.le_refl _, by unfold maxLen; omega, .inl rfl⟩
 · refine ⟨_, cap, rfl, hc, hm, .inr ⟨g, rfl, hg, fun k hk => ?_⟩⟩
   obtain ⟨nb, a, len, c, k1, k2, k3⟩ := h2 k hk
   have cel : ∀ j u, xs[j]? = some u → wr.cell? ⟨g, j, none⟩ = some u := fun j u hj => by
    have hj2 : j < n * 2 := by have := (List.getElem?_eq_some_iff.1 hj).1; omega
    rw [← ht, List.getElem?_take_of_lt (by omega)] at hj
    simpa [World.cell?, hh] using hj
   exact ⟨nb, a, len, c, by rw [Nat.zero_add]; exact cel _ _ k1, by rw [Nat.zero_add]; exact cel _ _ k2, k3⟩
end
theorem own_snoc {R : World → Value → Int → Prop} (hR : Lims R) {E : TypeId} {w0 wr w' : World} {v' : Value} {n : Nat} {f : Nat → Int} {xs : List Value} {nb : Bool} {a : Option Addr} {len c : Nat} {z : Int}
 (h2 : ∀ k, k < n → ∃ nb a len c, xs[k * 2]? = some (.bool nb) ∧ xs[k * 2 + 1]? = some (.slice a len c) ∧ R wr (.agg #[.bool nb, .slice a len c]) (f k)) (hl : xs.length = n * 2)
 (hv : R wr (.agg #[.bool nb, .slice a len c]) z) (hlim : Lim wr w') (hO : OwnE E 2 w0 w' v' (n + 1) (xs ++ [.bool nb, .slice a len c])) : OwnF R E w0 w' v' (n + 1) (fun i => if i = n then z else f i) := by
 refine ⟨_, hO, fun k hk => ?_⟩
 by_cases e : k = n
 · subst e
   refine ⟨nb, a, len, c, ?_, ?_, ?_⟩
   · rw [List.getElem?_append_right (by omega), hl]; simp
   · rw [List.getElem?_append_right (by omega), hl]; simp
   · simp only [if_true]; exact hR _ _ _ _ hv hlim
 · obtain ⟨nb1, a1, len1, c1, k1, k2, k3⟩ := h2 k (by omega)
   refine ⟨nb1, a1, len1, c1, ?_, ?_, ?_⟩
   · rw [List.getElem?_append_left (by omega)]; exact k1
   · rw [List.getElem?_append_left (by omega)]; exact k2
   · show R _ _ (if k = n then z else f k)
     rw [if_neg e]; exact hR _ _ _ _ k3 hlim
section
variable {P : Program} {T E : TypeId} {bytes : Nat} {R : World → Value → Int → Prop} {ops : Array Oper} {o : Oper} {a : Act} {Q : Exit → Act → World → Prop} {w0 wr : World} {v : Value} {n : Nat} {f : Nat → Int} {t : TypeId} {s x : Operand} {nb : Bool} {ad : Option Addr} {len c m cc : Nat} {z : Int}
theorem app_num {rest : List Oper} (el : Elt P T E 2 bytes) (hE : E ≠ 177) (hR : Lims R) (hgd : o.guard = none)
 (ho : o.op = .call { callee := .builtin .append, args := #[s, x], argTypes := #[T, T] }) (hO : OwnF R E w0 wr v n f) (hv : R wr (.agg #[.bool nb, .slice ad len c]) z) (hs : a.eval s = v)
 (hx : a.eval x = .slice (some ⟨wr.heap.size, 0, none⟩) 1 cc) (hn : n + 1 ≤ 1099511627776)
 (h : ∀ v' w', OwnF R E w0 w' v' (n + 1) (fun i => if i = n then z else f i) → Lim wr w' → Out (fun k => v.ownBlock = some k) wr w' → wpList P ops Q rest (a.put o.dst v') w') : wpList P ops Q (o :: rest) a (wr.alloc (.cells #[.bool nb, .slice ad len c] t)) := by
 obtain ⟨i, z0, hi, hz, hsize, hby, hzs⟩ := el.info
 obtain ⟨xs, h1, h2⟩ := hO
 have hb : (n + 1) * bytes ≤ 1099511627776 * 128 := Nat.mul_le_mul hn el.small
 refine wpList_append_own _ hgd s x T ho w0.heap.size E i z0 2 bytes el.ht hi hz hsize hby hzs el.pos v n xs hs (h1.1.alloc _) ⟨wr.heap.size, 0, none⟩ 1 cc [.bool nb, .slice ad len c] hx rfl (cells_new wr _ t) (fun u hu => by simp at hu; rcases hu with rfl | rfl <;> rfl) (by unfold maxLen; omega) (by omega) (by have := h1.2.size; simp; omega) ?_
 intro v' w' hown hg _
 have hl : Lim wr w' := ((Lim.refl wr).alloc _).grown hg fun g hg' ht => hE (by
  rw [typ_keep (own_typ h1 hg') (bal (Below.refl _ _) _)] at ht
  exact Option.some.inj ht)
 exact h v' w' (own_snoc hR h2 h1.1.1 hv hl ⟨hown, below_append (wr := wr) (bal h1.2 _) (h1.1.alloc _) hg⟩) hl (((Out.refl _ wr).alloc _).grown hg fun k hk _ => hk)
end
theorem elInt : Elt Tryz.prog 68 50 2 32 := Elt.mk' Tryz.underlying68 infoInt rfl (by decide) (by decide)
def Free (w : World) (g : Nat) : Prop := g < w.heap.size ∧ ∀ j, w.frozen? ⟨g, j, none⟩ = false
theorem Free.keep {w w' : World} {g : Nat} (h : Free w g) (hb : Below w.heap.size w w') : Free w' g :=
 ⟨Nat.lt_of_lt_of_le h.1 hb.size, fun j => by rw [hb.frozen h.1]; exact h.2 j⟩
theorem Free.new {w : World} {c : Array Value} {t : TypeId} {g : Nat} (hg : g = w.heap.size) : Free (w.alloc (.cells c t)) g :=
 ⟨by simp <;> omega, fun j => by rw [World.frozen?_alloc_at (hn := hg)] <;> rfl⟩
theorem Free.set {w : World} {g : Nat} (h : Free w g) (p : Addr) (v : Value) : Free (w.setCell p v) g := ⟨by simpa using h.1, fun j => by rw [World.frozen?_setCell]; exact h.2 j⟩
theorem Free.out {X : Nat → Prop} {w w' : World} {g : Nat} (h : Free w g) (ho : Out X w w') (hx : ¬ X g) : Free w' g :=
 ⟨Nat.lt_of_lt_of_le h.1 ho.size, fun j => by rw [World.frozen?_of_block (w := w) (ho.block g h.1 hx)]; exact h.2 j⟩
theorem Lim.set2 {w : World} {g o : Nat} {x : Bool} {y : Option Addr} {p q : Nat} (r0 : w.cell? ⟨g, o, none⟩ = some (.bool x)) (r1 : w.cell? ⟨g, o + 1, none⟩ = some (.slice y p q)) (u v : Value) : Lim w ((w.setCell ⟨g, o, none⟩ u).setCell ⟨g, o + 1, none⟩ v) :=
 ((Lim.refl w).bool r0 _).slice (cell_far r1 (by simp) _) _
theorem Out.set2 {X : Nat → Prop} {a b : World} (h : Out X a b) {g o : Nat} (hx : g < a.heap.size → X g) (u v : Value) : Out X a ((b.setCell ⟨g, o, none⟩ u).setCell ⟨g, o + 1, none⟩ v) := (h.set hx u).set hx v
end
section
open Num
def Kp (S : TypeId → Prop) (w w' : World) : Prop := ∀ b t, typOf w b = some t → S t → w'.heap[b]? = w.heap[b]?
section
variable {S : TypeId → Prop} {a b c w w' : World}
theorem Kp.refl (S : TypeId → Prop) (w : World) : Kp S w w := fun _ _ _ _ => rfl
theorem Kp.trans (h : Kp S a b) (k : Kp S b c) : Kp S a c := fun q t ht hs => (k q t (by rw [typ_of_block (w := a) (h q t ht hs)]; exact ht) hs).trans (h q t ht hs)
theorem Kp.of_below (S : TypeId → Prop) (h : Below a.heap.size a b) : Kp S a b := fun q t ht _ => h.block q (typ_lt ht)
theorem Kp.below (h : Kp S a b) (k : Below b.heap.size b c) : Kp S a c := h.trans (.of_below S k)
theorem Kp.alloc (h : Kp S a b) (o : Obj) : Kp S a (b.alloc o) := h.below (bal (Below.refl _ _) o)
theorem Kp.drew (h : Kp S a b) : Kp S a b.drew := h
theorem Kp.drewN (h : Kp S a b) (n : Nat) : Kp S a (b.drewN n) := h
theorem Kp.grown {row : Option Nat} (h : Kp S a b) (hg : b.grownBy c row) (hr : ∀ g, row = some g → ∀ t, typOf b g = some t → ¬ S t) : Kp S a c :=
 h.trans fun q t ht hs => hg.block q (typ_lt ht) fun e => hr q e.symm t ht hs
theorem Kp.set (h : Kp S a b) {p : Addr} (hp : ∀ t, typOf b p.block = some t → ¬ S t) (u : Value) : Kp S a (b.setCell p u) :=
 h.trans fun q t ht hs => Below.heap_setCell _ _ _ _ fun e => hp t (by rw [← e]; exact ht) hs
theorem Kp.lim (h : Kp S a b) (hs : S 177) : Lim a b := fun q ht => by
 have e := h q _ ht hs
 exact ⟨by rw [typ_of_block (w := a) e]; exact ht, fun o n hc => by rw [World.cell?_of_block (w := a) e]; exact hc⟩
theorem Kp.typ (h : Kp S a b) {q : Nat} {t : TypeId} (ht : typOf a q = some t) (hs : S t) : typOf b q = some t := by rw [typ_of_block (w := a) (h q t ht hs)]; exact ht
end
def IsRow (R : World → Value → Int → Prop) (E : TypeId) (base : Nat) (w : World) (v : Value) (l : List Int) : Prop :=
 ∃ a c, v = .slice a l.length c ∧ l.length ≤ c ∧ c ≤ maxLen ∧ (l = [] ∨ ∃ b off, a = some ⟨b, off, none⟩ ∧ base ≤ b ∧ typOf w b = some E ∧ IntsF R w b off l.length (fun k => l.getD k 0))
def PRow := IsRow IsInt 50
section
variable {R : World → Value → Int → Prop} {E : TypeId} {base : Nat} {w w' : World} {v : Value} {l : List Int}
theorem IsRow.kp {S : TypeId → Prop} (hR : Lims R) (h : IsRow R E base w v l) (k : Kp S w w') (hs : S 177) (hE : S E) : IsRow R E base w' v l := by
 obtain ⟨a, c, h1, h2, h3, h4⟩ := h
 refine ⟨a, c, h1, h2, h3, h4.imp id ?_⟩
 rintro ⟨b, off, e, hb, ht, hi⟩
 exact ⟨b, off, e, hb, k.typ ht hE, hi.stay hR (k b _ ht hE) (k.lim hs)⟩
theorem IsRow.keep (hR : Lims R) (h : IsRow R E base w v l) (k : Below w.heap.size w w') : IsRow R E base w' v l := by
 obtain ⟨a, c, h1, h2, h3, h4⟩ := h
 refine ⟨a, c, h1, h2, h3, h4.imp id ?_⟩
 rintro ⟨b, off, e, hb, ht, hi⟩
 exact ⟨b, off, e, hb, typ_keep ht k, hi.keep hR k⟩
theorem IsRow.rebase {base' : Nat} (h : IsRow R E base w v l) (hb : base' ≤ base) : IsRow R E base' w v l := by
 obtain ⟨a, c, h1, h2, h3, h4⟩ := h
 refine ⟨a, c, h1, h2, h3, h4.imp id ?_⟩
 rintro ⟨b, off, e, hb', r⟩
 exact ⟨b, off, e, Nat.le_trans hb hb', r⟩
theorem IsRow.nil (R : World → Value → Int → Prop) (E : TypeId) (base : Nat) (w : World) : IsRow R E base w (.slice none 0 0) [] := ⟨none, 0, rfl, Nat.le_refl _, by unfold maxLen; omega, .inl rfl⟩
end
section
variable {R : World → Value → Int → Prop} {E T : TypeId} {base : Nat} {w w' : World} {v : Value} {g : List (List Int)}
end
section
variable {R : World → Value → Int → Prop} {E T : TypeId} {base : Nat} {w0 wr w' : World} {v : Value} {g : List (List Int)}
end
section
variable {P : Program} {TT T E : TypeId} {base bytes : Nat} {R : World → Value → Int → Prop} {ops : Array Oper} {o : Oper} {a : Act} {Q : Exit → Act → World → Prop} {w0 wr : World} {v u : Value} {g : List (List Int)} {l : List Int} {t : TypeId} {s x : Operand} {cc : Nat}
end
end
section
open Num
section
variable {S : TypeId → Prop} {w w' : World}
theorem Kp.cell (k : Kp S w w') {b o : Nat} {s : Option Nat} {t : TypeId} {v : Value} (ht : typOf w b = some t) (hs : S t) (h : w.cell? ⟨b, o, s⟩ = some v) : w'.cell? ⟨b, o, s⟩ = some v := by
 rw [World.cell?_of_block (w := w) (k b t ht hs)]; exact h
theorem Kp.frz (k : Kp S w w') {b o : Nat} {s : Option Nat} {t : TypeId} (ht : typOf w b = some t) (hs : S t) (h : w.frozen? ⟨b, o, s⟩ = false) : w'.frozen? ⟨b, o, s⟩ = false := by
 rw [World.frozen?_of_block (w := w) (k b t ht hs)]; exact h
theorem Kp.weak {T : TypeId → Prop} (k : Kp S w w') (h : ∀ t, T t → S t) : Kp T w w' := fun b t ht hs => k b t ht (h t hs)
end
def RowO (R : World → Value → Int → Prop) (E : TypeId) (base : Nat) (w : World) (v : Value) (l : List Int) : Prop :=
 ∃ xs, w.ownsRow base E 2 v l.length xs ∧ ∀ k, k < l.length → ∃ nb a len c, xs[k * 2]? = some (.bool nb) ∧ xs[k * 2 + 1]? = some (.slice a len c) ∧ R w (.agg #[.bool nb, .slice a len c]) (l.getD k 0)
section
variable {R : World → Value → Int → Prop} {E : TypeId} {base : Nat} {w w' w0 : World} {v : Value} {l : List Int}
theorem own_typ' {T : TypeId} {size n : Nat} {xs : List Value} (h : w.ownsRow base T size v n xs) {g : Nat} (hg : v.ownBlock = some g) : typOf w g = some T := by
 rcases h.2 with ⟨rfl, _⟩ | ⟨g', c, cur, rfl, _, hh, _⟩
 · simp [Value.ownBlock] at hg
 · simp [Value.ownBlock] at hg
   subst hg
   unfold typOf; rw [hh]
theorem owns_kp {S : TypeId → Prop} {T : TypeId} {size n : Nat} {xs : List Value} (h : w.ownsRow base T size v n xs) (k : Kp S w w') (hT : S T) : w'.ownsRow base T size v n xs := by
 refine ⟨h.1, ?_⟩
 rcases h.2 with h2 | ⟨g, cap, cur, rfl, hg, hh, r⟩
 · exact .inl h2
 · exact .inr ⟨g, cap, cur, rfl, hg, by rw [k g T (by unfold typOf; rw [hh]) hT]; exact hh, r⟩
theorem RowO.row (h : RowO R E base w v l) : IsRow R E base w v l := by
 obtain ⟨xs, ⟨hl, h1⟩, h2⟩ := h
 rcases h1 with ⟨rfl, h0⟩ | ⟨g, cap, cur, rfl, hg, hh, hc, hm, hs, ht⟩
 · have : l = [] := List.length_eq_zero_iff.1 h0
   subst this
   exact IsRow.nil R E _ _
 · refine ⟨_, cap, rfl, hc, hm, .inr ⟨g, 0, rfl, hg, by unfold typOf; rw [hh], fun k hk => ?_⟩⟩
   obtain ⟨nb, a, len, c, k1, k2, k3⟩ := h2 k hk
   have cel : ∀ j u, xs[j]? = some u → w.cell? ⟨g, j, none⟩ = some u := fun j u hj => by
    have hj2 : j < l.length * 2 := by have := (List.getElem?_eq_some_iff.1 hj).1; omega
    rw [← ht, List.getElem?_take_of_lt (by omega)] at hj
    simpa [World.cell?, hh] using hj
   exact ⟨nb, a, len, c, by rw [Nat.zero_add]; exact cel _ _ k1, by rw [Nat.zero_add]; exact cel _ _ k2, k3⟩
theorem RowO.nil (R : World → Value → Int → Prop) (E : TypeId) (base : Nat) (w : World) : RowO R E base w (.slice none 0 0) [] := ⟨[], World.ownsRow_nil _ _ _ _, fun k hk => absurd hk (by simp)⟩
theorem RowO.kp {S : TypeId → Prop} (hR : Lims R) (h : RowO R E base w v l) (k : Kp S w w') (hs : S 177) (hE : S E) : RowO R E base w' v l := by
 obtain ⟨xs, h1, h2⟩ := h
 refine ⟨xs, owns_kp h1 k hE, fun j hj => ?_⟩
 obtain ⟨nb, a, len, c, k1, k2, k3⟩ := h2 j hj
 exact ⟨nb, a, len, c, k1, k2, hR _ _ _ _ k3 (k.lim hs)⟩
theorem RowO.keep (hR : Lims R) (h : RowO R E base w v l) (k : Below w.heap.size w w') : RowO R E base w' v l := h.kp (S := fun _ => True) hR (Kp.of_below _ k) trivial trivial
theorem OwnF.rowO (h : OwnF R E w0 w v l.length (fun k => l.getD k 0)) : RowO R E w0.heap.size w v l := by
 obtain ⟨xs, h1, h2⟩ := h
 exact ⟨xs, h1.1, h2⟩
theorem RowO.ex (h : RowO R E base w v l) : ∃ a c, v = .slice a l.length c := by
 obtain ⟨a, c, h1, _⟩ := h.row; exact ⟨a, c, h1⟩
end
theorem IsRow.view {R : World → Value → Int → Prop} {E : TypeId} {base : Nat} {w : World} {v : Value} {l : List Int} (h : IsRow R E base w v l) : ∃ a c, v = .slice a l.length c ∧ l.length ≤ c ∧ ∀ j, j < l.length → ∃ b off nb ad len cp, a = some ⟨b, off, none⟩ ∧ w.cell? ⟨b, off + j * 2, none⟩ = some (.bool nb) ∧ w.cell? ⟨b, off + j * 2 + 1, none⟩ = some (.slice ad len cp) ∧ R w (.agg #[.bool nb, .slice ad len cp]) (l.getD j 0) := by
 obtain ⟨a, c, h1, h2, h3, h4⟩ := h
 refine ⟨a, c, h1, h2, fun j hj => ?_⟩
 rcases h4 with h4 | ⟨b, off, ha, hb, ht, hi⟩
 · rw [h4] at hj; simp at hj
 · obtain ⟨nb, ad, len, cp, k1, k2, k3⟩ := hi j hj
   exact ⟨b, off, nb, ad, len, cp, ha, k1, k2, k3⟩
structure Prs {α : Type} (S : TypeId → Prop) (Pr : World → Value → α → Prop) : Prop where
 one : ∀ {w v x}, Pr w v x → v.oneCell' = true
 kp : ∀ {w w' v x}, Pr w v x → Kp S w w' → Pr w' v x
theorem prs_row {R : World → Value → Int → Prop} (hR : Lims R) (E : TypeId) (base : Nat) : Prs (fun t => t = 177 ∨ t = E) (IsRow R E base) :=
 ⟨fun h => by obtain ⟨a, c, rfl, _⟩ := h; rfl, fun h k => h.kp hR k (.inl rfl) (.inr rfl)⟩
def IsL {α : Type} (T : TypeId) (Pr : World → Value → α → Prop) (base : Nat) (w : World) (v : Value) (g : List α) : Prop :=
 ∃ a c, v = .slice a g.length c ∧ g.length ≤ c ∧ c ≤ maxLen ∧ (g = [] ∨ ∃ b off, a = some ⟨b, off, none⟩ ∧ base ≤ b ∧ typOf w b = some T ∧ ∀ k (hk : k < g.length), ∃ u, w.cell? ⟨b, off + k, none⟩ = some u ∧ Pr w u g[k])
def OwnL {α : Type} (T : TypeId) (Pr : World → Value → α → Prop) (w0 wr : World) (v : Value) (g : List α) : Prop :=
 ∃ xs, OwnE T 1 w0 wr v g.length xs ∧ ∀ k (hk : k < g.length), ∃ u, xs[k]? = some u ∧ Pr wr u g[k]
section
variable {α : Type} {S : TypeId → Prop} {T : TypeId} {Pr : World → Value → α → Prop} {base : Nat} {w w' w0 wr : World} {v u : Value} {g : List α} {x : α}
theorem IsL.kp {S' : TypeId → Prop} (hP : Prs S Pr) (h : IsL T Pr base w v g) (k : Kp S' w w') (hs : ∀ t, S t → S' t) (hT : S' T) : IsL T Pr base w' v g := by
 obtain ⟨a, c, h1, h2, h3, h4⟩ := h
 refine ⟨a, c, h1, h2, h3, h4.imp id ?_⟩
 rintro ⟨b, off, e, hb, ht, hi⟩
 refine ⟨b, off, e, hb, k.typ ht hT, fun j hj => ?_⟩
 obtain ⟨u, hu, hr⟩ := hi j hj
 exact ⟨u, k.cell ht hT hu, hP.kp hr (k.weak hs)⟩
theorem IsL.keep (hP : Prs S Pr) (h : IsL T Pr base w v g) (k : Below w.heap.size w w') : IsL T Pr base w' v g := h.kp (S' := fun _ => True) hP (Kp.of_below _ k) (fun _ _ => trivial) trivial
theorem IsL.mono {Q : World → Value → α → Prop} (h : IsL T Pr base w v g) (hq : ∀ u x, Pr w u x → Q w u x) : IsL T Q base w v g := by
 obtain ⟨a, c, h1, h2, h3, h4⟩ := h
 refine ⟨a, c, h1, h2, h3, h4.imp id ?_⟩
 rintro ⟨b, off, e, hb, ht, hi⟩
 exact ⟨b, off, e, hb, ht, fun j hj => by obtain ⟨u, hu, hr⟩ := hi j hj; exact ⟨u, hu, hq _ _ hr⟩⟩
theorem IsL.rebase {base' : Nat} (h : IsL T Pr base w v g) (hb : base' ≤ base) : IsL T Pr base' w v g := by
 obtain ⟨a, c, h1, h2, h3, h4⟩ := h
 refine ⟨a, c, h1, h2, h3, h4.imp id ?_⟩
 rintro ⟨b, off, e, hb', r⟩
 exact ⟨b, off, e, Nat.le_trans hb hb', r⟩
theorem IsL.nil (T : TypeId) (Pr : World → Value → α → Prop) (base : Nat) (w : World) : IsL T Pr base w (.slice none 0 0) [] := ⟨none, 0, rfl, Nat.le_refl _, by unfold maxLen; omega, .inl rfl⟩
theorem IsL.view (h : IsL T Pr base w v g) : ∃ a c, v = .slice a g.length c ∧ g.length ≤ c ∧ ∀ k (hk : k < g.length), ∃ b off u, a = some ⟨b, off, none⟩ ∧ w.cell? ⟨b, off + k, none⟩ = some u ∧ Pr w u g[k] := by
 obtain ⟨a, c, h1, h2, h3, h4⟩ := h
 refine ⟨a, c, h1, h2, fun k hk => ?_⟩
 rcases h4 with h4 | ⟨b, off, e, hb, ht, hi⟩
 · subst h4; simp at hk
 · obtain ⟨u, hu, hr⟩ := hi k hk
   exact ⟨b, off, u, e, hu, hr⟩
theorem OwnL.nil (T : TypeId) (Pr : World → Value → α → Prop) (hb : Below w0.heap.size w0 wr) : OwnL T Pr w0 wr (.slice none 0 0) [] := ⟨[], OwnE.nil _ _ hb, fun k hk => absurd hk (by simp)⟩
theorem OwnL.below (hP : Prs S Pr) (h : OwnL T Pr w0 wr v g) (hb : Below wr.heap.size wr w') : OwnL T Pr w0 w' v g := by
 obtain ⟨xs, h1, h2⟩ := h
 refine ⟨xs, h1.below hb, fun k hk => ?_⟩
 obtain ⟨u, hu, hr⟩ := h2 k hk
 exact ⟨u, hu, hP.kp hr (Kp.of_below _ hb)⟩
theorem OwnL.bel (h : OwnL T Pr w0 wr v g) : Below w0.heap.size w0 wr := by obtain ⟨xs, h1, _⟩ := h; exact h1.2
theorem OwnL.ex (h : OwnL T Pr w0 wr v g) : ∃ a c, v = .slice a g.length c := by
 obtain ⟨xs, ⟨⟨_, h1⟩, _⟩, _⟩ := h
 rcases h1 with ⟨rfl, h0⟩ | ⟨b, cap, cur, rfl, _⟩
 · exact ⟨none, 0, by rw [h0]⟩
 · exact ⟨_, _, rfl⟩
theorem OwnL.isL (h : OwnL T Pr w0 wr v g) : IsL T Pr w0.heap.size wr v g := by
 obtain ⟨xs, ⟨⟨hl, h1⟩, _⟩, h2⟩ := h
 rcases h1 with ⟨rfl, h0⟩ | ⟨b, cap, cur, rfl, hg, hh, hc, hm, hs, ht⟩
 · have : g = [] := List.length_eq_zero_iff.1 h0
   subst this
   exact IsL.nil _ _ _ _
 · refine ⟨_, cap, rfl, hc, hm, .inr ⟨b, 0, rfl, hg, by unfold typOf; rw [hh], fun k hk => ?_⟩⟩
   obtain ⟨u, hu, hr⟩ := h2 k hk
   refine ⟨u, ?_, hr⟩
   rw [← ht, List.getElem?_take_of_lt (by omega)] at hu
   simpa [World.cell?, hh] using hu
theorem OwnL.snoc (hP : Prs S Pr) {xs : List Value} {v' : Value} (h2 : ∀ k (hk : k < g.length), ∃ u, xs[k]? = some u ∧ Pr wr u g[k]) (hl : xs.length = g.length) (hu : Pr wr u x)
 (k : Kp S wr w') (hO : OwnE T 1 w0 w' v' (g.length + 1) (xs ++ [u])) : OwnL T Pr w0 w' v' (g ++ [x]) := by
 refine ⟨_, by simpa using hO, fun j hj => ?_⟩
 simp at hj
 by_cases e : j < g.length
 · obtain ⟨u', hu', hr⟩ := h2 j e
   exact ⟨u', by rw [List.getElem?_append_left (by omega)]; exact hu', by rw [List.getElem_append_left e]; exact hP.kp hr k⟩
 · obtain rfl : j = g.length := by omega
   exact ⟨u, by rw [List.getElem?_append_right (by omega), hl]; simp, by rw [List.getElem_append_right (by omega)]; simpa using hP.kp hu k⟩
theorem OwnL.rebase {w1 : World} (h : OwnL T Pr w1 wr v g) (hb : Below w0.heap.size w0 w1) : OwnL T Pr w0 wr v g := by
 obtain ⟨xs, ⟨⟨hl, h1⟩, hB⟩, h2⟩ := h
 refine ⟨xs, ⟨⟨hl, ?_⟩, bthen hb hB⟩, h2⟩
 rcases h1 with h1 | ⟨b, cap, cur, hv, hg, r⟩
 · exact .inl h1
 · exact .inr ⟨b, cap, cur, hv, Nat.le_trans hb.size hg, r⟩
theorem OwnL.mono {Q : World → Value → α → Prop} (h : OwnL T Pr w0 wr v g) (hq : ∀ u x, Pr wr u x → Q wr u x) : OwnL T Q w0 wr v g := by
 obtain ⟨xs, h1, h2⟩ := h
 exact ⟨xs, h1, fun k hk => by obtain ⟨u, hu, hr⟩ := h2 k hk; exact ⟨u, hu, hq _ _ hr⟩⟩
theorem OwnL.set (hP : Prs S Pr) (h : OwnL T Pr w0 wr v g) {p : Addr} {t : TypeId} (ht : typOf wr p.block = some t) (h1 : t ≠ T) (h2 : ¬ S t) (hp : w0.heap.size ≤ p.block) (y : Value) : OwnL T Pr w0 (wr.setCell p y) v g := by
 obtain ⟨xs, ⟨hO, hB⟩, hx⟩ := h
 have hk : Kp S wr (wr.setCell p y) := (Kp.refl _ _).set (fun t' ht' => by rw [ht] at ht'; cases ht'; exact h2) y
 refine ⟨xs, ⟨ownsRow_setCell_other hO ?_ y, bset hB hp y⟩, fun k hk' => ?_⟩
 · intro hb
   have := own_typ ⟨hO, hB⟩ hb
   rw [ht] at this; cases this; exact h1 rfl
 · obtain ⟨u, hu, hr⟩ := hx k hk'
   exact ⟨u, hu, hP.kp hr hk⟩
end
section
variable {α : Type} {P : Program} {TT T : TypeId} {bytes : Nat} {S : TypeId → Prop} {Pr : World → Value → α → Prop} {ops : Array Oper} {o : Oper} {a : Act} {Q : Exit → Act → World → Prop} {w0 wr : World} {v u : Value} {g : List α} {y : α} {t : TypeId} {s x : Operand} {cc gb : Nat}
theorem wp_appL {K : Act → World → Prop} (el : Elt P TT T 1 bytes) (hP : Prs S Pr) (hT : ¬ S T)
 (ho : o.op = .call { callee := .builtin .append, args := #[s, x], argTypes := #[TT, TT] }) (hO : OwnL T Pr w0 wr v g) (hv : Pr wr u y) (hs : a.eval s = v)
 (hx : a.eval x = .slice (some ⟨gb, 0, none⟩) 1 cc) (hc : wr.cell? ⟨gb, 0, none⟩ = some u) (hn : (g.length + 1) * bytes ≤ 140737488355328) (hn2 : g.length + 1 ≤ maxLen)
 (h : ∀ v' w', OwnL T Pr w0 w' v' (g ++ [y]) → Kp (· ≠ T) wr w' → K (a.put o.dst v') w') : Oper.wp P o a wr K Q := by
 obtain ⟨i, z0, hi, hz, hsize, hby, hzs⟩ := el.info
 obtain ⟨xs, h1, h2⟩ := hO
 have hone : u.oneCell' = true := hP.one hv
 refine wp_append_own _ s x TT ho w0.heap.size T i z0 1 bytes el.ht hi hz hsize hby hzs el.pos v g.length xs hs h1.1 ⟨gb, 0, none⟩ 1 cc [u] hx rfl (fun j y hj => ?_) (fun y hy => by simp at hy; subst hy; exact hone) hn2 hn h1.2.size ?_
 · have hj1 : j < 1 := (List.getElem?_eq_some_iff.1 hj).1
   obtain rfl : j = 0 := by omega
   simp at hj; subst hj
   simpa [Addr.add] using hc
 intro v' w' hown hg _
 have hk : Kp (· ≠ T) wr w' := (Kp.refl _ wr).grown hg fun q hg' t' ht hne => hne (by
  rw [own_typ h1 hg'] at ht
  exact (Option.some.inj ht).symm)
 exact h v' w' (OwnL.snoc hP h2 (by simpa using h1.1.1) hv (hk.weak fun t hs e => hT (e ▸ hs)) ⟨hown, below_append (wr := wr) h1.2 h1.1 hg⟩) hk
theorem appL {rest : List Oper} (el : Elt P TT T 1 bytes) (hP : Prs S Pr) (hT : ¬ S T) (hgd : o.guard = none)
 (ho : o.op = .call { callee := .builtin .append, args := #[s, x], argTypes := #[TT, TT] }) (hO : OwnL T Pr w0 wr v g) (hv : Pr wr u y) (hs : a.eval s = v)
 (hx : a.eval x = .slice (some ⟨gb, 0, none⟩) 1 cc) (hc : wr.cell? ⟨gb, 0, none⟩ = some u) (hn : (g.length + 1) * bytes ≤ 140737488355328) (hn2 : g.length + 1 ≤ maxLen)
 (h : ∀ v' w', OwnL T Pr w0 w' v' (g ++ [y]) → Kp (· ≠ T) wr w' → wpList P ops Q rest (a.put o.dst v') w') : wpList P ops Q (o :: rest) a wr :=
 wpList_plain hgd fun _ hK => wp_appL el hP hT ho hO hv hs hx hc hn hn2 fun v' w' h1 h2 => hK _ _ (h v' w' h1 h2)
theorem stepL {K : Act → World → Prop} {Z : Prop} (el : Elt P TT T 1 bytes) (hP : Prs S Pr) (hT : ¬ S T) (hgd : o.guard = none)
 (ho : o.op = .call { callee := .builtin .append, args := #[s, x], argTypes := #[TT, TT] }) (hO : OwnL T Pr w0 wr v g) (hv : Pr wr u y) (hs : a.eval s = v)
 (hx : a.eval x = .slice (some ⟨gb, 0, none⟩) 1 cc) (hc : wr.cell? ⟨gb, 0, none⟩ = some u) (hn : (g.length + 1) * bytes ≤ 140737488355328) (hn2 : g.length + 1 ≤ maxLen)
 (h : ∀ v' w', OwnL T Pr w0 w' v' (g ++ [y]) → Kp (· ≠ T) wr w' → K (a.put o.dst v') w') : if Region.wanted o (yielded ops a.tmps) = true then Oper.wp P o a wr K Q else Z := by
 have hw : Region.wanted o (yielded ops a.tmps) = true := by simp [Region.wanted, hgd]
 rw [if_pos hw]
 exact wp_appL el hP hT ho hO hv hs hx hc hn hn2 h
end
theorem infoRow : (Tryz.prog.info? 68).map (fun i => (i.zero, i.size, i.bytes)) = some (some (.slice none 0 0), 1, 24) := by kernel_rfl
theorem elRow : Elt Tryz.prog 45 68 1 24 := Elt.mk' Tryz.underlying45 infoRow rfl (by decide) (by decide)
theorem OwnL.blk {α : Type} {T : TypeId} {Pr : World → Value → α → Prop} {w0 wr : World} {v : Value} {g : List α} (h : OwnL T Pr w0 wr v g) (hg : 0 < g.length) : ∃ rb rc, v = .slice (some ⟨rb, 0, none⟩) g.length rc ∧ w0.heap.size ≤ rb ∧ g.length ≤ rc ∧ rc ≤ maxLen ∧ Free wr rb ∧ typOf wr rb = some T ∧ ∀ k (hk : k < g.length), ∃ u, wr.cell? ⟨rb, k, none⟩ = some u ∧ Pr wr u g[k] := by
 obtain ⟨xs, ⟨⟨hl, h1⟩, hB⟩, h2⟩ := h
 rcases h1 with ⟨rfl, h0⟩ | ⟨b, cap, cur, rfl, hb, hh, hc, hm, hs, ht⟩
 · omega
 · refine ⟨b, cap, rfl, hb, hc, hm, ⟨(Array.getElem?_eq_some_iff.1 hh).1, fun j => ?_⟩, by unfold typOf; rw [hh], fun k hk => ?_⟩
   · unfold World.frozen?
     rw [show wr.heap[(⟨b, j, none⟩ : Addr).block]? = _ from hh]
     simp
   · obtain ⟨u, hu, hr⟩ := h2 k hk
     refine ⟨u, ?_, hr⟩
     rw [← ht, List.getElem?_take_of_lt (by omega)] at hu
     simpa [World.cell?, hh] using hu
end
section
open Num
def cellsAt (w : World) (b off m : Nat) : List Value := (List.range m).map fun j => (w.cell? ⟨b, off + j, none⟩).getD .nilFunc
theorem cellsAt_len (w : World) (b off m : Nat) : (cellsAt w b off m).length = m := by simp [cellsAt]
theorem cellsAt_get {w : World} {b off m j : Nat} {v : Value} (h : j < m) (hv : w.cell? ⟨b, off + j, none⟩ = some v) : (cellsAt w b off m)[j]? = some v := by simp [cellsAt, h, hv]
theorem cellsAt_lt {w : World} {b off m j : Nat} {v : Value} (h : (cellsAt w b off m)[j]? = some v) : j < m := by
 have := (List.getElem?_eq_some_iff.1 h).1
 rwa [cellsAt_len] at this
theorem cellsAt_at {w W : World} (hW : Below w.heap.size w W) {b off m : Nat} (hc : ∀ j, j < m → ∃ v, w.cell? ⟨b, off + j, none⟩ = some v) : ∀ j u, (cellsAt w b off m)[j]? = some u → W.cell? ((⟨b, off, none⟩ : Addr).add j) = some u := by
 intro j u hj
 have hl := cellsAt_lt hj
 obtain ⟨v, hv⟩ := hc j hl
 rw [cellsAt_get hl hv] at hj
 cases hj
 have := bkeep hW hv
 unfold Addr.add
 split
 · subst_vars; simpa using this
 · exact this
theorem cellsAt_all {w : World} {b off m : Nat} {p : Value → Prop} (hc : ∀ j, j < m → ∃ v, w.cell? ⟨b, off + j, none⟩ = some v ∧ p v) : ∀ u ∈ cellsAt w b off m, p u := by
 intro u hu
 obtain ⟨j, hj⟩ := List.mem_iff_getElem?.1 hu
 have hl := cellsAt_lt hj
 obtain ⟨v, hv, hp⟩ := hc j hl
 rw [cellsAt_get hl hv] at hj
 cases hj; exact hp
theorem intsF_cells {R : World → Value → Int → Prop} {w : World} {b off n : Nat} {f : Nat → Int} (h : IntsF R w b off n f) : ∀ j, j < n * 2 → ∃ v, w.cell? ⟨b, off + j, none⟩ = some v ∧ v.oneCell' = true := by
 intro j hj
 obtain ⟨nb, a, len, c, h1, h2, _⟩ := h (j / 2) (by omega)
 by_cases e : j % 2 = 0
 · exact ⟨_, by rw [show off + j = off + j / 2 * 2 by omega]; exact h1, rfl⟩
 · exact ⟨_, by rw [show off + j = off + j / 2 * 2 + 1 by omega]; exact h2, rfl⟩
theorem ownF_of_cells {R : World → Value → Int → Prop} (hR : Lims R) {E : TypeId} {w w' : World} {b off n : Nat} {f : Nat → Int} {v' : Value} (h : IntsF R w b off n f) (hb : Below w.heap.size w w') (hO : w'.ownsRow w.heap.size E 2 v' n (cellsAt w b off (n * 2))) : OwnF R E w w' v' n f := by
 refine ⟨_, ⟨hO, hb⟩, fun k hk => ?_⟩
 obtain ⟨nb, a, len, c, h1, h2, h3⟩ := h k hk
 exact ⟨nb, a, len, c, cellsAt_get (by omega) h1, cellsAt_get (by omega) h2, hR _ _ _ _ h3 (.of_below hb)⟩
theorem cloneRow_c (base : Nat) (v : Value) (l : List Int) (w : World) (hv : PRow base w v l) (h1 : l.length ≤ 1099511627776) :
 Calls Tryz.prog 129 #[v] w fun e w' => (∃ v', e = .returned v' ∧ RowO IsInt 50 w.heap.size w' v' l) ∧ Below w.heap.size w w' := by
 obtain ⟨a, ca, rfl, hlc, hcm, hl⟩ := hv
 have hB0 := Below.refl w.heap.size w
 have hq := fun w => Lib.run_eql_slice_nil w 68 50 a l.length ca 0 0 Tryz.underlying68
 cases a with
 | none =>
  obtain rfl : l = [] := by rcases hl with h | ⟨b, off, h, _⟩
                            · exact h
                            · cases h
  have hq2 : ∀ w, (binOp .eql 68 (.slice none 0 ca) (.slice none 0 0)).run Tryz.prog w = .ok (.bool true) w := hq
  clear hq hl
  go_enter Tryz.func129, Tryz.ntmps129
  go_wp2
  go_ret
  exact ⟨⟨_, rfl, RowO.nil _ _ _ _⟩, Below.refl _ _⟩
 | some ad =>
  obtain ⟨i0, z0, hi, hz0, hz1, hz2, hz3⟩ := elInt.info
  obtain ⟨xs, hx1, hx2, hx3, HX⟩ : ∃ xs : List Value, xs.length = l.length * 2 ∧ (∀ (W : World), Below w.heap.size w W → ∀ j u, xs[j]? = some u → W.cell? (ad.add j) = some u) ∧ (∀ u ∈ xs, u.oneCell' = true) ∧
   Hid (∀ v' w', Below w.heap.size w w' → w'.ownsRow w.heap.size 50 2 v' l.length xs → RowO IsInt 50 w.heap.size w' v' l) := by
   rcases hl with rfl | ⟨b, off, h, hb, ht, hi'⟩
   · refine ⟨[], by simp, fun W hW j u hj => by simp at hj, fun u hu => by simp at hu, hZ fun v' w' hb' hO => ?_⟩
     have : OwnF IsInt 50 w w' v' ([] : List Int).length (fun k => ([] : List Int).getD k 0) := ⟨[], ⟨hO, hb'⟩, fun k hk => absurd hk (by simp)⟩
     exact this.rowO
   · cases h
     refine ⟨cellsAt w b off (l.length * 2), cellsAt_len _ _ _ _, fun W hW => cellsAt_at hW fun j hj => ?_, cellsAt_all (intsF_cells hi'), hZ fun v' w' hb' hO => ?_⟩
     · obtain ⟨v, hv, _⟩ := intsF_cells hi' j hj; exact ⟨v, hv⟩
     · exact (ownF_of_cells lims_int hi' hb' hO).rowO
  clear hl
  have ho : (w.alloc (.cells #[] 50)).ownsRow w.heap.size 50 2 (.slice (some ⟨w.heap.size, 0, none⟩) 0 0) 0 [] := ⟨rfl, .inr ⟨w.heap.size, 0, #[], rfl, Nat.le_refl _, (MapKept.heap_alloc w _).1, Nat.le_refl _, by unfold maxLen; omega, rfl, rfl⟩⟩
  go_enter Tryz.func129, Tryz.ntmps129
  go_wp2_with (at_builtin; refine wpList_append_own _ rfl _ _ 68 rfl w.heap.size 50 i0 z0 2 32 Tryz.underlying68 hi hz0 hz1 hz2 hz3 (by decide) _ 0 [] rfl ho ad l.length ca xs rfl hx1 (hx2 _ (bal hB0 _)) hx3 (by unfold maxLen; omega) (by omega) (by simp) ?_)
  intro v' w1 hown hgrow _
  have hbel := below_append (wr := w) (bal hB0 _) ho hgrow
  try simp only [Nat.zero_add, List.nil_append] at hown
  have hr := HX.out v' w1 hbel hown
  have HU := hZ hr
  obtain ⟨a', c', rfl⟩ := hr.ex
  clear hr
  clear hown hx1 hx2 hx3 hq hgrow ho
  go_wp2
  go_ret
  exact ⟨⟨_, rfl, HU.out⟩, hbel⟩
end
end Go.Proofs.YtbmaffijncapiaaGreatDoor
namespace Det
abbrev M := Nat → Nat → Rat
def sum (n : Nat) (f : Nat → Rat) : Rat := match n with
 | 0 => 0
 | n + 1 => sum n f + f n
def sg (i : Nat) : Rat := if i % 2 = 0 then 1 else -1
def skip (i k : Nat) : Nat := if k < i then k else k + 1
def minor (m : M) (i : Nat) : M := fun r c => m (skip i r) (c + 1)
def det : Nat → M → Rat
 | 0, _ => 1
 | n + 1, m => sum (n + 1) fun i => sg i * m i 0 * det n (minor m i)
def upd (m : M) (r : Nat) (f : Nat → Rat) : M := fun i j => if i = r then f j else m i j
def down (i r : Nat) : Nat := if r < i then r else r - 1
structure Alt (n : Nat) (f : M → Rat) : Prop where
 congr : ∀ a b : M, (∀ i j, i < n → j < n → a i j = b i j) → f a = f b
 lin : ∀ (m : M) (r : Nat) (g h : Nat → Rat) (a b : Rat), r < n → f (upd m r fun j => a * g j + b * h j) = a * f (upd m r g) + b * f (upd m r h)
 adj : ∀ (m : M) (r : Nat), r + 1 < n → (∀ j, m r j = m (r + 1) j) → f m = 0
section
variable {n : Nat} {f : M → Rat}
def cl (m : M) (k : Nat) (g : Nat → Rat) (t : Nat) : M := fun i j => if i < t ∧ i ≠ k then m i j + g i * m k j else m i j
end
def I : M := fun i j => if i = j then 1 else 0
def mul (n : Nat) (a b : M) : M := fun i j => sum n fun k => a i k * b k j
def min2 (m : M) (a b : Nat) : M := fun r c => m (skip a r) (skip b c)
def adj (n : Nat) (m : M) : M := fun i j => sg (i + j) * det n (min2 m j i)
end Det
namespace Det
def nc (k : Nat) (t : M) : M := fun i j => t i (if j = k then k + 1 else j)
end Det
namespace Det
def cst (a : Nat → Nat → Int) : M := fun i j => (a i j : Rat)
def fr (g : Nat → Nat → Int) (j : Nat) : Nat → Nat → Nat
 | 0, i => i
 | d + 1, i => if g i j = 0 then fr g j d (i + 1) else i
structure El where
 g : Nat → Nat → Int
 p : List Nat
 last : Int
 sign : Int
def elNew (g : Nat → Nat → Int) (k j : Nat) (last : Int) (r c : Nat) : Int := (g k j * g r c - g r j * g k c) / last
def bord (a : Nat → Nat → Int) (q : Nat → Nat) (p : List Nat) (k r c : Nat) : M := fun i t => (a (q (if i < k then i else r)) (if t < k then p.getD t 0 else c) : Rat)
def q2 (q : Nat → Nat) (i k : Nat) : Nat → Nat := fun r => if r = i then q k else if r = k then q i else q r
structure Inv (n m : Nat) (a : Nat → Nat → Int) (s : El) (j : Nat) (q : Nat → Nat) : Prop where
 k : s.p.length ≤ n
 q1 : ∀ i, i < n → q i < n
 q2 : ∀ i i', i < n → i' < n → q i = q i' → i = i'
 q3 : ∀ x, x < n → ∃ i, i < n ∧ q i = x
 sgn : s.sign = 1 ∨ s.sign = -1
 alt : ∀ f, Alt n f → f (fun r c => (a (q r) c : Rat)) = s.sign * f (cst a)
 nz : s.last ≠ 0
 last : (s.last : Rat) = det s.p.length fun r c => (a (q r) (s.p.getD c 0) : Rat)
 gm : ∀ r c, s.p.length ≤ r → r < n → c < m → (s.g r c : Rat) = det (s.p.length + 1) (bord a q s.p s.p.length r c)
 ze : ∀ r c, s.p.length ≤ r → r < n → c < j → s.g r c = 0
 inc : ∀ i i', i < i' → i' < s.p.length → s.p.getD i 0 < s.p.getD i' 0
 top : ∀ i, i < s.p.length → s.p.getD i 0 < j
end Det
