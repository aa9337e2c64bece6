/- Texts of this seat, laid together: LimbL, TxtL, TxtI, Rnh. Each opens with its own remark, which says what it proves, and under which conditions. -/
import Derived.Test.YthlphfjmdgcpdaaGreatDoorW09
import Derived.Test.YthlphfjmdgcpdaaGreatDoorW04
import Derived.Test.YthlphfjmdgcpdaaGreatDoorW06
import Derived.Test.YthlphfjmdgcpdaaGreatDoorW05
import Derived.ArgAppend
import Derived.Deep.DeepFit
import Derived.Test.YthlphfjmdgcpdaaGreatDoorW08
import Derived.Test.YthlphfjmdgcpdaaGreatDoorW07
import Derived.Laws.RangeString
import Derived.Lib.OthersKept
import Derived.Test.YthlphfjmdgcpdaaGreatDoorW03
set_option linter.unusedVariables false
set_option linter.unusedSimpArgs false
/- limb: DivMod. -/
namespace Go.Proofs.YthlphfjmdgcpdaaGreatDoor
open Num
open Go.ChangeShapes Go.WideShapes Go.ChangeAt Go.RowKit
set_option linter.unusedVariables false
set_option linter.unusedSimpArgs false
namespace Num
theorem nrm_len_le {l : List Nat} {k : Nat} (hn : Nrm l) (h : val l < BB ^ k) : l.length ≤ k := by
  by_cases h0 : l = []
  · subst h0; simp
  · have h1 := nrm_val_pos hn h0
    have h2 := Nat.lt_of_le_of_lt h1 h
    have := (Nat.pow_lt_pow_iff_right (a := BB) (by unfold BB; omega)).1 h2
    omega
theorem le_len {l : List Nat} {k : Nat} (hl : Limbs l) (h : BB ^ k ≤ val l) : k < l.length := by
  have h2 := Nat.lt_of_le_of_lt h (val_lt hl)
  exact (Nat.pow_lt_pow_iff_right (a := BB) (by unfold BB; omega)).1 h2
/-- shifted so that the highest limb is great -/
theorem shift_top {m : List Nat} {p : Nat} (hm : Limbs m) (hn : Nrm m) (hp : m.length = p + 1) : bitN (m.getD p 0) ≤ 32 ∧ 1 ≤ bitN (m.getD p 0) ∧ 2147483648 * BB ^ p ≤ val m * 2 ^ (32 - bitN (m.getD p 0)) ∧ val m * 2 ^ (32 - bitN (m.getD p 0)) < BB ^ (p + 1) := by
  have ht := limb_get hm p
  have hs : val m = val (m.take p) + m.getD p 0 * BB ^ p := by
    have := val_take_succ (l := m) (k := p) (by omega)
    rwa [List.take_of_length_le (by omega)] at this
  have h0 : m.getD p 0 ≠ 0 := by
    have := hn (by intro e; subst e; simp at hp)
    rw [List.getLast_eq_getElem] at this
    simpa [hp] using this
  have hlow : val (m.take p) < BB ^ p := by
    have := val_lt (l := m.take p) (fun x hx => hm x (List.mem_of_mem_take hx))
    rwa [List.length_take, Nat.min_eq_left (by omega)] at this
  generalize m.getD p 0 = t at *
  have e : bitN t = t.log2 + 1 := by unfold bitN; rw [if_neg h0]
  have k1 := Nat.log2_self_le h0
  have k2 := @Nat.lt_log2_self t
  have hl : t.log2 < 32 := by
    apply Nat.lt_of_not_le
    intro h32
    have : 2 ^ 32 ≤ 2 ^ t.log2 := Nat.pow_le_pow_right (by omega) h32
    unfold BB at ht
    omega
  rw [e]
  generalize t.log2 = b at *
  have e31 : 2 ^ b * 2 ^ (32 - (b + 1)) = 2147483648 := by rw [← Nat.pow_add, show b + (32 - (b + 1)) = 31 by omega]
  have e32 : 2 ^ (b + 1) * 2 ^ (32 - (b + 1)) = BB := by rw [← Nat.pow_add, show b + 1 + (32 - (b + 1)) = 32 by omega]; rfl
  generalize 2 ^ (32 - (b + 1)) = K at *
  refine ⟨by omega, by omega, ?_, ?_⟩
  · rw [hs, ← e31]
    have h1 : 2 ^ b * BB ^ p ≤ t * BB ^ p := Nat.mul_le_mul k1 (Nat.le_refl _)
    have h2 : 2 ^ b * BB ^ p * K ≤ (val (List.take p m) + t * BB ^ p) * K := Nat.mul_le_mul (by omega) (Nat.le_refl _)
    have : 2 ^ b * K * BB ^ p = 2 ^ b * BB ^ p * K := by ac_rfl
    omega
  · rw [hs, Nat.pow_succ]
    have h1 : (t + 1) * BB ^ p ≤ 2 ^ (b + 1) * BB ^ p := Nat.mul_le_mul k2 (Nat.le_refl _)
    rw [Nat.add_mul] at h1
    have hK : 0 < K := by
      rcases Nat.eq_zero_or_pos K with h | h
      · subst h; unfold BB at e32; omega
      · exact h
    have h2 : (val (List.take p m) + t * BB ^ p) * K < 2 ^ (b + 1) * BB ^ p * K := Nat.mul_lt_mul_of_pos_right (by omega) hK
    have : 2 ^ (b + 1) * BB ^ p * K = BB ^ p * BB := by rw [← e32]; ac_rfl
    omega
theorem top_of_val {V : List Nat} {p : Nat} (hV : Limbs V) (hp : V.length = p + 1) (h : 2147483648 * BB ^ p ≤ val V) : 2147483648 ≤ V.getD p 0 := by
  have hs : val V = val (V.take p) + V.getD p 0 * BB ^ p := by
    have := val_take_succ (l := V) (k := p) (by omega)
    rwa [List.take_of_length_le (by omega)] at this
  have hlow : val (V.take p) < BB ^ p := by
    have := val_lt (l := V.take p) (fun x hx => hV x (List.mem_of_mem_take hx))
    rwa [List.length_take, Nat.min_eq_left (by omega)] at this
  apply Nat.le_of_not_lt
  intro hlt
  have : (V.getD p 0 + 1) * BB ^ p ≤ 2147483648 * BB ^ p := Nat.mul_le_mul hlt (Nat.le_refl _)
  rw [Nat.add_mul] at this
  omega
/-- the division, a digit further down -/
theorem dm_pre {U : List Nat} {k n D : Nat} (hU : Limbs U) (hk : k + n < U.length) (hh : val (U.drop (k + 1)) < D) (hD : D < BB ^ n) : win U k (n + 1) = val (U.drop k) ∧ val (U.drop k) < D * BB := by
  have e : U.drop k = U.getD k 0 :: U.drop (k + 1) := by
    rw [List.drop_eq_getElem_cons (by omega)]
    simp [show k < U.length by omega]
  have h1 : val (U.drop k) = U.getD k 0 + BB * val (U.drop (k + 1)) := by rw [e]; rfl
  have h2 := limb_get hU k
  refine ⟨?_, ?_⟩
  · unfold win
    rw [e, List.take_succ_cons, val, val]
    congr 2
    -- what is above the window is nothing
    have hL : Limbs (U.drop (k + 1)) := fun x hx => hU x (List.mem_of_mem_drop hx)
    have hlt := Nat.lt_trans hh hD
    generalize U.drop (k + 1) = T at *
    conv => rhs; rw [← List.take_append_drop n T]
    rw [val_append]
    by_cases hn : T.length ≤ n
    · rw [List.drop_eq_nil_of_le hn]; simp [val]
    · rw [List.length_take, Nat.min_eq_left (by omega)]
      have h3 : val (T.drop n) = val T / BB ^ n := val_drop hL (by omega)
      rw [h3, Nat.div_eq_of_lt hlt]; simp
  · rw [h1]
    have : (val (U.drop (k + 1)) + 1) * BB ≤ D * BB := Nat.mul_le_mul hh (Nat.le_refl _)
    rw [Nat.add_mul] at this
    rw [Nat.mul_comm BB]
    omega
theorem win_drop {O : List Nat} {k n : Nat} (hO : Limbs O) (h0 : ∀ j, k + n ≤ j → O.getD j 0 = 0) : val (O.drop k) = win O k n := by
  unfold win
  conv => lhs; rw [← List.take_append_drop n (O.drop k)]
  rw [val_append]
  have : val ((O.drop k).drop n) = 0 := by
    rw [List.drop_drop]
    have hz : ∀ l : List Nat, (∀ j, l.getD j 0 = 0) → val l = 0 := by
      intro l
      induction l with
      | nil => intro _; rfl
      | cons x l ih =>
        intro h
        have h1 := h 0
        have h2 := ih fun j => by have := h (j + 1); simpa using this
        simp at h1
        simp [val, h1, h2]
    refine hz _ fun j => ?_
    have := h0 (k + n + j) (by omega)
    simpa [List.getElem?_drop] using this
  rw [this]; simp
theorem getD_zero {T : List Nat} {n t : Nat} (hT : Limbs T) (h : val T < BB ^ n) (ht : n ≤ t) : T.getD t 0 = 0 := by
  by_cases hl : t < T.length
  · have hs := val_split hl
    apply Nat.eq_zero_of_not_pos
    intro hp
    have h1 : BB ^ t * 1 ≤ BB ^ t * (T.getD t 0 + BB * val (T.drop (t + 1))) := Nat.mul_le_mul (Nat.le_refl _) (by omega)
    have h2 : BB ^ n ≤ BB ^ t := Nat.pow_le_pow_right BB_pos ht
    omega
  · simp [show T.length ≤ t by omega]
/-- one digit of the whole division -/
theorem dm_step {U O Q : List Nat} {j n D A d : Nat} (hU : Limbs U) (hO : Limbs O) (hl : O.length = U.length) (hj : j + n < U.length) (hQ : j < Q.length) (hq0 : Q.getD j 0 = 0) (hD : D < BB ^ n) (hD0 : 0 < D)
    (hh : val (U.drop (j + 1)) < D) (hA : val Q * D + val U = A) (ho : ∀ i, i < j ∨ j + (n + 1) ≤ i → O.getD i 0 = U.getD i 0) (hd : d = win U j (n + 1) / D) (hw : win O j (n + 1) = win U j (n + 1) % D) :
    val (Q.set j d) * D + val O = A ∧ val (O.drop j) < D := by
  obtain ⟨h1, h2⟩ := dm_pre hU hj hh hD
  have hz : ∀ i, j + (n + 1) ≤ i → O.getD i 0 = 0 := fun i hi => by
    rw [ho i (.inr hi)]
    have := getD_zero (T := U.drop (j + 1)) (fun x hx => hU x (List.mem_of_mem_drop hx)) (Nat.lt_trans hh hD) (show n ≤ i - (j + 1) by omega)
    simpa [List.getElem?_drop, show j + 1 + (i - (j + 1)) = i by omega] using this
  have h3 := win_drop hO hz
  have h4 : val (O.drop j) < D := by rw [h3, hw]; exact Nat.mod_lt _ hD0
  refine ⟨?_, h4⟩
  have ht : O.take j = U.take j := by
    apply List.ext_getElem?
    intro i
    simp only [List.getElem?_take]
    by_cases hi : i < j
    · rw [if_pos hi, if_pos hi]
      have := ho i (.inl hi)
      simpa [show i < O.length by omega, show i < U.length by omega] using this
    · rw [if_neg hi, if_neg hi]
  have hO2 := val_cut (U := O) (k := j) (by omega)
  have hU2 := val_cut (U := U) (k := j) (by omega)
  rw [ht, h3, hw] at hO2
  rw [← h1] at hU2
  have e := Nat.div_add_mod (win U j (n + 1)) D
  rw [← hd] at e
  have e2 := congrArg (BB ^ j * ·) e
  simp only [Nat.mul_add] at e2
  have e3 := val_set0 (l := Q) d hQ hq0
  rw [e3, Nat.add_mul]
  have e4 : d * BB ^ j * D = BB ^ j * (D * d) := by ac_rfl
  omega
theorem dm_end {A B s Q R : Nat} (hB : 0 < B) (h : Q * (B * 2 ^ s) + R = A * 2 ^ s) (hR : R < B * 2 ^ s) : A / B = Q ∧ A % B = R / 2 ^ s := by
  have hp : 0 < 2 ^ s := Nat.pow_pos (by omega)
  have hd := kn_done (N := A * 2 ^ s) (D := B * 2 ^ s) (g := A * 2 ^ s / (B * 2 ^ s)) (W := A * 2 ^ s % (B * 2 ^ s)) (Nat.mul_pos hB hp) (Nat.le_refl _) (by rw [Nat.add_comm]; exact Nat.div_add_mod _ _)
  have e1 : A * 2 ^ s / (B * 2 ^ s) = Q := by
    rw [← h, Nat.add_comm, Nat.add_mul_div_right _ _ (Nat.mul_pos hB hp), Nat.div_eq_of_lt hR, Nat.zero_add]
  have e2 : A * 2 ^ s % (B * 2 ^ s) = R := by
    rw [← h, Nat.add_comm, Nat.add_mul_mod_self_right, Nat.mod_eq_of_lt hR]
  rw [Nat.mul_div_mul_right _ _ hp] at e1
  rw [Nat.mul_mod_mul_right] at e2
  exact ⟨e1, by rw [← e2, Nat.mul_div_cancel _ hp]⟩
end Num

theorem NewL.keep {w w' : World} {u : Value} {v : Nat} (h : NewL w u v) (hb : Below w.heap.size w w') : NewL w' u v := by
  obtain ⟨a, n, L, h1, h2, h3, h4⟩ := h
  exact ⟨a, n, L, h1, h2, h3.keep hb, h4⟩

set_option maxRecDepth 100000 in
set_option maxHeartbeats 8000000 in
theorem divmod_small (a b : Option Addr) (ca cb : Nat) (l lb : List Nat) (w : World) (ha : U32 w a ca l) (hb : U32 w b cb lb) (h1 : l.length ≤ 1099511627776) (h2 : lb.length ≤ 1099511627776) (h0 : 0 < val lb) (hs : val l < val lb ∨ (trimL lb).length = 1) :
    Calls Tryz.prog 124 #[.slice a l.length ca, .slice b lb.length cb] w fun e w' => (∃ u v, e = .returned (.tuple #[u, v, .int .i64 0]) ∧ NewL w' u (val l / val lb) ∧ NewL w' v (val l % val lb)) ∧ Below w.heap.size w w' := by
  have tc := trim_c b cb lb w hb
  have hbt := hb.trim
  have hbn := trim_nrm lb
  have h3 := Nat.le_trans (trim_len lb) h2
  rw [← val_trim lb] at *
  generalize trimL lb = m at *
  have cc := fun W (hB : Below w.heap.size w W) => limbCmp_c a b ca m.length l m W (ha.keep hB) (hbt.keep hB)
  have hcz := cmpN_neg (x := val l) (y := val m)
  have hm0 : m ≠ [] := by intro e; subst e; simp [val] at h0
  have hml : 0 < m.length := List.length_pos_iff.2 hm0
  have hmz : ((m.length : Int) == 0) = false := by simp; exact hm0
  by_cases hlt : val l < val m
  · have nc := fun W (hB : Below w.heap.size w W) => limbNorm_c a ca l W (ha.keep hB) h1
    have HD := Lib.hid (And.intro (Nat.div_eq_of_lt hlt) (Nat.mod_eq_of_lt hlt))
    have HL := Lib.hid (val_trim l)
    have HN := Lib.hid (trim_nrm l)
    rw [show decide (val l < val m) = true from by simpa using hlt] at hcz
    clear hlt hs
    generalize cmpN (val l) (val m) = z at *
    generalize trimL l = L at *
    go_enter Tryz.func124, Tryz.ntmps124
    go_wp2_with fail
    refine tc.mono ?_
    rintro e w1 ⟨rfl, rfl⟩
    clear tc
    go_wp2_with fail
    refine (cc _ (Below.refl _ _)).mono ?_
    rintro e w1 ⟨rfl, hb1⟩
    go_wp2_with fail
    refine (nc _ hb1).mono ?_
    rintro e w2 ⟨⟨a', rfl, hu⟩, hb2⟩
    go_wp2
    go_ret3
    exact ⟨⟨_, _, rfl, by rw [HD.out.1]; exact newL_nil _, ⟨a', _, L, rfl, rfl, hu, HN.out, by rw [HL.out, HD.out.2]⟩⟩, bthen hb1 hb2⟩
  · rcases hs with hs | hs
    · exact absurd hs hlt
    obtain ⟨c, rfl⟩ : ∃ c, m = [c] := List.length_eq_one_iff.1 hs
    have hc : val [c] = c := by simp [val]
    have hcB : c < BB := hbt.2.2.1 c (by simp)
    rw [hc] at hcz hlt h0 ⊢
    simp only [hc] at cc
    rcases hbt.2.2.2 with hn | ⟨bb, ob, rfl, hcell⟩
    · cases hn
    have c0 := hcell 0 (by simp)
    simp only [List.getD_cons_zero, Nat.add_zero] at c0
    rw [show decide (val l < c) = false from by simpa using hlt] at hcz
    have dc := fun W (hB : Below w.heap.size w W) => divSmall_c a ca l c W (ha.keep hB) h1 h0 hcB
    clear hlt hs hc hcell
    have nc := fun (g : Nat) W (hB : Below w.heap.size w W) (hg : g = W.heap.size) => limbNorm_c (some ⟨g, 0, none⟩) 1 [val l % c] (W.alloc (.cells (cel [val l % c]).toArray 121)) ((blk_at hg).u32 (fun x hx => by simp at hx; subst hx; exact Nat.lt_trans (Nat.mod_lt _ h0) hcB) (by simp [maxLen])) (by simp)
    generalize hr : val l % c = r at *
    have HL := Lib.hid (show val (trimL [r]) = r by rw [val_trim]; simp [val])
    have HN := Lib.hid (trim_nrm [r])
    generalize trimL [r] = L at *
    generalize cmpN (val l) c = z at *
    simp only [List.length_cons, List.length_nil, Nat.zero_add] at *
    clear hr
    go_enter Tryz.func124, Tryz.ntmps124
    go_wp2_with fail
    refine tc.mono ?_
    rintro e w1 ⟨rfl, rfl⟩
    clear tc
    go_wp2_with fail
    refine (cc _ (Below.refl _ _)).mono ?_
    rintro e w1 ⟨rfl, hb1⟩
    have k0 := bkeep hb1 c0
    go_wp2_with fail
    refine (dc _ hb1).mono ?_
    rintro e w2 ⟨⟨u, rfl, hq⟩, hb2⟩
    have HQ := Lib.hid hq
    obtain ⟨a1, n1, L1, rfl, -⟩ := hq
    have hB2 := bthen hb1 hb2
    clear dc cc hb1 hb2
    go_wp2_with fail
    refine (nc _ _ hB2 rfl).mono ?_
    rintro e w3 ⟨⟨a', rfl, hu⟩, hb3⟩
    go_wp2
    go_ret3
    exact ⟨⟨_, _, rfl, HQ.out.keep (bthen (bal (Below.refl _ _) _) hb3), ⟨a', _, L, rfl, rfl, hu, HN.out, HL.out⟩⟩, bthen (bal hB2 _) hb3⟩
end Go.Proofs.YthlphfjmdgcpdaaGreatDoor

/- limb: Text. -/
namespace Go.Proofs.YthlphfjmdgcpdaaGreatDoor
open Num
open Go.ChangeShapes Go.WideShapes Go.ChangeAt Go.RowKit
set_option linter.unusedVariables false
set_option linter.unusedSimpArgs false
theorem app32l {ops : Array Oper} {rest : List Oper} {o : Oper} {a : Act} {Q : Exit → Act → World → Prop} {w0 wr : World} {v : Value} {L X : List Nat} {t : TypeId} (hgd : o.guard = none) {s x : Operand}
    (ho : o.op = .call { callee := .builtin .append, args := #[s, x], argTypes := #[34, 34] }) (hO : Own32 w0 wr v L) (hs : a.eval s = v)
    {c : Nat} (hx : a.eval x = .slice (some ⟨wr.heap.size, 0, none⟩) X.length c) (hn : L.length + X.length ≤ 1099511627776)
    (h : ∀ v' w', Own32 w0 w' v' (L ++ X) → (∀ (ad : Option Addr) (cd : Nat) (M : List Nat), U32 wr ad cd M → (∀ g f, ad = some ⟨g, f, none⟩ → v.ownBlock ≠ some g) → U32 w' ad cd M) → wpList Tryz.prog ops Q rest (a.put o.dst v') w') : wpList Tryz.prog ops Q (o :: rest) a (wr.alloc (.cells (cel X).toArray t)) := by
  obtain ⟨i, z, hi, hz, hsize, hby, hzs⟩ := el32.info
  refine wpList_append_own _ hgd s x 34 ho w0.heap.size 121 i z 1 4 el32.ht hi hz hsize hby hzs el32.pos v L.length (cel L) hs (hO.1.alloc _) ⟨wr.heap.size, 0, none⟩ X.length c (cel X) hx (by rw [cel_len, Nat.mul_one]) (cells_new wr _ t) (cel_one X) (by unfold maxLen; omega) (by omega) (by have := hO.2.size; simp; omega) ?_
  intro v' w' hown hg _
  have ho : Out (fun k => v.ownBlock = some k) wr w' := ((Out.refl _ wr).alloc _).grown hg fun k hk _ => hk
  exact h v' w' ⟨by rw [cel_app, List.length_append]; exact hown, below_append (wr := wr) (bal hO.2 _) (hO.1.alloc _) hg⟩ fun ad cd M hu hne => hu.okeep ho fun q f e hq => hne q f e hq
theorem Bld.keep {B b : Nat} {l : List UInt8} {w w' : World} (h : Bld B b l w) (hb : Below w.heap.size w w') : Bld B b l w' := by
  have key : ∀ p, Lib.BuilderAt 166 5 B b p (Lib.byteCells l) w → Lib.BuilderAt 166 5 B b p (Lib.byteCells l) w' := by
    rintro p ⟨h1, v, h2, h3, h4⟩
    exact ⟨h1, v, (hb.block b (Array.getElem?_eq_some_iff.1 h2).1).trans h2, own_below (w0 := w) h3 hb, h4⟩
  rcases h with h | h
  · exact .inl (key _ h)
  · exact .inr (key _ h)
theorem Bld.new {w : World} {b : Nat} (hb : b = w.heap.size) : Bld b b [] (w.alloc (.cells #[.pointer none, .slice none 0 0] 166)) := by
  subst hb
  exact .inl ⟨Nat.le_refl _, .slice none 0 0, (MapKept.heap_alloc w _).1, World.ownsRow_nil _ _ _ _, by simp [Value.ownBlock]⟩
theorem pcs_len (k : Nat) : ∀ n, n < 2 ^ k → (pcs n).length ≤ k := by
  induction k with
  | zero => intro n h; obtain rfl : n = 0 := by simpa using h
            rw [pcs_zero]; simp
  | succ k ih =>
    intro n h
    by_cases h0 : 0 < n
    · rw [pcs_pos h0]
      have := ih (n / 1000000000) (by rw [Nat.pow_succ] at h; omega)
      simp; exact this
    · obtain rfl : n = 0 := by omega
      rw [pcs_zero]; simp
theorem pcs_bound {l : List Nat} (hl : Limbs l) (h1 : l.length ≤ 67108865) {P Q : List Nat} (h : pcs (val l) = P ++ Q) : P.length ≤ 2147483680 := by
  have h2 := val_lt hl
  rw [BB_pow] at h2
  have h3 := pcs_len _ _ h2
  rw [h, List.length_append] at h3
  omega
/-- what nine bytes hold when j noughts are left -/
def Z9 (j m p : Nat) : List UInt8 := List.replicate j 0 ++ asc (padD m p)
theorem Z9_len (j m p : Nat) : (Z9 j m p).length = j + m := by simp [Z9, asc_len, padD_len]
theorem rep_set (j : Nat) (T : List UInt8) (d : UInt8) : (List.replicate (j + 1) 0 ++ T).set j d = List.replicate j 0 ++ d :: T := by
  induction j with
  | zero => rfl
  | succ j ih =>
    rw [List.replicate_succ, List.cons_append, List.set_cons_succ, ih]; rfl
theorem Z9_step (j m p : Nat) : (Z9 (j + 1) m p).set j (dig (p / 10 ^ m % 10)) = Z9 j (m + 1) p := by
  unfold Z9
  rw [rep_set, padD_snoc, asc_append]; rfl
theorem Z9_end (p : Nat) : Z9 0 9 p = asc (padD 9 p) := rfl
theorem lowP_top {P : List Nat} {k : Nat} (h : k + 1 = P.length) : lowP (P.drop k) = lowD (P.getD k 0) := by
  have e : P.drop k = [P.getD k 0] := by
    rw [List.drop_eq_getElem_cons (by omega), List.drop_eq_nil_of_le (by omega)]
    simp [List.getElem?_eq_getElem (show k < P.length by omega)]
  rw [e]; rfl
theorem lowP_low {P : List Nat} {k : Nat} (h : k + 1 < P.length) : lowP (P.drop k) = padD 9 (P.getD k 0) ++ lowP (P.drop (k + 1)) := by
  rw [List.drop_eq_getElem_cons (by omega), lowP_cons (by intro h0; have := congrArg List.length h0; simp at this; omega)]
  simp [List.getElem?_eq_getElem (show k < P.length by omega)]
theorem lowP_len : ∀ L : List Nat, (∀ x ∈ L, x < 1000000000) → (lowP L).length ≤ 9 * L.length
  | [], _ => by simp [lowP]
  | [p], h => by
    have := (padD_low 9 p (h p (by simp))).2
    simpa [lowP] using this
  | p :: q :: L, h => by
    have := lowP_len (q :: L) (fun x hx => h x (List.mem_cons_of_mem _ hx))
    rw [lowP_cons (by simp), List.length_append, padD_len]
    simp only [List.length_cons] at this ⊢
    omega
theorem zeroArr9 : ∀ w, (zeroValue 205).run Tryz.prog w = .ok (.agg #[.int .u8 0, .int .u8 0, .int .u8 0, .int .u8 0, .int .u8 0, .int .u8 0, .int .u8 0, .int .u8 0, .int .u8 0]) w := fun w => by kernel_rfl
/-- nine bytes in a block -/
structure Arr9 (w : World) (g : Nat) (Z : List UInt8) : Prop where
  cell : ∀ j, j < 9 → w.cell? ⟨g, j, none⟩ = some (.int .u8 ((Z.getD j 0).toNat : Nat))
  free : ∀ j, w.frozen? ⟨g, j, none⟩ = false
theorem Arr9.new (w : World) (p : Nat) : Arr9 (w.alloc (.cells #[.int .u8 0, .int .u8 0, .int .u8 0, .int .u8 0, .int .u8 0, .int .u8 0, .int .u8 0, .int .u8 0, .int .u8 0] 205)) w.heap.size (Z9 9 0 p) := by
  have hz : ∀ j, (Z9 9 0 p).getD j 0 = 0 := fun j => by
    simp [Z9, asc, padD]
    exact match j with | 0 => rfl | 1 => rfl | 2 => rfl | 3 => rfl | 4 => rfl | 5 => rfl | 6 => rfl | 7 => rfl | 8 => rfl | n + 9 => rfl
  refine ⟨fun j hj => ?_, fun j => by rw [World.frozen?_alloc_at (hn := by simp)]⟩
  rw [hz]
  refine cell_new rfl ?_
  have : j = 0 ∨ j = 1 ∨ j = 2 ∨ j = 3 ∨ j = 4 ∨ j = 5 ∨ j = 6 ∨ j = 7 ∨ j = 8 := by omega
  rcases this with rfl | rfl | rfl | rfl | rfl | rfl | rfl | rfl | rfl <;> rfl
theorem Arr9.set {w : World} {g : Nat} {Z : List UInt8} (h : Arr9 w g Z) (hZ : Z.length = 9) {k : Nat} (hk : k < 9) (x : UInt8) : Arr9 (w.setCell ⟨g, k, none⟩ (.int .u8 (x.toNat : Nat))) g (Z.set k x) := by
  refine ⟨fun j hj => ?_, fun j => by rw [World.frozen?_setCell]; exact h.free j⟩
  by_cases e : k = j
  · subst e
    rw [cell_here (h.cell k hk)]
    simp [hZ, hk]
  · rw [cell_far (h.cell j hj) (by first | (simp; done) | (simp; exact e))]
    simp [List.getElem?_set_ne e]

set_option maxRecDepth 100000 in
set_option maxHeartbeats 8000000 in
theorem limbText_c (a : Option Addr) (ca : Nat) (l : List Nat) (w : World) (ha : U32 w a ca l) (h1 : l.length ≤ 67108865) :
    Calls Tryz.prog 136 #[.slice a l.length ca] w fun e w' => e = .returned (.string ⟨(natTxt (val l)).toArray⟩) ∧ Below w.heap.size w w' := by
  have nc := limbNorm_c a ca l w ha (by omega)
  have HTV := Lib.hid (val_trim l)
  have hTN := trim_nrm l
  have hTl := Nat.le_trans (trim_len l) h1
  have HPL := Lib.hid (show ∀ P Q, pcs (val l) = P ++ Q → P.length ≤ 2147483680 from fun P Q h => pcs_bound ha.2.2.1 h1 h)
  generalize trimL l = T at *
  go_enter Tryz.func136, Tryz.ntmps136
  go_wp2_with fail
  refine nc.mono ?_
  rintro e w0 ⟨⟨a0, rfl, hu0⟩, hb0⟩
  clear nc
  go_wp2
  go_loopg [3, 4] (val T) (fun gk d v wr => ∃ (P : List Nat) (ad : Option Addr) (cd : Nat) (L : List Nat), v = .slice ad L.length cd ∧ U32 wr ad cd L ∧ Nrm L ∧ L.length ≤ 67108865 ∧ gk = val L ∧ Own32 w0 wr d P ∧ pcs (val l) = P ++ pcs (val L))
  case atStart => exact ⟨[], a0, _, T, rfl, hu0, hTN, hTl, rfl, Own32.nil (Below.refl _ _), by rw [HTV.out]; rfl⟩
  case round =>
    obtain ⟨P, ad, cd, L, rfl, hu, hn, hlm, hgk, hO, hP⟩ := hrel
    have HP := Lib.hid (And.intro hgk hP)
    clear hgk hP
    have hPl : P.length ≤ 2147483680 := HPL.out _ _ HP.out.2
    by_cases hL : 0 < L.length
    · have hLz : (0 : Int) < (L.length : Int) := by omega
      have hv0 : 0 < val L := by
        have h1 := nrm_val_pos hn (List.length_pos_iff.1 hL)
        have : 0 < BB ^ (L.length - 1) := Nat.pow_pos BB_pos
        omega
      have dc := fun (W : World) (h : Below wr.heap.size wr W) => divSmallF_c ad cd L 1000000000 W (hu.keep h) (by omega) (by omega) (by unfold BB; omega)
      have HN := Lib.hid (show pcs (val L) = val L % 1000000000 :: pcs (val L / 1000000000) from pcs_pos hv0)
      have HLT := Lib.hid (show val L / 1000000000 < val L by omega)
      have hr9 : val L % 1000000000 < 1000000000 := Nat.mod_lt _ (by omega)
      have HQL := Lib.hid (show ∀ Q : List Nat, Nrm Q → val Q = val L / 1000000000 → Q.length ≤ 67108865 from fun Q hQ hv => by
        refine Nat.le_trans (nrm_len_le (k := L.length) hQ ?_) hlm
        have := val_lt hu.2.2.1
        omega)
      go_wp2_with fail
      refine (dc _ (Below.refl _ _)).mono ?_
      rintro e w2 ⟨⟨u, rfl, hq, hqf⟩, hb2⟩
      have hO2 := hO.below hb2
      have HLT2 := Lib.hid hO.1.lt
      have HQF := Lib.hid hqf
      clear dc hO hu hqf
      obtain ⟨aq, nq, Lq, rfl, rfl, hqu, hqn, hqv⟩ := hq
      have hLqm := HQL.out Lq hqn hqv
      have HV := Lib.hid hqv
      clear hqv
      obtain ⟨r, hr⟩ : ∃ r, r = val L % 1000000000 := ⟨_, rfl⟩
      rw [← hr] at hr9
      have HR := Lib.hid hr
      rw [← hr]
      clear hr
      go_wp2_with (at_builtin; refine app32l (X := [r]) rfl rfl hO2 rfl rfl ?_ ?_; (simp; omega); intro v' w3 hO3 hlim3)
      go_roundg (val L / 1000000000)
      case measure => rw [HP.out.1]; exact HLT.out
      case rel => exact ⟨P ++ [r], aq, _, Lq, rfl, hlim3 aq _ Lq hqu (fun g f e h => by have h1 := (HLT2.out g h).2; have h2 := HQF.out g f _ _ (by rw [e]); omega), hqn, hLqm, HV.out.symm, hO3, by rw [HV.out, HP.out.2, HN.out, HR.out]; simp⟩
    · obtain rfl : L = [] := List.length_eq_zero_iff.1 (by omega)
      have hPN := HP.out.2
      rw [show val [] = 0 from rfl, pcs_zero, List.append_nil] at hPN
      have hB2 := bthen hb0 hO.2
      by_cases hP0 : P = []
      · subst hP0
        have hN0 : val l = 0 := by
          apply Nat.eq_zero_of_not_pos; intro h
          exact pcs_ne h hPN
        have HE := Lib.hid (show natTxt (val l) = [48] by rw [hN0]; rfl)
        rcases hO.ex with ⟨a9, c9, rfl⟩
        clear hPN hN0 hu hO
        simp only [List.length_nil]
        go_wp2
        go_ret
        exact ⟨by rw [HE.out]; rfl, hB2⟩
      · have hN0 : 0 < val l := by
          apply Nat.pos_of_ne_zero; intro h
          rw [h, pcs_zero] at hPN
          exact hP0 hPN.symm
        have HPN := Lib.hid hPN
        have HN0 := Lib.hid hN0
        have hPz : ((P.length : Int) == 0) = false := by rw [beq_eq_false_iff_ne]; have := List.length_pos_iff.2 hP0; omega
        obtain ⟨a9, c9, rfl, hPU⟩ := hO.u32 (L := P) (fun x hx => by
          have := pcs_lt (val l) x (by rw [HPN.out]; exact hx)
          unfold BB; omega)
        rcases hPU.2.2.2 with h0 | ⟨bp, op, rfl, hPc⟩
        · exact absurd h0 hP0
        clear hPN hN0 hu hO hPU
        have HPL9 := Lib.hid (show ∀ x ∈ P, x < 1000000000 from fun x hx => pcs_lt (val l) x (by rw [HPN.out]; exact hx))
        have HLST := Lib.hid (show ∀ h : P ≠ [], 0 < P.getLast h from by rw [← HPN.out]; exact pcs_last (val l))
        have HE := Lib.hid (show natTxt (val l) = asc (lowP P) by rw [← HPN.out, lowP_pcs]; unfold natTxt; rw [if_neg (by have := HN0.out; omega)])
        have hza := zeroArr9
        have hbp := cell_lt (hPc 0 (List.length_pos_iff.2 hP0))
        simp only [List.length_nil]
        go_wp2
        go_loopw [9] (fun x wx => ∃ k : Nat, k ≤ P.length ∧ x = .int .i64 ((k : Int) - 1) ∧ Bld wr.heap.size wr.heap.size (asc (lowP (P.drop k))) wx ∧ Below wr.heap.size wr wx ∧ wr.heap.size < wx.heap.size) (fun x _ => (intOf x + 1).toNat)
        case atStart => exact ⟨P.length, Nat.le_refl _, rfl, by rw [List.drop_length]; exact Bld.new rfl, bal (Below.refl _ _) _, by simp⟩
        case round =>
          rename World => wx
          obtain ⟨k, hk, rfl, hBd, hBx, hsx⟩ := hrel
          cases k with
          | zero =>
            clear hza
            rw [List.drop_zero] at hBd
            go_wp2_with fail
            refine (bstring_c wr.heap.size wr.heap.size _ _ hBd hBx.size).mono ?_
            rintro e w6 ⟨rfl, hb6⟩
            go_wp2
            go_ret
            exact ⟨by rw [HE.out]; rfl, bthen hB2 (hBx.trans hb6)⟩
          | succ k =>
            have hp9 : P.getD k 0 < 1000000000 := HPL9.out _ (by rw [List.getD_eq_getElem?_getD, List.getElem?_eq_getElem (by omega)]; exact List.getElem_mem _)
            have HTOP := Lib.hid (show k + 1 = P.length → 0 < P.getD k 0 from fun h => by
              have h2 := HLST.out hP0
              rw [List.getLast_eq_getElem] at h2
              rw [List.getD_eq_getElem?_getD, List.getElem?_eq_getElem (by omega)]
              have e : P.length - 1 = k := by omega
              simp only [e] at h2
              exact h2)
            have HTP := Lib.hid (show k + 1 = P.length → lowP (P.drop k) = lowD (P.getD k 0) from fun h => lowP_top h)
            have HLO := Lib.hid (show k + 1 < P.length → lowP (P.drop k) = padD 9 (P.getD k 0) ++ lowP (P.drop (k + 1)) from fun h => lowP_low h)
            have q0 := bkeep hBx (hPc k (by omega))
            generalize P.getD k 0 = p at *
            have hkl : (k : Int) < (P.length : Int) := by omega
            have q1 := cell_alloc q0 (.cells #[.int .u8 0, .int .u8 0, .int .u8 0, .int .u8 0, .int .u8 0, .int .u8 0, .int .u8 0, .int .u8 0, .int .u8 0] 205)
            rw [show (((k + 1 : Nat) : Int) - 1) = (k : Int) from by omega]
            go_wp2
            go_loopw [11, 12] (fun xv kv wi => ∃ j m : Nat, j + m = 9 ∧ kv = .int .i64 ((j : Int) - 1) ∧ xv = .int .u32 ((p / 10 ^ m : Nat) : Int) ∧ Arr9 wi wx.heap.size (Z9 j m p) ∧ Below wx.heap.size wx wi ∧ wx.heap.size < wi.heap.size) (fun _ kv _ => (intOf kv + 1).toNat)
            case atStart => exact ⟨9, 0, rfl, rfl, by simp, Arr9.new wx p, bal (Below.refl _ _) _, by simp⟩
            case round =>
              rename World => wi
              obtain ⟨j, m, hjm, rfl, rfl, hA, hBi, hsi⟩ := hrel
              cases j with
              | zero =>
                obtain rfl : m = 9 := by omega
                have hBy : Bld wr.heap.size wr.heap.size (asc (lowP (P.drop (k + 1)))) wi := hBd.keep hBi
                have hsl : (convert 147 9 (.slice (some ⟨wx.heap.size, 0, none⟩) 9 9)).run Tryz.prog wi = .ok (.string ⟨(asc (padD 9 p)).toArray⟩) wi := by
                  have hl9 : (asc (padD 9 p)).length = 9 := by rw [asc_len, padD_len]
                  have := run_convert_bytes_back (P := Tryz.prog) wi 147 9 5 ⟨wx.heap.size, 0, none⟩ 9 (asc (padD 9 p)) Tryz.underlying147 Tryz.underlying5 Tryz.underlying9 (fun j hj => by
                    have h := hA.cell j (by omega)
                    rw [Z9_end] at h
                    unfold Addr.add
                    split
                    · subst_vars; simpa [hj] using h
                    · simpa [hj] using h)
                  rwa [hl9] at this
                have hBw := bthen hBx hBi
                clear hA hBi hBd hza q0 q1
                have hsw := hBw.size
                have hll : (asc (lowP (P.drop (k + 1)))).length ≤ 19327353120 := by
                  have h1 := lowP_len (P.drop (k + 1)) (fun x hx => HPL9.out x (List.mem_of_mem_drop hx))
                  rw [asc_len]
                  have h2 : (P.drop (k + 1)).length ≤ P.length := by rw [List.length_drop]; omega
                  omega
                by_cases hk1 : k + 1 = P.length
                · have ht : ((k : Int) == (P.length : Int) - 1) = true := by rw [beq_iff_eq]; omega
                  have HEQ := Lib.hid (show asc (lowP (P.drop (k + 1))) ++ asc (lowD p) = asc (lowP (P.drop k)) by
                    rw [HTP.out hk1, List.drop_eq_nil_of_le (by omega)]; rfl)
                  have htr := fun W => trimLeft_c ⟨(asc (padD 9 p)).toArray⟩ W
                  rw [show Lib.trimLeftB (ByteArray.mk (asc (padD 9 p)).toArray).data.toList 48 = asc (lowD p) from asc_pad_top (HTOP.out hk1) hp9] at htr
                  have hld : (asc (lowD p)).length ≤ 9 := by rw [asc_len]; exact (padD_low 9 p hp9).2
                  clear hk1
                  generalize asc (padD 9 p) = tx at *
                  generalize asc (lowD p) = ty at *
                  generalize asc (lowP (P.drop (k + 1))) = lx at *
                  go_wp2_with fail
                  refine (htr _).mono ?_
                  rintro e w5 ⟨rfl, rfl⟩
                  clear htr
                  go_wp2_with fail
                  refine (bwrite_c wr.heap.size wr.heap.size lx ⟨ty.toArray⟩ _ hBy (by show lx.length + ty.length ≤ _; omega) hsw).mono ?_
                  rintro e w6 ⟨rfl, hBz, hb6⟩
                  go_wp2
                  exact ⟨⟨k, by omega, by go_num, by rw [← HEQ.out]; exact hBz, hBw.trans hb6, by have := hb6.size; omega⟩, by simp [intOf]⟩
                · have ht : ((k : Int) == (P.length : Int) - 1) = false := by rw [beq_eq_false_iff_ne]; omega
                  have HEQ := Lib.hid (show asc (lowP (P.drop (k + 1))) ++ asc (padD 9 p) = asc (lowP (P.drop k)) by
                    rw [HLO.out (by omega), asc_append])
                  have hld : (asc (padD 9 p)).length ≤ 9 := by rw [asc_len, padD_len]; omega
                  clear hk1
                  generalize asc (padD 9 p) = ty at *
                  generalize asc (lowP (P.drop (k + 1))) = lx at *
                  go_wp2_with fail
                  refine (bwrite_c wr.heap.size wr.heap.size lx ⟨ty.toArray⟩ _ hBy (by show lx.length + ty.length ≤ _; omega) hsw).mono ?_
                  rintro e w6 ⟨rfl, hBz, hb6⟩
                  go_wp2
                  exact ⟨⟨k, by omega, by go_num, by rw [← HEQ.out]; exact hBz, hBw.trans hb6, by have := hb6.size; omega⟩, by simp [intOf]⟩
              | succ j =>
                have HS := Lib.hid (Z9_step j m p)
                have HQ := Lib.hid (show p / 10 ^ (m + 1) = p / 10 ^ m / 10 by rw [Nat.pow_succ, Nat.div_div_eq_div_mul])
                have hZl := Z9_len (j + 1) m p
                rw [show (((j + 1 : Nat) : Int) - 1) = (j : Int) from by omega]
                have hj9 : (j : Int) < 9 := by omega
                have qc := hA.cell j (by omega)
                have qf := hA.free j
                have hAn := hA.set (k := j) (by rw [hZl, hjm]) (by omega) (dig (p / 10 ^ m % 10))
                rw [HS.out] at hAn
                have hq9 : p / 10 ^ m < 4294967296 := Nat.lt_of_le_of_lt (Nat.div_le_self _ _) (by omega)
                generalize p / 10 ^ m = q at *
                have hc10 : q % 10 < 10 := by omega
                obtain ⟨bb, hbb⟩ : ∃ bb, bb = dig (q % 10) := ⟨_, rfl⟩
                rw [← hbb] at hAn
                have e3 : (q : Int).tmod 10 = ((q % 10 : Nat) : Int) := rfl
                have e4 : (q : Int).tdiv 10 = ((q / 10 : Nat) : Int) := rfl
                have e5 : ((q / 10 : Nat) : Int) % 4294967296 = ((q / 10 : Nat) : Int) := by omega
                have hb1 : (48 : Int) + ((q % 10 : Nat) : Int) = (bb.toNat : Int) := by rw [hbb, dig_nat hc10]; omega
                have hb2 : (bb.toNat : Int) % 256 = (bb.toNat : Int) := by have := bb.toNat_lt; omega
                have hb3 : IntKind.u32.wrap (bb.toNat : Int) = (bb.toNat : Int) := w32 (by have := bb.toNat_lt; unfold BB; omega)
                have HBB := Lib.hid hbb
                have HAN := Lib.hid hAn
                clear hbb hAn hZl
                generalize q % 10 = c10 at *
                generalize q / 10 = q10 at *
                go_wp2
                refine ⟨⟨j, m + 1, by omega, by go_num, by rw [HQ.out], HAN.out, bset hBi (by simp) _, by simpa using hsi⟩, by simp [intOf]⟩
end Go.Proofs.YthlphfjmdgcpdaaGreatDoor

/- limb: Digits: the iterator that tells a number's digits, from the first one on. -/
namespace Go.Proofs.YthlphfjmdgcpdaaGreatDoor
open Num
open Go.ChangeShapes Go.WideShapes Go.ChangeAt Go.RowKit
set_option linter.unusedVariables false
set_option linter.unusedSimpArgs false
attribute [local go_sem] Oper.semAt_some

/-- the text's letters are the list's digits -/
def DigTxt (s : ByteArray) (L : List Nat) : Prop := s.data.toList = L.map dig ∧ ∀ d ∈ L, d < 10
theorem DigTxt.size {s : ByteArray} {L : List Nat} (h : DigTxt s L) : s.size = L.length := by
  have e := congrArg List.length h.1
  rw [List.length_map] at e
  rw [← e]; rfl
theorem DigTxt.get {s : ByteArray} {L : List Nat} (h : DigTxt s L) (k : Nat) (hk : k < L.length) (hs : k < s.size) : (s[k]'hs).toNat = 48 + L.getD k 0 ∧ L.getD k 0 < 10 := by
  have hd : L.getD k 0 < 10 := by
    rw [List.getD_eq_getElem?_getD, List.getElem?_eq_getElem hk]; exact h.2 _ (List.getElem_mem _)
  have e : s.data.toList[k]? = some (dig (L.getD k 0)) := by
    rw [h.1, List.getElem?_map, List.getElem?_eq_getElem hk]
    simp [List.getElem?_eq_getElem hk]
  have e2 : s[k]'hs = dig (L.getD k 0) := by
    have h3 : s.data.toList[k]? = some (s[k]'hs) := by
      rw [Array.getElem?_toList]
      exact Array.getElem?_eq_getElem hs
    rw [h3] at e; exact Option.some.inj e
  rw [e2, dig_nat hd]
  exact ⟨rfl, hd⟩
theorem next_dig {s : ByteArray} {L : List Nat} (h : DigTxt s L) {wr : World} {ib pos : Nat} (hit : wr.heap[ib]? = some (.stringIter s pos)) (hp : pos < L.length) (ty : TypeId) :
    (Instr.next (.pointer (some ⟨ib, 0, none⟩)) true ty).run Tryz.prog wr = .ok (.tuple #[.bool true, .int .i64 pos, .int .i32 ((48 + L.getD pos 0 : Nat) : Int)]) (wr.iterAt ib s (pos + 1)) := by
  have hs : pos < s.size := by rw [h.size]; exact hp
  obtain ⟨e, hd⟩ := h.get pos hp hs
  have := Go.Lib.run_next_ascii_at (P := Tryz.prog) wr ib s pos ty hit hs (by rw [e]; omega)
  rwa [e] at this
theorem iterAt_grown (w : World) (k : Nat) (s : ByteArray) (p : Nat) : w.grownBy (w.iterAt k s p) (some k) := by
  refine ⟨rfl, rfl, rfl, by simp [Go.World.iterAt], fun i hi hk => ?_⟩
  simp only [Go.World.iterAt]
  exact Array.getElem?_setIfInBounds_ne (fun e => hk (by rw [e]))

set_option maxRecDepth 100000 in
set_option maxHeartbeats 2000000 in
theorem dg_c (l B N n0 : Nat) (s : ByteArray) (L : List Nat) (J Jx : List Nat → World → Prop) (hJ : AbidesFrom n0 J) (hd : DigTxt s L)
    (hY : ∀ pre x W1, J pre W1 → pre.length < N → YieldAt Fence.wide 3 Tryz.prog l #[.int .i64 ((x % 10 : Nat) : Int)] W1 fun e W' => (e = .returned (.bool true) ∧ J (pre ++ [x]) W' ∧ KeepsWalks W1 W') ∨ (e = .returned (.bool false) ∧ Jx (pre ++ [x]) W'))
    (W : World) (hn : n0 = W.heap.size) (hm : W.cell? ⟨B, 0, none⟩ = some (.string s)) (h0 : J [] W) (hN : L.length ≤ N) :
    Calls Tryz.prog 137 #[.func (.yield l) #[] #[], .pointer (some ⟨B, 0, none⟩)] W fun e W' => (∃ v, e = .returned v) ∧ ((∃ xs, xs = L ∧ J xs W') ∨ (∃ pre, pre <+: L ∧ Jx pre W')) := by
  go_enter Tryz.func137, Tryz.ntmps137
  go_wp2
  go_loopg [4] L.length (fun gk u wr => ∃ pos : Nat, pos ≤ L.length ∧ gk = L.length - pos ∧ wr.heap[W.heap.size]? = some (.stringIter s pos) ∧ J (L.take pos) wr)
  case atStart => exact ⟨0, Nat.zero_le _, by omega, World.iter_heap W s 0, hJ _ _ _ none h0 ⟨rfl, rfl, rfl, by simp [World.iter], fun k hk _ => Below.heap_alloc _ _ _ hk⟩ (fun r e => by cases e)⟩
  case round =>
    obtain ⟨pos, hp, hgk, hit, hj⟩ := hrel
    by_cases hlt : pos < L.length
    · have hnx := next_dig hd hit hlt
      have hd10 := hd.2 (L.getD pos 0) (by rw [List.getD_eq_getElem?_getD, List.getElem?_eq_getElem hlt]; exact List.getElem_mem _)
      obtain ⟨wn, hwn⟩ : ∃ wn, wn = wr.iterAt W.heap.size s (pos + 1) := ⟨_, rfl⟩
      have hitn : wn.heap[W.heap.size]? = some (.stringIter s (pos + 1)) := by rw [hwn]; exact Go.Lib.iterAt_heap wr W.heap.size s pos (pos + 1) hit
      have hjn : J (L.take pos) wn := hJ _ _ _ (some W.heap.size) hj (by rw [hwn]; exact iterAt_grown _ _ _ _) (fun r e => by cases e; exact ⟨Nat.le_of_eq hn, _, hit, rfl⟩)
      rw [← hwn] at hnx
      clear hwn
      have HT := Lib.hid (show L.take (pos + 1) = L.take pos ++ [L.getD pos 0] by
        rw [List.take_add_one, List.getElem?_eq_getElem hlt]; simp [List.getElem?_eq_getElem hlt])
      obtain ⟨fn, tmps, asg, body, hy, hR⟩ := hY (L.take pos) (L.getD pos 0) wn hjn (by rw [List.length_take]; omega)
      rw [Nat.mod_eq_of_lt hd10] at hy
      generalize L.getD pos 0 = d at *
      have hw1 : (48 : Int) + (d : Int) - 48 = (d : Int) := by omega
      go_upto_region 3 with (fail)
      refine (wpIn_wide (n := 4)).1 ?_
      gi_wp2
      refine hR.mono ?_
      rintro e W' (⟨rfl, hJ', hk⟩ | ⟨rfl, hJx'⟩)
      · gi_wp2
        go_wp2
        go_roundg (L.length - (pos + 1))
        case measure => omega
        case rel => exact ⟨pos + 1, by omega, rfl, hk.same _ _ hitn rfl, by rw [HT.out]; exact hJ'⟩
      · gi_wp2
        go_wp2
        refine bodyPost_ret (results_none rfl _ _ _) rfl ?_
        exact ⟨⟨_, rfl⟩, .inr ⟨L.take (pos + 1), List.take_prefix _ _, by rw [HT.out]; exact hJx'⟩⟩
    · obtain rfl : pos = L.length := by omega
      have hnx := fun ty => Go.Lib.run_next_end_at (P := Tryz.prog) wr W.heap.size s L.length ty hit (by rw [hd.size]; omega)
      rw [List.take_length] at hj
      go_wp2
      refine bodyPost_end (results_none rfl _ _ _) rfl ?_
      exact ⟨⟨_, rfl⟩, .inl ⟨L, rfl, hj⟩⟩
theorem digits_stops (B N n : Nat) (s : ByteArray) (L : List Nat) (w : World) (hd : DigTxt s L) (hm : w.cell? ⟨B, 0, none⟩ = some (.string s)) (hN : L.length ≤ N) :
    SeqStopsK Fence.wide n Tryz.prog 137 #[.pointer (some ⟨B, 0, none⟩)] (fun x : Nat => #[.int .i64 ((x % 10 : Nat) : Int)]) KeepsWalks (· = L) (· <+: L) N w := by
  intro l J Jx W hW hJ hJx hY h0
  refine callsIn_wide.2 ?_
  exact dg_c l B N W.heap.size s L J Jx hJ hd (fun pre x W1 hp hl => yieldAt_wide (hY pre x W1 hp hl)) W rfl (bkeep hW hm) h0 hN
/-- what natTxt's letters are -/
def digL (n : Nat) : List Nat := if n = 0 then [0] else (lowD n).reverse
theorem digL_txt (n : Nat) : DigTxt ⟨(natTxt n).toArray⟩ (digL n) := by
  refine ⟨?_, ?_⟩
  · show natTxt n = (digL n).map dig
    unfold natTxt digL
    split
    · rfl
    · rw [asc_eq, List.map_reverse]
  · unfold digL
    split
    · intro d hd; simp at hd; omega
    · intro d hd; exact lowD_lt n d (by simpa using hd)
theorem limbDigits_c (a : Option Addr) (ca : Nat) (l : List Nat) (w : World) (ha : U32 w a ca l) (h1 : l.length ≤ 67108865) :
    Calls Tryz.prog 100 #[.slice a l.length ca] w fun e w' => ∃ B, e = .returned (.func (.func 137) #[] #[.pointer (some ⟨B, 0, none⟩)]) ∧ w'.cell? ⟨B, 0, none⟩ = some (.string ⟨(natTxt (val l)).toArray⟩) ∧ Below w.heap.size w w' := by
  have tc := fun W (h : Below w.heap.size w W) => limbText_c a ca l W (ha.keep h) h1
  go_enter Tryz.func100, Tryz.ntmps100
  go_wp2_with fail
  refine (tc _ (Below.refl _ _)).mono ?_
  rintro e w1 ⟨rfl, hb1⟩
  clear tc
  go_wp2
  go_ret
  exact ⟨_, rfl, cell_new rfl rfl, bal hb1 _⟩
end Go.Proofs.YthlphfjmdgcpdaaGreatDoor

/- Ranges over functions whose bodies write blocks of their own: which blocks these are may change from round to round; what the iterator holds never lies in them. -/
namespace Go.Proofs.YthlphfjmdgcpdaaGreatDoor
open Go.ChangeShapes Go.WideShapes Go.ChangeAt Go.RowKit
set_option linter.unusedVariables false
set_option linter.unusedSimpArgs false
/-- blocks below n0, those of S and those of limbs lie as they lay -/
structure Clo (n0 : Nat) (S : Nat → Prop) (a b : World) : Prop where
  os : b.os = a.os
  tape : b.tape = a.tape
  output : b.output = a.output
  size : a.heap.size ≤ b.heap.size
  block : ∀ q, q < a.heap.size → (q < n0 ∨ S q ∨ typOf a q = some 121) → b.heap[q]? = a.heap[q]?
section
variable {n0 : Nat} {S : Nat → Prop} {a b c : World}
theorem Clo.refl (n0 : Nat) (S : Nat → Prop) (a : World) : Clo n0 S a a := ⟨rfl, rfl, rfl, Nat.le_refl _, fun _ _ _ => rfl⟩
theorem Clo.trans (h : Clo n0 S a b) (k : Clo n0 S b c) : Clo n0 S a c :=
  ⟨k.os.trans h.os, k.tape.trans h.tape, k.output.trans h.output, Nat.le_trans h.size k.size, fun q hq hs =>
    (k.block q (Nat.lt_of_lt_of_le hq h.size) (hs.imp id (Or.imp id fun ht => by unfold typOf; rw [h.block q hq hs]; exact ht))).trans (h.block q hq hs)⟩
theorem Clo.of_below (h : Below a.heap.size a b) : Clo n0 S a b := ⟨h.os, h.tape, h.output, h.size, fun q hq _ => h.block q hq⟩
theorem Clo.below (h : Clo n0 S a b) (k : Below b.heap.size b c) : Clo n0 S a c := h.trans (.of_below k)
theorem Clo.low (h : Clo n0 S a b) (hn : n0 ≤ a.heap.size) : Below n0 a b := ⟨h.os, h.tape, h.output, h.size, fun q hq => h.block q (by omega) (.inl hq)⟩
theorem Clo.lim (h : Clo n0 S a b) : Lim a b := fun q ht => by
  have hq : q < a.heap.size := by
    unfold typOf at ht
    rcases Nat.lt_or_ge q a.heap.size with h1 | h1
    · exact h1
    · rw [Array.getElem?_eq_none h1] at ht; cases ht
  have e := h.block q hq (.inr (.inr ht))
  exact ⟨by unfold typOf; rw [e]; exact ht, fun o n hc => by rw [World.cell?_of_block (w := a) e]; exact hc⟩
theorem Clo.cell (h : Clo n0 S a b) {p : Addr} {v : Value} (hp : p.block < n0 ∨ S p.block) (hc : a.cell? p = some v) : b.cell? p = some v := by
  have hq : p.block < a.heap.size := by
    unfold World.cell? at hc
    rcases Nat.lt_or_ge p.block a.heap.size with h1 | h1
    · exact h1
    · rw [Array.getElem?_eq_none h1] at hc; cases hc
  rw [World.cell?_of_block (w := a) (h.block p.block hq (hp.imp id .inl))]; exact hc
theorem Clo.frz (h : Clo n0 S a b) {p : Addr} {v : Value} (hp : p.block < n0 ∨ S p.block) (hc : a.cell? p = some v) (hf : a.frozen? p = false) : b.frozen? p = false := by
  have hq : p.block < a.heap.size := by
    unfold World.cell? at hc
    rcases Nat.lt_or_ge p.block a.heap.size with h1 | h1
    · exact h1
    · rw [Array.getElem?_eq_none h1] at hc; cases hc
  rw [World.frozen?_of_block (w := a) (h.block p.block hq (hp.imp id .inl))]; exact hf
theorem Clo.typ (h : Clo n0 S a b) {q : Nat} {t : TypeId} (hp : q < n0 ∨ S q) (ht : typOf a q = some t) : typOf b q = some t := by
  have hq : q < a.heap.size := by
    unfold typOf at ht
    rcases Nat.lt_or_ge q a.heap.size with h1 | h1
    · exact h1
    · rw [Array.getElem?_eq_none h1] at ht; cases ht
  unfold typOf; rw [h.block q hq (hp.imp id .inl)]; exact ht
end
/-- what the body's blocks are: cells, and no limbs -/
def Soil (S : Nat → Prop) (X : World) : Prop := ∀ q, S q → ∃ t, typOf X q = some t ∧ t ≠ 121
/-- the body's blocks behind a round: those that it had, and new ones -/
def Grew (S S' : Nat → Prop) (X : World) : Prop := ∀ q, S' q → S q ∨ X.heap.size ≤ q
theorem Grew.same (S : Nat → Prop) (X : World) : Grew S S X := fun _ h => .inl h
end Go.Proofs.YthlphfjmdgcpdaaGreatDoor

