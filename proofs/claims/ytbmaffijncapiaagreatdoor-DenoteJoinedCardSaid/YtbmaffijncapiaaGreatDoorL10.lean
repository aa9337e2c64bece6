/- Texts of this seat, laid together: LimbL, LimbM, IntJ, VmP, VmB, VmC, VwA, RwA, RwB, RwC, RwD, VmD. Each opens with its own remark, which says what it proves, and under which conditions. -/
import Derived.Test.YtbmaffijncapiaaGreatDoorL09
import Derived.Test.YtbmaffijncapiaaGreatDoorL05
import Derived.Test.YtbmaffijncapiaaGreatDoorL07
import Derived.Test.YtbmaffijncapiaaGreatDoorL06
import Derived.ArgAppend
import Derived.Deep.DeepFit
import Derived.Test.YtbmaffijncapiaaGreatDoorL02
import Derived.Test.YtbmaffijncapiaaGreatDoorL04
import Derived.Test.YtbmaffijncapiaaGreatDoorL03
import Derived.Shelf.Abstract
import Derived.Laws.EntriesVeiled
import Derived.Deep.DrawnRows
import Derived.Deep.RegionLaw
import Derived.Test.YtbmaffijncapiaaGreatDoorL08
import Derived.OneCell
set_option linter.unusedVariables false
set_option linter.unusedSimpArgs false
/- limb: DivMod. -/
namespace Go.Proofs.YtbmaffijncapiaaGreatDoor
open Num
open Go.ChangeShapes Go.WideShapes Go.ChangeAt Go.RowKit
set_option linter.unusedVariables false
set_option linter.unusedSimpArgs false
namespace Num
theorem nrm_len_le {l : List Nat} {k : Nat} (hn : Nrm l) (h : val l < BB ^ k) : l.length ≤ k := by
  by_cases h0 : l = []
  · subst h0; simp
  · have h1 := nrm_val_pos hn h0
    have h2 := Nat.lt_of_le_of_lt h1 h
    have := (Nat.pow_lt_pow_iff_right (a := BB) (by unfold BB; omega)).1 h2
    omega
theorem le_len {l : List Nat} {k : Nat} (hl : Limbs l) (h : BB ^ k ≤ val l) : k < l.length := by
  have h2 := Nat.lt_of_le_of_lt h (val_lt hl)
  exact (Nat.pow_lt_pow_iff_right (a := BB) (by unfold BB; omega)).1 h2
theorem shift_top {m : List Nat} {p : Nat} (hm : Limbs m) (hn : Nrm m) (hp : m.length = p + 1) : bitN (m.getD p 0) ≤ 32 ∧ 1 ≤ bitN (m.getD p 0) ∧ 2147483648 * BB ^ p ≤ val m * 2 ^ (32 - bitN (m.getD p 0)) ∧ val m * 2 ^ (32 - bitN (m.getD p 0)) < BB ^ (p + 1) := by
  have ht := limb_get hm p
  have hs : val m = val (m.take p) + m.getD p 0 * BB ^ p := by
    have := val_take_succ (l := m) (k := p) (by omega)
    rwa [List.take_of_length_le (by omega)] at this
  have h0 : m.getD p 0 ≠ 0 := by
    have := hn (by intro e; subst e; simp at hp)
    rw [List.getLast_eq_getElem] at this
    simpa [hp] using this
  have hlow : val (m.take p) < BB ^ p := by
    have := val_lt (l := m.take p) (fun x hx => hm x (List.mem_of_mem_take hx))
    rwa [List.length_take, Nat.min_eq_left (by omega)] at this
  generalize m.getD p 0 = t at *
  have e : bitN t = t.log2 + 1 := by unfold bitN; rw [if_neg h0]
  have k1 := Nat.log2_self_le h0
  have k2 := @Nat.lt_log2_self t
  have hl : t.log2 < 32 := by
    apply Nat.lt_of_not_le
    intro h32
    have : 2 ^ 32 ≤ 2 ^ t.log2 := Nat.pow_le_pow_right (by omega) h32
    unfold BB at ht
    omega
  rw [e]
  generalize t.log2 = b at *
  have e31 : 2 ^ b * 2 ^ (32 - (b + 1)) = 2147483648 := by rw [← Nat.pow_add, show b + (32 - (b + 1)) = 31 by omega]
  have e32 : 2 ^ (b + 1) * 2 ^ (32 - (b + 1)) = BB := by rw [← Nat.pow_add, show b + 1 + (32 - (b + 1)) = 32 by omega]; rfl
  generalize 2 ^ (32 - (b + 1)) = K at *
  refine ⟨by omega, by omega, ?_, ?_⟩
  · rw [hs, ← e31]
    have h1 : 2 ^ b * BB ^ p ≤ t * BB ^ p := Nat.mul_le_mul k1 (Nat.le_refl _)
    have h2 : 2 ^ b * BB ^ p * K ≤ (val (List.take p m) + t * BB ^ p) * K := Nat.mul_le_mul (by omega) (Nat.le_refl _)
    have : 2 ^ b * K * BB ^ p = 2 ^ b * BB ^ p * K := by ac_rfl
    omega
  · rw [hs, Nat.pow_succ]
    have h1 : (t + 1) * BB ^ p ≤ 2 ^ (b + 1) * BB ^ p := Nat.mul_le_mul k2 (Nat.le_refl _)
    rw [Nat.add_mul] at h1
    have hK : 0 < K := by
      rcases Nat.eq_zero_or_pos K with h | h
      · subst h; unfold BB at e32; omega
      · exact h
    have h2 : (val (List.take p m) + t * BB ^ p) * K < 2 ^ (b + 1) * BB ^ p * K := Nat.mul_lt_mul_of_pos_right (by omega) hK
    have : 2 ^ (b + 1) * BB ^ p * K = BB ^ p * BB := by rw [← e32]; ac_rfl
    omega
theorem top_of_val {V : List Nat} {p : Nat} (hV : Limbs V) (hp : V.length = p + 1) (h : 2147483648 * BB ^ p ≤ val V) : 2147483648 ≤ V.getD p 0 := by
  have hs : val V = val (V.take p) + V.getD p 0 * BB ^ p := by
    have := val_take_succ (l := V) (k := p) (by omega)
    rwa [List.take_of_length_le (by omega)] at this
  have hlow : val (V.take p) < BB ^ p := by
    have := val_lt (l := V.take p) (fun x hx => hV x (List.mem_of_mem_take hx))
    rwa [List.length_take, Nat.min_eq_left (by omega)] at this
  apply Nat.le_of_not_lt
  intro hlt
  have : (V.getD p 0 + 1) * BB ^ p ≤ 2147483648 * BB ^ p := Nat.mul_le_mul hlt (Nat.le_refl _)
  rw [Nat.add_mul] at this
  omega
theorem dm_pre {U : List Nat} {k n D : Nat} (hU : Limbs U) (hk : k + n < U.length) (hh : val (U.drop (k + 1)) < D) (hD : D < BB ^ n) : win U k (n + 1) = val (U.drop k) ∧ val (U.drop k) < D * BB := by
  have e : U.drop k = U.getD k 0 :: U.drop (k + 1) := by
    rw [List.drop_eq_getElem_cons (by omega)]
    simp [show k < U.length by omega]
  have h1 : val (U.drop k) = U.getD k 0 + BB * val (U.drop (k + 1)) := by rw [e]; rfl
  have h2 := limb_get hU k
  refine ⟨?_, ?_⟩
  · unfold win
    rw [e, List.take_succ_cons, val, val]
    congr 2
    -- what is above the window is nothing
    have hL : Limbs (U.drop (k + 1)) := fun x hx => hU x (List.mem_of_mem_drop hx)
    have hlt := Nat.lt_trans hh hD
    generalize U.drop (k + 1) = T at *
    conv => rhs; rw [← List.take_append_drop n T]
    rw [val_append]
    by_cases hn : T.length ≤ n
    · rw [List.drop_eq_nil_of_le hn]; simp [val]
    · rw [List.length_take, Nat.min_eq_left (by omega)]
      have h3 : val (T.drop n) = val T / BB ^ n := val_drop hL (by omega)
      rw [h3, Nat.div_eq_of_lt hlt]; simp
  · rw [h1]
    have : (val (U.drop (k + 1)) + 1) * BB ≤ D * BB := Nat.mul_le_mul hh (Nat.le_refl _)
    rw [Nat.add_mul] at this
    rw [Nat.mul_comm BB]
    omega
theorem win_drop {O : List Nat} {k n : Nat} (hO : Limbs O) (h0 : ∀ j, k + n ≤ j → O.getD j 0 = 0) : val (O.drop k) = win O k n := by
  unfold win
  conv => lhs; rw [← List.take_append_drop n (O.drop k)]
  rw [val_append]
  have : val ((O.drop k).drop n) = 0 := by
    rw [List.drop_drop]
    have hz : ∀ l : List Nat, (∀ j, l.getD j 0 = 0) → val l = 0 := by
      intro l
      induction l with
      | nil => intro _; rfl
      | cons x l ih =>
        intro h
        have h1 := h 0
        have h2 := ih fun j => by have := h (j + 1); simpa using this
        simp at h1
        simp [val, h1, h2]
    refine hz _ fun j => ?_
    have := h0 (k + n + j) (by omega)
    simpa [List.getElem?_drop] using this
  rw [this]; simp
theorem getD_zero {T : List Nat} {n t : Nat} (hT : Limbs T) (h : val T < BB ^ n) (ht : n ≤ t) : T.getD t 0 = 0 := by
  by_cases hl : t < T.length
  · have hs := val_split hl
    apply Nat.eq_zero_of_not_pos
    intro hp
    have h1 : BB ^ t * 1 ≤ BB ^ t * (T.getD t 0 + BB * val (T.drop (t + 1))) := Nat.mul_le_mul (Nat.le_refl _) (by omega)
    have h2 : BB ^ n ≤ BB ^ t := Nat.pow_le_pow_right BB_pos ht
    omega
  · simp [show T.length ≤ t by omega]
theorem dm_step {U O Q : List Nat} {j n D A d : Nat} (hU : Limbs U) (hO : Limbs O) (hl : O.length = U.length) (hj : j + n < U.length) (hQ : j < Q.length) (hq0 : Q.getD j 0 = 0) (hD : D < BB ^ n) (hD0 : 0 < D)
    (hh : val (U.drop (j + 1)) < D) (hA : val Q * D + val U = A) (ho : ∀ i, i < j ∨ j + (n + 1) ≤ i → O.getD i 0 = U.getD i 0) (hd : d = win U j (n + 1) / D) (hw : win O j (n + 1) = win U j (n + 1) % D) :
    val (Q.set j d) * D + val O = A ∧ val (O.drop j) < D := by
  obtain ⟨h1, h2⟩ := dm_pre hU hj hh hD
  have hz : ∀ i, j + (n + 1) ≤ i → O.getD i 0 = 0 := fun i hi => by
    rw [ho i (.inr hi)]
    have := getD_zero (T := U.drop (j + 1)) (fun x hx => hU x (List.mem_of_mem_drop hx)) (Nat.lt_trans hh hD) (show n ≤ i - (j + 1) by omega)
    simpa [List.getElem?_drop, show j + 1 + (i - (j + 1)) = i by omega] using this
  have h3 := win_drop hO hz
  have h4 : val (O.drop j) < D := by rw [h3, hw]; exact Nat.mod_lt _ hD0
  refine ⟨?_, h4⟩
  have ht : O.take j = U.take j := by
    apply List.ext_getElem?
    intro i
    simp only [List.getElem?_take]
    by_cases hi : i < j
    · rw [if_pos hi, if_pos hi]
      have := ho i (.inl hi)
      simpa [show i < O.length by omega, show i < U.length by omega] using this
    · rw [if_neg hi, if_neg hi]
  have hO2 := val_cut (U := O) (k := j) (by omega)
  have hU2 := val_cut (U := U) (k := j) (by omega)
  rw [ht, h3, hw] at hO2
  rw [← h1] at hU2
  have e := Nat.div_add_mod (win U j (n + 1)) D
  rw [← hd] at e
  have e2 := congrArg (BB ^ j * ·) e
  simp only [Nat.mul_add] at e2
  have e3 := val_set0 (l := Q) d hQ hq0
  rw [e3, Nat.add_mul]
  have e4 : d * BB ^ j * D = BB ^ j * (D * d) := by ac_rfl
  omega
theorem dm_end {A B s Q R : Nat} (hB : 0 < B) (h : Q * (B * 2 ^ s) + R = A * 2 ^ s) (hR : R < B * 2 ^ s) : A / B = Q ∧ A % B = R / 2 ^ s := by
  have hp : 0 < 2 ^ s := Nat.pow_pos (by omega)
  have hd := kn_done (N := A * 2 ^ s) (D := B * 2 ^ s) (g := A * 2 ^ s / (B * 2 ^ s)) (W := A * 2 ^ s % (B * 2 ^ s)) (Nat.mul_pos hB hp) (Nat.le_refl _) (by rw [Nat.add_comm]; exact Nat.div_add_mod _ _)
  have e1 : A * 2 ^ s / (B * 2 ^ s) = Q := by
    rw [← h, Nat.add_comm, Nat.add_mul_div_right _ _ (Nat.mul_pos hB hp), Nat.div_eq_of_lt hR, Nat.zero_add]
  have e2 : A * 2 ^ s % (B * 2 ^ s) = R := by
    rw [← h, Nat.add_comm, Nat.add_mul_mod_self_right, Nat.mod_eq_of_lt hR]
  rw [Nat.mul_div_mul_right _ _ hp] at e1
  rw [Nat.mul_mod_mul_right] at e2
  exact ⟨e1, by rw [← e2, Nat.mul_div_cancel _ hp]⟩
end Num

theorem NewL.keep {w w' : World} {u : Value} {v : Nat} (h : NewL w u v) (hb : Below w.heap.size w w') : NewL w' u v := by
  obtain ⟨a, n, L, h1, h2, h3, h4⟩ := h
  exact ⟨a, n, L, h1, h2, h3.keep hb, h4⟩

set_option maxRecDepth 100000 in
set_option maxHeartbeats 8000000 in
theorem divmod_small (a b : Option Addr) (ca cb : Nat) (l lb : List Nat) (w : World) (ha : U32 w a ca l) (hb : U32 w b cb lb) (h1 : l.length ≤ 1099511627776) (h2 : lb.length ≤ 1099511627776) (h0 : 0 < val lb) (hs : val l < val lb ∨ (trimL lb).length = 1) :
    Calls Tryz.prog 225 #[.slice a l.length ca, .slice b lb.length cb] w fun e w' => (∃ u v, e = .returned (.tuple #[u, v, .int .i64 0]) ∧ NewL w' u (val l / val lb) ∧ NewL w' v (val l % val lb)) ∧ Below w.heap.size w w' := by
  have tc := trim_c b cb lb w hb
  have hbt := hb.trim
  have hbn := trim_nrm lb
  have h3 := Nat.le_trans (trim_len lb) h2
  rw [← val_trim lb] at *
  generalize trimL lb = m at *
  have cc := fun W (hB : Below w.heap.size w W) => limbCmp_c a b ca m.length l m W (ha.keep hB) (hbt.keep hB)
  have hcz := cmpN_neg (x := val l) (y := val m)
  have hm0 : m ≠ [] := by intro e; subst e; simp [val] at h0
  have hml : 0 < m.length := List.length_pos_iff.2 hm0
  have hmz : ((m.length : Int) == 0) = false := by simp; exact hm0
  by_cases hlt : val l < val m
  · have nc := fun W (hB : Below w.heap.size w W) => limbNorm_c a ca l W (ha.keep hB) h1
    have HD := Lib.hid (And.intro (Nat.div_eq_of_lt hlt) (Nat.mod_eq_of_lt hlt))
    have HL := Lib.hid (val_trim l)
    have HN := Lib.hid (trim_nrm l)
    rw [show decide (val l < val m) = true from by simpa using hlt] at hcz
    clear hlt hs
    generalize cmpN (val l) (val m) = z at *
    generalize trimL l = L at *
    go_enter Tryz.func225, Tryz.ntmps225
    go_wp2_with fail
    refine tc.mono ?_
    rintro e w1 ⟨rfl, rfl⟩
    clear tc
    go_wp2_with fail
    refine (cc _ (Below.refl _ _)).mono ?_
    rintro e w1 ⟨rfl, hb1⟩
    go_wp2_with fail
    refine (nc _ hb1).mono ?_
    rintro e w2 ⟨⟨a', rfl, hu⟩, hb2⟩
    go_wp2
    go_ret3
    exact ⟨⟨_, _, rfl, by rw [HD.out.1]; exact newL_nil _, ⟨a', _, L, rfl, rfl, hu, HN.out, by rw [HL.out, HD.out.2]⟩⟩, bthen hb1 hb2⟩
  · rcases hs with hs | hs
    · exact absurd hs hlt
    obtain ⟨c, rfl⟩ : ∃ c, m = [c] := List.length_eq_one_iff.1 hs
    have hc : val [c] = c := by simp [val]
    have hcB : c < BB := hbt.2.2.1 c (by simp)
    rw [hc] at hcz hlt h0 ⊢
    simp only [hc] at cc
    rcases hbt.2.2.2 with hn | ⟨bb, ob, rfl, hcell⟩
    · cases hn
    have c0 := hcell 0 (by simp)
    simp only [List.getD_cons_zero, Nat.add_zero] at c0
    rw [show decide (val l < c) = false from by simpa using hlt] at hcz
    have dc := fun W (hB : Below w.heap.size w W) => divSmall_c a ca l c W (ha.keep hB) h1 h0 hcB
    clear hlt hs hc hcell
    have nc := fun (g : Nat) W (hB : Below w.heap.size w W) (hg : g = W.heap.size) => limbNorm_c (some ⟨g, 0, none⟩) 1 [val l % c] (W.alloc (.cells (cel [val l % c]).toArray 177)) ((blk_at hg).u32 (fun x hx => by simp at hx; subst hx; exact Nat.lt_trans (Nat.mod_lt _ h0) hcB) (by simp [maxLen])) (by simp)
    generalize hr : val l % c = r at *
    have HL := Lib.hid (show val (trimL [r]) = r by rw [val_trim]; simp [val])
    have HN := Lib.hid (trim_nrm [r])
    generalize trimL [r] = L at *
    generalize cmpN (val l) c = z at *
    simp only [List.length_cons, List.length_nil, Nat.zero_add] at *
    clear hr
    go_enter Tryz.func225, Tryz.ntmps225
    go_wp2_with fail
    refine tc.mono ?_
    rintro e w1 ⟨rfl, rfl⟩
    clear tc
    go_wp2_with fail
    refine (cc _ (Below.refl _ _)).mono ?_
    rintro e w1 ⟨rfl, hb1⟩
    have k0 := bkeep hb1 c0
    go_wp2_with fail
    refine (dc _ hb1).mono ?_
    rintro e w2 ⟨⟨u, rfl, hq⟩, hb2⟩
    have HQ := Lib.hid hq
    obtain ⟨a1, n1, L1, rfl, -⟩ := hq
    have hB2 := bthen hb1 hb2
    clear dc cc hb1 hb2
    go_wp2_with fail
    refine (nc _ _ hB2 rfl).mono ?_
    rintro e w3 ⟨⟨a', rfl, hu⟩, hb3⟩
    go_wp2
    go_ret3
    exact ⟨⟨_, _, rfl, HQ.out.keep (bthen (bal (Below.refl _ _) _) hb3), ⟨a', _, L, rfl, rfl, hu, HN.out, HL.out⟩⟩, bthen (bal hB2 _) hb3⟩
end Go.Proofs.YtbmaffijncapiaaGreatDoor

/- limb: DivMod by a divisor of two limbs or more; DivMod. -/
namespace Go.Proofs.YtbmaffijncapiaaGreatDoor
open Num
open Go.ChangeShapes Go.WideShapes Go.ChangeAt Go.RowKit
set_option linter.unusedVariables false
set_option linter.unusedSimpArgs false
theorem rw_of_own {w : World} {base : Nat} {v : Value} {n : Nat} {L : List Nat} (h : w.ownsRow base 177 1 v n (cel L)) (h0 : L ≠ []) : ∃ g cap, v = .slice (some ⟨g, 0, none⟩) L.length cap ∧ base ≤ g ∧ L.length ≤ cap ∧ cap ≤ maxLen ∧ Rw32 w g L := by
  obtain ⟨hl, h1⟩ := h
  rw [cel_len, Nat.mul_one] at hl
  rcases h1 with ⟨rfl, h2⟩ | ⟨g, cap, cur, rfl, hg, hh, hc, hm, hs, ht⟩
  · exact absurd (List.length_eq_zero_iff.1 (hl.trans h2)) h0
  · subst hl
    exact ⟨g, cap, rfl, hg, hc, hm, cur, hh, by rwa [Nat.mul_one] at ht⟩

def Grown32 (B : Nat) (w' : World) (v : Value) (L : List Nat) : Prop := ∃ g cap, v = .slice (some ⟨g, 0, none⟩) L.length cap ∧ B ≤ g ∧ L.length ≤ cap ∧ cap ≤ maxLen ∧ Rw32 w' g L
set_option maxRecDepth 100000 in
theorem app32g {ops : Array Oper} {rest : List Oper} {o : Oper} {a : Act} {Q : Exit → Act → World → Prop} {wr : World} {b off : Nat} {L X : List Nat} {t : TypeId} (hgd : o.guard = none) {s x : Operand}
    (ho : o.op = .call { callee := .builtin .append, args := #[s, x], argTypes := #[48, 48] }) (hL : At32 wr b off L) (hs : a.eval s = .slice (some ⟨b, off, none⟩) L.length L.length)
    {c : Nat} (hx : a.eval x = .slice (some ⟨wr.heap.size, 0, none⟩) X.length c) (hX : X ≠ []) (hn : L.length + X.length ≤ 1099511627776)
    (h : ∀ v' w', Grown32 wr.heap.size w' v' (L ++ X) → Below wr.heap.size wr w' → wpList Tryz.prog ops Q rest (a.put o.dst v') w') : wpList Tryz.prog ops Q (o :: rest) a (wr.alloc (.cells (cel X).toArray t)) := by
  obtain ⟨i0, hi, hz0, hz1, hz2⟩ := info_parts info32
  have hXl : 0 < X.length := List.length_pos_iff.2 hX
  refine wpList_append_grows _ hgd s x 48 ho 177 i0 (.int .u32 0) 1 4 Tryz.underlying48 hi hz0 hz1 hz2 rfl (by decide) (some ⟨b, off, none⟩) L.length L.length (cel L) hs (fun h => by cases h) (by rw [cel_len, Nat.mul_one]) ?_ ⟨wr.heap.size, 0, none⟩ X.length c (cel X) hx (by rw [cel_len, Nat.mul_one]) (cells_new wr _ _) (cel_one _) (by omega) (by unfold maxLen; omega) (by omega) ?_
  · intro b' hb' j u hj
    cases hb'
    have hjl : j < L.length := by have := (List.getElem?_eq_some_iff.1 hj).1; rwa [cel_len] at this
    rw [cel_get L j hjl] at hj
    cases hj
    have := hL j hjl
    refine cell_alloc ?_ _
    unfold Addr.add
    split
    · subst_vars; simpa using this
    · exact this
  · intro v' w' hown hgr
    rw [← cel_app] at hown
    obtain ⟨g, cap, e, hg, r⟩ := rw_of_own hown (by simp [hX])
    exact h v' w' ⟨g, cap, e, by simp at hg; omega, r⟩ ((bal (Below.refl _ _) (.cells (cel X).toArray t)).grown hgr (by simp) (fun k e => by cases e))

theorem At32.okeepA {X : Nat → Prop} {a b : World} {q off : Nat} {l : List Nat} (h : At32 a q off l) (k : Out X a b) (hx : ∀ i, i = q → ¬ X i) : At32 b q off l :=
  ⟨fun i hi => okeep k (h i hi) (hx q rfl), by rw [typ_of_block (w := a) (k.block q (typ_lt h.ty) (hx q rfl))]; exact h.ty⟩

set_option maxRecDepth 100000 in
set_option maxHeartbeats 8000000 in
theorem divmod_great (a b : Option Addr) (ca cb : Nat) (l lb : List Nat) (w : World) (ha : U32 w a ca l) (hb : U32 w b cb lb) (h1 : l.length ≤ 274877906944) (h2 : lb.length ≤ 274877906944) (hge : val lb ≤ val l) (hs : 2 ≤ (trimL lb).length) :
    Calls Tryz.prog 225 #[.slice a l.length ca, .slice b lb.length cb] w fun e w' => (∃ u v, e = .returned (.tuple #[u, v, .int .i64 0]) ∧ NewL w' u (val l / val lb) ∧ NewL w' v (val l % val lb)) ∧ Below w.heap.size w w' := by
  have tc := trim_c b cb lb w hb
  have hbt := hb.trim
  have hbn := trim_nrm lb
  have h3 := Nat.le_trans (trim_len lb) h2
  rw [← val_trim lb] at *
  generalize trimL lb = m at *
  have cc := fun W (hB : Below w.heap.size w W) => limbCmp_c a b ca m.length l m W (ha.keep hB) (hbt.keep hB)
  have hcz := cmpN_neg (x := val l) (y := val m)
  rw [show decide (val l < val m) = false from by simpa using hge] at hcz
  obtain ⟨p, hp⟩ : ∃ p, m.length = p + 2 := ⟨m.length - 2, by omega⟩
  obtain ⟨hs1, hs2, hs3, hs4⟩ := shift_top hbt.2.2.1 hbn hp
  rcases hbt.2.2.2 with hm0 | ⟨bb, ob, rfl, hcell⟩
  · subst hm0; simp at hp
  have c0 := hcell (p + 1) (by omega)
  have htop := limb_get hbt.2.2.1 (p + 1)
  have HBT := Lib.hid hbt
  have HA := Lib.hid ha
  have hvm : 0 < val m := by
    apply Nat.pos_of_ne_zero; intro e
    rw [e, Nat.zero_mul] at hs3
    have : 0 < 2147483648 * BB ^ (p + 1) := Nat.mul_pos (by omega) (Nat.pow_pos BB_pos)
    omega
  generalize m.getD (p + 1) 0 = top at *
  obtain ⟨s, hse⟩ : ∃ s : Nat, s = 32 - bitN top := ⟨_, rfl⟩
  have es : 32 - (bitN top : Int) = (s : Int) := by omega
  rw [← hse] at hs3 hs4
  have hs32 : s ≤ 31 := by omega
  have lz := fun W => lz32_c top W htop
  rw [es] at lz
  have sc := fun W (hB : Below w.heap.size w W) => limbShl_c (some ⟨bb, ob, none⟩) m.length m s W (HBT.out.keep hB) (by omega) (by omega)
  have sd := fun W (hB : Below w.heap.size w W) => limbShl_c a ca l s W (HA.out.keep hB) (by omega) (by omega)
  have hml : (m.length : Int) - 1 = ((p + 1 : Nat) : Int) := by omega
  have hmz : ((m.length : Int) == 0) = false := by rw [beq_eq_false_iff_ne]; omega
  have hmz1 : ((m.length : Int) == 1) = false := by rw [beq_eq_false_iff_ne]; omega
  have hmi : ((p + 1 : Nat) : Int) < (m.length : Int) := by omega
  have HP := Lib.hid hp
  have HS := Lib.hid (And.intro hs3 hs4)
  have HGE := Lib.hid (And.intro hge hvm)
  clear hcell hbt hbn ha hb hs1 hs2 hs3 hs4 hse es hge hs hp
  generalize hp1 : p + 1 = p1 at *
  have HP1 := Lib.hid hp1
  clear hp1
  generalize hmn : m.length = ml at *
  have HML := Lib.hid hmn
  clear hmn
  generalize cmpN (val l) (val m) = z at *
  go_enter Tryz.func225, Tryz.ntmps225
  go_wp2_with fail
  refine tc.mono ?_
  rintro e w1 ⟨rfl, rfl⟩
  clear tc
  go_wp2_with fail
  refine (cc _ (Below.refl _ _)).mono ?_
  rintro e w1 ⟨rfl, hb1⟩
  have k0 := bkeep hb1 c0
  go_wp2_with fail
  refine (lz _).mono ?_
  rintro e w2 ⟨rfl, rfl⟩
  go_wp2_with fail
  refine (sc _ hb1).mono ?_
  rintro e w3 ⟨⟨uV, rfl, hV⟩, hb3⟩
  have hB3 := bthen hb1 hb3
  obtain ⟨aV, nV, V, rfl, hnV, hVu, hVn, hVv⟩ := hV
  go_wp2_with fail
  refine (sd _ hB3).mono ?_
  rintro e w4 ⟨⟨uL, rfl, hL⟩, hb4⟩
  have hB4 := bthen hB3 hb4
  obtain ⟨aL, nL, L, rfl, hnL, hLu, hLn, hLv⟩ := hL
  have hVu4 := hVu.keep hb4
  clear cc lz sc sd hb1 hb3 hb4 hcz k0 c0 hVu
  -- the lengths
  have hVlen : V.length = p + 2 := by
    have h1 := nrm_len_le (k := p1 + 1) hVn (by rw [hVv]; exact HS.out.2)
    have h2 := le_len (k := p1) hVu4.2.2.1 (by rw [hVv]; exact Nat.le_trans (Nat.le_mul_of_pos_left _ (by omega)) HS.out.1)
    have := HP1.out
    omega
  have hLlen : p + 2 ≤ L.length := by
    have h2 := le_len (k := p1) hLu.2.2.1 (by
      rw [hLv]
      refine Nat.le_trans (Nat.le_trans (Nat.le_mul_of_pos_left _ (by omega)) HS.out.1) (Nat.mul_le_mul HGE.out.1 (Nat.le_refl _)))
    have := HP1.out
    omega
  have hLmax : L.length ≤ l.length + 1 := nrm_len_le hLn (by
    rw [hLv, Nat.pow_succ]
    refine Nat.mul_lt_mul'' (val_lt HA.out.2.2.1) ?_
    refine Nat.lt_of_le_of_lt (Nat.pow_le_pow_right (by omega) hs32) (by unfold BB; omega))
  rcases hVu4.2.2.2 with hv0 | ⟨bv, ov, rfl, hVc⟩
  · subst hv0; simp at hVlen
  rcases hLu.2.2.2 with hv0 | ⟨bl, ol, rfl, hLc⟩
  · subst hv0; simp at hLlen
  have hVtop := top_of_val (p := p1) hVu4.2.2.1 (by have := HP1.out; omega) (by rw [hVv]; exact HS.out.1)
  have hbv := typ_lt hVc.ty
  subst hnV hnL
  have hLn1 : L.length + 1 ≤ 274877906946 := by omega
  obtain ⟨nv, hnv⟩ : ∃ nv, nv = V.length := ⟨_, rfl⟩
  rw [← hnv]
  obtain ⟨M, hM⟩ : ∃ M, L.length + 1 = M + nv := ⟨L.length + 1 - nv, by omega⟩
  have eM : (L.length : Int) + 1 - (nv : Int) = (M : Int) := by omega
  have hmk := mk32 M (by omega)
  have HM := Lib.hid (And.intro hM (And.intro hnv hVlen))
  have hVL := hVu4.2.2.1
  have hLL := hLu.2.2.1
  have hMm : M ≤ 274877906946 := by omega
  have hnvm : nv ≤ 274877906946 := by omega
  clear hVlen hM hnv hVu4 hLu hLlen hLmax
  go_wp2_with (at_builtin; refine app32g (X := [0]) rfl rfl hLc rfl rfl ?_ ?_ ?_; exact List.cons_ne_nil _ _; (simp; omega); rintro u5 w5 ⟨gu, cu, rfl, hgu, hcu, hcm, hU⟩ hb5)
  have hB5 := bthen hB4 hb5
  have HU := Lib.hid hU
  have hV5 : At32 w5 bv ov V := ⟨fun j hj => bkeep hb5 (hVc j hj), typ_keep hVc.ty hb5⟩
  have hgb : bv ≠ gu := by omega
  have hgl := hU.lt
  have hw5 : w.heap.size ≤ w4.heap.size := hB4.size
  have hcuL : L.length + 1 ≤ cu := by simpa using hcu
  clear hU hLc hVc hcu hb5 hB4 hB3
  have HV5 := Lib.hid hV5
  have hbv5 := typ_lt hV5.ty
  clear hV5
  go_wp2
  have HL0 := Lib.hid (show val ((L ++ [0]).drop M) < val V by
    refine Nat.lt_of_lt_of_le (m := BB ^ p1) ?_ (by rw [hVv]; exact Nat.le_trans (Nat.le_mul_of_pos_left _ (by omega)) HS.out.1)
    have h5 := HM.out
    have h6 := HP1.out
    rw [List.drop_append_of_le_length (by omega), val_append]
    simp only [val, Nat.mul_zero, Nat.add_zero]
    refine Nat.lt_of_lt_of_le (val_lt fun x hx => hLL x (List.mem_of_mem_drop hx)) (Nat.pow_le_pow_right BB_pos ?_)
    rw [List.length_drop]; omega)
  have HA0 := Lib.hid (show val (List.replicate M 0) * val V + val (L ++ [0]) = val L by rw [val_zeros, val_append]; simp [val])
  go_loopw [17] (fun x wr => ∃ (j : Nat) (U Q : List Nat), j ≤ M ∧ x = .int .i64 ((j : Int) - 1) ∧ Rw32 wr gu U ∧ Blk wr w5.heap.size Q ∧ Hid (U.length = L.length + 1) ∧ Hid (Q.length = M) ∧ Limbs U ∧ Limbs Q ∧ Hid (∀ i, i < j → Q.getD i 0 = 0) ∧ Hid (val Q * val V + val U = val L) ∧ Hid (val (U.drop j) < val V) ∧ Out (fun k => k = gu ∨ k = w5.heap.size) w5 wr) (fun x _ => (intOf x + 1).toNat)
  case atStart => exact ⟨M, L ++ [0], List.replicate M 0, Nat.le_refl _, rfl, HU.out.keep (bal (Below.refl _ _) _), blk_new w5 _, Lib.hid (by simp), Lib.hid (by simp), (fun y hy => by
    rcases List.mem_append.1 hy with h | h
    · exact hLL y h
    · simp at h; subst h; exact BB_pos), (fun y hy => by simp at hy; rw [hy.2]; exact BB_pos), Lib.hid (fun i hi => by simp [hi]), HA0, HL0, Out.of_below _ (bal (Below.refl _ _) _)⟩
  case round =>
    obtain ⟨j, U, Q, hj, rfl, hU, hQ, hUl, hQl, hUL, hQL, hQ0, hA, hH, hOut⟩ := hrel
    cases j with
    | zero =>
      have hUc := Lib.hid (hU.u32 hUL (c := cu) (by have := hUl.out; omega) hcm)
      have hQu := hQ.u32 hQL (by have := hQl.out; unfold maxLen; omega)
      have hB9 : Below w.heap.size w wr := hB5.trans (hOut.to_below (fun k hk _ h => by rcases h with h | h <;> omega) (by have := hB5.size; omega))
      have sh := fun W (h : Below wr.heap.size wr W) => limbShr_c (some ⟨gu, 0, none⟩) cu U s W (hUc.out.keep h) (by have := hUl.out; omega) (by omega)
      rw [hUl.out] at sh
      have tc := fun W (h : Below wr.heap.size wr W) => trim_c (some ⟨w5.heap.size, 0, none⟩) Q.length Q W (hQu.keep h)
      rw [hQl.out] at tc
      have HE := Lib.hid (dm_end (A := val l) (B := val m) (s := s) (Q := val Q) (R := val U) HGE.out.2 (by rw [← hVv, ← hLv]; exact hA.out) (by rw [← hVv]; exact hH.out))
      have HT := Lib.hid (val_trim Q)
      have HN := Lib.hid (trim_nrm Q)
      have HQ := Lib.hid hQu.trim
      generalize trimL Q = T at *
      clear hUc hQu hU hQ hOut hA hH hQ0
      go_wp2_with fail
      (with_reducible refine (sh _ (Below.refl _ _)).mono ?_)
      rintro e w6 ⟨⟨uR, rfl, hR⟩, hb6⟩
      have HR := Lib.hid hR
      obtain ⟨aR, nR, R, rfl, -⟩ := hR
      go_wp2_with fail
      (with_reducible refine (tc _ hb6).mono ?_)
      rintro e w7 ⟨rfl, rfl⟩
      clear tc sh
      go_wp2
      go_ret3
      exact ⟨⟨_, _, rfl, ⟨_, _, T, rfl, rfl, HQ.out.keep hb6, HN.out, by rw [HT.out, HE.out.1]⟩, by rw [HE.out.2]; exact HR.out⟩, bthen hB9 hb6⟩
    | succ j =>
      have dc := fun W (hu : Rw32 W gu U) (hv : At32 W bv ov V) => digit_c gu j p (cu - j) bv ov nv U V W hu hUL (by have := hUl.out; have := HM.out; omega) (by have := HM.out; omega) (by have := hUl.out; omega) hv hVL HM.out.2.2 (by have := HM.out; omega) hgb (by rw [HP1.out]; exact hVtop) (by
        have h7 := dm_pre (U := U) (k := j) (n := p + 2) (D := val V) hUL (by have := hUl.out; have := HM.out; omega) hH.out (by rw [← HM.out.2.2]; exact val_lt hVL)
        rw [h7.1]; exact h7.2)
      rw [show p + 3 = nv + 1 by have := HM.out; omega, show p + 2 = nv by have := HM.out; omega] at dc
      have ej : ((j : Int) + (nv : Int) + 1 - (j : Int)).toNat = nv + 1 := by omega
      have hjc : j < cu := by omega
      go_wp2_with fail
      rw [show j + nv + 1 - j = nv + 1 by omega]
      (with_reducible refine (dc _ hU (HV5.out.okeepA hOut (by intro i e; show ¬ (i = gu ∨ i = w5.heap.size); omega))).mono ?_)
      rintro e w6 ⟨⟨O, rfl, hO, hOl, hOL, hO0, hOw⟩, hOut2⟩
      have hgq : gu ≠ w5.heap.size := by omega
      have hQ6 := Lib.hid (show Blk w6 w5.heap.size Q from hOut2.blk hQ (fun h => hgq (show _ = _ from h).symm))
      have HW6 := Lib.hid (hOut.trans (hOut2.mono (fun i _ h => .inl h)))
      have HS6 := Lib.hid (fun d hd => dm_step (U := U) (O := O) (Q := Q) (j := j) (n := nv) (D := val V) (A := val L) (d := d) hUL hOL hOl (by have := hUl.out; have := HM.out; omega) (by have := hQl.out; omega) (hQ0.out j (by omega)) (by have h := val_lt hVL; rwa [HM.out.2.1.symm] at h) (by have := HL0.out; omega) hH.out hA.out hO0 hd hOw)
      have hdB : win U j (nv + 1) / val V < BB := Nat.div_lt_of_lt_mul (by
        have h7 := dm_pre (U := U) (k := j) (n := nv) (D := val V) hUL (by have := hUl.out; have := HM.out; omega) hH.out (by rw [HM.out.2.1]; exact val_lt hVL)
        rw [h7.1]; exact h7.2)
      obtain ⟨d, hd⟩ : ∃ d, d = win U j (nv + 1) / val V := ⟨_, rfl⟩
      have HD := Lib.hid (HS6.out d hd)
      rw [← hd] at hdB
      rw [← hd]
      have q0 := hQ6.out.cell j (by have := hQl.out; omega)
      have qf := hQ6.out.frozen j
      have qb := hQ6.out.set j d
      have ub := hO
      have uo := HW6.out.set (p := ⟨w5.heap.size, j, none⟩) (fun _ => .inr rfl) (.int .u32 (d : Int))
      have HUO := Lib.hid (show Rw32 (w6.setCell ⟨w5.heap.size, j, none⟩ (.int .u32 (d : Int))) gu O from hO.out (X := fun k => k = w5.heap.size) ((Out.refl (fun k => k = w5.heap.size) w6).set (p := ⟨w5.heap.size, j, none⟩) (fun _ => rfl) _) (fun h => hgq h))
      have ql := limbs_set hQL (k := j) hdB
      have hjM : (j : Int) < (M : Int) := by omega
      have HO := Lib.hid (And.intro hOl (And.intro hOL hO0))
      clear dc hOl hO0 hOw hd HS6 hOut hOut2 hU hQ ub hO
      go_wp2
      refine ⟨⟨j, O, Q.set j d, by omega, rfl, HUO.out, qb, Lib.hid (HO.out.1.trans hUl.out), Lib.hid (by simpa using hQl.out), HO.out.2.1, ql, Lib.hid ?_, Lib.hid HD.out.1, Lib.hid HD.out.2, uo⟩, by simp [intOf] <;> omega⟩
      intro i hi
      rw [getD_set_far (by omega)]
      exact hQ0.out i (by omega)

theorem limbDivMod_c (a b : Option Addr) (ca cb : Nat) (l lb : List Nat) (w : World) (ha : U32 w a ca l) (hb : U32 w b cb lb) (h1 : l.length ≤ 274877906944) (h2 : lb.length ≤ 274877906944) (h0 : 0 < val lb) :
    Calls Tryz.prog 225 #[.slice a l.length ca, .slice b lb.length cb] w fun e w' => (∃ u v, e = .returned (.tuple #[u, v, .int .i64 0]) ∧ NewL w' u (val l / val lb) ∧ NewL w' v (val l % val lb)) ∧ Below w.heap.size w w' := by
  by_cases hlt : val l < val lb
  · exact divmod_small a b ca cb l lb w ha hb (by omega) (by omega) h0 (.inl hlt)
  · by_cases h : (trimL lb).length = 1
    · exact divmod_small a b ca cb l lb w ha hb (by omega) (by omega) h0 (.inr h)
    · refine divmod_great a b ca cb l lb w ha hb h1 h2 (by omega) ?_
      have h3 : trimL lb ≠ [] := by
        intro e
        rw [← val_trim lb, e] at h0
        simp [val] at h0
      have := List.length_pos_iff.2 h3
      omega
end Go.Proofs.YtbmaffijncapiaaGreatDoor

/- integer: Twos, Shr, Over. -/
namespace Go.Proofs.YtbmaffijncapiaaGreatDoor
open Num
open Go.ChangeShapes Go.WideShapes Go.ChangeAt Go.RowKit
set_option linter.unusedVariables false
set_option linter.unusedSimpArgs false

namespace Num
end Num
end Go.Proofs.YtbmaffijncapiaaGreatDoor

/- vm, in plain Lean: what an instruction does to the registers, what a program comes to. -/
namespace Go.Proofs.YtbmaffijncapiaaGreatDoor
open Num
set_option linter.unusedVariables false
set_option linter.unusedSimpArgs false
def opI (i : Ins) (a b : Int) : Option Int :=
  if i.op = 2 then some (-a)
  else if i.op = 3 then some (a + b)
  else if i.op = 4 then some (a - b)
  else if i.op = 5 then some (a * i.c)
  else if i.op = 6 then (if a % i.c = 0 then some (a / i.c) else none)
  else if i.op = 7 then some (a * 2 ^ i.c.toNat)
  else if i.op = 8 then (if a % 2 ^ i.c.toNat = 0 then some (a / 2 ^ i.c.toNat) else none)
  else some a
abbrev Grid := List (List Int)
def stepR (i : Ins) (a b : List Int) : Option (List Int) :=
  if (List.range a.length).all (fun k => (opI i (a.getD k 0) (b.getD k 0)).isSome) then some ((List.range a.length).map fun k => (opI i (a.getD k 0) (b.getD k 0)).getD 0) else none
def after (code : List Ins) (g : Grid) : Nat → Option Grid
  | 0 => some g
  | n + 1 => (after code g n).bind fun h => (stepR (code.getD n default) (h.getD (code.getD n default).a.toNat []) (h.getD (code.getD n default).b.toNat [])).map fun r => h.set (code.getD n default).to.toNat r
end Go.Proofs.YtbmaffijncapiaaGreatDoor

/- vm: what each function value does that 'does' hands back. -/
namespace Go.Proofs.YtbmaffijncapiaaGreatDoor
open Num
open Go.ChangeShapes Go.WideShapes Go.ChangeAt Go.RowKit
set_option linter.unusedVariables false
set_option linter.unusedSimpArgs false
end Go.Proofs.YtbmaffijncapiaaGreatDoor

/- vm: 'always', and what does hands back. -/
namespace Go.Proofs.YtbmaffijncapiaaGreatDoor
open Num
open Go.ChangeShapes Go.WideShapes Go.ChangeAt Go.RowKit
set_option linter.unusedVariables false
set_option linter.unusedSimpArgs false
end Go.Proofs.YtbmaffijncapiaaGreatDoor

/- vm's laws: the numbers that come in, as the program's blocks and as the reference's. -/
namespace Go.Proofs.YtbmaffijncapiaaGreatDoor
open Num
open Go.ChangeShapes Go.WideShapes Go.ChangeAt Go.RowKit
set_option linter.unusedVariables false
set_option linter.unusedSimpArgs false
def I64 (x : Int) : Prop := -9223372036854775808 ≤ x ∧ x ≤ 9223372036854775807
def RowI (w : World) (v : Value) (l : List Int) : Prop := ∃ a c, v = .slice a l.length c ∧ ∀ k, k < l.length → ∃ b off, a = some ⟨b, off, none⟩ ∧ w.cell? ⟨b, off + k, none⟩ = some (.int .i64 (l.getD k 0)) ∧ I64 (l.getD k 0)
theorem RowI.keep {w w' : World} {v : Value} {l : List Int} (h : RowI w v l) (hb : Below w.heap.size w w') : RowI w' v l := by
  obtain ⟨a, c, h1, h2⟩ := h
  exact ⟨a, c, h1, fun k hk => by obtain ⟨b, off, h3, h4, h5⟩ := h2 k hk; exact ⟨b, off, h3, bkeep hb h4, h5⟩⟩
def GridI (w : World) (v : Value) (g : Grid) : Prop := ∃ a c, v = .slice a g.length c ∧ ∀ k, k < g.length → ∃ b off u, a = some ⟨b, off, none⟩ ∧ w.cell? ⟨b, off + k, none⟩ = some u ∧ RowI w u (g.getD k [])
theorem GridI.keep {w w' : World} {v : Value} {g : Grid} (h : GridI w v g) (hb : Below w.heap.size w w') : GridI w' v g := by
  obtain ⟨a, c, h1, h2⟩ := h
  exact ⟨a, c, h1, fun k hk => by obtain ⟨b, off, u, h3, h4, h5⟩ := h2 k hk; exact ⟨b, off, u, h3, bkeep hb h4, h5.keep hb⟩⟩
theorem take_getD {α : Type} {l : List α} {k : Nat} (d : α) (h : k < l.length) : l.take (k + 1) = l.take k ++ [l.getD k d] := by
  rw [List.take_succ_eq_append_getElem h]; simp [h]
theorem OwnF.congr' {R : World → Value → Int → Prop} {E : TypeId} {w0 wr : World} {v : Value} {n : Nat} {f f' : Nat → Int} (h : OwnF R E w0 wr v n f) (he : ∀ k, k < n → f k = f' k) : OwnF R E w0 wr v n f' := by
  obtain ⟨xs, h1, h2⟩ := h
  exact ⟨xs, h1, fun k hk => by rw [← he k hk]; exact h2 k hk⟩
end Go.Proofs.YtbmaffijncapiaaGreatDoor

/- row: each. -/
namespace Go.Proofs.YtbmaffijncapiaaGreatDoor
open Num
open Go.ChangeShapes Go.WideShapes Go.ChangeAt Go.RowKit
set_option linter.unusedVariables false
set_option linter.unusedSimpArgs false

def OwnNB (base : Nat) (w : World) (v : Value) (n : Nat) (f : Nat → Int) : Prop :=
  ∃ xs, w.ownsRow base 50 2 v n xs ∧ ∀ k, k < n → ∃ nb a len c, xs[k * 2]? = some (.bool nb) ∧ xs[k * 2 + 1]? = some (.slice a len c) ∧ IsInt w (.agg #[.bool nb, .slice a len c]) (f k)
section
variable {base : Nat} {w w' : World} {v : Value} {n : Nat} {f : Nat → Int}
theorem OwnNB.kp {S : TypeId → Prop} (h : OwnNB base w v n f) (k : Kp S w w') (h1 : S 50) (h2 : S 177) : OwnNB base w' v n f := by
  obtain ⟨xs, hO, h⟩ := h
  refine ⟨xs, owns_kp hO k h1, fun j hj => ?_⟩
  obtain ⟨nb, a, len, c, k1, k2, k3⟩ := h j hj
  exact ⟨nb, a, len, c, k1, k2, k3.lim (k.lim h2)⟩
theorem OwnNB.keep (h : OwnNB base w v n f) (k : Below w.heap.size w w') : OwnNB base w' v n f := h.kp (S := fun _ => True) (Kp.of_below _ k) trivial trivial
theorem OwnNB.congr {f' : Nat → Int} (h : OwnNB base w v n f) (he : ∀ k, k < n → f k = f' k) : OwnNB base w v n f' := by
  obtain ⟨xs, h1, h2⟩ := h
  exact ⟨xs, h1, fun k hk => by rw [← he k hk]; exact h2 k hk⟩
end
section
variable {P : Program} {ops : Array Oper} {o : Oper} {a : Act} {Q : Exit → Act → World → Prop} {base : Nat} {wr : World} {v : Value} {n : Nat} {f : Nat → Int} {t : TypeId} {s x : Operand} {nb : Bool} {ad : Option Addr} {len c cc : Nat} {z : Int}
end
end Go.Proofs.YtbmaffijncapiaaGreatDoor

/- row: each. -/
namespace Go.Proofs.YtbmaffijncapiaaGreatDoor
open Num
open Go.ChangeShapes Go.WideShapes Go.ChangeAt Go.RowKit
set_option linter.unusedVariables false
set_option linter.unusedSimpArgs false
attribute [local go_sem ↓] Go.wp_at_zero Go.wp_at_succ
end Go.Proofs.YtbmaffijncapiaaGreatDoor

/- row: Scale. -/
namespace Go.Proofs.YtbmaffijncapiaaGreatDoor
open Num
open Go.ChangeShapes Go.WideShapes Go.ChangeAt Go.RowKit
set_option linter.unusedVariables false
set_option linter.unusedSimpArgs false
attribute [local go_sem ↓] Go.wp_at_zero Go.wp_at_succ
end Go.Proofs.YtbmaffijncapiaaGreatDoor

/- row: both, Add, Sub. -/
namespace Go.Proofs.YtbmaffijncapiaaGreatDoor
open Num
open Go.ChangeShapes Go.WideShapes Go.ChangeAt Go.RowKit
set_option linter.unusedVariables false
set_option linter.unusedSimpArgs false
attribute [local go_sem ↓] Go.wp_at_zero Go.wp_at_succ
theorem typ_fresh {w : World} {c : Array Value} {t : TypeId} {q : Nat} (h : q = w.heap.size) : typOf (w.alloc (.cells c t)) q = some t := by
  subst h; unfold typOf; rw [(MapKept.heap_alloc w _).1]
end Go.Proofs.YtbmaffijncapiaaGreatDoor

/- vm: a machine in memory; what keeps it. -/
namespace Go.Proofs.YtbmaffijncapiaaGreatDoor
open Num
open Go.ChangeShapes Go.WideShapes Go.ChangeAt Go.RowKit
set_option linter.unusedVariables false
set_option linter.unusedSimpArgs false
section
variable {S : TypeId → Prop} {w w' : World}
end
structure RegsAt (base : Nat) (w : World) (rb : Nat) (g : Grid) : Prop where
  free : Free w rb
  ty : typOf w rb = some 68
  cell : ∀ k, k < g.length → ∃ u, w.cell? ⟨rb, k, none⟩ = some u ∧ PRow base w u (g.getD k [])
theorem RegsAt.keep {base rb : Nat} {w w' : World} {g : Grid} (h : RegsAt base w rb g) (k : Below w.heap.size w w') : RegsAt base w' rb g :=
  ⟨h.free.keep k, typ_keep h.ty k, fun j hj => by obtain ⟨u, hu, hr⟩ := h.cell j hj; exact ⟨u, bkeep k hu, hr.keep lims_int k⟩⟩
section
variable {base : Nat} {w w' : World} {b pb : Nat} {ins regs : Int} {code : List Ins} {outs : List Int} {rv : Value}
end
end Go.Proofs.YtbmaffijncapiaaGreatDoor

