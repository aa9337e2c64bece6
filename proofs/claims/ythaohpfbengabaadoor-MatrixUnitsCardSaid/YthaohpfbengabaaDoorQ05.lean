/- Texts of this seat, laid together: LimbM, IntJ, VmP, VmB, VmC, NumT, RefG, RefH, RefI, RefJ, RefK, RefL. Each opens with its own remark, which says what it proves, and under which conditions. -/
import Derived.Test.YthaohpfbengabaaDoorQ04
import Derived.Test.YthaohpfbengabaaDoorQ02
import Derived.Test.YthaohpfbengabaaDoorQ01
import Derived.Test.YthaohpfbengabaaDoorQ03
import Derived.Shelf.Abstract
import Derived.Laws.EntriesVeiled
import Derived.RegionTactic
import Derived.ChangeAlike
import Derived.Laws.OwnMore
import Derived.Deep.Onto
set_option linter.unusedVariables false
set_option linter.unusedSimpArgs false
/- limb: DivMod by a divisor of two limbs or more; DivMod. -/
namespace Go.Proofs.YthaohpfbengabaaDoor
open Num
open Go.ChangeShapes Go.WideShapes Go.ChangeAt Go.RowKit
set_option linter.unusedVariables false
set_option linter.unusedSimpArgs false
theorem rw_of_own {w : World} {base : Nat} {v : Value} {n : Nat} {L : List Nat} (h : w.ownsRow base 89 1 v n (cel L)) (h0 : L ≠ []) : ∃ g cap, v = .slice (some ⟨g, 0, none⟩) L.length cap ∧ base ≤ g ∧ L.length ≤ cap ∧ cap ≤ maxLen ∧ Rw32 w g L := by
  obtain ⟨hl, h1⟩ := h
  rw [cel_len, Nat.mul_one] at hl
  rcases h1 with ⟨rfl, h2⟩ | ⟨g, cap, cur, rfl, hg, hh, hc, hm, hs, ht⟩
  · exact absurd (List.length_eq_zero_iff.1 (hl.trans h2)) h0
  · subst hl
    exact ⟨g, cap, rfl, hg, hc, hm, cur, hh, by rwa [Nat.mul_one] at ht⟩

/-- what an append makes of a full slice -/
def Grown32 (B : Nat) (w' : World) (v : Value) (L : List Nat) : Prop := ∃ g cap, v = .slice (some ⟨g, 0, none⟩) L.length cap ∧ B ≤ g ∧ L.length ≤ cap ∧ cap ≤ maxLen ∧ Rw32 w' g L
set_option maxRecDepth 100000 in
theorem app32g {ops : Array Oper} {rest : List Oper} {o : Oper} {a : Act} {Q : Exit → Act → World → Prop} {wr : World} {b off : Nat} {L X : List Nat} {t : TypeId} (hgd : o.guard = none) {s x : Operand}
    (ho : o.op = .call { callee := .builtin .append, args := #[s, x], argTypes := #[31, 31] }) (hL : At32 wr b off L) (hs : a.eval s = .slice (some ⟨b, off, none⟩) L.length L.length)
    {c : Nat} (hx : a.eval x = .slice (some ⟨wr.heap.size, 0, none⟩) X.length c) (hX : X ≠ []) (hn : L.length + X.length ≤ 1099511627776)
    (h : ∀ v' w', Grown32 wr.heap.size w' v' (L ++ X) → Below wr.heap.size wr w' → wpList Tryd.prog ops Q rest (a.put o.dst v') w') : wpList Tryd.prog ops Q (o :: rest) a (wr.alloc (.cells (cel X).toArray t)) := by
  obtain ⟨i0, hi, hz0, hz1, hz2⟩ := info_parts info32
  have hXl : 0 < X.length := List.length_pos_iff.2 hX
  refine wpList_append_grows _ hgd s x 31 ho 89 i0 (.int .u32 0) 1 4 Tryd.underlying31 hi hz0 hz1 hz2 rfl (by decide) (some ⟨b, off, none⟩) L.length L.length (cel L) hs (fun h => by cases h) (by rw [cel_len, Nat.mul_one]) ?_ ⟨wr.heap.size, 0, none⟩ X.length c (cel X) hx (by rw [cel_len, Nat.mul_one]) (cells_new wr _ _) (cel_one _) (by omega) (by unfold maxLen; omega) (by omega) ?_
  · intro b' hb' j u hj
    cases hb'
    have hjl : j < L.length := by have := (List.getElem?_eq_some_iff.1 hj).1; rwa [cel_len] at this
    rw [cel_get L j hjl] at hj
    cases hj
    have := hL j hjl
    refine cell_alloc ?_ _
    unfold Addr.add
    split
    · subst_vars; simpa using this
    · exact this
  · intro v' w' hown hgr
    rw [← cel_app] at hown
    obtain ⟨g, cap, e, hg, r⟩ := rw_of_own hown (by simp [hX])
    exact h v' w' ⟨g, cap, e, by simp at hg; omega, r⟩ ((bal (Below.refl _ _) (.cells (cel X).toArray t)).grown hgr (by simp) (fun k e => by cases e))

theorem At32.okeepA {X : Nat → Prop} {a b : World} {q off : Nat} {l : List Nat} (h : At32 a q off l) (k : Out X a b) (hx : ∀ i, i = q → ¬ X i) : At32 b q off l :=
  ⟨fun i hi => okeep k (h i hi) (hx q rfl), by rw [typ_of_block (w := a) (k.block q (typ_lt h.ty) (hx q rfl))]; exact h.ty⟩

set_option maxRecDepth 100000 in
set_option maxHeartbeats 8000000 in
theorem divmod_great (a b : Option Addr) (ca cb : Nat) (l lb : List Nat) (w : World) (ha : U32 w a ca l) (hb : U32 w b cb lb) (h1 : l.length ≤ 274877906944) (h2 : lb.length ≤ 274877906944) (hge : val lb ≤ val l) (hs : 2 ≤ (trimL lb).length) :
    Calls Tryd.prog 90 #[.slice a l.length ca, .slice b lb.length cb] w fun e w' => (∃ u v, e = .returned (.tuple #[u, v, .int .i64 0]) ∧ NewL w' u (val l / val lb) ∧ NewL w' v (val l % val lb)) ∧ Below w.heap.size w w' := by
  have tc := trim_c b cb lb w hb
  have hbt := hb.trim
  have hbn := trim_nrm lb
  have h3 := Nat.le_trans (trim_len lb) h2
  rw [← val_trim lb] at *
  generalize trimL lb = m at *
  have cc := fun W (hB : Below w.heap.size w W) => limbCmp_c a b ca m.length l m W (ha.keep hB) (hbt.keep hB)
  have hcz := cmpN_neg (x := val l) (y := val m)
  rw [show decide (val l < val m) = false from by simpa using hge] at hcz
  obtain ⟨p, hp⟩ : ∃ p, m.length = p + 2 := ⟨m.length - 2, by omega⟩
  obtain ⟨hs1, hs2, hs3, hs4⟩ := shift_top hbt.2.2.1 hbn hp
  rcases hbt.2.2.2 with hm0 | ⟨bb, ob, rfl, hcell⟩
  · subst hm0; simp at hp
  have c0 := hcell (p + 1) (by omega)
  have htop := limb_get hbt.2.2.1 (p + 1)
  have HBT := Lib.hid hbt
  have HA := Lib.hid ha
  have hvm : 0 < val m := by
    apply Nat.pos_of_ne_zero; intro e
    rw [e, Nat.zero_mul] at hs3
    have : 0 < 2147483648 * BB ^ (p + 1) := Nat.mul_pos (by omega) (Nat.pow_pos BB_pos)
    omega
  generalize m.getD (p + 1) 0 = top at *
  obtain ⟨s, hse⟩ : ∃ s : Nat, s = 32 - bitN top := ⟨_, rfl⟩
  have es : 32 - (bitN top : Int) = (s : Int) := by omega
  rw [← hse] at hs3 hs4
  have hs32 : s ≤ 31 := by omega
  have lz := fun W => lz32_c top W htop
  rw [es] at lz
  have sc := fun W (hB : Below w.heap.size w W) => limbShl_c (some ⟨bb, ob, none⟩) m.length m s W (HBT.out.keep hB) (by omega) (by omega)
  have sd := fun W (hB : Below w.heap.size w W) => limbShl_c a ca l s W (HA.out.keep hB) (by omega) (by omega)
  have hml : (m.length : Int) - 1 = ((p + 1 : Nat) : Int) := by omega
  have hmz : ((m.length : Int) == 0) = false := by rw [beq_eq_false_iff_ne]; omega
  have hmz1 : ((m.length : Int) == 1) = false := by rw [beq_eq_false_iff_ne]; omega
  have hmi : ((p + 1 : Nat) : Int) < (m.length : Int) := by omega
  have HP := Lib.hid hp
  have HS := Lib.hid (And.intro hs3 hs4)
  have HGE := Lib.hid (And.intro hge hvm)
  clear hcell hbt hbn ha hb hs1 hs2 hs3 hs4 hse es hge hs hp
  generalize hp1 : p + 1 = p1 at *
  have HP1 := Lib.hid hp1
  clear hp1
  generalize hmn : m.length = ml at *
  have HML := Lib.hid hmn
  clear hmn
  generalize cmpN (val l) (val m) = z at *
  go_enter Tryd.func90, Tryd.ntmps90
  go_wp2_with fail
  refine tc.mono ?_
  rintro e w1 ⟨rfl, rfl⟩
  clear tc
  go_wp2_with fail
  refine (cc _ (Below.refl _ _)).mono ?_
  rintro e w1 ⟨rfl, hb1⟩
  have k0 := bkeep hb1 c0
  go_wp2_with fail
  refine (lz _).mono ?_
  rintro e w2 ⟨rfl, rfl⟩
  go_wp2_with fail
  refine (sc _ hb1).mono ?_
  rintro e w3 ⟨⟨uV, rfl, hV⟩, hb3⟩
  have hB3 := bthen hb1 hb3
  obtain ⟨aV, nV, V, rfl, hnV, hVu, hVn, hVv⟩ := hV
  go_wp2_with fail
  refine (sd _ hB3).mono ?_
  rintro e w4 ⟨⟨uL, rfl, hL⟩, hb4⟩
  have hB4 := bthen hB3 hb4
  obtain ⟨aL, nL, L, rfl, hnL, hLu, hLn, hLv⟩ := hL
  have hVu4 := hVu.keep hb4
  clear cc lz sc sd hb1 hb3 hb4 hcz k0 c0 hVu
  -- the lengths
  have hVlen : V.length = p + 2 := by
    have h1 := nrm_len_le (k := p1 + 1) hVn (by rw [hVv]; exact HS.out.2)
    have h2 := le_len (k := p1) hVu4.2.2.1 (by rw [hVv]; exact Nat.le_trans (Nat.le_mul_of_pos_left _ (by omega)) HS.out.1)
    have := HP1.out
    omega
  have hLlen : p + 2 ≤ L.length := by
    have h2 := le_len (k := p1) hLu.2.2.1 (by
      rw [hLv]
      refine Nat.le_trans (Nat.le_trans (Nat.le_mul_of_pos_left _ (by omega)) HS.out.1) (Nat.mul_le_mul HGE.out.1 (Nat.le_refl _)))
    have := HP1.out
    omega
  have hLmax : L.length ≤ l.length + 1 := nrm_len_le hLn (by
    rw [hLv, Nat.pow_succ]
    refine Nat.mul_lt_mul'' (val_lt HA.out.2.2.1) ?_
    refine Nat.lt_of_le_of_lt (Nat.pow_le_pow_right (by omega) hs32) (by unfold BB; omega))
  rcases hVu4.2.2.2 with hv0 | ⟨bv, ov, rfl, hVc⟩
  · subst hv0; simp at hVlen
  rcases hLu.2.2.2 with hv0 | ⟨bl, ol, rfl, hLc⟩
  · subst hv0; simp at hLlen
  have hVtop := top_of_val (p := p1) hVu4.2.2.1 (by have := HP1.out; omega) (by rw [hVv]; exact HS.out.1)
  have hbv := typ_lt hVc.ty
  subst hnV hnL
  have hLn1 : L.length + 1 ≤ 274877906946 := by omega
  obtain ⟨nv, hnv⟩ : ∃ nv, nv = V.length := ⟨_, rfl⟩
  rw [← hnv]
  obtain ⟨M, hM⟩ : ∃ M, L.length + 1 = M + nv := ⟨L.length + 1 - nv, by omega⟩
  have eM : (L.length : Int) + 1 - (nv : Int) = (M : Int) := by omega
  have hmk := mk32 M (by omega)
  have HM := Lib.hid (And.intro hM (And.intro hnv hVlen))
  have hVL := hVu4.2.2.1
  have hLL := hLu.2.2.1
  have hMm : M ≤ 274877906946 := by omega
  have hnvm : nv ≤ 274877906946 := by omega
  clear hVlen hM hnv hVu4 hLu hLlen hLmax
  go_wp2_with (at_builtin; refine app32g (X := [0]) rfl rfl hLc rfl rfl ?_ ?_ ?_; exact List.cons_ne_nil _ _; (simp; omega); rintro u5 w5 ⟨gu, cu, rfl, hgu, hcu, hcm, hU⟩ hb5)
  have hB5 := bthen hB4 hb5
  have HU := Lib.hid hU
  have hV5 : At32 w5 bv ov V := ⟨fun j hj => bkeep hb5 (hVc j hj), typ_keep hVc.ty hb5⟩
  have hgb : bv ≠ gu := by omega
  have hgl := hU.lt
  have hw5 : w.heap.size ≤ w4.heap.size := hB4.size
  have hcuL : L.length + 1 ≤ cu := by simpa using hcu
  clear hU hLc hVc hcu hb5 hB4 hB3
  have HV5 := Lib.hid hV5
  have hbv5 := typ_lt hV5.ty
  clear hV5
  go_wp2
  have HL0 := Lib.hid (show val ((L ++ [0]).drop M) < val V by
    refine Nat.lt_of_lt_of_le (m := BB ^ p1) ?_ (by rw [hVv]; exact Nat.le_trans (Nat.le_mul_of_pos_left _ (by omega)) HS.out.1)
    have h5 := HM.out
    have h6 := HP1.out
    rw [List.drop_append_of_le_length (by omega), val_append]
    simp only [val, Nat.mul_zero, Nat.add_zero]
    refine Nat.lt_of_lt_of_le (val_lt fun x hx => hLL x (List.mem_of_mem_drop hx)) (Nat.pow_le_pow_right BB_pos ?_)
    rw [List.length_drop]; omega)
  have HA0 := Lib.hid (show val (List.replicate M 0) * val V + val (L ++ [0]) = val L by rw [val_zeros, val_append]; simp [val])
  go_loopw [17] (fun x wr => ∃ (j : Nat) (U Q : List Nat), j ≤ M ∧ x = .int .i64 ((j : Int) - 1) ∧ Rw32 wr gu U ∧ Blk wr w5.heap.size Q ∧ Hid (U.length = L.length + 1) ∧ Hid (Q.length = M) ∧ Limbs U ∧ Limbs Q ∧ Hid (∀ i, i < j → Q.getD i 0 = 0) ∧ Hid (val Q * val V + val U = val L) ∧ Hid (val (U.drop j) < val V) ∧ Out (fun k => k = gu ∨ k = w5.heap.size) w5 wr) (fun x _ => (intOf x + 1).toNat)
  case atStart => exact ⟨M, L ++ [0], List.replicate M 0, Nat.le_refl _, rfl, HU.out.keep (bal (Below.refl _ _) _), blk_new w5 _, Lib.hid (by simp), Lib.hid (by simp), (fun y hy => by
    rcases List.mem_append.1 hy with h | h
    · exact hLL y h
    · simp at h; subst h; exact BB_pos), (fun y hy => by simp at hy; rw [hy.2]; exact BB_pos), Lib.hid (fun i hi => by simp [hi]), HA0, HL0, Out.of_below _ (bal (Below.refl _ _) _)⟩
  case round =>
    obtain ⟨j, U, Q, hj, rfl, hU, hQ, hUl, hQl, hUL, hQL, hQ0, hA, hH, hOut⟩ := hrel
    cases j with
    | zero =>
      have hUc := Lib.hid (hU.u32 hUL (c := cu) (by have := hUl.out; omega) hcm)
      have hQu := hQ.u32 hQL (by have := hQl.out; unfold maxLen; omega)
      have hB9 : Below w.heap.size w wr := hB5.trans (hOut.to_below (fun k hk _ h => by rcases h with h | h <;> omega) (by have := hB5.size; omega))
      have sh := fun W (h : Below wr.heap.size wr W) => limbShr_c (some ⟨gu, 0, none⟩) cu U s W (hUc.out.keep h) (by have := hUl.out; omega) (by omega)
      rw [hUl.out] at sh
      have tc := fun W (h : Below wr.heap.size wr W) => trim_c (some ⟨w5.heap.size, 0, none⟩) Q.length Q W (hQu.keep h)
      rw [hQl.out] at tc
      have HE := Lib.hid (dm_end (A := val l) (B := val m) (s := s) (Q := val Q) (R := val U) HGE.out.2 (by rw [← hVv, ← hLv]; exact hA.out) (by rw [← hVv]; exact hH.out))
      have HT := Lib.hid (val_trim Q)
      have HN := Lib.hid (trim_nrm Q)
      have HQ := Lib.hid hQu.trim
      generalize trimL Q = T at *
      clear hUc hQu hU hQ hOut hA hH hQ0
      go_wp2_with fail
      (with_reducible refine (sh _ (Below.refl _ _)).mono ?_)
      rintro e w6 ⟨⟨uR, rfl, hR⟩, hb6⟩
      have HR := Lib.hid hR
      obtain ⟨aR, nR, R, rfl, -⟩ := hR
      go_wp2_with fail
      (with_reducible refine (tc _ hb6).mono ?_)
      rintro e w7 ⟨rfl, rfl⟩
      clear tc sh
      go_wp2
      go_ret3
      exact ⟨⟨_, _, rfl, ⟨_, _, T, rfl, rfl, HQ.out.keep hb6, HN.out, by rw [HT.out, HE.out.1]⟩, by rw [HE.out.2]; exact HR.out⟩, bthen hB9 hb6⟩
    | succ j =>
      have dc := fun W (hu : Rw32 W gu U) (hv : At32 W bv ov V) => digit_c gu j p (cu - j) bv ov nv U V W hu hUL (by have := hUl.out; have := HM.out; omega) (by have := HM.out; omega) (by have := hUl.out; omega) hv hVL HM.out.2.2 (by have := HM.out; omega) hgb (by rw [HP1.out]; exact hVtop) (by
        have h7 := dm_pre (U := U) (k := j) (n := p + 2) (D := val V) hUL (by have := hUl.out; have := HM.out; omega) hH.out (by rw [← HM.out.2.2]; exact val_lt hVL)
        rw [h7.1]; exact h7.2)
      rw [show p + 3 = nv + 1 by have := HM.out; omega, show p + 2 = nv by have := HM.out; omega] at dc
      have ej : ((j : Int) + (nv : Int) + 1 - (j : Int)).toNat = nv + 1 := by omega
      have hjc : j < cu := by omega
      go_wp2_with fail
      rw [show j + nv + 1 - j = nv + 1 by omega]
      (with_reducible refine (dc _ hU (HV5.out.okeepA hOut (by intro i e; show ¬ (i = gu ∨ i = w5.heap.size); omega))).mono ?_)
      rintro e w6 ⟨⟨O, rfl, hO, hOl, hOL, hO0, hOw⟩, hOut2⟩
      have hgq : gu ≠ w5.heap.size := by omega
      have hQ6 := Lib.hid (show Blk w6 w5.heap.size Q from hOut2.blk hQ (fun h => hgq (show _ = _ from h).symm))
      have HW6 := Lib.hid (hOut.trans (hOut2.mono (fun i _ h => .inl h)))
      have HS6 := Lib.hid (fun d hd => dm_step (U := U) (O := O) (Q := Q) (j := j) (n := nv) (D := val V) (A := val L) (d := d) hUL hOL hOl (by have := hUl.out; have := HM.out; omega) (by have := hQl.out; omega) (hQ0.out j (by omega)) (by have h := val_lt hVL; rwa [HM.out.2.1.symm] at h) (by have := HL0.out; omega) hH.out hA.out hO0 hd hOw)
      have hdB : win U j (nv + 1) / val V < BB := Nat.div_lt_of_lt_mul (by
        have h7 := dm_pre (U := U) (k := j) (n := nv) (D := val V) hUL (by have := hUl.out; have := HM.out; omega) hH.out (by rw [HM.out.2.1]; exact val_lt hVL)
        rw [h7.1]; exact h7.2)
      obtain ⟨d, hd⟩ : ∃ d, d = win U j (nv + 1) / val V := ⟨_, rfl⟩
      have HD := Lib.hid (HS6.out d hd)
      rw [← hd] at hdB
      rw [← hd]
      have q0 := hQ6.out.cell j (by have := hQl.out; omega)
      have qf := hQ6.out.frozen j
      have qb := hQ6.out.set j d
      have ub := hO
      have uo := HW6.out.set (p := ⟨w5.heap.size, j, none⟩) (fun _ => .inr rfl) (.int .u32 (d : Int))
      have HUO := Lib.hid (show Rw32 (w6.setCell ⟨w5.heap.size, j, none⟩ (.int .u32 (d : Int))) gu O from hO.out (X := fun k => k = w5.heap.size) ((Out.refl (fun k => k = w5.heap.size) w6).set (p := ⟨w5.heap.size, j, none⟩) (fun _ => rfl) _) (fun h => hgq h))
      have ql := limbs_set hQL (k := j) hdB
      have hjM : (j : Int) < (M : Int) := by omega
      have HO := Lib.hid (And.intro hOl (And.intro hOL hO0))
      clear dc hOl hO0 hOw hd HS6 hOut hOut2 hU hQ ub hO
      go_wp2
      refine ⟨⟨j, O, Q.set j d, by omega, rfl, HUO.out, qb, Lib.hid (HO.out.1.trans hUl.out), Lib.hid (by simpa using hQl.out), HO.out.2.1, ql, Lib.hid ?_, Lib.hid HD.out.1, Lib.hid HD.out.2, uo⟩, by simp [intOf] <;> omega⟩
      intro i hi
      rw [getD_set_far (by omega)]
      exact hQ0.out i (by omega)

theorem limbDivMod_c (a b : Option Addr) (ca cb : Nat) (l lb : List Nat) (w : World) (ha : U32 w a ca l) (hb : U32 w b cb lb) (h1 : l.length ≤ 274877906944) (h2 : lb.length ≤ 274877906944) (h0 : 0 < val lb) :
    Calls Tryd.prog 90 #[.slice a l.length ca, .slice b lb.length cb] w fun e w' => (∃ u v, e = .returned (.tuple #[u, v, .int .i64 0]) ∧ NewL w' u (val l / val lb) ∧ NewL w' v (val l % val lb)) ∧ Below w.heap.size w w' := by
  by_cases hlt : val l < val lb
  · exact divmod_small a b ca cb l lb w ha hb (by omega) (by omega) h0 (.inl hlt)
  · by_cases h : (trimL lb).length = 1
    · exact divmod_small a b ca cb l lb w ha hb (by omega) (by omega) h0 (.inr h)
    · refine divmod_great a b ca cb l lb w ha hb h1 h2 (by omega) ?_
      have h3 : trimL lb ≠ [] := by
        intro e
        rw [← val_trim lb, e] at h0
        simp [val] at h0
      have := List.length_pos_iff.2 h3
      omega
end Go.Proofs.YthaohpfbengabaaDoor

/- integer: Twos, Shr, Over. -/
namespace Go.Proofs.YthaohpfbengabaaDoor
open Num
open Go.ChangeShapes Go.WideShapes Go.ChangeAt Go.RowKit
set_option linter.unusedVariables false
set_option linter.unusedSimpArgs false

namespace Num
end Num
end Go.Proofs.YthaohpfbengabaaDoor

/- vm, in plain Lean: what an instruction does to the registers, what a program comes to. -/
namespace Go.Proofs.YthaohpfbengabaaDoor
open Num
set_option linter.unusedVariables false
set_option linter.unusedSimpArgs false
/-- what an instruction makes of two numbers -/
def opI (i : Ins) (a b : Int) : Option Int :=
  if i.op = 2 then some (-a)
  else if i.op = 3 then some (a + b)
  else if i.op = 4 then some (a - b)
  else if i.op = 5 then some (a * i.c)
  else if i.op = 6 then (if a % i.c = 0 then some (a / i.c) else none)
  else if i.op = 7 then some (a * 2 ^ i.c.toNat)
  else if i.op = 8 then (if a % 2 ^ i.c.toNat = 0 then some (a / 2 ^ i.c.toNat) else none)
  else some a
abbrev Grid := List (List Int)
/-- what an instruction makes of two rows; none: it fails at one place -/
def stepR (i : Ins) (a b : List Int) : Option (List Int) :=
  if (List.range a.length).all (fun k => (opI i (a.getD k 0) (b.getD k 0)).isSome) then some ((List.range a.length).map fun k => (opI i (a.getD k 0) (b.getD k 0)).getD 0) else none
/-- the registers behind n instructions; none: one of them has failed -/
def after (code : List Ins) (g : Grid) : Nat → Option Grid
  | 0 => some g
  | n + 1 => (after code g n).bind fun h => (stepR (code.getD n default) (h.getD (code.getD n default).a.toNat []) (h.getD (code.getD n default).b.toNat [])).map fun r => h.set (code.getD n default).to.toNat r
/-- what the registers hold at first -/
def startG (g : Grid) (regs n : Nat) : Grid := g ++ List.replicate (regs - g.length) (List.replicate n 0)
/-- what the outs hold -/
def outsG (outs : List Int) (h : Grid) : Grid := outs.map fun k => h.getD k.toNat []
theorem after_mono {code : List Ins} {g : Grid} {n m : Nat} (h : after code g n = none) (hm : n ≤ m) : after code g m = none := by
  induction m with
  | zero => obtain rfl : n = 0 := by omega
            exact h
  | succ m ih =>
    by_cases e : n = m + 1
    · subst e; exact h
    · unfold after; rw [ih (by omega)]; rfl
/-- every row of one length -/
def Rect (n : Nat) (g : Grid) : Prop := ∀ k, k < g.length → (g.getD k []).length = n
theorem Rect.set {n : Nat} {g : Grid} (h : Rect n g) {k : Nat} {r : List Int} (hr : r.length = n) : Rect n (g.set k r) := by
  intro j hj
  rw [List.length_set] at hj
  by_cases e : k = j
  · subst e; simp [hj, hr]
  · have := h j hj
    simp [List.getElem?_set_ne e] at this ⊢; exact this
/-- so many bits are enough for every number -/
def BdG (k : Nat) (g : Grid) : Prop := ∀ i j, Bd k ((g.getD i []).getD j 0)
theorem bd_zero {k : Nat} : Bd k 0 := by unfold Bd; exact Nat.pow_pos (by omega)
theorem BdG.mono {k m : Nat} {g : Grid} (h : BdG k g) (hm : k ≤ m) : BdG m g := fun i j => (h i j).mono hm
theorem BdG.set {k : Nat} {g : Grid} (h : BdG k g) {t : Nat} {r : List Int} (hr : ∀ j, Bd k (r.getD j 0)) : BdG k (g.set t r) := by
  intro i j
  by_cases e : t = i
  · subst e
    by_cases hl : t < g.length
    · have : (g.set t r).getD t [] = r := by simp [hl]
      rw [this]; exact hr j
    · rw [List.set_eq_of_length_le (by omega)]; exact h t j
  · have : (g.set t r).getD i [] = g.getD i [] := by simp [List.getElem?_set_ne e]
    rw [this]; exact h i j
theorem BdG.row {k : Nat} {g : Grid} (h : BdG k g) (t : Nat) : ∀ j, Bd k ((g.getD t []).getD j 0) := fun j => h t j
end Go.Proofs.YthaohpfbengabaaDoor

/- vm: what each function value does that 'does' hands back. -/
namespace Go.Proofs.YthaohpfbengabaaDoor
open Num
open Go.ChangeShapes Go.WideShapes Go.ChangeAt Go.RowKit
set_option linter.unusedVariables false
set_option linter.unusedSimpArgs false
end Go.Proofs.YthaohpfbengabaaDoor

/- vm: 'always', and what does hands back. -/
namespace Go.Proofs.YthaohpfbengabaaDoor
open Num
open Go.ChangeShapes Go.WideShapes Go.ChangeAt Go.RowKit
set_option linter.unusedVariables false
set_option linter.unusedSimpArgs false
theorem ens {f : Nat} {fn : Func} {c : Code} (hf : Tryd.prog.funcs[f]? = some fn) (hn : (fn.name == "runtime.NumGoroutine") = false) (hb : fn.body = some c) : Enters Tryd.prog f := enters_of hf hn hb
end Go.Proofs.YthaohpfbengabaaDoor

/- Plain: the reference's sums, differences, binary digits. -/
namespace Go.Proofs.YthaohpfbengabaaDoor.NumR
open Num (Nrm bitN bitN_half trimL)
theorem take_any (l : List Nat) (k : Nat) : val (l.take (k + 1)) = val (l.take k) + l.getD k 0 * BB ^ k := by
  by_cases h : k < l.length
  · exact val_take_succ h
  · rw [List.take_of_length_le (by omega), List.take_of_length_le (by omega)]; simp [show l.length ≤ k by omega]
theorem val_snoc (O : List Nat) (x : Nat) : val (O ++ [x]) = val O + x * BB ^ O.length := by rw [val_append]; simp [val, Nat.mul_comm]
theorem minus_step {O A B : List Nat} {i c r c' : Nat} (hO : O.length = i) (hr : r + (c + B.getD i 0) = A.getD i 0 + c' * BB) (h : val O + val (B.take i) = val (A.take i) + c * BB ^ i) :
    val (O ++ [r]) + val (B.take (i + 1)) = val (A.take (i + 1)) + c' * BB ^ (i + 1) := by
  rw [val_snoc, take_any, take_any, hO]
  have e := congrArg (· * BB ^ i) hr
  simp only [Nat.add_mul] at e
  have e2 : c' * BB * BB ^ i = c' * BB ^ (i + 1) := by rw [Nat.pow_succ]; ac_rfl
  omega
theorem minus_end {A B : List Nat} {V c : Nat} (hA : Limbs A) (hle : val B ≤ val A) (hlen : B.length ≤ A.length) (h : V + val (B.take A.length) = val (A.take A.length) + c * BB ^ A.length) (hV : V < BB ^ A.length) : V + val B = val A := by
  rw [List.take_of_length_le hlen, List.take_length] at h
  rcases Nat.eq_zero_or_pos c with rfl | hc
  · omega
  · have : 1 * BB ^ A.length ≤ c * BB ^ A.length := Nat.mul_le_mul hc (Nat.le_refl _)
    omega
theorem BB_pow (n : Nat) : BB ^ n = 2 ^ (16 * n) := by rw [Nat.pow_mul]; rfl
theorem bitN_snoc {l : List Nat} {x : Nat} (hl : Limbs l) (hx : x ≠ 0) : bitN (val (l ++ [x])) = 16 * l.length + bitN x := by
  have h1 := val_lt hl
  rw [val_append]
  simp only [val, Nat.mul_zero, Nat.add_zero]
  rw [BB_pow] at *
  have hp : 0 < 2 ^ (16 * l.length) := Nat.pow_pos (by omega)
  have h2 : 2 ^ (16 * l.length) * 1 ≤ 2 ^ (16 * l.length) * x := Nat.mul_le_mul_left _ (by omega)
  unfold bitN
  rw [if_neg (by omega), if_neg hx]
  have e : (val l + 2 ^ (16 * l.length) * x).log2 = 16 * l.length + x.log2 := by
    rw [Nat.log2_eq_iff (by omega)]
    have k1 := Nat.log2_self_le hx
    have k2 := @Nat.lt_log2_self x
    constructor
    · rw [Nat.pow_add]
      have := Nat.mul_le_mul_left (2 ^ (16 * l.length)) k1
      omega
    · rw [Nat.add_assoc, Nat.pow_add]
      have := Nat.mul_le_mul_left (2 ^ (16 * l.length)) (show x + 1 ≤ 2 ^ (x.log2 + 1) from k2)
      rw [Nat.mul_add] at this
      omega
  omega
theorem bitN_nrm {l : List Nat} {k : Nat} (hl : Limbs l) (hn : Nrm l) (hk : l.length = k + 1) : bitN (val l) = 16 * k + bitN (l.getD k 0) := by
  obtain ⟨m, x, rfl⟩ : ∃ m x, l = m ++ [x] := ⟨l.dropLast, l.getLast (by intro e; subst e; simp at hk), (List.dropLast_concat_getLast _).symm⟩
  simp at hk
  have hx := hn (by simp)
  simp at hx
  rw [bitN_snoc (fun y hy => hl y (by simp [hy])) hx, hk]
  congr 2
  simp [← hk]
theorem lt_bitN (v : Nat) : v < 2 ^ bitN v := by
  unfold bitN
  split
  · subst_vars; simp
  · exact Nat.lt_log2_self
theorem bitN_le {v n : Nat} (h : v < 2 ^ n) : bitN v ≤ n := by
  unfold bitN
  split
  · omega
  · rename_i h0
    have := Nat.log2_self_le h0
    have h2 : 2 ^ v.log2 < 2 ^ n := Nat.lt_of_le_of_lt this h
    have := (Nat.pow_lt_pow_iff_right (a := 2) (by omega)).1 h2
    omega
/-- a digit, out of the value -/
theorem getD_val {l : List Nat} (hl : Limbs l) (j : Nat) : l.getD j 0 = val l / BB ^ j % BB := by
  induction l generalizing j with
  | nil => simp [val]
  | cons x l ih =>
    have hx : x < BB := hl x (by simp)
    have hl' : Limbs l := fun y hy => hl y (by simp [hy])
    cases j with
    | zero => simp [val]; exact (Nat.mod_eq_of_lt hx).symm
    | succ j =>
      rw [List.getD_cons_succ, ih hl' j, val, Nat.pow_succ, Nat.mul_comm (BB ^ j), ← Nat.div_div_eq_div_mul]
      rw [Nat.add_mul_div_left _ _ BB_pos, Nat.div_eq_of_lt hx, Nat.zero_add]
/-- a binary digit -/
theorem bit_val {l : List Nat} (hl : Limbs l) (k : Nat) : l.getD (k / 16) 0 / 2 ^ (k % 16) % 2 = val l / 2 ^ k % 2 := by
  rw [getD_val hl, BB_pow]
  have e1 : 2 ^ k = 2 ^ (16 * (k / 16)) * 2 ^ (k % 16) := by rw [← Nat.pow_add]; congr 1; omega
  rw [e1, ← Nat.div_div_eq_div_mul]
  generalize val l / 2 ^ (16 * (k / 16)) = x
  have hk : k % 16 < 16 := Nat.mod_lt _ (by omega)
  generalize k % 16 = m at *
  have e2 : BB = 2 ^ m * (2 * 2 ^ (15 - m)) := by
    show (2 : Nat) ^ 16 = _
    rw [← Nat.mul_assoc, ← Nat.pow_succ, ← Nat.pow_add]; congr 1; omega
  rw [e2, Nat.mod_mul_right_div_self, Nat.mod_mul_right_mod]
/-- twice a number, one place -/
theorem twice_step {R R0 : List Nat} {i c t V : Nat} (hi : i < R.length) (he : R.getD i 0 = R0.getD i 0) (ht : t = c + 2 * R0.getD i 0)
    (h : val R + c * BB ^ i = V + val (R0.take i)) : val (R.set i (t % BB)) + t / BB * BB ^ (i + 1) = V + val (R0.take (i + 1)) := by
  have a1 := val_set (l := R) (k := i) (t % BB) hi
  rw [take_any, ← he]
  have e : t * BB ^ i = t / BB * BB ^ (i + 1) + t % BB * BB ^ i := by
    conv => lhs; rw [← Nat.div_add_mod t BB, Nat.add_mul]
    rw [Nat.pow_succ]; congr 1; ac_rfl
  have e2 : t * BB ^ i = c * BB ^ i + 2 * (R.getD i 0 * BB ^ i) := by rw [ht, he]; simp only [Nat.add_mul]; congr 1; ac_rfl
  omega
theorem nrm_of_val {l : List Nat} (hl : Limbs l) (h : l ≠ [] → BB ^ (l.length - 1) ≤ val l) : Nrm l := by
  intro hn e
  obtain ⟨m, x, rfl⟩ : ∃ m x, l = m ++ [x] := ⟨l.dropLast, l.getLast hn, (List.dropLast_concat_getLast _).symm⟩
  simp at e
  subst e
  have h1 := h hn
  have h2 := val_lt (l := m) (fun y hy => hl y (by simp [hy]))
  rw [val_snoc] at h1
  simp at h1
  omega
/-- a binary digit is put in -/
theorem or_val {l : List Nat} {k Q : Nat} (hl : Limbs l) (hv : val l = Q * 2 ^ (k + 1)) : l.getD (k / 16) 0 ||| 2 ^ (k % 16) = l.getD (k / 16) 0 + 2 ^ (k % 16) ∧ l.getD (k / 16) 0 + 2 ^ (k % 16) < BB := by
  have hk : k % 16 < 16 := Nat.mod_lt _ (by omega)
  have e1 : l.getD (k / 16) 0 = 2 ^ (k % 16 + 1) * (Q % 2 ^ (15 - k % 16)) := by
    rw [getD_val hl, hv, BB_pow]
    have e1 : 2 ^ (k + 1) = 2 ^ (16 * (k / 16)) * 2 ^ (k % 16 + 1) := by rw [← Nat.pow_add]; congr 1; omega
    rw [e1, show Q * (2 ^ (16 * (k / 16)) * 2 ^ (k % 16 + 1)) = 2 ^ (16 * (k / 16)) * (2 ^ (k % 16 + 1) * Q) by ac_rfl, Nat.mul_div_cancel_left _ (Nat.pow_pos (by omega))]
    have e2 : BB = 2 ^ (k % 16 + 1) * 2 ^ (15 - k % 16) := by
      show (2 : Nat) ^ 16 = _
      rw [← Nat.pow_add]; congr 1; omega
    rw [e2, Nat.mul_mod_mul_left]
  have e2 : BB = 2 ^ (k % 16 + 1) * 2 ^ (15 - k % 16) := by
    show (2 : Nat) ^ 16 = _
    rw [← Nat.pow_add]; congr 1; omega
  have hm : Q % 2 ^ (15 - k % 16) < 2 ^ (15 - k % 16) := Nat.mod_lt _ (Nat.pow_pos (by omega))
  have hlt : 2 ^ (k % 16) < 2 ^ (k % 16 + 1) := Nat.pow_lt_pow_right (by omega) (by omega)
  generalize Q % 2 ^ (15 - k % 16) = z at *
  rw [e1]
  refine ⟨(Nat.two_pow_add_eq_or_of_lt hlt z).symm, ?_⟩
  rw [e2]
  have := Nat.mul_le_mul_left (2 ^ (k % 16 + 1)) hm
  rw [Nat.mul_succ] at this
  omega
theorem set_bit {l : List Nat} {k : Nat} (hk : k / 16 < l.length) : val (l.set (k / 16) (l.getD (k / 16) 0 + 2 ^ (k % 16))) = val l + 2 ^ k := by
  have a1 := val_set (l := l) (k := k / 16) (l.getD (k / 16) 0 + 2 ^ (k % 16)) hk
  have e1 : 2 ^ k = 2 ^ (k % 16) * BB ^ (k / 16) := by rw [BB_pow, ← Nat.pow_add]; congr 1; omega
  rw [Nat.add_mul, ← e1] at a1
  omega
/-- long division, one binary digit -/
theorem half_step (A k : Nat) : A / 2 ^ k = 2 * (A / 2 ^ (k + 1)) + A / 2 ^ k % 2 := by
  rw [Nat.pow_succ, ← Nat.div_div_eq_div_mul]
  have := Nat.div_add_mod (A / 2 ^ k) 2
  omega
theorem bit_take {A k Q R D V b : Nat} (h : A / 2 ^ (k + 1) = Q * D + R) (hb : b = A / 2 ^ k % 2) (hv : V = Q * 2 ^ (k + 1)) :
    A / 2 ^ k = 2 * Q * D + (b + 2 * R) ∧ V = 2 * Q * 2 ^ k := by
  have h1 := half_step A k
  rw [h, ← hb] at h1
  refine ⟨?_, by rw [hv, Nat.pow_succ]; ac_rfl⟩
  rw [h1, Nat.mul_add]
  have : 2 * (Q * D) = 2 * Q * D := by ac_rfl
  omega
theorem bit_more {X Q D R V k : Nat} (h : X = 2 * Q * D + R) (hD : D ≤ R) (hv : V = 2 * Q * 2 ^ k) : X = (2 * Q + 1) * D + (R - D) ∧ V + 2 ^ k = (2 * Q + 1) * 2 ^ k := by
  rw [Nat.add_mul, Nat.add_mul]
  omega
/-- short division, one digit -/
theorem short_step {O A : List Nat} {j c rest : Nat} (hc : 0 < c) (hO : j < O.length) (h0 : O.getD j 0 = 0) (hA : j < A.length)
    (h : val O * c + rest * BB ^ (j + 1) + val (A.take (j + 1)) = val A) : val (O.set j ((rest * BB + A.getD j 0) / c)) * c + (rest * BB + A.getD j 0) % c * BB ^ j + val (A.take j) = val A := by
  have a1 := val_set (l := O) (k := j) ((rest * BB + A.getD j 0) / c) hO
  rw [h0] at a1
  rw [take_any] at h
  have e := Nat.div_add_mod (rest * BB + A.getD j 0) c
  generalize (rest * BB + A.getD j 0) / c = q at *
  generalize (rest * BB + A.getD j 0) % c = m at *
  have e1 : val (O.set j q) = val O + q * BB ^ j := by omega
  rw [e1, Nat.add_mul]
  have e2 : (c * q + m) * BB ^ j = rest * BB ^ (j + 1) + A.getD j 0 * BB ^ j := by
    rw [e, Nat.add_mul, Nat.pow_succ]; congr 1; ac_rfl
  rw [Nat.add_mul] at e2
  have e3 : q * BB ^ j * c = c * q * BB ^ j := by ac_rfl
  omega
theorem short_lt {rest x c : Nat} (hr : rest < c) (hx : x < BB) : (rest * BB + x) / c < BB := by
  rw [Nat.div_lt_iff_lt_mul (by omega)]
  have : (rest + 1) * BB ≤ c * BB := Nat.mul_le_mul hr (Nat.le_refl _)
  rw [Nat.add_mul] at this
  rw [Nat.mul_comm BB c]
  omega
end Go.Proofs.YthaohpfbengabaaDoor.NumR

/- The reference's numbers: plus, minus. -/
namespace Go.Proofs.YthaohpfbengabaaDoor
open Num
open Go.ChangeShapes Go.WideShapes Go.ChangeAt Go.RowKit
set_option linter.unusedVariables false
set_option linter.unusedSimpArgs false

set_option maxRecDepth 100000 in
set_option maxHeartbeats 4000000 in
theorem rminus_c (a b : Option Addr) (ca cb : Nat) (A B : List Nat) (w : World) (ha : U32 w a ca A) (hb : U32 w b cb B) (hA : NumR.Limbs A) (hB : NumR.Limbs B) (h1 : A.length ≤ 2147483650) (h2 : B.length ≤ A.length) (hle : NumR.val B ≤ NumR.val A) :
    Calls Tryd.prog 126 #[.slice a A.length ca, .slice b B.length cb] w fun e w' => (∃ v, e = .returned v ∧ ∃ O, Own32 w w' v O ∧ NumR.Limbs O ∧ O.length = A.length ∧ NumR.val O + NumR.val B = NumR.val A) := by
  have HLE := Lib.hid (And.intro hle h2)
  clear hle
  go_enter Tryd.func126, Tryd.ntmps126
  go_wp2
  go_loopw [5, 6, 7] (fun d cx x wr => ∃ (i c : Nat) (O : List Nat), i ≤ A.length ∧ x = .int .i64 i ∧ cx = .int .u32 c ∧ c ≤ 1 ∧ Own32 w wr d O ∧ NumR.Limbs O ∧ Hid (O.length = i) ∧ Hid (NumR.val O + NumR.val (B.take i) = NumR.val (A.take i) + c * NumR.BB ^ i)) (fun _ _ x _ => A.length - (intOf x).toNat)
  case atStart => exact ⟨0, 0, [], by omega, rfl, rfl, by omega, Own32.nil (Below.refl _ _), (fun _ h => by cases h), Lib.hid rfl, Lib.hid (by simp [NumR.val])⟩
  case round =>
    obtain ⟨i, c, O, hi, rfl, rfl, hc1, hO, hOL, hOl, hV⟩ := hrel
    have HS := Lib.hid (fun r c' hr => NumR.minus_step (O := O) (A := A) (B := B) (i := i) (c := c) (r := r) (c' := c') hOl.out hr hV.out)
    by_cases hia : i < A.length
    · have hiaz : (i : Int) < (A.length : Int) := by omega
      rcases ha.2.2.2 with hn | ⟨ba, oa, rfl, hca⟩
      · subst hn; simp at hia
      have c0 := bkeep hO.2 (hca i hia)
      have hx := NumR.limb_get hA i
      by_cases hib : i < B.length
      · have hibz : (i : Int) < (B.length : Int) := by omega
        rcases hb.2.2.2 with hn | ⟨bb, ob, rfl, hcb⟩
        · subst hn; simp at hib
        have d0 := bkeep hO.2 (hcb i hib)
        have hy := NumR.limb_get hB i
        generalize A.getD i 0 = x at *
        generalize B.getD i 0 = y at *
        have e1 : IntKind.u32.wrap ((c : Int) + (y : Int)) = (c : Int) + (y : Int) := by rw [← Int.natCast_add]; exact w32 (by unfold NumR.BB at *; unfold BB; omega)
        have hy' : y < 65536 := hy
        have hx' : x < 65536 := hx
        by_cases hlow : x < c + y
        · have HS2 := Lib.hid (HS.out (x + NumR.BB - (c + y)) 1 (by unfold NumR.BB at *; omega))
          have e3 : IntKind.u32.wrap ((x : Int) + 65536) = (x : Int) + 65536 := by rw [show (x : Int) + 65536 = ((x + 65536 : Nat) : Int) by omega]; exact w32 (by unfold NumR.BB at *; unfold BB; omega)
          have e4 : IntKind.u32.wrap ((x : Int) + 65536 - ((c : Int) + (y : Int))) = ((x + NumR.BB - (c + y) : Nat) : Int) := by rw [show (x : Int) + 65536 - ((c : Int) + (y : Int)) = ((x + NumR.BB - (c + y) : Nat) : Int) by unfold NumR.BB; omega]; exact w32 (by unfold NumR.BB at *; unfold BB; omega)
          have e5 : (x : Int) + 65536 - ((c : Int) + (y : Int)) = ((x + NumR.BB - (c + y) : Nat) : Int) := by unfold NumR.BB; omega
          have hlz : (x : Int) < (c : Int) + (y : Int) := by omega
          have hrB : x + NumR.BB - (c + y) < NumR.BB := by unfold NumR.BB at *; omega
          have hOm : O.length ≤ 2147483652 := by have := hOl.out; omega
          generalize x + NumR.BB - (c + y) = r at *
          have hr' : r < 65536 := hrB
          have e7 : (r : Int) % 4294967296 = (r : Int) := by omega
          clear HS
          go_wp2_with (at_builtin; refine app32 (X := [r]) rfl rfl hO rfl rfl ?_ ?_; (simp; omega); intro v' w1 hO1; clear hO)
          refine ⟨⟨i + 1, 1, O ++ [r], by omega, by go_num, rfl, by omega, hO1, NumR.limbs_snoc hOL hrB, Lib.hid (by simpa using hOl.out), HS2⟩, by simp [intOf] <;> omega⟩
        · have HS2 := Lib.hid (HS.out (x - (c + y)) 0 (by omega))
          have e4 : IntKind.u32.wrap ((x : Int) - ((c : Int) + (y : Int))) = ((x - (c + y) : Nat) : Int) := by rw [show (x : Int) - ((c : Int) + (y : Int)) = ((x - (c + y) : Nat) : Int) by omega]; exact w32 (by unfold NumR.BB at *; unfold BB; omega)
          have e5 : (x : Int) - ((c : Int) + (y : Int)) = ((x - (c + y) : Nat) : Int) := by omega
          have hlz : ¬ (x : Int) < (c : Int) + (y : Int) := by omega
          have hrB : x - (c + y) < NumR.BB := by unfold NumR.BB at *; omega
          have hOm : O.length ≤ 2147483652 := by have := hOl.out; omega
          generalize x - (c + y) = r at *
          have hr' : r < 65536 := hrB
          have e7 : (r : Int) % 4294967296 = (r : Int) := by omega
          clear HS
          go_wp2_with (at_builtin; refine app32 (X := [r]) rfl rfl hO rfl rfl ?_ ?_; (simp; omega); intro v' w1 hO1; clear hO)
          refine ⟨⟨i + 1, 0, O ++ [r], by omega, by go_num, rfl, by omega, hO1, NumR.limbs_snoc hOL hrB, Lib.hid (by simpa using hOl.out), HS2⟩, by simp [intOf] <;> omega⟩
      · have hibd : decide (i < B.length) = false := by simpa using hib
        have hy0 : B.getD i 0 = 0 := by simp [show B.length ≤ i by omega]
        rw [hy0, Nat.add_zero] at HS
        generalize A.getD i 0 = x at *
        have hx' : x < 65536 := hx
        by_cases hlow : x < c
        · have HS2 := Lib.hid (HS.out (x + NumR.BB - (c)) 1 (by unfold NumR.BB at *; omega))
          have e3 : IntKind.u32.wrap ((x : Int) + 65536) = (x : Int) + 65536 := by rw [show (x : Int) + 65536 = ((x + 65536 : Nat) : Int) by omega]; exact w32 (by unfold NumR.BB at *; unfold BB; omega)
          have e4 : IntKind.u32.wrap ((x : Int) + 65536 - ((c : Int))) = ((x + NumR.BB - (c) : Nat) : Int) := by rw [show (x : Int) + 65536 - ((c : Int)) = ((x + NumR.BB - (c) : Nat) : Int) by unfold NumR.BB; omega]; exact w32 (by unfold NumR.BB at *; unfold BB; omega)
          have e5 : (x : Int) + 65536 - ((c : Int)) = ((x + NumR.BB - (c) : Nat) : Int) := by unfold NumR.BB; omega
          have hlz : (x : Int) < (c : Int) := by omega
          have hrB : x + NumR.BB - (c) < NumR.BB := by unfold NumR.BB at *; omega
          have hOm : O.length ≤ 2147483652 := by have := hOl.out; omega
          generalize x + NumR.BB - (c) = r at *
          have hr' : r < 65536 := hrB
          have e7 : (r : Int) % 4294967296 = (r : Int) := by omega
          clear HS
          go_wp2_with (at_builtin; refine app32 (X := [r]) rfl rfl hO rfl rfl ?_ ?_; (simp; omega); intro v' w1 hO1; clear hO)
          refine ⟨⟨i + 1, 1, O ++ [r], by omega, by go_num, rfl, by omega, hO1, NumR.limbs_snoc hOL hrB, Lib.hid (by simpa using hOl.out), HS2⟩, by simp [intOf] <;> omega⟩
        · have HS2 := Lib.hid (HS.out (x - (c)) 0 (by omega))
          have e4 : IntKind.u32.wrap ((x : Int) - ((c : Int))) = ((x - (c) : Nat) : Int) := by rw [show (x : Int) - ((c : Int)) = ((x - (c) : Nat) : Int) by omega]; exact w32 (by unfold NumR.BB at *; unfold BB; omega)
          have e5 : (x : Int) - ((c : Int)) = ((x - (c) : Nat) : Int) := by omega
          have hlz : ¬ (x : Int) < (c : Int) := by omega
          have hrB : x - (c) < NumR.BB := by unfold NumR.BB at *; omega
          have hOm : O.length ≤ 2147483652 := by have := hOl.out; omega
          generalize x - (c) = r at *
          have hr' : r < 65536 := hrB
          have e7 : (r : Int) % 4294967296 = (r : Int) := by omega
          clear HS
          go_wp2_with (at_builtin; refine app32 (X := [r]) rfl rfl hO rfl rfl ?_ ?_; (simp; omega); intro v' w1 hO1; clear hO)
          refine ⟨⟨i + 1, 0, O ++ [r], by omega, by go_num, rfl, by omega, hO1, NumR.limbs_snoc hOL hrB, Lib.hid (by simpa using hOl.out), HS2⟩, by simp [intOf] <;> omega⟩
    · obtain rfl : i = A.length := by omega
      have HV := Lib.hid (NumR.minus_end hA HLE.out.1 HLE.out.2 hV.out (by have := NumR.val_lt hOL; rwa [hOl.out] at this))
      go_wp2
      go_ret
      exact ⟨_, rfl, O, hO, hOL, hOl.out, HV.out⟩
end Go.Proofs.YthaohpfbengabaaDoor

/- The reference's numbers: Neg, Abs, Add, Sub. -/
namespace Go.Proofs.YthaohpfbengabaaDoor
open Num
open Go.ChangeShapes Go.WideShapes Go.ChangeAt Go.RowKit
set_option linter.unusedVariables false
set_option linter.unusedSimpArgs false


end Go.Proofs.YthaohpfbengabaaDoor

/- The reference's numbers: bits, bit. -/
namespace Go.Proofs.YthaohpfbengabaaDoor
open Num
open Go.ChangeShapes Go.WideShapes Go.ChangeAt Go.RowKit
set_option linter.unusedVariables false
set_option linter.unusedSimpArgs false

set_option maxRecDepth 100000 in
set_option maxHeartbeats 1000000 in
theorem rbits_c (a : Option Addr) (ca : Nat) (l : List Nat) (w : World) (ha : U32 w a ca l) (hl : NumR.Limbs l) (hn : Nrm l) (h1 : l.length ≤ 2147483650) :
    Calls Tryd.prog 123 #[.slice a l.length ca] w fun e w' => e = .returned (.int .i64 (bitN (NumR.val l))) ∧ w = w' := by
  cases hk : l.length with
  | zero =>
    obtain rfl : l = [] := List.length_eq_zero_iff.1 hk
    go_enter Tryd.func123, Tryd.ntmps123
    go_wp2
    go_ret
    exact ⟨rfl, rfl⟩
  | succ k =>
    rcases ha.2.2.2 with h0 | ⟨ba, oa, rfl, hca⟩
    · subst h0; simp at hk
    have c0 := hca k (by omega)
    have hv := NumR.bitN_nrm hl hn hk
    have hx := NumR.limb_get hl k
    have HV := Lib.hid hv
    clear hv
    generalize l.getD k 0 = x at *
    have hkz : (((k + 1 : Nat) : Int) == 0) = false := by rw [beq_eq_false_iff_ne]; omega
    have hx' : x < 65536 := hx
    have hbx : bitN x ≤ 16 := NumR.bitN_le (n := 16) hx
    go_enter Tryd.func123, Tryd.ntmps123
    go_wp2
    go_loop [3, 4] (fun n t => ∃ j y : Nat, n = .int .i64 (16 * (k : Int) + (j : Int)) ∧ t = .int .u32 y ∧ y ≤ x ∧ Hid (j + bitN y = bitN x)) (fun _ t => (intOf t).toNat)
    case atStart => exact ⟨0, x, by simp, rfl, Nat.le_refl _, Lib.hid (by omega)⟩
    case round =>
      obtain ⟨j, y, rfl, rfl, hy, hj⟩ := hrel
      have hj16 : j ≤ 16 := by have := hj.out; omega
      by_cases hy0 : 0 < y
      · have HH := Lib.hid (show j + 1 + bitN (y / 2) = bitN x by have := bitN_half (Nat.ne_of_gt hy0); have := hj.out; omega)
        obtain ⟨z, hz⟩ : ∃ z, z = y / 2 := ⟨_, rfl⟩
        rw [← hz] at HH
        have e1 : (y : Int) / 2 = (z : Int) := by omega
        have e2 : (y : Int).tdiv 2 = (z : Int) := by rw [Int.tdiv_eq_ediv_of_nonneg (by omega)]; exact e1
        have hzy : z < y := by omega
        clear hz
        go_wp2
        exact ⟨⟨j + 1, z, by first | rfl | (congr 1; omega) | (congr 1), rfl, by omega, HH⟩, by simp [intOf] <;> omega⟩
      · obtain rfl : y = 0 := by omega
        have HE := Lib.hid (show 16 * (k : Int) + (j : Int) = (bitN (NumR.val l) : Int) by have := hj.out; have := HV.out; rw [show bitN 0 = 0 from rfl] at *; omega)
        go_wp2
        go_ret
        exact ⟨ret_int HE.out, rfl⟩

set_option maxRecDepth 100000 in
set_option maxHeartbeats 1000000 in
theorem rbit_c (a : Option Addr) (ca : Nat) (l : List Nat) (k : Nat) (w : World) (ha : U32 w a ca l) (hl : NumR.Limbs l) (hk : k / 16 < l.length) (h1 : l.length ≤ 2147483650) :
    Calls Tryd.prog 124 #[.slice a l.length ca, .int .i64 (k : Int)] w fun e w' => e = .returned (.int .u32 ((NumR.val l / 2 ^ k % 2 : Nat) : Int)) ∧ w = w' := by
  rcases ha.2.2.2 with h0 | ⟨ba, oa, rfl, hca⟩
  · subst h0; simp at hk
  have c0 := hca (k / 16) hk
  have hx := NumR.limb_get hl (k / 16)
  have HV := Lib.hid (NumR.bit_val hl k)
  have hkb : k ≤ 34359738416 := by omega
  generalize l.getD (k / 16) 0 = x at *
  obtain ⟨q, hq⟩ : ∃ q, q = k / 16 := ⟨_, rfl⟩
  obtain ⟨m, hm⟩ : ∃ m, m = k % 16 := ⟨_, rfl⟩
  rw [← hq] at c0 hk
  rw [← hm] at HV
  have e1 : (k : Int) / 16 = (q : Int) := by omega
  have e1' : (k : Int).tdiv 16 = (q : Int) := by rw [Int.tdiv_eq_ediv_of_nonneg (by omega)]; exact e1
  have e2 : (k : Int) % 16 = (m : Int) := by omega
  have e2' : (k : Int).tmod 16 = (m : Int) := by rw [Int.tmod_eq_emod_of_nonneg (by omega)]; exact e2
  have hm16 : m < 16 := by omega
  have hqz : (q : Int) < (l.length : Int) := by omega
  have hx' : x < 65536 := hx
  obtain ⟨y, hy⟩ : ∃ y, y = x / 2 ^ m := ⟨_, rfl⟩
  rw [← hy] at HV
  have hyx : y ≤ x := by rw [hy]; exact Nat.div_le_self _ _
  have e3 : (x : Int) / 2 ^ m = (y : Int) := by rw [hy, Int.natCast_ediv, Int.natCast_pow]; rfl
  have e4 : bits .and .u32 (y : Int) 1 = ((y % 2 : Nat) : Int) := by
    have := bits_and_u32_nat y 1 (by omega) (by omega)
    rw [Nat.and_one_is_mod] at this
    exact this
  obtain ⟨r, hr⟩ : ∃ r, r = y % 2 := ⟨_, rfl⟩
  rw [← hr] at e4 HV
  clear hq hm hy hr ha hca
  go_enter Tryd.func124, Tryd.ntmps124
  go_wp2
  go_ret
  exact ⟨by rw [← HV.out]; rfl, rfl⟩
end Go.Proofs.YthaohpfbengabaaDoor

/- The reference's numbers: divide. -/
namespace Go.Proofs.YthaohpfbengabaaDoor
open Num
open Go.ChangeShapes Go.WideShapes Go.ChangeAt Go.RowKit
set_option linter.unusedVariables false
set_option linter.unusedSimpArgs false
/-- a slice of digits without high noughts -/
def NewN (w' : World) (u : Value) (v : Nat) : Prop := ∃ a c L, u = .slice a (List.length L) c ∧ U32 w' a c L ∧ NumR.Limbs L ∧ Nrm L ∧ NumR.val L = v
theorem NewN.keep {w w' : World} {u : Value} {v : Nat} (h : NewN w u v) (hb : Below w.heap.size w w') : NewN w' u v := by
  obtain ⟨a, c, L, h1, h2, h3⟩ := h
  exact ⟨a, c, L, h1, h2.keep hb, h3⟩
theorem rnormU (a : Option Addr) (ca : Nat) (l : List Nat) (w : World) (ha : U32 w a ca l) (hr : NumR.Limbs l) :
    Calls Tryd.prog 75 #[.bool false, .slice a l.length ca] w fun e w' => (∃ u, e = .returned (.agg #[.bool false, u]) ∧ NewN w' u (NumR.val l)) ∧ Below w.heap.size w w' :=
  (rnormK_c false a ca l w ha).mono fun e w' ⟨he, hb⟩ => ⟨⟨_, by rw [he]; rfl, a, ca, trimL l, rfl, (ha.cap (trim_prefix l)).keep hb, NumR.trim_limbs hr, trim_nrm l, NumR.val_trim l⟩, hb⟩
/-- digits in a row of the call's own, in a block from B on -/
def OwnB (B : Nat) (wr : World) (v : Value) (L : List Nat) : Prop := wr.ownsRow B 89 1 v L.length (cel L)
theorem OwnB.below {B : Nat} {wr w' : World} {v : Value} {L : List Nat} (h : OwnB B wr v L) (hb : Below wr.heap.size wr w') : OwnB B w' v L := own_below (w0 := wr) h hb
theorem OwnB.u32 {B : Nat} {w : World} {v : Value} {L : List Nat} (h : OwnB B w v L) (hL : Limbs L) : ∃ a c, v = .slice a L.length c ∧ U32 w a c L := own_u32 h hL
theorem OwnB.nil (B : Nat) (w : World) : OwnB B w (.slice none 0 0) [] := World.ownsRow_nil _ _ _ _
theorem OwnB.of {B : Nat} {w0 wr : World} {v : Value} {L : List Nat} (h : Own32 w0 wr v L) (hB : B ≤ w0.heap.size) : OwnB B wr v L := World.ownsRow.mono h.1 hB
theorem OwnB.ex {B : Nat} {wr : World} {v : Value} {L : List Nat} (h : OwnB B wr v L) : (v = .slice none 0 0 ∧ L = []) ∨ ∃ g cap, v = .slice (some ⟨g, 0, none⟩) L.length cap ∧ B ≤ g ∧ L.length ≤ cap := by
  obtain ⟨h0, h⟩ := h
  rcases h with ⟨rfl, h1⟩ | ⟨g, cap, cur, rfl, hg, _, hc, _⟩
  · exact .inl ⟨rfl, List.length_eq_zero_iff.1 h1⟩
  · exact .inr ⟨g, cap, rfl, hg, hc⟩
theorem OwnB.cell {B g cap : Nat} {wr : World} {L : List Nat} (h : OwnB B wr (.slice (some ⟨g, 0, none⟩) L.length cap) L) (k : Nat) (hk : k < L.length) : wr.cell? ⟨g, k, none⟩ = some (.int .u32 (L.getD k 0 : Nat)) := by
  rw [World.ownsRow.cellAt h k (by omega), cel_get L k hk]
theorem OwnB.frozen {B g cap : Nat} {wr : World} {L : List Nat} (h : OwnB B wr (.slice (some ⟨g, 0, none⟩) L.length cap) L) (k : Nat) : wr.frozen? ⟨g, k, none⟩ = false := World.ownsRow.frozenAt h k
theorem OwnB.set {B g cap : Nat} {wr : World} {L : List Nat} (h : OwnB B wr (.slice (some ⟨g, 0, none⟩) L.length cap) L) (k x : Nat) (hk : k < L.length) : OwnB B (wr.setCell ⟨g, k, none⟩ (.int .u32 (x : Int))) (.slice (some ⟨g, 0, none⟩) (L.set k x).length cap) (L.set k x) := by
  obtain ⟨hl, h1⟩ := h
  rcases h1 with ⟨h2, _⟩ | ⟨g', cap', cur, h2, hg, hh, hc, hm, hs, ht⟩
  · cases h2
  · cases h2
    refine ⟨by simp [cel_len], .inr ⟨g, cap, cur.setIfInBounds k (.int .u32 (x : Int)), rfl, hg, ?_, by simpa using hc, hm, by simpa using hs, ?_⟩⟩
    · unfold World.setCell
      simp only [Array.getElem?_modify, if_true]
      rw [hh]; rfl
    · rw [Array.toList_setIfInBounds, List.length_set, List.take_set, ht]
      simp [cel, List.map_set]
theorem OwnB.far {B : Nat} {wr : World} {v : Value} {L : List Nat} (h : OwnB B wr v L) {p : Addr} (hp : p.block < B) (u : Value) : OwnB B (wr.setCell p u) v L := ownsRow_setCell_below h hp u
theorem OwnB.cut {B g cap : Nat} {wr : World} {L M : List Nat} (h : OwnB B wr (.slice (some ⟨g, 0, none⟩) L.length cap) L) (hp : M <+: L) : OwnB B wr (.slice (some ⟨g, 0, none⟩) M.length cap) M := by
  obtain ⟨hl, h1⟩ := h
  have hml := hp.length_le
  rcases h1 with ⟨h2, _⟩ | ⟨g', cap', cur, h2, hg, hh, hc, hm, hs, ht⟩
  · cases h2
  · cases h2
    refine ⟨by simp [cel_len], .inr ⟨g, cap, cur, rfl, hg, hh, by omega, hm, hs, ?_⟩⟩
    obtain ⟨t, rfl⟩ := hp
    rw [Nat.mul_one] at *
    have : cur.toList.take M.length = (cur.toList.take (M ++ t).length).take M.length := by rw [List.take_take, Nat.min_eq_left (by simp)]
    rw [this, ht, cel_app]
    rw [List.take_left' (cel_len M)]
theorem OwnB.cut' {B : Nat} {wr : World} {a : Option Addr} {cap : Nat} {L M : List Nat} (h : OwnB B wr (.slice a L.length cap) L) (hp : M <+: L) : OwnB B wr (.slice a M.length cap) M := by
  rcases h.ex with ⟨h1, h2⟩ | ⟨g, c, h1, _⟩
  · subst h2
    obtain rfl : M = [] := List.prefix_nil.1 hp
    exact h
  · cases h1
    exact h.cut hp
theorem appB32 {ops : Array Oper} {rest : List Oper} {o : Oper} {a : Act} {Q : Exit → Act → World → Prop} {B : Nat} {wr : World} {v : Value} {L X : List Nat} {t : TypeId} (hgd : o.guard = none) {s x : Operand}
    (ho : o.op = .call { callee := .builtin .append, args := #[s, x], argTypes := #[31, 31] }) (hO : OwnB B wr v L) (hB : B ≤ wr.heap.size) (hs : a.eval s = v)
    {c : Nat} (hx : a.eval x = .slice (some ⟨wr.heap.size, 0, none⟩) X.length c) (hn : L.length + X.length ≤ 1099511627776)
    (h : ∀ v' w', OwnB B w' v' (L ++ X) → Out (fun k => v.ownBlock = some k) wr w' → wpList Tryd.prog ops Q rest (a.put o.dst v') w') : wpList Tryd.prog ops Q (o :: rest) a (wr.alloc (.cells (cel X).toArray t)) := by
  obtain ⟨i0, hi, hz0, hz1, hz2⟩ := info_parts info32
  refine wpList_append_own _ hgd s x 31 ho B 89 i0 (.int .u32 0) 1 4 Tryd.underlying31 hi hz0 hz1 hz2 rfl (by decide) v L.length (cel L) hs (World.ownsRow.alloc hO _) ⟨wr.heap.size, 0, none⟩ X.length c (cel X) hx (by rw [cel_len, Nat.mul_one]) (cells_new wr (cel X) t) (cel_one X) (by unfold maxLen; omega) (by omega) (by simp; omega) ?_
  intro v' w' hown hg _
  refine h v' w' (by unfold OwnB; rw [cel_app, List.length_append]; exact hown) (((Out.refl _ wr).alloc _).grown hg fun k hk _ => hk)

theorem fieldD (b : Bool) (a : Option Addr) (n c : Nat) (W : World) : (Instr.field 84 (.agg #[.bool b, .slice a n c]) 1).run Tryd.prog W = .ok (.slice a n c) W := by kernel_rfl

set_option maxRecDepth 100000 in
set_option maxHeartbeats 4000000 in
theorem rdiv1_c (a b : Option Addr) (ca cb : Nat) (A : List Nat) (c : Nat) (w : World) (ha : U32 w a ca A) (hb : U32 w b cb [c]) (hA : NumR.Limbs A) (hcB : c < NumR.BB) (hc : 0 < c) (h1 : A.length ≤ 2147483650) :
    Calls Tryd.prog 118 #[.slice a A.length ca, .slice b 1 cb] w fun e w' => (∃ u v, e = .returned (.tuple #[u, v]) ∧ NewN w' u (NumR.val A / c) ∧ NewN w' v (NumR.val A % c)) ∧ Below w.heap.size w w' := by
  rcases hb.2.2.2 with hn | ⟨bb, ob, rfl, hcell⟩
  · cases hn
  have c0 := hcell 0 (by simp)
  simp only [List.getD_cons_zero, Nat.add_zero] at c0
  have hmk := mk32 A.length (by omega)
  have hbz := cell_lt c0
  have hbne : bb ≠ w.heap.size := by omega
  have hbne' : w.heap.size ≠ bb := by omega
  have hcz : ((c : Int) == 0) = false := by simp; omega
  have hc' : c < 65536 := hcB
  clear hcell
  go_enter Tryd.func118, Tryd.ntmps118
  go_wp2
  clear hmk
  go_loopw [7, 8] (fun rx x wr => ∃ (k r : Nat) (O : List Nat), k ≤ A.length ∧ x = .int .i64 ((k : Int) - 1) ∧ rx = .int .u64 r ∧ r < c ∧ Blk wr w.heap.size O ∧ Hid (O.length = A.length) ∧ NumR.Limbs O ∧ Hid (∀ j, j < k → O.getD j 0 = 0) ∧ Hid (NumR.val O * c + r * NumR.BB ^ k + NumR.val (A.take k) = NumR.val A) ∧ Below w.heap.size w wr) (fun _ x _ => (intOf x + 1).toNat)
  case atStart => exact ⟨A.length, 0, List.replicate A.length 0, Nat.le_refl _, rfl, rfl, hc, blk_new w _, Lib.hid (by simp), (fun y hy => by simp at hy; rw [hy.2]; exact NumR.BB_pos), Lib.hid (fun j hj => by simp [List.getElem?_replicate, hj]), Lib.hid (by rw [NumR.val_zeros]; simp), bal (Below.refl _ _) _⟩
  case round =>
    obtain ⟨k, r, O, hk, rfl, rfl, hr, hO, hOl, hOL, hO0, hV, hB⟩ := hrel
    have d0 := bkeep hB c0
    cases k with
    | zero =>
      have HD := Lib.hid (kn_done (N := NumR.val A) (D := c) (g := NumR.val O) (W := r) hc (by
        have h := hV.out
        simp [NumR.val] at h
        rw [← h, Nat.add_comm, Nat.add_mul_div_right _ _ hc, Nat.div_eq_of_lt hr, Nat.zero_add]; exact Nat.le_refl _) (by have h := hV.out; simp [NumR.val] at h; rw [Nat.mul_comm]; omega))
      have hu := hO.u32 (limbs_of_r hOL) (by have := hOl.out; unfold maxLen; omega)
      have nc := fun W (h : Below wr.heap.size wr W) => rnormU (some ⟨w.heap.size, 0, none⟩) O.length O W (hu.keep h) hOL
      rw [hOl.out] at nc
      have nd := fun (g : Nat) (W : World) (hg : g = W.heap.size) => rnormU (some ⟨g, 0, none⟩) 1 [r] (W.alloc (.cells (cel [r]).toArray 89)) ((blk_at hg).u32 (fun x hx => by simp at hx; subst hx; unfold NumR.BB at hcB; unfold BB; omega) (by simp [maxLen])) (fun x hx => by simp at hx; subst hx; omega)
      have hr32 : (r : Int) % 4294967296 = (r : Int) := by omega
      clear hu hV hO hOL hOl
      have hfd := fieldD
      go_wp2_with fail
      (with_reducible refine (nc _ (Below.refl _ _)).mono ?_)
      rintro e w1 ⟨⟨u, rfl, hq⟩, hb1⟩
      have HQ := Lib.hid hq
      obtain ⟨a1, n1, L1, rfl, -⟩ := hq
      clear nc
      go_wp2_with fail
      refine (nd _ _ rfl).mono ?_
      rintro e w2 ⟨⟨u2, rfl, hq⟩, hb2⟩
      have HR := Lib.hid hq
      obtain ⟨a2, n2, L2, rfl, -⟩ := hq
      go_wp2
      go_ret2
      exact ⟨⟨_, _, rfl, by rw [HD.out.1]; exact HQ.out.keep (bthen (bal (Below.refl _ _) _) hb2), by rw [HD.out.2]; have := HR.out; simpa [NumR.val] using this⟩, bthen (bal (bthen hB hb1) _) hb2⟩
    | succ j =>
      rcases ha.2.2.2 with hl0 | ⟨ba, oa, rfl, hca⟩
      · subst hl0; simp at hk
      have c1 := bkeep hB (hca j (by omega))
      have hx := NumR.limb_get hA j
      have q0 := hO.cell j (by have := hOl.out; omega)
      have qf := hO.frozen j
      have HS := Lib.hid (NumR.short_step (O := O) (A := A) (j := j) (c := c) (rest := r) hc (by have := hOl.out; omega) (hO0.out j (by omega)) (by omega) hV.out)
      have hql := NumR.short_lt hr hx
      have hrl := Nat.mod_lt (r * NumR.BB + A.getD j 0) hc
      generalize A.getD j 0 = x at *
      generalize O.getD j 0 = o at *
      have hx' : x < 65536 := hx
      obtain ⟨t, ht⟩ : ∃ t, t = r * NumR.BB + x := ⟨_, rfl⟩
      rw [← ht] at HS hql hrl
      have et : (r : Int) * 65536 + (x : Int) = (t : Int) := by unfold NumR.BB at ht; omega
      have htB : t < 4294967296 := by unfold NumR.BB at ht; omega
      have e3 : (t : Int) / (c : Int) = ((t / c : Nat) : Int) := rfl
      have e4 : (t : Int) % (c : Int) = ((t % c : Nat) : Int) := rfl
      have e3' : (t : Int).tdiv (c : Int) = ((t / c : Nat) : Int) := rfl
      have e4' : (t : Int).tmod (c : Int) = ((t % c : Nat) : Int) := rfl
      generalize t / c = q at *
      generalize t % c = r2 at *
      have hq' : q < 65536 := hql
      have e6 : (q : Int) % 4294967296 = (q : Int) := by omega
      have qb := hO.set j q
      have ql := NumR.limbs_set hOL (k := j) hql
      have bs := bset hB (p := ⟨w.heap.size, j, none⟩) (Nat.le_refl _) (.int .u32 (q : Int))
      clear ht
      go_wp2
      refine ⟨⟨j, r2, O.set j q, by omega, by go_num, rfl, hrl, qb, Lib.hid (by simpa using hOl.out), ql, Lib.hid ?_, HS, bs⟩, by simp [intOf] <;> omega⟩
      intro i hi
      rw [Num.getD_set_ne (by omega)]
      exact hO0.out i (by omega)
end Go.Proofs.YthaohpfbengabaaDoor

/- The reference's numbers: divide by more than one digit; divide. -/
namespace Go.Proofs.YthaohpfbengabaaDoor
open Num
open Go.ChangeShapes Go.WideShapes Go.ChangeAt Go.RowKit
set_option linter.unusedVariables false
set_option linter.unusedSimpArgs false

set_option maxRecDepth 100000 in
set_option maxHeartbeats 8000000 in
theorem rdivL_c (a b : Option Addr) (ca cb : Nat) (A B : List Nat) (w : World) (ha : U32 w a ca A) (hb : U32 w b cb B) (hA : NumR.Limbs A) (hB : NumR.Limbs B) (hAn : Nrm A) (hBn : Nrm B) (hB1 : B.length ≠ 1) (hD0 : 0 < NumR.val B) (h1 : A.length ≤ 1073741826) (h2 : B.length ≤ 1073741826) :
    Calls Tryd.prog 118 #[.slice a A.length ca, .slice b B.length cb] w fun e w' => (∃ u v, e = .returned (.tuple #[u, v]) ∧ NewN w' u (NumR.val A / NumR.val B) ∧ NewN w' v (NumR.val A % NumR.val B)) ∧ Below w.heap.size w w' := by
  have hbz : ((B.length : Int) == 1) = false := by rw [beq_eq_false_iff_ne]; omega
  have hmk := mk32 A.length (by omega)
  have bc := fun W (h : Below w.heap.size w W) => rbits_c a ca A W (ha.keep h) hA hAn (by omega)
  have hbits : bitN (NumR.val A) ≤ 16 * A.length := NumR.bitN_le (by have := NumR.val_lt hA; rwa [NumR.BB_pow] at this)
  have HA2 := Lib.hid (show NumR.val A / 2 ^ bitN (NumR.val A) = 0 from Nat.div_eq_of_lt (NumR.lt_bitN _))
  generalize bitN (NumR.val A) = n at *
  have hfd := fieldD
  have HD0 := Lib.hid hD0
  have hB00 := Below.refl w.heap.size w
  clear hB1 hD0
  go_enter Tryd.func118, Tryd.ntmps118
  go_wp2_with fail
  (with_reducible refine (bc _ (by repeat (first | exact Below.refl _ _ | exact hB00 | refine Below.drew ?_ | refine below_drewN ?_ _ | refine bset ?_ (by simp <;> omega) _ | refine bal ?_ _))).mono ?_)
  rintro e w1 ⟨rfl, rfl⟩
  clear bc hmk
  go_wp2
  go_loopw [10, 11] (fun rv x wr => ∃ (k : Nat) (Q R : List Nat), k ≤ n ∧ x = .int .i64 ((k : Int) - 1) ∧ Blk wr w.heap.size Q ∧ OwnB (w.heap.size + 1) wr rv R ∧ Hid (Q.length = A.length) ∧ NumR.Limbs Q ∧ NumR.Limbs R ∧ Hid (Nrm R) ∧ Hid (∃ q, NumR.val Q = q * 2 ^ k ∧ NumR.val A / 2 ^ k = q * NumR.val B + NumR.val R) ∧ Hid (NumR.val R < NumR.val B) ∧ Below w.heap.size w wr) (fun _ x _ => (intOf x + 1).toNat)
  case atStart => exact ⟨n, List.replicate A.length 0, [], Nat.le_refl _, rfl, blk_new w _, OwnB.nil _ _, Lib.hid (by simp), (fun y hy => by simp at hy; rw [hy.2]; exact NumR.BB_pos), (fun _ h => by cases h), Lib.hid (fun h => absurd rfl h), Lib.hid ⟨0, by rw [NumR.val_zeros]; simp, by rw [HA2.out]; simp [NumR.val]⟩, Lib.hid HD0.out, bal (Below.refl _ _) _⟩
  case round =>
    obtain ⟨k, Q, R, hk, rfl, hQ, hR, hQl, hQL, hRL, hRn, hV, hlt, hBw⟩ := hrel
    cases k with
    | zero =>
      obtain ⟨a9, c9, rfl, hRu⟩ := hR.u32 (limbs_of_r hRL)
      have hu := hQ.u32 (limbs_of_r hQL) (by have := hQl.out; unfold maxLen; omega)
      have nc := fun W (h : Below wr.heap.size wr W) => rnormU (some ⟨w.heap.size, 0, none⟩) Q.length Q W (hu.keep h) hQL
      rw [hQl.out] at nc
      have HD := Lib.hid (show NumR.val A / NumR.val B = NumR.val Q ∧ NumR.val A % NumR.val B = NumR.val R by
        obtain ⟨q, h1, h2⟩ := hV.out
        simp at h1 h2
        have h3 := hlt.out
        rw [h1]
        constructor
        · rw [h2, Nat.add_comm, Nat.add_mul_div_right _ _ HD0.out, Nat.div_eq_of_lt h3, Nat.zero_add]
        · rw [h2, Nat.add_comm, Nat.add_mul_mod_self_right, Nat.mod_eq_of_lt h3])
      clear hu hV hQ hR hQl hlt
      go_wp2_with fail
      (with_reducible refine (nc _ (Below.refl _ _)).mono ?_)
      rintro e w1 ⟨⟨u, rfl, hq⟩, hb1⟩
      have HQ := Lib.hid hq
      obtain ⟨a1, n1, L1, rfl, -⟩ := hq
      clear nc
      go_wp2
      go_ret2
      exact ⟨⟨_, _, rfl, by rw [HD.out.1]; exact HQ.out, ⟨a9, c9, R, rfl, hRu.keep hb1, hRL, hRn.out, HD.out.2.symm⟩⟩, bthen hBw hb1⟩
    | succ j =>
      have tc := fun W (h : Below w.heap.size w W) => rbit_c a ca A j W (ha.keep h) hA (by omega) (by omega)
      have hbt : NumR.val A / 2 ^ j % 2 ≤ 1 := by omega
      obtain ⟨bt, hbte⟩ : ∃ bt, bt = NumR.val A / 2 ^ j % 2 := ⟨_, rfl⟩
      rw [← hbte] at tc hbt
      have HBIT := Lib.hid hbte
      clear hbte
      have HRL := Lib.hid (show R.length ≤ B.length from by
        apply Nat.le_of_not_lt; intro h
        have := NumR.val_lt_of_len hB hRn.out h
        have := hlt.out
        omega)
      have HJ := Lib.hid (show j / 16 < A.length by omega)
      go_wp2_with fail
      (with_reducible refine (tc _ hBw).mono ?_)
      rintro e w2 ⟨rfl, rfl⟩
      clear tc
      obtain ⟨a9, c9, rfl, -⟩ := hR.u32 (limbs_of_r hRL)
      have hbt' : bt < 65536 := by omega
      have hRm : R.length ≤ 1073741826 := by have := HRL.out; omega
      go_wp2
      go_loopw [12, 13] (fun cx x wi => ∃ (i c : Nat) (T : List Nat), i ≤ R.length ∧ x = .int .i64 i ∧ cx = .int .u32 c ∧ c ≤ 1 ∧ Blk wi w.heap.size Q ∧ OwnB (w.heap.size + 1) wi (.slice a9 R.length c9) T ∧ Hid (T.length = R.length) ∧ NumR.Limbs T ∧ Hid (∀ m, i ≤ m → T.getD m 0 = R.getD m 0) ∧ Hid (NumR.val T + c * NumR.BB ^ i = (NumR.val R + bt) + NumR.val (R.take i)) ∧ Below w.heap.size w wi) (fun _ x _ => R.length - (intOf x).toNat)
      case atStart => exact ⟨0, bt, R, Nat.zero_le _, rfl, rfl, hbt, hQ, hR, Lib.hid rfl, hRL, Lib.hid (fun _ _ => rfl), Lib.hid (by simp [NumR.val]), hBw⟩
      case round =>
        rename World => wi
        obtain ⟨i, c, T, hi, rfl, rfl, hc1, hQ2, hR2, hTl, hR2L, hT0, hTV, hBw⟩ := hrel
        by_cases hir : i < R.length
        · have hirz : (i : Int) < (R.length : Int) := by omega
          have hR2' := hR2
          rw [← hTl.out] at hR2'
          rcases hR2'.ex with ⟨h0, hT⟩ | ⟨g, cap, hv, hg, hcap⟩
          · exfalso; have := hTl.out; rw [hT] at this; simp at this; omega
          cases hv
          have q0 := hR2'.cell i (by have := hTl.out; omega)
          have qf := hR2'.frozen i
          have hx := NumR.limb_get hR2L i
          have HS := Lib.hid (fun t ht => NumR.twice_step (R := T) (R0 := R) (i := i) (c := c) (t := t) (V := NumR.val R + bt) (by have := hTl.out; omega) (hT0.out i (Nat.le_refl _)) ht hTV.out)
          rw [← hT0.out i (Nat.le_refl _)] at HS
          generalize T.getD i 0 = x at *
          have hx' : x < 65536 := hx
          have e1 : IntKind.u32.wrap (2 * (x : Int)) = 2 * (x : Int) := by rw [show 2 * (x : Int) = ((2 * x : Nat) : Int) by omega]; exact w32 (by unfold BB; omega)
          have e2 : IntKind.u32.wrap ((c : Int) + 2 * (x : Int)) = (c : Int) + 2 * (x : Int) := by rw [show (c : Int) + 2 * (x : Int) = ((c + 2 * x : Nat) : Int) by omega]; exact w32 (by unfold BB; omega)
          have HS2 := Lib.hid (HS.out (c + 2 * x) rfl)
          have hmB : (c + 2 * x) % NumR.BB < NumR.BB := Nat.mod_lt _ NumR.BB_pos
          have hdB : (c + 2 * x) / NumR.BB ≤ 1 := by unfold NumR.BB; omega
          obtain ⟨lo, hlo⟩ : ∃ lo, lo = (c + 2 * x) % NumR.BB := ⟨_, rfl⟩
          obtain ⟨up, hup⟩ : ∃ up, up = (c + 2 * x) / NumR.BB := ⟨_, rfl⟩
          rw [← hlo] at HS2 hmB
          rw [← hup] at HS2 hdB
          have g1 : ((c : Int) + 2 * (x : Int)) % 65536 = (lo : Int) := by unfold NumR.BB at hlo; omega
          have g2 : ((c : Int) + 2 * (x : Int)) / 65536 = (up : Int) := by unfold NumR.BB at hup; omega
          have g3 : ((c : Int) + 2 * (x : Int)).tmod 65536 = (lo : Int) := by rw [Int.tmod_eq_emod_of_nonneg (by omega)]; exact g1
          have g4 : ((c : Int) + 2 * (x : Int)).tdiv 65536 = (up : Int) := by rw [Int.tdiv_eq_ediv_of_nonneg (by omega)]; exact g2
          have qb := hR2'.set i lo (by have := hTl.out; omega)
          have qq := hQ2.far ⟨g, i, none⟩ (.int .u32 (lo : Int)) (by show w.heap.size ≠ g; omega)
          have ql := NumR.limbs_set hR2L (k := i) hmB
          have bs := bset hBw (p := ⟨g, i, none⟩) (by show w.heap.size ≤ g; omega) (.int .u32 (lo : Int))
          rw [List.length_set, hTl.out] at qb
          clear hlo hup HS hR2 hR2' hQ2
          go_wp2
          refine ⟨⟨i + 1, up, T.set i lo, by omega, by go_num, rfl, hdB, qq, qb, Lib.hid (by simpa using hTl.out), ql, Lib.hid ?_, HS2, bs⟩, by simp [intOf] <;> omega⟩
          intro m hm
          rw [Num.getD_set_ne (by omega)]
          exact hT0.out m (by omega)
        · obtain rfl : i = R.length := by omega
          have HV2 := Lib.hid (show NumR.val T + c * NumR.BB ^ T.length = bt + 2 * NumR.val R by
            have := hTV.out
            rw [List.take_length] at this
            rw [hTl.out]; omega)
          have HLEN := hTl
          clear hTV hT0
          -- behind the doubling: c is what is carried out of T
          rcases (show c = 0 ∨ c = 1 by omega) with rfl | rfl
          · have HV3 := Lib.hid (show NumR.val (T) = bt + 2 * NumR.val R by have := HV2.out; simpa using this)
            have HN3 := Lib.hid (show Nrm (T) from NumR.nrm_of_val hR2L fun hne => by
              have h1 := HLEN.out
              have h2 := NumR.nrm_val_pos hRn.out (by intro e; apply hne; apply List.length_eq_zero_iff.1; rw [h1, e]; rfl)
              rw [HV3.out, h1]; omega)
            have hR3 := hR2
            have hQ3 := hQ2
            have hR3L := hR2L
            clear hR2 hQ2 HV2
            -- the rest, twice and a digit more, lies in .slice a9 R.length c9
            obtain ⟨a3, k3, hv3, hU3⟩ := hR3.u32 (limbs_of_r hR3L)
            have zc := fun W h1 h2 => rsize_c a3 b k3 cb (T) B W h1 h2 hR3L hB HN3.out hBn
            have HV3s := Lib.hid hv3
            rw [← hv3] at zc
            clear hv3
            by_cases hge : NumR.val B ≤ NumR.val (T)
            · have hnl : ¬ NumR.val (T) < NumR.val B := by omega
              have hz : (0 : Int) ≤ cmpN (NumR.val (T)) (NumR.val B) := by have := (cmpN_neg (x := NumR.val (T)) (y := NumR.val B)); rw [decide_eq_false hnl] at this; have := of_decide_eq_false this; omega
              have HMIN := Lib.hid (fun W (h1 : U32 W a3 k3 (T)) h2 => rminus_c a3 b k3 cb (T) B W h1 h2 hR3L hB (by
                apply Nat.le_of_lt_succ
                have := HLEN.out
                have := HRL.out
                simp <;> omega) (by
                apply Nat.le_of_not_lt; intro h
                have := NumR.val_lt_of_len hR3L hBn h
                omega) hge)
              have HSUB := Lib.hid (show ∀ O : List Nat, NumR.val O + NumR.val B = NumR.val (T) → NumR.val (trimL O) = NumR.val (T) - NumR.val B from fun O h => by rw [NumR.val_trim]; omega)
              have HSTEP := Lib.hid (show ∃ q, NumR.val Q = q * 2 ^ (j + 1) ∧ (∃ q', NumR.val Q + 2 ^ j = q' * 2 ^ j ∧ NumR.val A / 2 ^ j = q' * NumR.val B + (NumR.val (T) - NumR.val B)) by
                obtain ⟨q, h1, h2⟩ := hV.out
                obtain ⟨h3, h4⟩ := NumR.bit_take h2 HBIT.out h1
                rw [← HV3.out] at h3
                obtain ⟨h5, h6⟩ := NumR.bit_more h3 hge h4
                exact ⟨q, h1, 2 * q + 1, h6, h5⟩)
              have HLT := Lib.hid (show NumR.val (T) - NumR.val B < NumR.val B by
                have := HV3.out
                have := hlt.out
                omega)
              have HOR := Lib.hid (by
                obtain ⟨q, h1, h2⟩ := hV.out
                exact NumR.or_val (l := Q) (k := j) (Q := q) hQL h1)
              have HMORE := Lib.hid (NumR.set_bit (l := Q) (k := j) (by have := hQl.out; have := HJ.out; omega))
              generalize cmpN (NumR.val (T)) (NumR.val B) = z at *
              clear hge hnl
              go_wp2_with fail
              (with_reducible refine (zc _ hU3 (hb.keep hBw)).mono ?_)
              rintro e w5 ⟨rfl, hb5⟩
              have hR5 := hR3.below hb5
              have hU5 := hU3.keep hb5
              have hQ5 := hQ3.keep hb5
              have hB5 := bthen hBw hb5
              have mc := HMIN.out
              rw [← HV3s.out] at mc
              clear zc hR3 hQ3 hU3
              go_wp2_with fail
              (with_reducible refine (mc _ hU5 (hb.keep hB5)).mono ?_)
              rintro e w6 ⟨v6, rfl, O, hO, hOL, hOl, hOv⟩
              have HOv := Lib.hid hOv
              clear hOv hOl
              obtain ⟨aO, cO, rfl, hOu⟩ := hO.u32 (limbs_of_r hOL)
              have hB6 := bthen hB5 hO.2
              have hQ6 := hQ5.keep hO.2
              have hOB := OwnB.of hO (B := w.heap.size + 1) hQ5.lt
              clear mc hU5 hR5 hQ5 hO
              go_wp2_with fail
              (with_reducible refine (rnormK_c false aO cO O _ hOu).mono ?_)
              rintro e w7 ⟨rfl, hb7⟩
              unfold iv
              have hQ4 := hQ6.keep hb7
              have hB7 := bthen hB6 hb7
              have hRT := (hOB.below hb7).cut' (trim_prefix O)
              have HRT := Lib.hid (And.intro (NumR.trim_limbs hOL) (And.intro (trim_nrm O) (HSUB.out O HOv.out)))
              generalize trimL O = T4 at *
              clear hOB hOu hQ6 HOv hOL
              go_wp2
              -- a binary digit of the quotient is set, in the world w7; the rest is T4
              have q0 := hQ4.cell (j / 16) (by have := hQl.out; have := HJ.out; omega)
              have qf := hQ4.frozen (j / 16)
              have ho := HOR.out
              obtain ⟨jq, hjq⟩ : ∃ jq, jq = j / 16 := ⟨_, rfl⟩
              obtain ⟨jm, hjm⟩ : ∃ jm, jm = j % 16 := ⟨_, rfl⟩
              have g1 : (j : Int) / 16 = (jq : Int) := by omega
              have g1' : (j : Int).tdiv 16 = (jq : Int) := by rw [Int.tdiv_eq_ediv_of_nonneg (by omega)]; exact g1
              have g2 : (j : Int) % 16 = (jm : Int) := by omega
              have g2' : (j : Int).tmod 16 = (jm : Int) := by rw [Int.tmod_eq_emod_of_nonneg (by omega)]; exact g2
              have hjm16 : jm < 16 := by omega
              have hjqz : (jq : Int) < (A.length : Int) := by have := HJ.out; omega
              have qb := hQ4.set (j / 16) (Q.getD (j / 16) 0 + 2 ^ (j % 16))
              have ql := NumR.limbs_set hQL (k := j / 16) ho.2
              rw [← hjq] at q0 qf
              rw [← hjq, ← hjm] at qb ho
              have hpw : 2 ^ jm < 65536 := Nat.lt_of_lt_of_le (Nat.pow_lt_pow_right (by omega) hjm16) (by decide)
              have hvv := HMORE.out
              rw [← hjq, ← hjm] at hvv ql
              have hoB := NumR.limb_get hQL jq
              generalize Q.getD jq 0 = od at *
              obtain ⟨pw, hpw2⟩ : ∃ pw, pw = 2 ^ jm := ⟨_, rfl⟩
              have g3 : (2 : Int) ^ jm = (pw : Int) := by rw [hpw2, Int.natCast_pow]; rfl
              rw [← hpw2] at qb ho hpw hvv ql
              have g4 : bits .or .u32 (od : Int) (pw : Int) = ((od + pw : Nat) : Int) := by rw [u32_or_nat _ _ (by unfold NumR.BB at hoB; omega) (by omega), ho.1]
              have g5 : (pw : Int) % 4294967296 = (pw : Int) := by omega
              have g6 : IntKind.u32.wrap (1 * 2 ^ jm) = (pw : Int) := by rw [Int.one_mul, g3]; exact w32 (by unfold BB; omega)
              generalize od + pw = nd at *
              have HQL2 := Lib.hid ql
              have HVV := Lib.hid hvv
              clear ql hvv
              have HJQ := Lib.hid (And.intro hjq (And.intro hjm hpw2))
              clear hjq hjm hpw2 ho hoB HOR HMORE
              go_region
              have HSQ := Lib.hid (show ∃ q, NumR.val (Q.set jq nd) = q * 2 ^ j ∧ NumR.val A / 2 ^ j = q * NumR.val B + NumR.val T4 by
                obtain ⟨q, h1, q', h2, h3⟩ := HSTEP.out
                exact ⟨q', by rw [HVV.out]; exact h2, by rw [h3, HRT.out.2.2]⟩)
              have hRf := hRT.far (p := ⟨w.heap.size, jq, none⟩) (Nat.lt_succ_self _) (.int .u32 (nd : Int))
              have hBf := bset hB7 (p := ⟨w.heap.size, jq, none⟩) (Nat.le_refl _) (.int .u32 (nd : Int))
              clear q0 qf
              go_wp2
              exact ⟨⟨j, Q.set jq nd, T4, by omega, rfl, qb, hRf, Lib.hid (by simpa using hQl.out), HQL2.out, HRT.out.1, Lib.hid HRT.out.2.1, HSQ, Lib.hid (by rw [HRT.out.2.2]; exact HLT.out), hBf.drew⟩, by simp [intOf] <;> omega⟩
            · have hnl : NumR.val (T) < NumR.val B := by omega
              have hz : ¬ (0 : Int) ≤ cmpN (NumR.val (T)) (NumR.val B) := by have := (cmpN_neg (x := NumR.val (T)) (y := NumR.val B)); rw [decide_eq_true hnl] at this; have := of_decide_eq_true this; omega
              have HLT := Lib.hid (show NumR.val (T) < NumR.val B by omega)
              have HEQ := Lib.hid (show ∃ q, NumR.val Q = q * 2 ^ j ∧ NumR.val A / 2 ^ j = q * NumR.val B + NumR.val (T) by
                obtain ⟨q, h1, h2⟩ := hV.out
                obtain ⟨h3, h4⟩ := NumR.bit_take h2 HBIT.out h1
                exact ⟨2 * q, h4, by rw [h3, HV3.out]⟩)
              generalize cmpN (NumR.val (T)) (NumR.val B) = z at *
              clear hge
              go_wp2_with fail
              (with_reducible refine (zc _ hU3 (hb.keep hBw)).mono ?_)
              rintro e w5 ⟨rfl, hb5⟩
              have hR5 := hR3.below hb5
              have hQ5 := hQ3.keep hb5
              have hB5 := bthen hBw hb5
              clear zc hR3 hQ3 hU3
              go_wp2
              exact ⟨⟨j, Q, T, by omega, rfl, hQ5, hR5, hQl, hQL, hR3L, HN3, HEQ, HLT, hB5⟩, by simp [intOf] <;> omega⟩
          · have HV3 := Lib.hid (show NumR.val (T ++ [1]) = bt + 2 * NumR.val R by rw [NumR.val_snoc]; exact HV2.out)
            have hR3L := NumR.limbs_snoc hR2L (x := 1) (by unfold NumR.BB; omega)
            have HN3 := Lib.hid (show Nrm (T ++ [1]) from fun _ => by simp)
            have hlm : (T).length ≤ 2147483652 := by have := HLEN.out; have := HRL.out; omega
            have hBs : w.heap.size + 1 ≤ (wi).heap.size := hQ2.lt
            have HO2 := Lib.hid hR2.ex
            go_wp2_with (at_builtin; refine appB32 (X := [1]) rfl rfl hR2 hBs rfl rfl ?_ ?_; (simp; omega); intro v3 w3 hR3 ho3; (have hQ3 : Blk w3 w.heap.size Q := ho3.blk hQ2 (fun h => by rcases HO2.out with ⟨h1, _⟩ | ⟨g, cp, h1, h2, _⟩ <;> (rw [show Value.slice a9 R.length c9 = _ from h1] at h; simp [Value.ownBlock] at h) <;> omega)); (have hBw3 : Below w.heap.size w w3 := hBw.trans (ho3.to_below (fun k hk _ h => by rcases HO2.out with ⟨h1, _⟩ | ⟨g, cp, h1, h2, _⟩ <;> (rw [show Value.slice a9 R.length c9 = _ from h1] at h; simp [Value.ownBlock] at h) <;> omega) (by omega))); clear hR2 hQ2 ho3 HV2)
            have hBw := hBw3
            clear hBw3
            -- the rest, twice and a digit more, lies in v3
            obtain ⟨a3, k3, hv3, hU3⟩ := hR3.u32 (limbs_of_r hR3L)
            have zc := fun W h1 h2 => rsize_c a3 b k3 cb (T ++ [1]) B W h1 h2 hR3L hB HN3.out hBn
            have HV3s := Lib.hid hv3
            rw [← hv3] at zc
            clear hv3
            by_cases hge : NumR.val B ≤ NumR.val (T ++ [1])
            · have hnl : ¬ NumR.val (T ++ [1]) < NumR.val B := by omega
              have hz : (0 : Int) ≤ cmpN (NumR.val (T ++ [1])) (NumR.val B) := by have := (cmpN_neg (x := NumR.val (T ++ [1])) (y := NumR.val B)); rw [decide_eq_false hnl] at this; have := of_decide_eq_false this; omega
              have HMIN := Lib.hid (fun W (h1 : U32 W a3 k3 (T ++ [1])) h2 => rminus_c a3 b k3 cb (T ++ [1]) B W h1 h2 hR3L hB (by
                apply Nat.le_of_lt_succ
                have := HLEN.out
                have := HRL.out
                simp <;> omega) (by
                apply Nat.le_of_not_lt; intro h
                have := NumR.val_lt_of_len hR3L hBn h
                omega) hge)
              have HSUB := Lib.hid (show ∀ O : List Nat, NumR.val O + NumR.val B = NumR.val (T ++ [1]) → NumR.val (trimL O) = NumR.val (T ++ [1]) - NumR.val B from fun O h => by rw [NumR.val_trim]; omega)
              have HSTEP := Lib.hid (show ∃ q, NumR.val Q = q * 2 ^ (j + 1) ∧ (∃ q', NumR.val Q + 2 ^ j = q' * 2 ^ j ∧ NumR.val A / 2 ^ j = q' * NumR.val B + (NumR.val (T ++ [1]) - NumR.val B)) by
                obtain ⟨q, h1, h2⟩ := hV.out
                obtain ⟨h3, h4⟩ := NumR.bit_take h2 HBIT.out h1
                rw [← HV3.out] at h3
                obtain ⟨h5, h6⟩ := NumR.bit_more h3 hge h4
                exact ⟨q, h1, 2 * q + 1, h6, h5⟩)
              have HLT := Lib.hid (show NumR.val (T ++ [1]) - NumR.val B < NumR.val B by
                have := HV3.out
                have := hlt.out
                omega)
              have HOR := Lib.hid (by
                obtain ⟨q, h1, h2⟩ := hV.out
                exact NumR.or_val (l := Q) (k := j) (Q := q) hQL h1)
              have HMORE := Lib.hid (NumR.set_bit (l := Q) (k := j) (by have := hQl.out; have := HJ.out; omega))
              generalize cmpN (NumR.val (T ++ [1])) (NumR.val B) = z at *
              clear hge hnl
              go_wp2_with fail
              (with_reducible refine (zc _ hU3 (hb.keep hBw)).mono ?_)
              rintro e w5 ⟨rfl, hb5⟩
              have hR5 := hR3.below hb5
              have hU5 := hU3.keep hb5
              have hQ5 := hQ3.keep hb5
              have hB5 := bthen hBw hb5
              have mc := HMIN.out
              rw [← HV3s.out] at mc
              clear zc hR3 hQ3 hU3
              go_wp2_with fail
              (with_reducible refine (mc _ hU5 (hb.keep hB5)).mono ?_)
              rintro e w6 ⟨v6, rfl, O, hO, hOL, hOl, hOv⟩
              have HOv := Lib.hid hOv
              clear hOv hOl
              obtain ⟨aO, cO, rfl, hOu⟩ := hO.u32 (limbs_of_r hOL)
              have hB6 := bthen hB5 hO.2
              have hQ6 := hQ5.keep hO.2
              have hOB := OwnB.of hO (B := w.heap.size + 1) hQ5.lt
              clear mc hU5 hR5 hQ5 hO
              go_wp2_with fail
              (with_reducible refine (rnormK_c false aO cO O _ hOu).mono ?_)
              rintro e w7 ⟨rfl, hb7⟩
              unfold iv
              have hQ4 := hQ6.keep hb7
              have hB7 := bthen hB6 hb7
              have hRT := (hOB.below hb7).cut' (trim_prefix O)
              have HRT := Lib.hid (And.intro (NumR.trim_limbs hOL) (And.intro (trim_nrm O) (HSUB.out O HOv.out)))
              generalize trimL O = T4 at *
              clear hOB hOu hQ6 HOv hOL
              go_wp2
              -- a binary digit of the quotient is set, in the world w7; the rest is T4
              have q0 := hQ4.cell (j / 16) (by have := hQl.out; have := HJ.out; omega)
              have qf := hQ4.frozen (j / 16)
              have ho := HOR.out
              obtain ⟨jq, hjq⟩ : ∃ jq, jq = j / 16 := ⟨_, rfl⟩
              obtain ⟨jm, hjm⟩ : ∃ jm, jm = j % 16 := ⟨_, rfl⟩
              have g1 : (j : Int) / 16 = (jq : Int) := by omega
              have g1' : (j : Int).tdiv 16 = (jq : Int) := by rw [Int.tdiv_eq_ediv_of_nonneg (by omega)]; exact g1
              have g2 : (j : Int) % 16 = (jm : Int) := by omega
              have g2' : (j : Int).tmod 16 = (jm : Int) := by rw [Int.tmod_eq_emod_of_nonneg (by omega)]; exact g2
              have hjm16 : jm < 16 := by omega
              have hjqz : (jq : Int) < (A.length : Int) := by have := HJ.out; omega
              have qb := hQ4.set (j / 16) (Q.getD (j / 16) 0 + 2 ^ (j % 16))
              have ql := NumR.limbs_set hQL (k := j / 16) ho.2
              rw [← hjq] at q0 qf
              rw [← hjq, ← hjm] at qb ho
              have hpw : 2 ^ jm < 65536 := Nat.lt_of_lt_of_le (Nat.pow_lt_pow_right (by omega) hjm16) (by decide)
              have hvv := HMORE.out
              rw [← hjq, ← hjm] at hvv ql
              have hoB := NumR.limb_get hQL jq
              generalize Q.getD jq 0 = od at *
              obtain ⟨pw, hpw2⟩ : ∃ pw, pw = 2 ^ jm := ⟨_, rfl⟩
              have g3 : (2 : Int) ^ jm = (pw : Int) := by rw [hpw2, Int.natCast_pow]; rfl
              rw [← hpw2] at qb ho hpw hvv ql
              have g4 : bits .or .u32 (od : Int) (pw : Int) = ((od + pw : Nat) : Int) := by rw [u32_or_nat _ _ (by unfold NumR.BB at hoB; omega) (by omega), ho.1]
              have g5 : (pw : Int) % 4294967296 = (pw : Int) := by omega
              have g6 : IntKind.u32.wrap (1 * 2 ^ jm) = (pw : Int) := by rw [Int.one_mul, g3]; exact w32 (by unfold BB; omega)
              generalize od + pw = nd at *
              have HQL2 := Lib.hid ql
              have HVV := Lib.hid hvv
              clear ql hvv
              have HJQ := Lib.hid (And.intro hjq (And.intro hjm hpw2))
              clear hjq hjm hpw2 ho hoB HOR HMORE
              go_region
              have HSQ := Lib.hid (show ∃ q, NumR.val (Q.set jq nd) = q * 2 ^ j ∧ NumR.val A / 2 ^ j = q * NumR.val B + NumR.val T4 by
                obtain ⟨q, h1, q', h2, h3⟩ := HSTEP.out
                exact ⟨q', by rw [HVV.out]; exact h2, by rw [h3, HRT.out.2.2]⟩)
              have hRf := hRT.far (p := ⟨w.heap.size, jq, none⟩) (Nat.lt_succ_self _) (.int .u32 (nd : Int))
              have hBf := bset hB7 (p := ⟨w.heap.size, jq, none⟩) (Nat.le_refl _) (.int .u32 (nd : Int))
              clear q0 qf
              go_wp2
              exact ⟨⟨j, Q.set jq nd, T4, by omega, rfl, qb, hRf, Lib.hid (by simpa using hQl.out), HQL2.out, HRT.out.1, Lib.hid HRT.out.2.1, HSQ, Lib.hid (by rw [HRT.out.2.2]; exact HLT.out), hBf.drew⟩, by simp [intOf] <;> omega⟩
            · have hnl : NumR.val (T ++ [1]) < NumR.val B := by omega
              have hz : ¬ (0 : Int) ≤ cmpN (NumR.val (T ++ [1])) (NumR.val B) := by have := (cmpN_neg (x := NumR.val (T ++ [1])) (y := NumR.val B)); rw [decide_eq_true hnl] at this; have := of_decide_eq_true this; omega
              have HLT := Lib.hid (show NumR.val (T ++ [1]) < NumR.val B by omega)
              have HEQ := Lib.hid (show ∃ q, NumR.val Q = q * 2 ^ j ∧ NumR.val A / 2 ^ j = q * NumR.val B + NumR.val (T ++ [1]) by
                obtain ⟨q, h1, h2⟩ := hV.out
                obtain ⟨h3, h4⟩ := NumR.bit_take h2 HBIT.out h1
                exact ⟨2 * q, h4, by rw [h3, HV3.out]⟩)
              generalize cmpN (NumR.val (T ++ [1])) (NumR.val B) = z at *
              clear hge
              go_wp2_with fail
              (with_reducible refine (zc _ hU3 (hb.keep hBw)).mono ?_)
              rintro e w5 ⟨rfl, hb5⟩
              have hR5 := hR3.below hb5
              have hQ5 := hQ3.keep hb5
              have hB5 := bthen hBw hb5
              clear zc hR3 hQ3 hU3
              go_wp2
              exact ⟨⟨j, Q, T ++ [1], by omega, rfl, hQ5, hR5, hQl, hQL, hR3L, HN3, HEQ, HLT, hB5⟩, by simp [intOf] <;> omega⟩
end Go.Proofs.YthaohpfbengabaaDoor

/- The reference's numbers: divide. -/
namespace Go.Proofs.YthaohpfbengabaaDoor
open Num
open Go.ChangeShapes Go.WideShapes Go.ChangeAt Go.RowKit
set_option linter.unusedVariables false
set_option linter.unusedSimpArgs false
theorem rdivide_c (a b : Option Addr) (ca cb : Nat) (A B : List Nat) (w : World) (ha : U32 w a ca A) (hb : U32 w b cb B) (hA : NumR.Limbs A) (hB : NumR.Limbs B) (hAn : Nrm A) (hBn : Nrm B) (hD0 : 0 < NumR.val B) (h1 : A.length ≤ 1073741826) (h2 : B.length ≤ 1073741826) :
    Calls Tryd.prog 118 #[.slice a A.length ca, .slice b B.length cb] w fun e w' => (∃ u v, e = .returned (.tuple #[u, v]) ∧ NewN w' u (NumR.val A / NumR.val B) ∧ NewN w' v (NumR.val A % NumR.val B)) ∧ Below w.heap.size w w' := by
  by_cases h : B.length = 1
  · obtain ⟨c, rfl⟩ := List.length_eq_one_iff.1 h
    have e : NumR.val [c] = c := by simp [NumR.val]
    rw [e] at *
    exact rdiv1_c a b ca cb A c w ha hb hA (hB c (by simp)) hD0 (by omega)
  · exact rdivL_c a b ca cb A B w ha hb hA hB hAn hBn h hD0 h1 h2

end Go.Proofs.YthaohpfbengabaaDoor

