/- Texts of this seat, laid together: LimbM, IntJ, VmP, VmB, VmC, RefG, RefH, RefI, VmD, VmE, VmQ, ExP. What each theorem proves, and under which conditions, its statement says. -/
import Derived.Test.YtbmaffijncapiaaGreatDoorB07
import Derived.Laws.EntriesVeiled
import Derived.Deep.DrawnRows
import Derived.Deep.RegionLaw
set_option maxRecDepth 100000
set_option maxHeartbeats 32000000
set_option linter.unusedVariables false
set_option linter.unusedSimpArgs false
namespace Go.Proofs.YtbmaffijncapiaaGreatDoor
open Go.ChangeShapes Go.WideShapes Go.ChangeAt Go.RowKit
section
open Num
theorem rw_of_own {w : World} {base : Nat} {v : Value} {n : Nat} {L : List Nat} (h : w.ownsRow base 177 1 v n (cel L)) (h0 : L ≠ []) : ∃ g cap, v = .slice (some ⟨g, 0, none⟩) L.length cap ∧ base ≤ g ∧ L.length ≤ cap ∧ cap ≤ maxLen ∧ Rw32 w g L := by
 obtain ⟨hl, h1⟩ := h
 rw [cel_len, Nat.mul_one] at hl
 rcases h1 with ⟨rfl, h2⟩ | ⟨g, cap, cur, rfl, hg, hh, hc, hm, hs, ht⟩
 · exact absurd (List.length_eq_zero_iff.1 (hl.trans h2)) h0
 · subst hl
   exact ⟨g, cap, rfl, hg, hc, hm, cur, hh, by rwa [Nat.mul_one] at ht⟩

def Grown32 (B : Nat) (w' : World) (v : Value) (L : List Nat) : Prop := ∃ g cap, v = .slice (some ⟨g, 0, none⟩) L.length cap ∧ B ≤ g ∧ L.length ≤ cap ∧ cap ≤ maxLen ∧ Rw32 w' g L
theorem app32g {ops : Array Oper} {rest : List Oper} {o : Oper} {a : Act} {Q : Exit → Act → World → Prop} {wr : World} {b off : Nat} {L X : List Nat} {t : TypeId} (hgd : o.guard = none) {s x : Operand}
 (ho : o.op = .call { callee := .builtin .append, args := #[s, x], argTypes := #[48, 48] }) (hL : At32 wr b off L) (hs : a.eval s = .slice (some ⟨b, off, none⟩) L.length L.length)
 {c : Nat} (hx : a.eval x = .slice (some ⟨wr.heap.size, 0, none⟩) X.length c) (hX : X ≠ []) (hn : L.length + X.length ≤ 1099511627776)
 (h : ∀ v' w', Grown32 wr.heap.size w' v' (L ++ X) → Below wr.heap.size wr w' → wpList Tryz.prog ops Q rest (a.put o.dst v') w') : wpList Tryz.prog ops Q (o :: rest) a (wr.alloc (.cells (cel X).toArray t)) := by
 obtain ⟨i0, hi, hz0, hz1, hz2⟩ := info_parts info32
 have hXl : 0 < X.length := List.length_pos_iff.2 hX
 refine wpList_append_grows _ hgd s x 48 ho 177 i0 (.int .u32 0) 1 4 Tryz.underlying48 hi hz0 hz1 hz2 rfl (by decide) (some ⟨b, off, none⟩) L.length L.length (cel L) hs (fun h => by cases h) (by rw [cel_len, Nat.mul_one]) ?_ ⟨wr.heap.size, 0, none⟩ X.length c (cel X) hx (by rw [cel_len, Nat.mul_one]) (cells_new wr _ _) (cel_one _) (by omega) (by unfold maxLen; omega) (by omega) ?_
 · intro b' hb' j u hj
   cases hb'
   have hjl : j < L.length := by have := (List.getElem?_eq_some_iff.1 hj).1; rwa [cel_len] at this
   rw [cel_get L j hjl] at hj
   cases hj
   have := hL j hjl
   refine cell_alloc ?_ _
   unfold Addr.add
   split
   · subst_vars; simpa using this
   · exact this
 · intro v' w' hown hgr
   rw [← cel_app] at hown
   obtain ⟨g, cap, e, hg, r⟩ := rw_of_own hown (by simp [hX])
   exact h v' w' ⟨g, cap, e, by simp at hg; omega, r⟩ ((bal (Below.refl _ _) (.cells (cel X).toArray t)).grown hgr (by simp) (fun k e => by cases e))

theorem At32.okeepA {X : Nat → Prop} {a b : World} {q off : Nat} {l : List Nat} (h : At32 a q off l) (k : Out X a b) (hx : ∀ i, i = q → ¬ X i) : At32 b q off l :=
 ⟨fun i hi => okeep k (h i hi) (hx q rfl), by rw [typ_of_block (w := a) (k.block q (typ_lt h.ty) (hx q rfl))]; exact h.ty⟩

theorem divmod_great (a b : Option Addr) (ca cb : Nat) (l lb : List Nat) (w : World) (ha : U32 w a ca l) (hb : U32 w b cb lb) (h1 : l.length ≤ 274877906944) (h2 : lb.length ≤ 274877906944) (hge : val lb ≤ val l) (hs : 2 ≤ (trimL lb).length) :
 Calls Tryz.prog 225 #[.slice a l.length ca, .slice b lb.length cb] w fun e w' => (∃ u v, e = .returned (.tuple #[u, v, .int .i64 0]) ∧ NewL w' u (val l / val lb) ∧ NewL w' v (val l % val lb)) ∧ Below w.heap.size w w' := by
 have tc := trim_c b cb lb w hb
 have hbt := hb.trim
 have hbn := trim_nrm lb
 have h3 := Nat.le_trans (trim_len lb) h2
 rw [← val_trim lb] at *
 generalize trimL lb = m at *
 have cc := fun W (hB : Below w.heap.size w W) => limbCmp_c a b ca m.length l m W (ha.keep hB) (hbt.keep hB)
 have hcz := cmpN_neg (x := val l) (y := val m)
 rw [show decide (val l < val m) = false from by simpa using hge] at hcz
 obtain ⟨p, hp⟩ : ∃ p, m.length = p + 2 := ⟨m.length - 2, by omega⟩
 obtain ⟨hs1, hs2, hs3, hs4⟩ := shift_top hbt.2.2.1 hbn hp
 rcases hbt.2.2.2 with hm0 | ⟨bb, ob, rfl, hcell⟩
 · subst hm0; simp at hp
 have c0 := hcell (p + 1) (by omega)
 have htop := limb_get hbt.2.2.1 (p + 1)
 have HBT := hZ hbt
 have HA := hZ ha
 have hvm : 0 < val m := by
  apply Nat.pos_of_ne_zero; intro e
  rw [e, Nat.zero_mul] at hs3
  have : 0 < 2147483648 * BB ^ (p + 1) := Nat.mul_pos (by omega) (Nat.pow_pos BB_pos)
  omega
 generalize m.getD (p + 1) 0 = top at *
 obtain ⟨s, hse⟩ : ∃ s : Nat, s = 32 - bitN top := ⟨_, rfl⟩
 have es : 32 - (bitN top : Int) = (s : Int) := by omega
 rw [← hse] at hs3 hs4
 have hs32 : s ≤ 31 := by omega
 have lz := fun W => lz32_c top W htop
 rw [es] at lz
 have sc := fun W (hB : Below w.heap.size w W) => limbShl_c (some ⟨bb, ob, none⟩) m.length m s W (HBT.out.keep hB) (by omega) (by omega)
 have sd := fun W (hB : Below w.heap.size w W) => limbShl_c a ca l s W (HA.out.keep hB) (by omega) (by omega)
 have hml : (m.length : Int) - 1 = ((p + 1 : Nat) : Int) := by omega
 have hmz : ((m.length : Int) == 0) = false := by rw [beq_eq_false_iff_ne]; omega
 have hmz1 : ((m.length : Int) == 1) = false := by rw [beq_eq_false_iff_ne]; omega
 have hmi : ((p + 1 : Nat) : Int) < (m.length : Int) := by omega
 have HP := hZ hp
 have HS := hZ (And.intro hs3 hs4)
 have HGE := hZ (And.intro hge hvm)
 clear hcell hbt hbn ha hb hs1 hs2 hs3 hs4 hse es hge hs hp
 generalize hp1 : p + 1 = p1 at *
 have HP1 := hZ hp1
 clear hp1
 generalize hmn : m.length = ml at *
 have HML := hZ hmn
 clear hmn
 generalize cmpN (val l) (val m) = z at *
 go_enter Tryz.func225, Tryz.ntmps225
 go_wp2_with fail
 refine tc.mono ?_
 rintro e w1 ⟨rfl, rfl⟩
 clear tc
 go_wp2_with fail
 refine (cc _ (Below.refl _ _)).mono ?_
 rintro e w1 ⟨rfl, hb1⟩
 have k0 := bkeep hb1 c0
 go_wp2_with fail
 refine (lz _).mono ?_
 rintro e w2 ⟨rfl, rfl⟩
 go_wp2_with fail
 refine (sc _ hb1).mono ?_
 rintro e w3 ⟨⟨uV, rfl, hV⟩, hb3⟩
 have hB3 := bthen hb1 hb3
 obtain ⟨aV, nV, V, rfl, hnV, hVu, hVn, hVv⟩ := hV
 go_wp2_with fail
 refine (sd _ hB3).mono ?_
 rintro e w4 ⟨⟨uL, rfl, hL⟩, hb4⟩
 have hB4 := bthen hB3 hb4
 obtain ⟨aL, nL, L, rfl, hnL, hLu, hLn, hLv⟩ := hL
 have hVu4 := hVu.keep hb4
 clear cc lz sc sd hb1 hb3 hb4 hcz k0 c0 hVu
 -- the lengths
 have hVlen : V.length = p + 2 := by
  have h1 := nrm_len_le (k := p1 + 1) hVn (by rw [hVv]; exact HS.out.2)
  have h2 := le_len (k := p1) hVu4.2.2.1 (by rw [hVv]; exact Nat.le_trans (Nat.le_mul_of_pos_left _ (by omega)) HS.out.1)
  have := HP1.out
  omega
 have hLlen : p + 2 ≤ L.length := by
  have h2 := le_len (k := p1) hLu.2.2.1 (by
   rw [hLv]
   refine Nat.le_trans (Nat.le_trans (Nat.le_mul_of_pos_left _ (by omega)) HS.out.1) (Nat.mul_le_mul HGE.out.1 (Nat.le_refl _)))
  have := HP1.out
  omega
 have hLmax : L.length ≤ l.length + 1 := nrm_len_le hLn (by
  rw [hLv, Nat.pow_succ]
  refine Nat.mul_lt_mul'' (val_lt HA.out.2.2.1) ?_
  refine Nat.lt_of_le_of_lt (Nat.pow_le_pow_right (by omega) hs32) (by unfold BB; omega))
 rcases hVu4.2.2.2 with hv0 | ⟨bv, ov, rfl, hVc⟩
 · subst hv0; simp at hVlen
 rcases hLu.2.2.2 with hv0 | ⟨bl, ol, rfl, hLc⟩
 · subst hv0; simp at hLlen
 have hVtop := top_of_val (p := p1) hVu4.2.2.1 (by have := HP1.out; omega) (by rw [hVv]; exact HS.out.1)
 have hbv := typ_lt hVc.ty
 subst hnV hnL
 have hLn1 : L.length + 1 ≤ 274877906946 := by omega
 obtain ⟨nv, hnv⟩ : ∃ nv, nv = V.length := ⟨_, rfl⟩
 rw [← hnv]
 obtain ⟨M, hM⟩ : ∃ M, L.length + 1 = M + nv := ⟨L.length + 1 - nv, by omega⟩
 have eM : (L.length : Int) + 1 - (nv : Int) = (M : Int) := by omega
 have hmk := mk32 M (by omega)
 have HM := hZ (And.intro hM (And.intro hnv hVlen))
 have hVL := hVu4.2.2.1
 have hLL := hLu.2.2.1
 have hMm : M ≤ 274877906946 := by omega
 have hnvm : nv ≤ 274877906946 := by omega
 clear hVlen hM hnv hVu4 hLu hLlen hLmax
 go_wp2_with (at_builtin; refine app32g (X := [0]) rfl rfl hLc rfl rfl ?_ ?_ ?_; exact List.cons_ne_nil _ _; (simp; omega); rintro u5 w5 ⟨gu, cu, rfl, hgu, hcu, hcm, hU⟩ hb5)
 have hB5 := bthen hB4 hb5
 have HU := hZ hU
 have hV5 : At32 w5 bv ov V := ⟨fun j hj => bkeep hb5 (hVc j hj), typ_keep hVc.ty hb5⟩
 have hgb : bv ≠ gu := by omega
 have hgl := hU.lt
 have hw5 : w.heap.size ≤ w4.heap.size := hB4.size
 have hcuL : L.length + 1 ≤ cu := by simpa using hcu
 clear hU hLc hVc hcu hb5 hB4 hB3
 have HV5 := hZ hV5
 have hbv5 := typ_lt hV5.ty
 clear hV5
 go_wp2
 have HL0 := hZ (show val ((L ++ [0]).drop M) < val V by
  refine Nat.lt_of_lt_of_le (m := BB ^ p1) ?_ (by rw [hVv]; exact Nat.le_trans (Nat.le_mul_of_pos_left _ (by omega)) HS.out.1)
  have h5 := HM.out
  have h6 := HP1.out
  rw [List.drop_append_of_le_length (by omega), val_append]
  simp only [val, Nat.mul_zero, Nat.add_zero]
  refine Nat.lt_of_lt_of_le (val_lt fun x hx => hLL x (List.mem_of_mem_drop hx)) (Nat.pow_le_pow_right BB_pos ?_)
  rw [List.length_drop]; omega)
 have HA0 := hZ (show val (List.replicate M 0) * val V + val (L ++ [0]) = val L by rw [val_zeros, val_append]; simp [val])
 go_loopw [17] (fun x wr => ∃ (j : Nat) (U Q : List Nat), j ≤ M ∧ x = .int .i64 ((j : Int) - 1) ∧ Rw32 wr gu U ∧ Blk wr w5.heap.size Q ∧ Hid (U.length = L.length + 1) ∧ Hid (Q.length = M) ∧ Limbs U ∧ Limbs Q ∧ Hid (∀ i, i < j → Q.getD i 0 = 0) ∧ Hid (val Q * val V + val U = val L) ∧ Hid (val (U.drop j) < val V) ∧ Out (fun k => k = gu ∨ k = w5.heap.size) w5 wr) (fun x _ => (intOf x + 1).toNat)
 case atStart => exact ⟨M, L ++ [0], List.replicate M 0, Nat.le_refl _, rfl, HU.out.keep (bal (Below.refl _ _) _), blk_new w5 _, hZ (by simp), hZ (by simp), (fun y hy => by
  rcases List.mem_append.1 hy with h | h
  · exact hLL y h
  · simp at h; subst h; exact BB_pos), (fun y hy => by simp at hy; rw [hy.2]; exact BB_pos), hZ (fun i hi => by simp [hi]), HA0, HL0, Out.of_below _ (bal (Below.refl _ _) _)⟩
 case round =>
  obtain ⟨j, U, Q, hj, rfl, hU, hQ, hUl, hQl, hUL, hQL, hQ0, hA, hH, hOut⟩ := hrel
  cases j with
  | zero =>
   have hUc := hZ (hU.u32 hUL (c := cu) (by have := hUl.out; omega) hcm)
   have hQu := hQ.u32 hQL (by have := hQl.out; unfold maxLen; omega)
   have hB9 : Below w.heap.size w wr := hB5.trans (hOut.to_below (fun k hk _ h => by rcases h with h | h <;> omega) (by have := hB5.size; omega))
   have sh := fun W (h : Below wr.heap.size wr W) => limbShr_c (some ⟨gu, 0, none⟩) cu U s W (hUc.out.keep h) (by have := hUl.out; omega) (by omega)
   rw [hUl.out] at sh
   have tc := fun W (h : Below wr.heap.size wr W) => trim_c (some ⟨w5.heap.size, 0, none⟩) Q.length Q W (hQu.keep h)
   rw [hQl.out] at tc
   have HE := hZ (dm_end (A := val l) (B := val m) (s := s) (Q := val Q) (R := val U) HGE.out.2 (by rw [← hVv, ← hLv]; exact hA.out) (by rw [← hVv]; exact hH.out))
   have HT := hZ (val_trim Q)
   have HN := hZ (trim_nrm Q)
   have HQ := hZ hQu.trim
   generalize trimL Q = T at *
   clear hUc hQu hU hQ hOut hA hH hQ0
   go_wp2_with fail
   (with_reducible refine (sh _ (Below.refl _ _)).mono ?_)
   rintro e w6 ⟨⟨uR, rfl, hR⟩, hb6⟩
   have HR := hZ hR
   obtain ⟨aR, nR, R, rfl, -⟩ := hR
   go_wp2_with fail
   (with_reducible refine (tc _ hb6).mono ?_)
   rintro e w7 ⟨rfl, rfl⟩
   clear tc sh
   go_wp2
   go_ret3
   exact ⟨⟨_, _, rfl, ⟨_, _, T, rfl, rfl, HQ.out.keep hb6, HN.out, by rw [HT.out, HE.out.1]⟩, by rw [HE.out.2]; exact HR.out⟩, bthen hB9 hb6⟩
  | succ j =>
   have dc := fun W (hu : Rw32 W gu U) (hv : At32 W bv ov V) => digit_c gu j p (cu - j) bv ov nv U V W hu hUL (by have := hUl.out; have := HM.out; omega) (by have := HM.out; omega) (by have := hUl.out; omega) hv hVL HM.out.2.2 (by have := HM.out; omega) hgb (by rw [HP1.out]; exact hVtop) (by
    have h7 := dm_pre (U := U) (k := j) (n := p + 2) (D := val V) hUL (by have := hUl.out; have := HM.out; omega) hH.out (by rw [← HM.out.2.2]; exact val_lt hVL)
    rw [h7.1]; exact h7.2)
   rw [show p + 3 = nv + 1 by have := HM.out; omega, show p + 2 = nv by have := HM.out; omega] at dc
   have ej : ((j : Int) + (nv : Int) + 1 - (j : Int)).toNat = nv + 1 := by omega
   have hjc : j < cu := by omega
   go_wp2_with fail
   rw [show j + nv + 1 - j = nv + 1 by omega]
   (with_reducible refine (dc _ hU (HV5.out.okeepA hOut (by intro i e; show ¬ (i = gu ∨ i = w5.heap.size); omega))).mono ?_)
   rintro e w6 ⟨⟨O, rfl, hO, hOl, hOL, hO0, hOw⟩, hOut2⟩
   have hgq : gu ≠ w5.heap.size := by omega
   have hQ6 := hZ (show Blk w6 w5.heap.size Q from hOut2.blk hQ (fun h => hgq (show _ = _ from h).symm))
   have HW6 := hZ (hOut.trans (hOut2.mono (fun i _ h => .inl h)))
   have HS6 := hZ (fun d hd => dm_step (U := U) (O := O) (Q := Q) (j := j) (n := nv) (D := val V) (A := val L) (d := d) hUL hOL hOl (by have := hUl.out; have := HM.out; omega) (by have := hQl.out; omega) (hQ0.out j (by omega)) (by have h := val_lt hVL; rwa [HM.out.2.1.symm] at h) (by have := HL0.out; omega) hH.out hA.out hO0 hd hOw)
   have hdB : win U j (nv + 1) / val V < BB := Nat.div_lt_of_lt_mul (by
    have h7 := dm_pre (U := U) (k := j) (n := nv) (D := val V) hUL (by have := hUl.out; have := HM.out; omega) hH.out (by rw [HM.out.2.1]; exact val_lt hVL)
    rw [h7.1]; exact h7.2)
   obtain ⟨d, hd⟩ : ∃ d, d = win U j (nv + 1) / val V := ⟨_, rfl⟩
   have HD := hZ (HS6.out d hd)
   rw [← hd] at hdB
   rw [← hd]
   have q0 := hQ6.out.cell j (by have := hQl.out; omega)
   have qf := hQ6.out.frozen j
   have qb := hQ6.out.set j d
   have ub := hO
   have uo := HW6.out.set (p := ⟨w5.heap.size, j, none⟩) (fun _ => .inr rfl) (.int .u32 (d : Int))
   have HUO := hZ (show Rw32 (w6.setCell ⟨w5.heap.size, j, none⟩ (.int .u32 (d : Int))) gu O from hO.out (X := fun k => k = w5.heap.size) ((Out.refl (fun k => k = w5.heap.size) w6).set (p := ⟨w5.heap.size, j, none⟩) (fun _ => rfl) _) (fun h => hgq h))
   have ql := limbs_set hQL (k := j) hdB
   have hjM : (j : Int) < (M : Int) := by omega
   have HO := hZ (And.intro hOl (And.intro hOL hO0))
   clear dc hOl hO0 hOw hd HS6 hOut hOut2 hU hQ ub hO
   go_wp2
   refine ⟨⟨j, O, Q.set j d, by omega, rfl, HUO.out, qb, hZ (HO.out.1.trans hUl.out), hZ (by simpa using hQl.out), HO.out.2.1, ql, hZ ?_, hZ HD.out.1, hZ HD.out.2, uo⟩, by simp [intOf] <;> omega⟩
   intro i hi
   rw [getD_set_far (by omega)]
   exact hQ0.out i (by omega)

theorem limbDivMod_c (a b : Option Addr) (ca cb : Nat) (l lb : List Nat) (w : World) (ha : U32 w a ca l) (hb : U32 w b cb lb) (h1 : l.length ≤ 274877906944) (h2 : lb.length ≤ 274877906944) (h0 : 0 < val lb) :
 Calls Tryz.prog 225 #[.slice a l.length ca, .slice b lb.length cb] w fun e w' => (∃ u v, e = .returned (.tuple #[u, v, .int .i64 0]) ∧ NewL w' u (val l / val lb) ∧ NewL w' v (val l % val lb)) ∧ Below w.heap.size w w' := by
 by_cases hlt : val l < val lb
 · exact divmod_small a b ca cb l lb w ha hb (by omega) (by omega) h0 (.inl hlt)
 · by_cases h : (trimL lb).length = 1
   · exact divmod_small a b ca cb l lb w ha hb (by omega) (by omega) h0 (.inr h)
   · refine divmod_great a b ca cb l lb w ha hb h1 h2 (by omega) ?_
     have h3 : trimL lb ≠ [] := by
      intro e
      rw [← val_trim lb, e] at h0
      simp [val] at h0
     have := List.length_pos_iff.2 h3
     omega
end
end Go.Proofs.YtbmaffijncapiaaGreatDoor
namespace Go.Proofs.YtbmaffijncapiaaGreatDoor
open Num
def opI (i : Ins) (a b : Int) : Option Int :=
 if i.op = 2 then some (-a)
 else if i.op = 3 then some (a + b)
 else if i.op = 4 then some (a - b)
 else if i.op = 5 then some (a * i.c)
 else if i.op = 6 then (if a % i.c = 0 then some (a / i.c) else none)
 else if i.op = 7 then some (a * 2 ^ i.c.toNat)
 else if i.op = 8 then (if a % 2 ^ i.c.toNat = 0 then some (a / 2 ^ i.c.toNat) else none)
 else some a
abbrev Grid := List (List Int)
def stepR (i : Ins) (a b : List Int) : Option (List Int) :=
 if (List.range a.length).all (fun k => (opI i (a.getD k 0) (b.getD k 0)).isSome) then some ((List.range a.length).map fun k => (opI i (a.getD k 0) (b.getD k 0)).getD 0) else none
def after (code : List Ins) (g : Grid) : Nat → Option Grid
 | 0 => some g
 | n + 1 => (after code g n).bind fun h => (stepR (code.getD n default) (h.getD (code.getD n default).a.toNat []) (h.getD (code.getD n default).b.toNat [])).map fun r => h.set (code.getD n default).to.toNat r
theorem bd_zero {k : Nat} : Bd k 0 := by unfold Bd; exact Nat.pow_pos (by omega)
end Go.Proofs.YtbmaffijncapiaaGreatDoor
namespace Go.Proofs.YtbmaffijncapiaaGreatDoor
open Go.ChangeShapes Go.WideShapes Go.ChangeAt Go.RowKit
section
open Num

theorem rplus_c (a b : Option Addr) (ca cb : Nat) (A B : List Nat) (w : World) (ha : U32 w a ca A) (hb : U32 w b cb B) (hA : NumR.Limbs A) (hB : NumR.Limbs B) (h1 : A.length ≤ 2147483650) (h2 : B.length ≤ 2147483650) :
 Calls Tryz.prog 272 #[.slice a A.length ca, .slice b B.length cb] w fun e w' => (∃ v, e = .returned v ∧ ∃ O, Own32 w w' v O ∧ NumR.Limbs O ∧ O.length ≤ max A.length B.length + 1 ∧ NumR.val O = NumR.val A + NumR.val B) := by
 have hmx : max A.length B.length ≤ 2147483650 := Nat.max_le.2 ⟨h1, h2⟩
 have hmA : A.length ≤ max A.length B.length := Nat.le_max_left _ _
 have hmB' : B.length ≤ max A.length B.length := Nat.le_max_right _ _
 go_enter Tryz.func272, Tryz.ntmps272
 go_wp2
 go_loopw [5, 6, 7] (fun d cx x wr => ∃ (i c : Nat) (O : List Nat), i ≤ max A.length B.length + 1 ∧ x = .int .i64 i ∧ cx = .int .u32 c ∧ c ≤ 1 ∧ Own32 w wr d O ∧ NumR.Limbs O ∧ Hid (O.length = i) ∧ Hid (NumR.val O + c * NumR.BB ^ i = NumR.val (A.take i) + NumR.val (B.take i)) ∧ Hid (i = max A.length B.length + 1 → c = 0)) (fun _ _ x _ => max A.length B.length + 1 - (intOf x).toNat)
 case atStart => exact ⟨0, 0, [], by omega, rfl, rfl, by omega, Own32.nil (Below.refl _ _), (fun _ h => by cases h), hZ rfl, hZ (by simp [NumR.val]), hZ (fun h => rfl)⟩
 case round =>
  obtain ⟨i, c, O, hi, rfl, rfl, hc1, hO, hOL, hOl, hV, hZ0⟩ := hrel
  have HS := hZ (fun t ht => NumR.plus_step (O := O) (A := A) (B := B) (i := i) (c := c) (t := t) hOl.out ht hV.out)
  by_cases hia : i < A.length
  · have hiaz : (i : Int) < (A.length : Int) := by omega
    rcases ha.2.2.2 with hn | ⟨ba, oa, rfl, hca⟩
    · subst hn; simp at hia
    have c0 := bkeep hO.2 (hca i hia)
    have hx := NumR.limb_get hA i
    by_cases hib : i < B.length
    · have hibz : (i : Int) < (B.length : Int) := by omega
      rcases hb.2.2.2 with hn | ⟨bb, ob, rfl, hcb⟩
      · subst hn; simp at hib
      have d0 := bkeep hO.2 (hcb i hib)
      have hy := NumR.limb_get hB i
      have HZ := hZ (show i = max A.length B.length → c + A.getD i 0 + B.getD i 0 < NumR.BB from fun h => by omega)
      generalize A.getD i 0 = x at *
      generalize B.getD i 0 = y at *
      have e1 : IntKind.u32.wrap ((c : Int) + (x : Int)) = (c : Int) + (x : Int) := by rw [← Int.natCast_add]; exact w32 (by unfold NumR.BB at *; unfold BB; omega)
      have e2 : IntKind.u32.wrap ((c : Int) + (x : Int) + (y : Int)) = (c : Int) + (x : Int) + (y : Int) := by rw [← Int.natCast_add, ← Int.natCast_add]; exact w32 (by unfold NumR.BB at *; unfold BB; omega)
      have HS2 := hZ (HS.out (c + x + y) rfl)
      have hmB : (c + x + y) % NumR.BB < NumR.BB := Nat.mod_lt _ NumR.BB_pos
      have hdB : (c + x + y) / NumR.BB ≤ 1 := by unfold NumR.BB at *; omega
      obtain ⟨lo, hlo⟩ : ∃ lo, lo = (c + x + y) % NumR.BB := ⟨_, rfl⟩
      obtain ⟨up, hup⟩ : ∃ up, up = (c + x + y) / NumR.BB := ⟨_, rfl⟩
      have HZ2 := hZ (show i + 1 = max A.length B.length + 1 → up = 0 from fun h => by
       have := HZ.out
       rw [hup]; exact Nat.div_eq_of_lt (this (by omega)))
      rw [← hlo] at HS2 hmB
      rw [← hup] at HS2 hdB
      have g1 : ((c : Int) + (x : Int) + (y : Int)) % 65536 = (lo : Int) := by unfold NumR.BB at hlo; omega
      have g2 : ((c : Int) + (x : Int) + (y : Int)) / 65536 = (up : Int) := by unfold NumR.BB at hup; omega
      have g3 : ((c : Int) + (x : Int) + (y : Int)).tmod 65536 = (lo : Int) := by rw [Int.tmod_eq_emod_of_nonneg (by omega)]; exact g1
      have g4 : ((c : Int) + (x : Int) + (y : Int)).tdiv 65536 = (up : Int) := by rw [Int.tdiv_eq_ediv_of_nonneg (by omega)]; exact g2
      have hOm : O.length ≤ 2147483652 := by have := hOl.out; omega
      clear hlo hup HS HZ
      go_wp2_with (at_builtin; refine app32 (X := [lo]) rfl rfl hO rfl rfl ?_ ?_; (simp; omega); intro v' w1 hO1; clear hO)
      refine ⟨⟨i + 1, up, O ++ [lo], by omega, by go_num, rfl, hdB, hO1, NumR.limbs_snoc hOL hmB, hZ (by simpa using hOl.out), HS2, HZ2⟩, by simp [intOf] <;> omega⟩
    · have hibd : decide (i < B.length) = false := by simpa using hib
      have hy0 : B.getD i 0 = 0 := by simp [show B.length ≤ i by omega]
      rw [hy0] at HS
      have HZ := hZ (show i = max A.length B.length → c + A.getD i 0 < NumR.BB from fun h => by omega)
      generalize A.getD i 0 = x at *
      have e1 : IntKind.u32.wrap ((c : Int) + (x : Int)) = (c : Int) + (x : Int) := by rw [← Int.natCast_add]; exact w32 (by unfold NumR.BB at *; unfold BB; omega)
      have HS2 := hZ (HS.out (c + x) rfl)
      have hmB : (c + x) % NumR.BB < NumR.BB := Nat.mod_lt _ NumR.BB_pos
      have hdB : (c + x) / NumR.BB ≤ 1 := by unfold NumR.BB at *; omega
      obtain ⟨lo, hlo⟩ : ∃ lo, lo = (c + x) % NumR.BB := ⟨_, rfl⟩
      obtain ⟨up, hup⟩ : ∃ up, up = (c + x) / NumR.BB := ⟨_, rfl⟩
      have HZ2 := hZ (show i + 1 = max A.length B.length + 1 → up = 0 from fun h => by
       have := HZ.out
       rw [hup]; exact Nat.div_eq_of_lt (this (by omega)))
      rw [← hlo] at HS2 hmB
      rw [← hup] at HS2 hdB
      have g1 : ((c : Int) + (x : Int)) % 65536 = (lo : Int) := by unfold NumR.BB at hlo; omega
      have g2 : ((c : Int) + (x : Int)) / 65536 = (up : Int) := by unfold NumR.BB at hup; omega
      have g3 : ((c : Int) + (x : Int)).tmod 65536 = (lo : Int) := by rw [Int.tmod_eq_emod_of_nonneg (by omega)]; exact g1
      have g4 : ((c : Int) + (x : Int)).tdiv 65536 = (up : Int) := by rw [Int.tdiv_eq_ediv_of_nonneg (by omega)]; exact g2
      have hOm : O.length ≤ 2147483652 := by have := hOl.out; omega
      clear hlo hup HS HZ
      go_wp2_with (at_builtin; refine app32 (X := [lo]) rfl rfl hO rfl rfl ?_ ?_; (simp; omega); intro v' w1 hO1; clear hO)
      refine ⟨⟨i + 1, up, O ++ [lo], by omega, by go_num, rfl, hdB, hO1, NumR.limbs_snoc hOL hmB, hZ (by simpa using hOl.out), HS2, HZ2⟩, by simp [intOf] <;> omega⟩
  · have hiad : decide (i < A.length) = false := by simpa using hia
    have hx0 : A.getD i 0 = 0 := by simp [show A.length ≤ i by omega]
    rw [hx0] at HS
    by_cases hib : i < B.length
    · have hibz : (i : Int) < (B.length : Int) := by omega
      rcases hb.2.2.2 with hn | ⟨bb, ob, rfl, hcb⟩
      · subst hn; simp at hib
      have d0 := bkeep hO.2 (hcb i hib)
      have hy := NumR.limb_get hB i
      rw [Nat.add_zero] at HS
      have HZ := hZ (show i = max A.length B.length → c + B.getD i 0 < NumR.BB from fun h => by omega)
      generalize B.getD i 0 = y at *
      have e1 : IntKind.u32.wrap ((c : Int) + (y : Int)) = (c : Int) + (y : Int) := by rw [← Int.natCast_add]; exact w32 (by unfold NumR.BB at *; unfold BB; omega)
      have HS2 := hZ (HS.out (c + y) rfl)
      have hmB : (c + y) % NumR.BB < NumR.BB := Nat.mod_lt _ NumR.BB_pos
      have hdB : (c + y) / NumR.BB ≤ 1 := by unfold NumR.BB at *; omega
      obtain ⟨lo, hlo⟩ : ∃ lo, lo = (c + y) % NumR.BB := ⟨_, rfl⟩
      obtain ⟨up, hup⟩ : ∃ up, up = (c + y) / NumR.BB := ⟨_, rfl⟩
      have HZ2 := hZ (show i + 1 = max A.length B.length + 1 → up = 0 from fun h => by
       have := HZ.out
       rw [hup]; exact Nat.div_eq_of_lt (this (by omega)))
      rw [← hlo] at HS2 hmB
      rw [← hup] at HS2 hdB
      have g1 : ((c : Int) + (y : Int)) % 65536 = (lo : Int) := by unfold NumR.BB at hlo; omega
      have g2 : ((c : Int) + (y : Int)) / 65536 = (up : Int) := by unfold NumR.BB at hup; omega
      have g3 : ((c : Int) + (y : Int)).tmod 65536 = (lo : Int) := by rw [Int.tmod_eq_emod_of_nonneg (by omega)]; exact g1
      have g4 : ((c : Int) + (y : Int)).tdiv 65536 = (up : Int) := by rw [Int.tdiv_eq_ediv_of_nonneg (by omega)]; exact g2
      have hOm : O.length ≤ 2147483652 := by have := hOl.out; omega
      clear hlo hup HS HZ
      go_wp2_with (at_builtin; refine app32 (X := [lo]) rfl rfl hO rfl rfl ?_ ?_; (simp; omega); intro v' w1 hO1; clear hO)
      refine ⟨⟨i + 1, up, O ++ [lo], by omega, by go_num, rfl, hdB, hO1, NumR.limbs_snoc hOL hmB, hZ (by simpa using hOl.out), HS2, HZ2⟩, by simp [intOf] <;> omega⟩
    · have hibd : decide (i < B.length) = false := by simpa using hib
      have hy0 : B.getD i 0 = 0 := by simp [show B.length ≤ i by omega]
      rw [hy0, Nat.add_zero, Nat.add_zero] at HS
      by_cases hc0 : 0 < c
      · have hlast : i ≤ max A.length B.length := by
         apply Nat.le_of_not_lt; intro h
         have := hZ0.out (by omega)
         omega
        have HZ := hZ (show i = max A.length B.length → c < NumR.BB from fun h => by unfold NumR.BB; omega)
        have hcz : (0 : Int) < (c : Int) := by omega
        have HS2 := hZ (HS.out (c) rfl)
        have hmB : (c) % NumR.BB < NumR.BB := Nat.mod_lt _ NumR.BB_pos
        have hdB : (c) / NumR.BB ≤ 1 := by unfold NumR.BB at *; omega
        obtain ⟨lo, hlo⟩ : ∃ lo, lo = (c) % NumR.BB := ⟨_, rfl⟩
        obtain ⟨up, hup⟩ : ∃ up, up = (c) / NumR.BB := ⟨_, rfl⟩
        have HZ2 := hZ (show i + 1 = max A.length B.length + 1 → up = 0 from fun h => by
         have := HZ.out
         rw [hup]; exact Nat.div_eq_of_lt (this (by omega)))
        rw [← hlo] at HS2 hmB
        rw [← hup] at HS2 hdB
        have g1 : ((c : Int)) % 65536 = (lo : Int) := by unfold NumR.BB at hlo; omega
        have g2 : ((c : Int)) / 65536 = (up : Int) := by unfold NumR.BB at hup; omega
        have g3 : ((c : Int)).tmod 65536 = (lo : Int) := by rw [Int.tmod_eq_emod_of_nonneg (by omega)]; exact g1
        have g4 : ((c : Int)).tdiv 65536 = (up : Int) := by rw [Int.tdiv_eq_ediv_of_nonneg (by omega)]; exact g2
        have hOm : O.length ≤ 2147483652 := by have := hOl.out; omega
        clear hlo hup HS HZ
        go_wp2_with (at_builtin; refine app32 (X := [lo]) rfl rfl hO rfl rfl ?_ ?_; (simp; omega); intro v' w1 hO1; clear hO)
        refine ⟨⟨i + 1, up, O ++ [lo], by omega, by go_num, rfl, hdB, hO1, NumR.limbs_snoc hOL hmB, hZ (by simpa using hOl.out), HS2, HZ2⟩, by simp [intOf] <;> omega⟩
      · obtain rfl : c = 0 := by omega
        have HV := hZ (show NumR.val O = NumR.val A + NumR.val B by
         have := hV.out
         rw [List.take_of_length_le (by omega), List.take_of_length_le (by omega)] at this
         simpa using this)
        go_wp2
        go_ret
        exact ⟨_, rfl, O, hO, hOL, by rw [hOl.out]; exact hi, HV.out⟩


theorem rminus_c (a b : Option Addr) (ca cb : Nat) (A B : List Nat) (w : World) (ha : U32 w a ca A) (hb : U32 w b cb B) (hA : NumR.Limbs A) (hB : NumR.Limbs B) (h1 : A.length ≤ 2147483650) (h2 : B.length ≤ A.length) (hle : NumR.val B ≤ NumR.val A) :
 Calls Tryz.prog 207 #[.slice a A.length ca, .slice b B.length cb] w fun e w' => (∃ v, e = .returned v ∧ ∃ O, Own32 w w' v O ∧ NumR.Limbs O ∧ O.length = A.length ∧ NumR.val O + NumR.val B = NumR.val A) := by
 have HLE := hZ (And.intro hle h2)
 clear hle
 go_enter Tryz.func207, Tryz.ntmps207
 go_wp2
 go_loopw [5, 6, 7] (fun d cx x wr => ∃ (i c : Nat) (O : List Nat), i ≤ A.length ∧ x = .int .i64 i ∧ cx = .int .u32 c ∧ c ≤ 1 ∧ Own32 w wr d O ∧ NumR.Limbs O ∧ Hid (O.length = i) ∧ Hid (NumR.val O + NumR.val (B.take i) = NumR.val (A.take i) + c * NumR.BB ^ i)) (fun _ _ x _ => A.length - (intOf x).toNat)
 case atStart => exact ⟨0, 0, [], by omega, rfl, rfl, by omega, Own32.nil (Below.refl _ _), (fun _ h => by cases h), hZ rfl, hZ (by simp [NumR.val])⟩
 case round =>
  obtain ⟨i, c, O, hi, rfl, rfl, hc1, hO, hOL, hOl, hV⟩ := hrel
  have HS := hZ (fun r c' hr => NumR.minus_step (O := O) (A := A) (B := B) (i := i) (c := c) (r := r) (c' := c') hOl.out hr hV.out)
  by_cases hia : i < A.length
  · have hiaz : (i : Int) < (A.length : Int) := by omega
    rcases ha.2.2.2 with hn | ⟨ba, oa, rfl, hca⟩
    · subst hn; simp at hia
    have c0 := bkeep hO.2 (hca i hia)
    have hx := NumR.limb_get hA i
    by_cases hib : i < B.length
    · have hibz : (i : Int) < (B.length : Int) := by omega
      rcases hb.2.2.2 with hn | ⟨bb, ob, rfl, hcb⟩
      · subst hn; simp at hib
      have d0 := bkeep hO.2 (hcb i hib)
      have hy := NumR.limb_get hB i
      generalize A.getD i 0 = x at *
      generalize B.getD i 0 = y at *
      have e1 : IntKind.u32.wrap ((c : Int) + (y : Int)) = (c : Int) + (y : Int) := by rw [← Int.natCast_add]; exact w32 (by unfold NumR.BB at *; unfold BB; omega)
      have hy' : y < 65536 := hy
      have hx' : x < 65536 := hx
      by_cases hlow : x < c + y
      · have HS2 := hZ (HS.out (x + NumR.BB - (c + y)) 1 (by unfold NumR.BB at *; omega))
        have e3 : IntKind.u32.wrap ((x : Int) + 65536) = (x : Int) + 65536 := by rw [show (x : Int) + 65536 = ((x + 65536 : Nat) : Int) by omega]; exact w32 (by unfold NumR.BB at *; unfold BB; omega)
        have e4 : IntKind.u32.wrap ((x : Int) + 65536 - ((c : Int) + (y : Int))) = ((x + NumR.BB - (c + y) : Nat) : Int) := by rw [show (x : Int) + 65536 - ((c : Int) + (y : Int)) = ((x + NumR.BB - (c + y) : Nat) : Int) by unfold NumR.BB; omega]; exact w32 (by unfold NumR.BB at *; unfold BB; omega)
        have e5 : (x : Int) + 65536 - ((c : Int) + (y : Int)) = ((x + NumR.BB - (c + y) : Nat) : Int) := by unfold NumR.BB; omega
        have hlz : (x : Int) < (c : Int) + (y : Int) := by omega
        have hrB : x + NumR.BB - (c + y) < NumR.BB := by unfold NumR.BB at *; omega
        have hOm : O.length ≤ 2147483652 := by have := hOl.out; omega
        generalize x + NumR.BB - (c + y) = r at *
        have hr' : r < 65536 := hrB
        have e7 : (r : Int) % 4294967296 = (r : Int) := by omega
        clear HS
        go_wp2_with (at_builtin; refine app32 (X := [r]) rfl rfl hO rfl rfl ?_ ?_; (simp; omega); intro v' w1 hO1; clear hO)
        refine ⟨⟨i + 1, 1, O ++ [r], by omega, by go_num, rfl, by omega, hO1, NumR.limbs_snoc hOL hrB, hZ (by simpa using hOl.out), HS2⟩, by simp [intOf] <;> omega⟩
      · have HS2 := hZ (HS.out (x - (c + y)) 0 (by omega))
        have e4 : IntKind.u32.wrap ((x : Int) - ((c : Int) + (y : Int))) = ((x - (c + y) : Nat) : Int) := by rw [show (x : Int) - ((c : Int) + (y : Int)) = ((x - (c + y) : Nat) : Int) by omega]; exact w32 (by unfold NumR.BB at *; unfold BB; omega)
        have e5 : (x : Int) - ((c : Int) + (y : Int)) = ((x - (c + y) : Nat) : Int) := by omega
        have hlz : ¬ (x : Int) < (c : Int) + (y : Int) := by omega
        have hrB : x - (c + y) < NumR.BB := by unfold NumR.BB at *; omega
        have hOm : O.length ≤ 2147483652 := by have := hOl.out; omega
        generalize x - (c + y) = r at *
        have hr' : r < 65536 := hrB
        have e7 : (r : Int) % 4294967296 = (r : Int) := by omega
        clear HS
        go_wp2_with (at_builtin; refine app32 (X := [r]) rfl rfl hO rfl rfl ?_ ?_; (simp; omega); intro v' w1 hO1; clear hO)
        refine ⟨⟨i + 1, 0, O ++ [r], by omega, by go_num, rfl, by omega, hO1, NumR.limbs_snoc hOL hrB, hZ (by simpa using hOl.out), HS2⟩, by simp [intOf] <;> omega⟩
    · have hibd : decide (i < B.length) = false := by simpa using hib
      have hy0 : B.getD i 0 = 0 := by simp [show B.length ≤ i by omega]
      rw [hy0, Nat.add_zero] at HS
      generalize A.getD i 0 = x at *
      have hx' : x < 65536 := hx
      by_cases hlow : x < c
      · have HS2 := hZ (HS.out (x + NumR.BB - (c)) 1 (by unfold NumR.BB at *; omega))
        have e3 : IntKind.u32.wrap ((x : Int) + 65536) = (x : Int) + 65536 := by rw [show (x : Int) + 65536 = ((x + 65536 : Nat) : Int) by omega]; exact w32 (by unfold NumR.BB at *; unfold BB; omega)
        have e4 : IntKind.u32.wrap ((x : Int) + 65536 - ((c : Int))) = ((x + NumR.BB - (c) : Nat) : Int) := by rw [show (x : Int) + 65536 - ((c : Int)) = ((x + NumR.BB - (c) : Nat) : Int) by unfold NumR.BB; omega]; exact w32 (by unfold NumR.BB at *; unfold BB; omega)
        have e5 : (x : Int) + 65536 - ((c : Int)) = ((x + NumR.BB - (c) : Nat) : Int) := by unfold NumR.BB; omega
        have hlz : (x : Int) < (c : Int) := by omega
        have hrB : x + NumR.BB - (c) < NumR.BB := by unfold NumR.BB at *; omega
        have hOm : O.length ≤ 2147483652 := by have := hOl.out; omega
        generalize x + NumR.BB - (c) = r at *
        have hr' : r < 65536 := hrB
        have e7 : (r : Int) % 4294967296 = (r : Int) := by omega
        clear HS
        go_wp2_with (at_builtin; refine app32 (X := [r]) rfl rfl hO rfl rfl ?_ ?_; (simp; omega); intro v' w1 hO1; clear hO)
        refine ⟨⟨i + 1, 1, O ++ [r], by omega, by go_num, rfl, by omega, hO1, NumR.limbs_snoc hOL hrB, hZ (by simpa using hOl.out), HS2⟩, by simp [intOf] <;> omega⟩
      · have HS2 := hZ (HS.out (x - (c)) 0 (by omega))
        have e4 : IntKind.u32.wrap ((x : Int) - ((c : Int))) = ((x - (c) : Nat) : Int) := by rw [show (x : Int) - ((c : Int)) = ((x - (c) : Nat) : Int) by omega]; exact w32 (by unfold NumR.BB at *; unfold BB; omega)
        have e5 : (x : Int) - ((c : Int)) = ((x - (c) : Nat) : Int) := by omega
        have hlz : ¬ (x : Int) < (c : Int) := by omega
        have hrB : x - (c) < NumR.BB := by unfold NumR.BB at *; omega
        have hOm : O.length ≤ 2147483652 := by have := hOl.out; omega
        generalize x - (c) = r at *
        have hr' : r < 65536 := hrB
        have e7 : (r : Int) % 4294967296 = (r : Int) := by omega
        clear HS
        go_wp2_with (at_builtin; refine app32 (X := [r]) rfl rfl hO rfl rfl ?_ ?_; (simp; omega); intro v' w1 hO1; clear hO)
        refine ⟨⟨i + 1, 0, O ++ [r], by omega, by go_num, rfl, by omega, hO1, NumR.limbs_snoc hOL hrB, hZ (by simpa using hOl.out), HS2⟩, by simp [intOf] <;> omega⟩
  · obtain rfl : i = A.length := by omega
    have HV := hZ (NumR.minus_end hA HLE.out.1 HLE.out.2 hV.out (by have := NumR.val_lt hOL; rwa [hOl.out] at this))
    go_wp2
    go_ret
    exact ⟨_, rfl, O, hO, hOL, hOl.out, HV.out⟩
end
section
open Num


theorem rneg_c (vx : Value) (x : Int) (w : World) (hx : IsRef w vx x) :
 Calls Tryz.prog 132 #[vx] w fun e w' => (∃ v, e = .returned v ∧ IsRef w' v (-x)) ∧ Below w.heap.size w w' := by
 obtain ⟨n1, a1, c1, l1, rfl, u1, q1, g1, s1, rfl⟩ := hx
 rw [← sg_not]
 clear s1 g1
 have mc := fun w h => rnorm_c (!n1) a1 c1 l1 w h q1
 unfold iv
 have hB0 := Below.refl w.heap.size w
 go_enter Tryz.func132, Tryz.ntmps132
 go_wp2_with fail
 refine (mc _ (u1.keep bZ)).mono ?_
 rintro e w1 ⟨⟨v, rfl, hi⟩, hb1⟩
 have x0 : w1.cell? ⟨w.heap.size, 0, none⟩ = some (.bool n1) := bkc hb1
 have zx0 := cell_lt x0
 have x1 : w1.cell? ⟨w.heap.size, 1, none⟩ = some (.slice a1 l1.length c1) := bkc hb1
 have r0 : w1.cell? ⟨w.heap.size + 1, 0, none⟩ = some (.bool false) := bkc hb1
 have zr0 := cell_lt r0
 have r0f : w1.frozen? ⟨w.heap.size + 1, 0, none⟩ = false := bkcf (v := .bool false) hb1
 have r1 : w1.cell? ⟨w.heap.size + 1, 1, none⟩ = some (.slice none 0 0) := bkc hb1
 have r1f : w1.frozen? ⟨w.heap.size + 1, 1, none⟩ = false := bkcf (v := .slice none 0 0) hb1
 have hB : Below w.heap.size w w1 := bthen bZ hb1
 have hz := hB.size
 have HI2 := hZ (hi.put2 r0 r1)
 obtain ⟨n4, a4, c4, l4, rfl, _, _, _, _⟩ := hi
 unfold iv at *
 go_wp2
 refine bodyPost_ret (v := .agg #[.bool n4, .slice a4 l4.length c4]) (by simp [results, Tryz.results132, go_sem, *]) rfl ⟨⟨_, rfl, HI2.out _ _⟩, ?_⟩
 repeat exact bZ
theorem rabs_c (vx : Value) (x : Int) (w : World) (hx : IsRef w vx x) :
 Calls Tryz.prog 201 #[vx] w fun e w' => (∃ v, e = .returned v ∧ IsRef w' v (x.natAbs : Int)) ∧ Below w.heap.size w w' := by
 obtain ⟨n1, a1, c1, l1, rfl, u1, q1, g1, s1, rfl⟩ := hx
 rw [sg_abs, show ((NumR.val l1 : Nat) : Int) = sg false (NumR.val l1) from rfl]
 clear s1 g1
 have mc := fun w h => rnorm_c (false) a1 c1 l1 w h q1
 unfold iv
 have hB0 := Below.refl w.heap.size w
 go_enter Tryz.func201, Tryz.ntmps201
 go_wp2_with fail
 refine (mc _ (u1.keep bZ)).mono ?_
 rintro e w1 ⟨⟨v, rfl, hi⟩, hb1⟩
 have x0 : w1.cell? ⟨w.heap.size, 0, none⟩ = some (.bool n1) := bkc hb1
 have zx0 := cell_lt x0
 have x1 : w1.cell? ⟨w.heap.size, 1, none⟩ = some (.slice a1 l1.length c1) := bkc hb1
 have r0 : w1.cell? ⟨w.heap.size + 1, 0, none⟩ = some (.bool false) := bkc hb1
 have zr0 := cell_lt r0
 have r0f : w1.frozen? ⟨w.heap.size + 1, 0, none⟩ = false := bkcf (v := .bool false) hb1
 have r1 : w1.cell? ⟨w.heap.size + 1, 1, none⟩ = some (.slice none 0 0) := bkc hb1
 have r1f : w1.frozen? ⟨w.heap.size + 1, 1, none⟩ = false := bkcf (v := .slice none 0 0) hb1
 have hB : Below w.heap.size w w1 := bthen bZ hb1
 have hz := hB.size
 have HI2 := hZ (hi.put2 r0 r1)
 obtain ⟨n4, a4, c4, l4, rfl, _, _, _, _⟩ := hi
 unfold iv at *
 go_wp2
 refine bodyPost_ret (v := .agg #[.bool n4, .slice a4 l4.length c4]) (by simp [results, Tryz.results201, go_sem, *]) rfl ⟨⟨_, rfl, HI2.out _ _⟩, ?_⟩
 repeat exact bZ

def NewR (w' : World) (u : Value) (v : Nat) : Prop := ∃ a c L, u = .slice a (List.length L) c ∧ U32 w' a c L ∧ NumR.Limbs L ∧ NumR.val L = v
theorem rplusU (a b : Option Addr) (ca cb : Nat) (A B : List Nat) (w : World) (ha : U32 w a ca A) (hb : U32 w b cb B) (hA : NumR.Limbs A) (hB : NumR.Limbs B) (h1 : A.length ≤ 2147483650) (h2 : B.length ≤ 2147483650) :
 Calls Tryz.prog 272 #[.slice a A.length ca, .slice b B.length cb] w fun e w' => (∃ u, e = .returned u ∧ NewR w' u (NumR.val A + NumR.val B)) ∧ Below w.heap.size w w' :=
 (rplus_c a b ca cb A B w ha hb hA hB h1 h2).mono fun e w' ⟨v, he, O, hO, hL, hl, hv⟩ => by
  obtain ⟨a', c', e2, hu⟩ := hO.u32 (limbs_of_r hL)
  exact ⟨⟨v, he, a', c', O, e2, hu, hL, hv⟩, hO.2⟩
theorem rminusU (a b : Option Addr) (ca cb : Nat) (A B : List Nat) (w : World) (ha : U32 w a ca A) (hb : U32 w b cb B) (hA : NumR.Limbs A) (hB : NumR.Limbs B) (nb : Nrm B) (h1 : A.length ≤ 2147483650) (hle : NumR.val B ≤ NumR.val A) :
 Calls Tryz.prog 207 #[.slice a A.length ca, .slice b B.length cb] w fun e w' => (∃ u, e = .returned u ∧ NewR w' u (NumR.val A - NumR.val B)) ∧ Below w.heap.size w w' := by
 have h2 : B.length ≤ A.length := by
  apply Nat.le_of_not_lt; intro h
  have := NumR.val_lt_of_len hA nb h
  omega
 refine (rminus_c a b ca cb A B w ha hb hA hB h1 h2 hle).mono fun e w' ⟨v, he, O, hO, hL, hl, hv⟩ => ?_
 obtain ⟨a', c', e2, hu⟩ := hO.u32 (limbs_of_r hL)
 exact ⟨⟨v, he, a', c', O, e2, hu, hL, by omega⟩, hO.2⟩


theorem raddV_c (n1 n2 : Bool) (a1 a2 : Option Addr) (c1 c2 : Nat) (l1 l2 : List Nat) (w : World) (u1 : U32 w a1 c1 l1) (u2 : U32 w a2 c2 l2) (q1 : NumR.Limbs l1) (q2 : NumR.Limbs l2) (g1 : Nrm l1) (g2 : Nrm l2) (k1 : l1.length ≤ 2147483650) (k2 : l2.length ≤ 2147483650) :
 Calls Tryz.prog 257 #[.agg #[.bool n1, .slice a1 l1.length c1], .agg #[.bool n2, .slice a2 l2.length c2]] w fun e w' => (∃ v, e = .returned v ∧ IsRef w' v (sg n1 (NumR.val l1) + sg n2 (NumR.val l2))) ∧ Below w.heap.size w w' := by
 have hB := Below.refl w.heap.size w
 by_cases hn : n1 = n2
 · have he : ∀ w', (binOp .eql 4 (.bool n1) (.bool n2)).run Tryz.prog w' = .ok (.bool true) w' := fun w' => by subst hn; cases n1 <;> rfl
   have HS := hZ (show sg n1 (NumR.val l1 + NumR.val l2) = sg n1 (NumR.val l1) + sg n2 (NumR.val l2) by subst hn; exact sg_add _ _ _)
   have pc := fun w h1 h2 => rplusU a1 a2 c1 c2 l1 l2 w h1 h2 q1 q2 k1 k2
   clear hn
   go_enter Tryz.func257, Tryz.ntmps257
   go_wp2
   refine wp_name fun w0 hW0 => ?_
   have x0 : w0.cell? ⟨w.heap.size, 0, none⟩ = some (.bool n1) := bkn hW0
   have zx0 := cell_lt x0
   have x1 : w0.cell? ⟨w.heap.size, 1, none⟩ = some (.slice a1 l1.length c1) := bkn hW0
   have y0 : w0.cell? ⟨w.heap.size + 1, 0, none⟩ = some (.bool n2) := bkn hW0
   have zy0 := cell_lt y0
   have y1 : w0.cell? ⟨w.heap.size + 1, 1, none⟩ = some (.slice a2 l2.length c2) := bkn hW0
   have r0f : w0.frozen? ⟨w.heap.size + 2, 0, none⟩ = false := by rw [hW0]; simp [go_sem, *]
   have r0 : w0.cell? ⟨w.heap.size + 2, 0, none⟩ = some (.bool false) := bkn hW0
   have zr0 := cell_lt r0
   have r1f : w0.frozen? ⟨w.heap.size + 2, 1, none⟩ = false := by rw [hW0]; simp [go_sem, *]
   have r1 : w0.cell? ⟨w.heap.size + 2, 1, none⟩ = some (.slice none 0 0) := bkn hW0
   have hB : Below w.heap.size w w0 := by rw [hW0]; repeat (first|exact bzR _ _|exact hB|refine bzD ?_|refine bzN ?_|refine bzS ?_|refine bzA ?_)
   have hz := hB.size
   clear hW0
   have hBc : Below w0.heap.size w0 w0.drew := (Below.refl _ _).drew
   have HB0 := hZ hB
   go_region_held3 (fun w' => w'.cell? ⟨w.heap.size, 0, none⟩ = some (.bool n1) ∧ w'.cell? ⟨w.heap.size, 1, none⟩ = some (.slice a1 l1.length c1) ∧ w'.cell? ⟨w.heap.size + 1, 0, none⟩ = some (.bool n2) ∧ w'.cell? ⟨w.heap.size + 1, 1, none⟩ = some (.slice a2 l2.length c2))
    (first | exact ⟨x0, x1, y0, y1⟩ | exact ⟨bkeep hBc x0, bkeep hBc x1, bkeep hBc y0, bkeep hBc y1⟩ | exact ⟨cell_far (cell_far (bkeep hBc x0) (addr_ne (by omega)) _) (addr_ne (by omega)) _, cell_far (cell_far (bkeep hBc x1) (addr_ne (by omega)) _) (addr_ne (by omega)) _, cell_far (cell_far (bkeep hBc y0) (addr_ne (by omega)) _) (addr_ne (by omega)) _, cell_far (cell_far (bkeep hBc y1) (addr_ne (by omega)) _) (addr_ne (by omega)) _⟩)
    (first
     | (go_at_call 272; refine (pc _ (u1.keep (bthen HB0.out hBc)) (u2.keep (bthen HB0.out hBc))).mono ?_; rintro e w3 ⟨⟨u3, rfl, a3, k3, L, rfl, hu, hr, hv⟩, hb3⟩; (replace hBc := bthen hBc hb3))
     | (go_at_call 117; refine (rnorm_c n1 _ _ _ _ hu hr).mono ?_; rintro e w4 ⟨⟨v, rfl, hi⟩, hb4⟩; (replace hBc := bthen hBc hb4); (replace r0f := bkeepf hBc r0 r0f); (replace r1f := bkeepf hBc r1 r1f); (replace r0 := bkeep hBc r0); (replace r1 := bkeep hBc r1); (rw [hv, HS.out] at hi); (have HI2 := hZ (hi.put2 r0 r1)); (obtain ⟨n4, a4, c4, l4, rfl, _, _, _, _⟩ := hi); unfold iv at *))
   have hB9 := bthen HB0.out hBc
   clear x0 x1 y0 y1
   go_wp2
   refine bodyPost_ret (v := .agg #[.bool n4, .slice a4 l4.length c4]) (by simp [results, Tryz.results257, go_sem, *]) rfl ⟨⟨_, rfl, HI2.out _ _⟩, ?_⟩
   repeat exact bZ
 · have he : ∀ w', (binOp .eql 4 (.bool n1) (.bool n2)).run Tryz.prog w' = .ok (.bool false) w' := fun w' => by cases n1 <;> cases n2 <;> first | exact absurd rfl hn | rfl
   have hnn : n2 = !n1 := by cases n1 <;> cases n2 <;> first | exact absurd rfl hn | rfl
   have zc := fun w h1 h2 => rsize_c a1 a2 c1 c2 l1 l2 w h1 h2 q1 q2 g1 g2
   by_cases hlt : NumR.val l1 < NumR.val l2
   · have hz : ¬ (0 : Int) ≤ cmpN (NumR.val l1) (NumR.val l2) := by have := (cmpN_neg (x := NumR.val l1) (y := NumR.val l2)); rw [decide_eq_true hlt] at this; have := of_decide_eq_true this; omega
     have HS := hZ (show sg n2 (NumR.val l2 - NumR.val l1) = sg n1 (NumR.val l1) + sg n2 (NumR.val l2) by rw [hnn]; exact sg_sub_lt _ _ _ (Nat.le_of_lt hlt))
     have pc := fun w h1 h2 => rminusU a2 a1 c2 c1 l2 l1 w h1 h2 q2 q1 g1 k2 (Nat.le_of_lt hlt)
     generalize cmpN (NumR.val l1) (NumR.val l2) = z at *
     clear hn hnn hlt
     go_enter Tryz.func257, Tryz.ntmps257
     go_wp2_with fail
     refine (zc _ (u1.keep bZ) (u2.keep bZ)).mono ?_
     rintro e w1 ⟨rfl, hb1⟩
     have x0 : w1.cell? ⟨w.heap.size, 0, none⟩ = some (.bool n1) := bkc hb1
     have zx0 := cell_lt x0
     have x1 : w1.cell? ⟨w.heap.size, 1, none⟩ = some (.slice a1 l1.length c1) := bkc hb1
     have y0 : w1.cell? ⟨w.heap.size + 1, 0, none⟩ = some (.bool n2) := bkc hb1
     have zy0 := cell_lt y0
     have y1 : w1.cell? ⟨w.heap.size + 1, 1, none⟩ = some (.slice a2 l2.length c2) := bkc hb1
     have r0 : w1.cell? ⟨w.heap.size + 2, 0, none⟩ = some (.bool false) := bkc hb1
     have zr0 := cell_lt r0
     have r0f : w1.frozen? ⟨w.heap.size + 2, 0, none⟩ = false := bkcf (v := .bool false) hb1
     have r1 : w1.cell? ⟨w.heap.size + 2, 1, none⟩ = some (.slice none 0 0) := bkc hb1
     have r1f : w1.frozen? ⟨w.heap.size + 2, 1, none⟩ = false := bkcf (v := .slice none 0 0) hb1
     have hB : Below w.heap.size w w1 := bthen bZ hb1
     have hz := hB.size
     clear zc
     go_wp2
     have hBc : Below w1.heap.size w1 w1.drew := (Below.refl _ _).drew
     have HB0 := hZ hB
     go_region_held3 (fun w' => w'.cell? ⟨w.heap.size, 0, none⟩ = some (.bool n1) ∧ w'.cell? ⟨w.heap.size, 1, none⟩ = some (.slice a1 l1.length c1) ∧ w'.cell? ⟨w.heap.size + 1, 0, none⟩ = some (.bool n2) ∧ w'.cell? ⟨w.heap.size + 1, 1, none⟩ = some (.slice a2 l2.length c2))
      (first | exact ⟨x0, x1, y0, y1⟩ | exact ⟨bkeep hBc x0, bkeep hBc x1, bkeep hBc y0, bkeep hBc y1⟩ | exact ⟨cell_far (cell_far (bkeep hBc x0) (addr_ne (by omega)) _) (addr_ne (by omega)) _, cell_far (cell_far (bkeep hBc x1) (addr_ne (by omega)) _) (addr_ne (by omega)) _, cell_far (cell_far (bkeep hBc y0) (addr_ne (by omega)) _) (addr_ne (by omega)) _, cell_far (cell_far (bkeep hBc y1) (addr_ne (by omega)) _) (addr_ne (by omega)) _⟩)
      (first
       | (go_at_call 207; refine (pc _ (u2.keep (bthen HB0.out hBc)) (u1.keep (bthen HB0.out hBc))).mono ?_; rintro e w3 ⟨⟨u3, rfl, a3, k3, L, rfl, hu, hr, hv⟩, hb3⟩; (replace hBc := bthen hBc hb3))
       | (go_at_call 117; refine (rnorm_c n2 _ _ _ _ hu hr).mono ?_; rintro e w4 ⟨⟨v, rfl, hi⟩, hb4⟩; (replace hBc := bthen hBc hb4); (replace r0f := bkeepf hBc r0 r0f); (replace r1f := bkeepf hBc r1 r1f); (replace r0 := bkeep hBc r0); (replace r1 := bkeep hBc r1); (rw [hv, HS.out] at hi); (have HI2 := hZ (hi.put2 r0 r1)); (obtain ⟨n4, a4, c4, l4, rfl, _, _, _, _⟩ := hi); unfold iv at *))
     have hB9 := bthen HB0.out hBc
     clear x0 x1 y0 y1
     go_wp2
     refine bodyPost_ret (v := .agg #[.bool n4, .slice a4 l4.length c4]) (by simp [results, Tryz.results257, go_sem, *]) rfl ⟨⟨_, rfl, HI2.out _ _⟩, ?_⟩
     repeat exact bZ
   · have hz : (0 : Int) ≤ cmpN (NumR.val l1) (NumR.val l2) := by have := (cmpN_neg (x := NumR.val l1) (y := NumR.val l2)); rw [decide_eq_false hlt] at this; have := of_decide_eq_false this; omega
     have HS := hZ (show sg n1 (NumR.val l1 - NumR.val l2) = sg n1 (NumR.val l1) + sg n2 (NumR.val l2) by rw [hnn]; exact sg_sub_ge _ _ _ (by omega))
     have pc := fun w h1 h2 => rminusU a1 a2 c1 c2 l1 l2 w h1 h2 q1 q2 g2 k1 (by omega)
     generalize cmpN (NumR.val l1) (NumR.val l2) = z at *
     clear hn hnn hlt
     go_enter Tryz.func257, Tryz.ntmps257
     go_wp2_with fail
     refine (zc _ (u1.keep bZ) (u2.keep bZ)).mono ?_
     rintro e w1 ⟨rfl, hb1⟩
     have x0 : w1.cell? ⟨w.heap.size, 0, none⟩ = some (.bool n1) := bkc hb1
     have zx0 := cell_lt x0
     have x1 : w1.cell? ⟨w.heap.size, 1, none⟩ = some (.slice a1 l1.length c1) := bkc hb1
     have y0 : w1.cell? ⟨w.heap.size + 1, 0, none⟩ = some (.bool n2) := bkc hb1
     have zy0 := cell_lt y0
     have y1 : w1.cell? ⟨w.heap.size + 1, 1, none⟩ = some (.slice a2 l2.length c2) := bkc hb1
     have r0 : w1.cell? ⟨w.heap.size + 2, 0, none⟩ = some (.bool false) := bkc hb1
     have zr0 := cell_lt r0
     have r0f : w1.frozen? ⟨w.heap.size + 2, 0, none⟩ = false := bkcf (v := .bool false) hb1
     have r1 : w1.cell? ⟨w.heap.size + 2, 1, none⟩ = some (.slice none 0 0) := bkc hb1
     have r1f : w1.frozen? ⟨w.heap.size + 2, 1, none⟩ = false := bkcf (v := .slice none 0 0) hb1
     have hB : Below w.heap.size w w1 := bthen bZ hb1
     have hz := hB.size
     clear zc
     go_wp2
     have hBc : Below w1.heap.size w1 w1.drew := (Below.refl _ _).drew
     have HB0 := hZ hB
     go_region_held3 (fun w' => w'.cell? ⟨w.heap.size, 0, none⟩ = some (.bool n1) ∧ w'.cell? ⟨w.heap.size, 1, none⟩ = some (.slice a1 l1.length c1) ∧ w'.cell? ⟨w.heap.size + 1, 0, none⟩ = some (.bool n2) ∧ w'.cell? ⟨w.heap.size + 1, 1, none⟩ = some (.slice a2 l2.length c2))
      (first | exact ⟨x0, x1, y0, y1⟩ | exact ⟨bkeep hBc x0, bkeep hBc x1, bkeep hBc y0, bkeep hBc y1⟩ | exact ⟨cell_far (cell_far (bkeep hBc x0) (addr_ne (by omega)) _) (addr_ne (by omega)) _, cell_far (cell_far (bkeep hBc x1) (addr_ne (by omega)) _) (addr_ne (by omega)) _, cell_far (cell_far (bkeep hBc y0) (addr_ne (by omega)) _) (addr_ne (by omega)) _, cell_far (cell_far (bkeep hBc y1) (addr_ne (by omega)) _) (addr_ne (by omega)) _⟩)
      (first
       | (go_at_call 207; refine (pc _ (u1.keep (bthen HB0.out hBc)) (u2.keep (bthen HB0.out hBc))).mono ?_; rintro e w3 ⟨⟨u3, rfl, a3, k3, L, rfl, hu, hr, hv⟩, hb3⟩; (replace hBc := bthen hBc hb3))
       | (go_at_call 117; refine (rnorm_c n1 _ _ _ _ hu hr).mono ?_; rintro e w4 ⟨⟨v, rfl, hi⟩, hb4⟩; (replace hBc := bthen hBc hb4); (replace r0f := bkeepf hBc r0 r0f); (replace r1f := bkeepf hBc r1 r1f); (replace r0 := bkeep hBc r0); (replace r1 := bkeep hBc r1); (rw [hv, HS.out] at hi); (have HI2 := hZ (hi.put2 r0 r1)); (obtain ⟨n4, a4, c4, l4, rfl, _, _, _, _⟩ := hi); unfold iv at *))
     have hB9 := bthen HB0.out hBc
     clear x0 x1 y0 y1
     go_wp2
     refine bodyPost_ret (v := .agg #[.bool n4, .slice a4 l4.length c4]) (by simp [results, Tryz.results257, go_sem, *]) rfl ⟨⟨_, rfl, HI2.out _ _⟩, ?_⟩
     repeat exact bZ
theorem radd_c (vx vy : Value) (x y : Int) (k : Nat) (w : World) (hx : IsRef w vx x) (hy : IsRef w vy y) (bx : Bd k x) (by' : Bd k y) (hk : k ≤ 17179869184) :
 Calls Tryz.prog 257 #[vx, vy] w fun e w' => (∃ v, e = .returned v ∧ IsRef w' v (x + y)) ∧ Below w.heap.size w w' := by
 obtain ⟨n1, a1, c1, l1, rfl, u1, q1, g1, s1, rfl⟩ := hx
 obtain ⟨n2, a2, c2, l2, rfl, u2, q2, g2, s2, rfl⟩ := hy
 exact raddV_c n1 n2 a1 a2 c1 c2 l1 l2 w u1 u2 q1 q2 g1 g2 (Nat.le_trans (rbd_len g1 (rsg_bd bx) hk) (by omega)) (Nat.le_trans (rbd_len g2 (rsg_bd by') hk) (by omega))
end
section
open Num

theorem rbits_c (a : Option Addr) (ca : Nat) (l : List Nat) (w : World) (ha : U32 w a ca l) (hl : NumR.Limbs l) (hn : Nrm l) (h1 : l.length ≤ 2147483650) :
 Calls Tryz.prog 204 #[.slice a l.length ca] w fun e w' => e = .returned (.int .i64 (bitN (NumR.val l))) ∧ w = w' := by
 cases hk : l.length with
 | zero =>
  obtain rfl : l = [] := List.length_eq_zero_iff.1 hk
  go_enter Tryz.func204, Tryz.ntmps204
  go_wp2
  go_ret
  exact ⟨rfl, rfl⟩
 | succ k =>
  rcases ha.2.2.2 with h0 | ⟨ba, oa, rfl, hca⟩
  · subst h0; simp at hk
  have c0 := hca k (by omega)
  have hv := NumR.bitN_nrm hl hn hk
  have hx := NumR.limb_get hl k
  have HV := hZ hv
  clear hv
  generalize l.getD k 0 = x at *
  have hkz : (((k + 1 : Nat) : Int) == 0) = false := by rw [beq_eq_false_iff_ne]; omega
  have hx' : x < 65536 := hx
  have hbx : bitN x ≤ 16 := NumR.bitN_le (n := 16) hx
  go_enter Tryz.func204, Tryz.ntmps204
  go_wp2
  go_loop [3, 4] (fun n t => ∃ j y : Nat, n = .int .i64 (16 * (k : Int) + (j : Int)) ∧ t = .int .u32 y ∧ y ≤ x ∧ Hid (j + bitN y = bitN x)) (fun _ t => (intOf t).toNat)
  case atStart => exact ⟨0, x, by simp, rfl, Nat.le_refl _, hZ (by omega)⟩
  case round =>
   obtain ⟨j, y, rfl, rfl, hy, hj⟩ := hrel
   have hj16 : j ≤ 16 := by have := hj.out; omega
   by_cases hy0 : 0 < y
   · have HH := hZ (show j + 1 + bitN (y / 2) = bitN x by have := bitN_half (Nat.ne_of_gt hy0); have := hj.out; omega)
     obtain ⟨z, hz⟩ : ∃ z, z = y / 2 := ⟨_, rfl⟩
     rw [← hz] at HH
     have e1 : (y : Int) / 2 = (z : Int) := by omega
     have e2 : (y : Int).tdiv 2 = (z : Int) := by rw [Int.tdiv_eq_ediv_of_nonneg (by omega)]; exact e1
     have hzy : z < y := by omega
     clear hz
     go_wp2
     exact ⟨⟨j + 1, z, by first | rfl | (congr 1; omega) | (congr 1), rfl, by omega, HH⟩, by simp [intOf] <;> omega⟩
   · obtain rfl : y = 0 := by omega
     have HE := hZ (show 16 * (k : Int) + (j : Int) = (bitN (NumR.val l) : Int) by have := hj.out; have := HV.out; rw [show bitN 0 = 0 from rfl] at *; omega)
     go_wp2
     go_ret
     exact ⟨ret_int HE.out, rfl⟩

theorem rbit_c (a : Option Addr) (ca : Nat) (l : List Nat) (k : Nat) (w : World) (ha : U32 w a ca l) (hl : NumR.Limbs l) (hk : k / 16 < l.length) (h1 : l.length ≤ 2147483650) :
 Calls Tryz.prog 205 #[.slice a l.length ca, .int .i64 (k : Int)] w fun e w' => e = .returned (.int .u32 ((NumR.val l / 2 ^ k % 2 : Nat) : Int)) ∧ w = w' := by
 rcases ha.2.2.2 with h0 | ⟨ba, oa, rfl, hca⟩
 · subst h0; simp at hk
 have c0 := hca (k / 16) hk
 have hx := NumR.limb_get hl (k / 16)
 have HV := hZ (NumR.bit_val hl k)
 have hkb : k ≤ 34359738416 := by omega
 generalize l.getD (k / 16) 0 = x at *
 obtain ⟨q, hq⟩ : ∃ q, q = k / 16 := ⟨_, rfl⟩
 obtain ⟨m, hm⟩ : ∃ m, m = k % 16 := ⟨_, rfl⟩
 rw [← hq] at c0 hk
 rw [← hm] at HV
 have e1 : (k : Int) / 16 = (q : Int) := by omega
 have e1' : (k : Int).tdiv 16 = (q : Int) := by rw [Int.tdiv_eq_ediv_of_nonneg (by omega)]; exact e1
 have e2 : (k : Int) % 16 = (m : Int) := by omega
 have e2' : (k : Int).tmod 16 = (m : Int) := by rw [Int.tmod_eq_emod_of_nonneg (by omega)]; exact e2
 have hm16 : m < 16 := by omega
 have hqz : (q : Int) < (l.length : Int) := by omega
 have hx' : x < 65536 := hx
 obtain ⟨y, hy⟩ : ∃ y, y = x / 2 ^ m := ⟨_, rfl⟩
 rw [← hy] at HV
 have hyx : y ≤ x := by rw [hy]; exact Nat.div_le_self _ _
 have e3 : (x : Int) / 2 ^ m = (y : Int) := by rw [hy, Int.natCast_ediv, Int.natCast_pow]; rfl
 have e4 : bits .and .u32 (y : Int) 1 = ((y % 2 : Nat) : Int) := by
  have := bits_and_u32_nat y 1 (by omega) (by omega)
  rw [Nat.and_one_is_mod] at this
  exact this
 obtain ⟨r, hr⟩ : ∃ r, r = y % 2 := ⟨_, rfl⟩
 rw [← hr] at e4 HV
 clear hq hm hy hr ha hca
 go_enter Tryz.func205, Tryz.ntmps205
 go_wp2
 go_ret
 exact ⟨by rw [← HV.out]; rfl, rfl⟩
end
section
open Num
attribute [local go_sem ↓] Go.wp_at_zero Go.wp_at_succ
section
variable {base : Nat} {w w' : World} {b rb rc : Nat} {ins regs : Int} {code : List Ins} {outs : List Int} {g : Grid} {n : Nat}
structure InsOk (i : Ins) (regs : Nat) : Prop where
 o1 : 1 ≤ i.op
 o2 : i.op ≤ 8
 t0 : 0 ≤ i.to
 t1 : i.to < regs
 a0 : 0 ≤ i.a
 a1 : i.a < regs
 b0 : 0 ≤ i.b
 b1 : i.b < regs
 c : constB i.op i.c = true
theorem insOk_of {i : Ins} {regs : Nat} (h : mayB i.op i.to i.a i.b i.c regs = true) (h0 : 0 < regs) : InsOk i regs := by
 obtain ⟨h1, h2, h3, h4, h5, h6, h7, h8, h9⟩ := (mayB_iff ..).1 h
 cases e : twoB i.op with
 | true => exact ⟨h1, h2, h3, h4, h7, h8, (h9 e).1, (h9 e).2, h6⟩
 | false => have := h5 e; exact ⟨h1, h2, h3, h4, h7, h8, by omega, by omega, h6⟩
end
end
end Go.Proofs.YtbmaffijncapiaaGreatDoor
