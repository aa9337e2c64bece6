/- Texts of this seat, laid together: RefK, RefL, Dec, Iter, LimbI, RefM, Rng, RefN. Each opens with its own remark, which says what it proves, and under which conditions. -/
import Derived.Test.YthlphfjmdgcpdaaGreatDoorW06
import Derived.Test.YthlphfjmdgcpdaaGreatDoorW02
import Derived.Test.YthlphfjmdgcpdaaGreatDoorW01
import Derived.RangeFuncNested
import Derived.RangeFuncBound
import Derived.RangeFuncCalls
import Derived.RangeFuncLeaves
import Derived.Shelf.Abstract
import Derived.Shelf.RegionOpen
import Derived.OwnWalkIn
import Derived.TacticsInMore
import Derived.LoopNIn
import Derived.LoopIn
import Derived.Deep.Cut
import Derived.Deep.DeepCutAuto
import Derived.Test.YthlphfjmdgcpdaaGreatDoorW03
set_option linter.unusedVariables false
set_option linter.unusedSimpArgs false
/- The reference's numbers: divide by more than one digit; divide. -/
namespace Go.Proofs.YthlphfjmdgcpdaaGreatDoor
open Num
open Go.ChangeShapes Go.WideShapes Go.ChangeAt Go.RowKit
set_option linter.unusedVariables false
set_option linter.unusedSimpArgs false

set_option maxRecDepth 100000 in
set_option maxHeartbeats 8000000 in
theorem rdivL_c (a b : Option Addr) (ca cb : Nat) (A B : List Nat) (w : World) (ha : U32 w a ca A) (hb : U32 w b cb B) (hA : NumR.Limbs A) (hB : NumR.Limbs B) (hAn : Nrm A) (hBn : Nrm B) (hB1 : B.length ≠ 1) (hD0 : 0 < NumR.val B) (h1 : A.length ≤ 1073741826) (h2 : B.length ≤ 1073741826) :
    Calls Tryz.prog 106 #[.slice a A.length ca, .slice b B.length cb] w fun e w' => (∃ u v, e = .returned (.tuple #[u, v]) ∧ NewN w' u (NumR.val A / NumR.val B) ∧ NewN w' v (NumR.val A % NumR.val B)) ∧ Below w.heap.size w w' := by
  have hbz : ((B.length : Int) == 1) = false := by rw [beq_eq_false_iff_ne]; omega
  have hmk := mk32 A.length (by omega)
  have bc := fun W (h : Below w.heap.size w W) => rbits_c a ca A W (ha.keep h) hA hAn (by omega)
  have hbits : bitN (NumR.val A) ≤ 16 * A.length := NumR.bitN_le (by have := NumR.val_lt hA; rwa [NumR.BB_pow] at this)
  have HA2 := Lib.hid (show NumR.val A / 2 ^ bitN (NumR.val A) = 0 from Nat.div_eq_of_lt (NumR.lt_bitN _))
  generalize bitN (NumR.val A) = n at *
  have hfd := fieldD
  have HD0 := Lib.hid hD0
  have hB00 := Below.refl w.heap.size w
  clear hB1 hD0
  go_enter Tryz.func106, Tryz.ntmps106
  go_wp2_with fail
  (with_reducible refine (bc _ (by repeat (first | exact Below.refl _ _ | exact hB00 | refine Below.drew ?_ | refine below_drewN ?_ _ | refine bset ?_ (by simp <;> omega) _ | refine bal ?_ _))).mono ?_)
  rintro e w1 ⟨rfl, rfl⟩
  clear bc hmk
  go_wp2
  go_loopw [10, 11] (fun rv x wr => ∃ (k : Nat) (Q R : List Nat), k ≤ n ∧ x = .int .i64 ((k : Int) - 1) ∧ Blk wr w.heap.size Q ∧ OwnB (w.heap.size + 1) wr rv R ∧ Hid (Q.length = A.length) ∧ NumR.Limbs Q ∧ NumR.Limbs R ∧ Hid (Nrm R) ∧ Hid (∃ q, NumR.val Q = q * 2 ^ k ∧ NumR.val A / 2 ^ k = q * NumR.val B + NumR.val R) ∧ Hid (NumR.val R < NumR.val B) ∧ Below w.heap.size w wr) (fun _ x _ => (intOf x + 1).toNat)
  case atStart => exact ⟨n, List.replicate A.length 0, [], Nat.le_refl _, rfl, blk_new w _, OwnB.nil _ _, Lib.hid (by simp), (fun y hy => by simp at hy; rw [hy.2]; exact NumR.BB_pos), (fun _ h => by cases h), Lib.hid (fun h => absurd rfl h), Lib.hid ⟨0, by rw [NumR.val_zeros]; simp, by rw [HA2.out]; simp [NumR.val]⟩, Lib.hid HD0.out, bal (Below.refl _ _) _⟩
  case round =>
    obtain ⟨k, Q, R, hk, rfl, hQ, hR, hQl, hQL, hRL, hRn, hV, hlt, hBw⟩ := hrel
    cases k with
    | zero =>
      obtain ⟨a9, c9, rfl, hRu⟩ := hR.u32 (limbs_of_r hRL)
      have hu := hQ.u32 (limbs_of_r hQL) (by have := hQl.out; unfold maxLen; omega)
      have nc := fun W (h : Below wr.heap.size wr W) => rnormU (some ⟨w.heap.size, 0, none⟩) Q.length Q W (hu.keep h) hQL
      rw [hQl.out] at nc
      have HD := Lib.hid (show NumR.val A / NumR.val B = NumR.val Q ∧ NumR.val A % NumR.val B = NumR.val R by
        obtain ⟨q, h1, h2⟩ := hV.out
        simp at h1 h2
        have h3 := hlt.out
        rw [h1]
        constructor
        · rw [h2, Nat.add_comm, Nat.add_mul_div_right _ _ HD0.out, Nat.div_eq_of_lt h3, Nat.zero_add]
        · rw [h2, Nat.add_comm, Nat.add_mul_mod_self_right, Nat.mod_eq_of_lt h3])
      clear hu hV hQ hR hQl hlt
      go_wp2_with fail
      (with_reducible refine (nc _ (Below.refl _ _)).mono ?_)
      rintro e w1 ⟨⟨u, rfl, hq⟩, hb1⟩
      have HQ := Lib.hid hq
      obtain ⟨a1, n1, L1, rfl, -⟩ := hq
      clear nc
      go_wp2
      go_ret2
      exact ⟨⟨_, _, rfl, by rw [HD.out.1]; exact HQ.out, ⟨a9, c9, R, rfl, hRu.keep hb1, hRL, hRn.out, HD.out.2.symm⟩⟩, bthen hBw hb1⟩
    | succ j =>
      have tc := fun W (h : Below w.heap.size w W) => rbit_c a ca A j W (ha.keep h) hA (by omega) (by omega)
      have hbt : NumR.val A / 2 ^ j % 2 ≤ 1 := by omega
      obtain ⟨bt, hbte⟩ : ∃ bt, bt = NumR.val A / 2 ^ j % 2 := ⟨_, rfl⟩
      rw [← hbte] at tc hbt
      have HBIT := Lib.hid hbte
      clear hbte
      have HRL := Lib.hid (show R.length ≤ B.length from by
        apply Nat.le_of_not_lt; intro h
        have := NumR.val_lt_of_len hB hRn.out h
        have := hlt.out
        omega)
      have HJ := Lib.hid (show j / 16 < A.length by omega)
      go_wp2_with fail
      (with_reducible refine (tc _ hBw).mono ?_)
      rintro e w2 ⟨rfl, rfl⟩
      clear tc
      obtain ⟨a9, c9, rfl, -⟩ := hR.u32 (limbs_of_r hRL)
      have hbt' : bt < 65536 := by omega
      have hRm : R.length ≤ 1073741826 := by have := HRL.out; omega
      go_wp2
      go_loopw [12, 13] (fun cx x wi => ∃ (i c : Nat) (T : List Nat), i ≤ R.length ∧ x = .int .i64 i ∧ cx = .int .u32 c ∧ c ≤ 1 ∧ Blk wi w.heap.size Q ∧ OwnB (w.heap.size + 1) wi (.slice a9 R.length c9) T ∧ Hid (T.length = R.length) ∧ NumR.Limbs T ∧ Hid (∀ m, i ≤ m → T.getD m 0 = R.getD m 0) ∧ Hid (NumR.val T + c * NumR.BB ^ i = (NumR.val R + bt) + NumR.val (R.take i)) ∧ Below w.heap.size w wi) (fun _ x _ => R.length - (intOf x).toNat)
      case atStart => exact ⟨0, bt, R, Nat.zero_le _, rfl, rfl, hbt, hQ, hR, Lib.hid rfl, hRL, Lib.hid (fun _ _ => rfl), Lib.hid (by simp [NumR.val]), hBw⟩
      case round =>
        rename World => wi
        obtain ⟨i, c, T, hi, rfl, rfl, hc1, hQ2, hR2, hTl, hR2L, hT0, hTV, hBw⟩ := hrel
        by_cases hir : i < R.length
        · have hirz : (i : Int) < (R.length : Int) := by omega
          have hR2' := hR2
          rw [← hTl.out] at hR2'
          rcases hR2'.ex with ⟨h0, hT⟩ | ⟨g, cap, hv, hg, hcap⟩
          · exfalso; have := hTl.out; rw [hT] at this; simp at this; omega
          cases hv
          have q0 := hR2'.cell i (by have := hTl.out; omega)
          have qf := hR2'.frozen i
          have hx := NumR.limb_get hR2L i
          have HS := Lib.hid (fun t ht => NumR.twice_step (R := T) (R0 := R) (i := i) (c := c) (t := t) (V := NumR.val R + bt) (by have := hTl.out; omega) (hT0.out i (Nat.le_refl _)) ht hTV.out)
          rw [← hT0.out i (Nat.le_refl _)] at HS
          generalize T.getD i 0 = x at *
          have hx' : x < 65536 := hx
          have e1 : IntKind.u32.wrap (2 * (x : Int)) = 2 * (x : Int) := by rw [show 2 * (x : Int) = ((2 * x : Nat) : Int) by omega]; exact w32 (by unfold BB; omega)
          have e2 : IntKind.u32.wrap ((c : Int) + 2 * (x : Int)) = (c : Int) + 2 * (x : Int) := by rw [show (c : Int) + 2 * (x : Int) = ((c + 2 * x : Nat) : Int) by omega]; exact w32 (by unfold BB; omega)
          have HS2 := Lib.hid (HS.out (c + 2 * x) rfl)
          have hmB : (c + 2 * x) % NumR.BB < NumR.BB := Nat.mod_lt _ NumR.BB_pos
          have hdB : (c + 2 * x) / NumR.BB ≤ 1 := by unfold NumR.BB; omega
          obtain ⟨lo, hlo⟩ : ∃ lo, lo = (c + 2 * x) % NumR.BB := ⟨_, rfl⟩
          obtain ⟨up, hup⟩ : ∃ up, up = (c + 2 * x) / NumR.BB := ⟨_, rfl⟩
          rw [← hlo] at HS2 hmB
          rw [← hup] at HS2 hdB
          have g1 : ((c : Int) + 2 * (x : Int)) % 65536 = (lo : Int) := by unfold NumR.BB at hlo; omega
          have g2 : ((c : Int) + 2 * (x : Int)) / 65536 = (up : Int) := by unfold NumR.BB at hup; omega
          have g3 : ((c : Int) + 2 * (x : Int)).tmod 65536 = (lo : Int) := by rw [Int.tmod_eq_emod_of_nonneg (by omega)]; exact g1
          have g4 : ((c : Int) + 2 * (x : Int)).tdiv 65536 = (up : Int) := by rw [Int.tdiv_eq_ediv_of_nonneg (by omega)]; exact g2
          have qb := hR2'.set i lo (by have := hTl.out; omega)
          have qq := hQ2.far ⟨g, i, none⟩ (.int .u32 (lo : Int)) (by show w.heap.size ≠ g; omega)
          have ql := NumR.limbs_set hR2L (k := i) hmB
          have bs := bset hBw (p := ⟨g, i, none⟩) (by show w.heap.size ≤ g; omega) (.int .u32 (lo : Int))
          rw [List.length_set, hTl.out] at qb
          clear hlo hup HS hR2 hR2' hQ2
          go_wp2
          refine ⟨⟨i + 1, up, T.set i lo, by omega, by go_num, rfl, hdB, qq, qb, Lib.hid (by simpa using hTl.out), ql, Lib.hid ?_, HS2, bs⟩, by simp [intOf] <;> omega⟩
          intro m hm
          rw [Num.getD_set_ne (by omega)]
          exact hT0.out m (by omega)
        · obtain rfl : i = R.length := by omega
          have HV2 := Lib.hid (show NumR.val T + c * NumR.BB ^ T.length = bt + 2 * NumR.val R by
            have := hTV.out
            rw [List.take_length] at this
            rw [hTl.out]; omega)
          have HLEN := hTl
          clear hTV hT0
          -- behind the doubling: c is what is carried out of T
          rcases (show c = 0 ∨ c = 1 by omega) with rfl | rfl
          · have HV3 := Lib.hid (show NumR.val (T) = bt + 2 * NumR.val R by have := HV2.out; simpa using this)
            have HN3 := Lib.hid (show Nrm (T) from NumR.nrm_of_val hR2L fun hne => by
              have h1 := HLEN.out
              have h2 := NumR.nrm_val_pos hRn.out (by intro e; apply hne; apply List.length_eq_zero_iff.1; rw [h1, e]; rfl)
              rw [HV3.out, h1]; omega)
            have hR3 := hR2
            have hQ3 := hQ2
            have hR3L := hR2L
            clear hR2 hQ2 HV2
            -- the rest, twice and a digit more, lies in .slice a9 R.length c9
            obtain ⟨a3, k3, hv3, hU3⟩ := hR3.u32 (limbs_of_r hR3L)
            have zc := fun W h1 h2 => rsize_c a3 b k3 cb (T) B W h1 h2 hR3L hB HN3.out hBn
            have HV3s := Lib.hid hv3
            rw [← hv3] at zc
            clear hv3
            by_cases hge : NumR.val B ≤ NumR.val (T)
            · have hnl : ¬ NumR.val (T) < NumR.val B := by omega
              have hz : (0 : Int) ≤ cmpN (NumR.val (T)) (NumR.val B) := by have := (cmpN_neg (x := NumR.val (T)) (y := NumR.val B)); rw [decide_eq_false hnl] at this; have := of_decide_eq_false this; omega
              have HMIN := Lib.hid (fun W (h1 : U32 W a3 k3 (T)) h2 => rminus_c a3 b k3 cb (T) B W h1 h2 hR3L hB (by
                apply Nat.le_of_lt_succ
                have := HLEN.out
                have := HRL.out
                simp <;> omega) (by
                apply Nat.le_of_not_lt; intro h
                have := NumR.val_lt_of_len hR3L hBn h
                omega) hge)
              have HSUB := Lib.hid (show ∀ O : List Nat, NumR.val O + NumR.val B = NumR.val (T) → NumR.val (trimL O) = NumR.val (T) - NumR.val B from fun O h => by rw [NumR.val_trim]; omega)
              have HSTEP := Lib.hid (show ∃ q, NumR.val Q = q * 2 ^ (j + 1) ∧ (∃ q', NumR.val Q + 2 ^ j = q' * 2 ^ j ∧ NumR.val A / 2 ^ j = q' * NumR.val B + (NumR.val (T) - NumR.val B)) by
                obtain ⟨q, h1, h2⟩ := hV.out
                obtain ⟨h3, h4⟩ := NumR.bit_take h2 HBIT.out h1
                rw [← HV3.out] at h3
                obtain ⟨h5, h6⟩ := NumR.bit_more h3 hge h4
                exact ⟨q, h1, 2 * q + 1, h6, h5⟩)
              have HLT := Lib.hid (show NumR.val (T) - NumR.val B < NumR.val B by
                have := HV3.out
                have := hlt.out
                omega)
              have HOR := Lib.hid (by
                obtain ⟨q, h1, h2⟩ := hV.out
                exact NumR.or_val (l := Q) (k := j) (Q := q) hQL h1)
              have HMORE := Lib.hid (NumR.set_bit (l := Q) (k := j) (by have := hQl.out; have := HJ.out; omega))
              generalize cmpN (NumR.val (T)) (NumR.val B) = z at *
              clear hge hnl
              go_wp2_with fail
              (with_reducible refine (zc _ hU3 (hb.keep hBw)).mono ?_)
              rintro e w5 ⟨rfl, hb5⟩
              have hR5 := hR3.below hb5
              have hU5 := hU3.keep hb5
              have hQ5 := hQ3.keep hb5
              have hB5 := bthen hBw hb5
              have mc := HMIN.out
              rw [← HV3s.out] at mc
              clear zc hR3 hQ3 hU3
              go_wp2_with fail
              (with_reducible refine (mc _ hU5 (hb.keep hB5)).mono ?_)
              rintro e w6 ⟨v6, rfl, O, hO, hOL, hOl, hOv⟩
              have HOv := Lib.hid hOv
              clear hOv hOl
              obtain ⟨aO, cO, rfl, hOu⟩ := hO.u32 (limbs_of_r hOL)
              have hB6 := bthen hB5 hO.2
              have hQ6 := hQ5.keep hO.2
              have hOB := OwnB.of hO (B := w.heap.size + 1) hQ5.lt
              clear mc hU5 hR5 hQ5 hO
              go_wp2_with fail
              (with_reducible refine (rnormK_c false aO cO O _ hOu).mono ?_)
              rintro e w7 ⟨rfl, hb7⟩
              unfold iv
              have hQ4 := hQ6.keep hb7
              have hB7 := bthen hB6 hb7
              have hRT := (hOB.below hb7).cut' (trim_prefix O)
              have HRT := Lib.hid (And.intro (NumR.trim_limbs hOL) (And.intro (trim_nrm O) (HSUB.out O HOv.out)))
              generalize trimL O = T4 at *
              clear hOB hOu hQ6 HOv hOL
              go_wp2
              -- a binary digit of the quotient is set, in the world w7; the rest is T4
              have q0 := hQ4.cell (j / 16) (by have := hQl.out; have := HJ.out; omega)
              have qf := hQ4.frozen (j / 16)
              have ho := HOR.out
              obtain ⟨jq, hjq⟩ : ∃ jq, jq = j / 16 := ⟨_, rfl⟩
              obtain ⟨jm, hjm⟩ : ∃ jm, jm = j % 16 := ⟨_, rfl⟩
              have g1 : (j : Int) / 16 = (jq : Int) := by omega
              have g1' : (j : Int).tdiv 16 = (jq : Int) := by rw [Int.tdiv_eq_ediv_of_nonneg (by omega)]; exact g1
              have g2 : (j : Int) % 16 = (jm : Int) := by omega
              have g2' : (j : Int).tmod 16 = (jm : Int) := by rw [Int.tmod_eq_emod_of_nonneg (by omega)]; exact g2
              have hjm16 : jm < 16 := by omega
              have hjqz : (jq : Int) < (A.length : Int) := by have := HJ.out; omega
              have qb := hQ4.set (j / 16) (Q.getD (j / 16) 0 + 2 ^ (j % 16))
              have ql := NumR.limbs_set hQL (k := j / 16) ho.2
              rw [← hjq] at q0 qf
              rw [← hjq, ← hjm] at qb ho
              have hpw : 2 ^ jm < 65536 := Nat.lt_of_lt_of_le (Nat.pow_lt_pow_right (by omega) hjm16) (by decide)
              have hvv := HMORE.out
              rw [← hjq, ← hjm] at hvv ql
              have hoB := NumR.limb_get hQL jq
              generalize Q.getD jq 0 = od at *
              obtain ⟨pw, hpw2⟩ : ∃ pw, pw = 2 ^ jm := ⟨_, rfl⟩
              have g3 : (2 : Int) ^ jm = (pw : Int) := by rw [hpw2, Int.natCast_pow]; rfl
              rw [← hpw2] at qb ho hpw hvv ql
              have g4 : bits .or .u32 (od : Int) (pw : Int) = ((od + pw : Nat) : Int) := by rw [u32_or_nat _ _ (by unfold NumR.BB at hoB; omega) (by omega), ho.1]
              have g5 : (pw : Int) % 4294967296 = (pw : Int) := by omega
              have g6 : IntKind.u32.wrap (1 * 2 ^ jm) = (pw : Int) := by rw [Int.one_mul, g3]; exact w32 (by unfold BB; omega)
              generalize od + pw = nd at *
              have HQL2 := Lib.hid ql
              have HVV := Lib.hid hvv
              clear ql hvv
              have HJQ := Lib.hid (And.intro hjq (And.intro hjm hpw2))
              clear hjq hjm hpw2 ho hoB HOR HMORE
              go_region
              have HSQ := Lib.hid (show ∃ q, NumR.val (Q.set jq nd) = q * 2 ^ j ∧ NumR.val A / 2 ^ j = q * NumR.val B + NumR.val T4 by
                obtain ⟨q, h1, q', h2, h3⟩ := HSTEP.out
                exact ⟨q', by rw [HVV.out]; exact h2, by rw [h3, HRT.out.2.2]⟩)
              have hRf := hRT.far (p := ⟨w.heap.size, jq, none⟩) (Nat.lt_succ_self _) (.int .u32 (nd : Int))
              have hBf := bset hB7 (p := ⟨w.heap.size, jq, none⟩) (Nat.le_refl _) (.int .u32 (nd : Int))
              clear q0 qf
              go_wp2
              exact ⟨⟨j, Q.set jq nd, T4, by omega, rfl, qb, hRf, Lib.hid (by simpa using hQl.out), HQL2.out, HRT.out.1, Lib.hid HRT.out.2.1, HSQ, Lib.hid (by rw [HRT.out.2.2]; exact HLT.out), hBf.drew⟩, by simp [intOf] <;> omega⟩
            · have hnl : NumR.val (T) < NumR.val B := by omega
              have hz : ¬ (0 : Int) ≤ cmpN (NumR.val (T)) (NumR.val B) := by have := (cmpN_neg (x := NumR.val (T)) (y := NumR.val B)); rw [decide_eq_true hnl] at this; have := of_decide_eq_true this; omega
              have HLT := Lib.hid (show NumR.val (T) < NumR.val B by omega)
              have HEQ := Lib.hid (show ∃ q, NumR.val Q = q * 2 ^ j ∧ NumR.val A / 2 ^ j = q * NumR.val B + NumR.val (T) by
                obtain ⟨q, h1, h2⟩ := hV.out
                obtain ⟨h3, h4⟩ := NumR.bit_take h2 HBIT.out h1
                exact ⟨2 * q, h4, by rw [h3, HV3.out]⟩)
              generalize cmpN (NumR.val (T)) (NumR.val B) = z at *
              clear hge
              go_wp2_with fail
              (with_reducible refine (zc _ hU3 (hb.keep hBw)).mono ?_)
              rintro e w5 ⟨rfl, hb5⟩
              have hR5 := hR3.below hb5
              have hQ5 := hQ3.keep hb5
              have hB5 := bthen hBw hb5
              clear zc hR3 hQ3 hU3
              go_wp2
              exact ⟨⟨j, Q, T, by omega, rfl, hQ5, hR5, hQl, hQL, hR3L, HN3, HEQ, HLT, hB5⟩, by simp [intOf] <;> omega⟩
          · have HV3 := Lib.hid (show NumR.val (T ++ [1]) = bt + 2 * NumR.val R by rw [NumR.val_snoc]; exact HV2.out)
            have hR3L := NumR.limbs_snoc hR2L (x := 1) (by unfold NumR.BB; omega)
            have HN3 := Lib.hid (show Nrm (T ++ [1]) from fun _ => by simp)
            have hlm : (T).length ≤ 2147483652 := by have := HLEN.out; have := HRL.out; omega
            have hBs : w.heap.size + 1 ≤ (wi).heap.size := hQ2.lt
            have HO2 := Lib.hid hR2.ex
            go_wp2_with (at_builtin; refine appB32 (X := [1]) rfl rfl hR2 hBs rfl rfl ?_ ?_; (simp; omega); intro v3 w3 hR3 ho3; (have hQ3 : Blk w3 w.heap.size Q := ho3.blk hQ2 (fun h => by rcases HO2.out with ⟨h1, _⟩ | ⟨g, cp, h1, h2, _⟩ <;> (rw [show Value.slice a9 R.length c9 = _ from h1] at h; simp [Value.ownBlock] at h) <;> omega)); (have hBw3 : Below w.heap.size w w3 := hBw.trans (ho3.to_below (fun k hk _ h => by rcases HO2.out with ⟨h1, _⟩ | ⟨g, cp, h1, h2, _⟩ <;> (rw [show Value.slice a9 R.length c9 = _ from h1] at h; simp [Value.ownBlock] at h) <;> omega) (by omega))); clear hR2 hQ2 ho3 HV2)
            have hBw := hBw3
            clear hBw3
            -- the rest, twice and a digit more, lies in v3
            obtain ⟨a3, k3, hv3, hU3⟩ := hR3.u32 (limbs_of_r hR3L)
            have zc := fun W h1 h2 => rsize_c a3 b k3 cb (T ++ [1]) B W h1 h2 hR3L hB HN3.out hBn
            have HV3s := Lib.hid hv3
            rw [← hv3] at zc
            clear hv3
            by_cases hge : NumR.val B ≤ NumR.val (T ++ [1])
            · have hnl : ¬ NumR.val (T ++ [1]) < NumR.val B := by omega
              have hz : (0 : Int) ≤ cmpN (NumR.val (T ++ [1])) (NumR.val B) := by have := (cmpN_neg (x := NumR.val (T ++ [1])) (y := NumR.val B)); rw [decide_eq_false hnl] at this; have := of_decide_eq_false this; omega
              have HMIN := Lib.hid (fun W (h1 : U32 W a3 k3 (T ++ [1])) h2 => rminus_c a3 b k3 cb (T ++ [1]) B W h1 h2 hR3L hB (by
                apply Nat.le_of_lt_succ
                have := HLEN.out
                have := HRL.out
                simp <;> omega) (by
                apply Nat.le_of_not_lt; intro h
                have := NumR.val_lt_of_len hR3L hBn h
                omega) hge)
              have HSUB := Lib.hid (show ∀ O : List Nat, NumR.val O + NumR.val B = NumR.val (T ++ [1]) → NumR.val (trimL O) = NumR.val (T ++ [1]) - NumR.val B from fun O h => by rw [NumR.val_trim]; omega)
              have HSTEP := Lib.hid (show ∃ q, NumR.val Q = q * 2 ^ (j + 1) ∧ (∃ q', NumR.val Q + 2 ^ j = q' * 2 ^ j ∧ NumR.val A / 2 ^ j = q' * NumR.val B + (NumR.val (T ++ [1]) - NumR.val B)) by
                obtain ⟨q, h1, h2⟩ := hV.out
                obtain ⟨h3, h4⟩ := NumR.bit_take h2 HBIT.out h1
                rw [← HV3.out] at h3
                obtain ⟨h5, h6⟩ := NumR.bit_more h3 hge h4
                exact ⟨q, h1, 2 * q + 1, h6, h5⟩)
              have HLT := Lib.hid (show NumR.val (T ++ [1]) - NumR.val B < NumR.val B by
                have := HV3.out
                have := hlt.out
                omega)
              have HOR := Lib.hid (by
                obtain ⟨q, h1, h2⟩ := hV.out
                exact NumR.or_val (l := Q) (k := j) (Q := q) hQL h1)
              have HMORE := Lib.hid (NumR.set_bit (l := Q) (k := j) (by have := hQl.out; have := HJ.out; omega))
              generalize cmpN (NumR.val (T ++ [1])) (NumR.val B) = z at *
              clear hge hnl
              go_wp2_with fail
              (with_reducible refine (zc _ hU3 (hb.keep hBw)).mono ?_)
              rintro e w5 ⟨rfl, hb5⟩
              have hR5 := hR3.below hb5
              have hU5 := hU3.keep hb5
              have hQ5 := hQ3.keep hb5
              have hB5 := bthen hBw hb5
              have mc := HMIN.out
              rw [← HV3s.out] at mc
              clear zc hR3 hQ3 hU3
              go_wp2_with fail
              (with_reducible refine (mc _ hU5 (hb.keep hB5)).mono ?_)
              rintro e w6 ⟨v6, rfl, O, hO, hOL, hOl, hOv⟩
              have HOv := Lib.hid hOv
              clear hOv hOl
              obtain ⟨aO, cO, rfl, hOu⟩ := hO.u32 (limbs_of_r hOL)
              have hB6 := bthen hB5 hO.2
              have hQ6 := hQ5.keep hO.2
              have hOB := OwnB.of hO (B := w.heap.size + 1) hQ5.lt
              clear mc hU5 hR5 hQ5 hO
              go_wp2_with fail
              (with_reducible refine (rnormK_c false aO cO O _ hOu).mono ?_)
              rintro e w7 ⟨rfl, hb7⟩
              unfold iv
              have hQ4 := hQ6.keep hb7
              have hB7 := bthen hB6 hb7
              have hRT := (hOB.below hb7).cut' (trim_prefix O)
              have HRT := Lib.hid (And.intro (NumR.trim_limbs hOL) (And.intro (trim_nrm O) (HSUB.out O HOv.out)))
              generalize trimL O = T4 at *
              clear hOB hOu hQ6 HOv hOL
              go_wp2
              -- a binary digit of the quotient is set, in the world w7; the rest is T4
              have q0 := hQ4.cell (j / 16) (by have := hQl.out; have := HJ.out; omega)
              have qf := hQ4.frozen (j / 16)
              have ho := HOR.out
              obtain ⟨jq, hjq⟩ : ∃ jq, jq = j / 16 := ⟨_, rfl⟩
              obtain ⟨jm, hjm⟩ : ∃ jm, jm = j % 16 := ⟨_, rfl⟩
              have g1 : (j : Int) / 16 = (jq : Int) := by omega
              have g1' : (j : Int).tdiv 16 = (jq : Int) := by rw [Int.tdiv_eq_ediv_of_nonneg (by omega)]; exact g1
              have g2 : (j : Int) % 16 = (jm : Int) := by omega
              have g2' : (j : Int).tmod 16 = (jm : Int) := by rw [Int.tmod_eq_emod_of_nonneg (by omega)]; exact g2
              have hjm16 : jm < 16 := by omega
              have hjqz : (jq : Int) < (A.length : Int) := by have := HJ.out; omega
              have qb := hQ4.set (j / 16) (Q.getD (j / 16) 0 + 2 ^ (j % 16))
              have ql := NumR.limbs_set hQL (k := j / 16) ho.2
              rw [← hjq] at q0 qf
              rw [← hjq, ← hjm] at qb ho
              have hpw : 2 ^ jm < 65536 := Nat.lt_of_lt_of_le (Nat.pow_lt_pow_right (by omega) hjm16) (by decide)
              have hvv := HMORE.out
              rw [← hjq, ← hjm] at hvv ql
              have hoB := NumR.limb_get hQL jq
              generalize Q.getD jq 0 = od at *
              obtain ⟨pw, hpw2⟩ : ∃ pw, pw = 2 ^ jm := ⟨_, rfl⟩
              have g3 : (2 : Int) ^ jm = (pw : Int) := by rw [hpw2, Int.natCast_pow]; rfl
              rw [← hpw2] at qb ho hpw hvv ql
              have g4 : bits .or .u32 (od : Int) (pw : Int) = ((od + pw : Nat) : Int) := by rw [u32_or_nat _ _ (by unfold NumR.BB at hoB; omega) (by omega), ho.1]
              have g5 : (pw : Int) % 4294967296 = (pw : Int) := by omega
              have g6 : IntKind.u32.wrap (1 * 2 ^ jm) = (pw : Int) := by rw [Int.one_mul, g3]; exact w32 (by unfold BB; omega)
              generalize od + pw = nd at *
              have HQL2 := Lib.hid ql
              have HVV := Lib.hid hvv
              clear ql hvv
              have HJQ := Lib.hid (And.intro hjq (And.intro hjm hpw2))
              clear hjq hjm hpw2 ho hoB HOR HMORE
              go_region
              have HSQ := Lib.hid (show ∃ q, NumR.val (Q.set jq nd) = q * 2 ^ j ∧ NumR.val A / 2 ^ j = q * NumR.val B + NumR.val T4 by
                obtain ⟨q, h1, q', h2, h3⟩ := HSTEP.out
                exact ⟨q', by rw [HVV.out]; exact h2, by rw [h3, HRT.out.2.2]⟩)
              have hRf := hRT.far (p := ⟨w.heap.size, jq, none⟩) (Nat.lt_succ_self _) (.int .u32 (nd : Int))
              have hBf := bset hB7 (p := ⟨w.heap.size, jq, none⟩) (Nat.le_refl _) (.int .u32 (nd : Int))
              clear q0 qf
              go_wp2
              exact ⟨⟨j, Q.set jq nd, T4, by omega, rfl, qb, hRf, Lib.hid (by simpa using hQl.out), HQL2.out, HRT.out.1, Lib.hid HRT.out.2.1, HSQ, Lib.hid (by rw [HRT.out.2.2]; exact HLT.out), hBf.drew⟩, by simp [intOf] <;> omega⟩
            · have hnl : NumR.val (T ++ [1]) < NumR.val B := by omega
              have hz : ¬ (0 : Int) ≤ cmpN (NumR.val (T ++ [1])) (NumR.val B) := by have := (cmpN_neg (x := NumR.val (T ++ [1])) (y := NumR.val B)); rw [decide_eq_true hnl] at this; have := of_decide_eq_true this; omega
              have HLT := Lib.hid (show NumR.val (T ++ [1]) < NumR.val B by omega)
              have HEQ := Lib.hid (show ∃ q, NumR.val Q = q * 2 ^ j ∧ NumR.val A / 2 ^ j = q * NumR.val B + NumR.val (T ++ [1]) by
                obtain ⟨q, h1, h2⟩ := hV.out
                obtain ⟨h3, h4⟩ := NumR.bit_take h2 HBIT.out h1
                exact ⟨2 * q, h4, by rw [h3, HV3.out]⟩)
              generalize cmpN (NumR.val (T ++ [1])) (NumR.val B) = z at *
              clear hge
              go_wp2_with fail
              (with_reducible refine (zc _ hU3 (hb.keep hBw)).mono ?_)
              rintro e w5 ⟨rfl, hb5⟩
              have hR5 := hR3.below hb5
              have hQ5 := hQ3.keep hb5
              have hB5 := bthen hBw hb5
              clear zc hR3 hQ3 hU3
              go_wp2
              exact ⟨⟨j, Q, T ++ [1], by omega, rfl, hQ5, hR5, hQl, hQL, hR3L, HN3, HEQ, HLT, hB5⟩, by simp [intOf] <;> omega⟩
end Go.Proofs.YthlphfjmdgcpdaaGreatDoor

/- The reference's numbers: divide. -/
namespace Go.Proofs.YthlphfjmdgcpdaaGreatDoor
open Num
open Go.ChangeShapes Go.WideShapes Go.ChangeAt Go.RowKit
set_option linter.unusedVariables false
set_option linter.unusedSimpArgs false
theorem rdivide_c (a b : Option Addr) (ca cb : Nat) (A B : List Nat) (w : World) (ha : U32 w a ca A) (hb : U32 w b cb B) (hA : NumR.Limbs A) (hB : NumR.Limbs B) (hAn : Nrm A) (hBn : Nrm B) (hD0 : 0 < NumR.val B) (h1 : A.length ≤ 1073741826) (h2 : B.length ≤ 1073741826) :
    Calls Tryz.prog 106 #[.slice a A.length ca, .slice b B.length cb] w fun e w' => (∃ u v, e = .returned (.tuple #[u, v]) ∧ NewN w' u (NumR.val A / NumR.val B) ∧ NewN w' v (NumR.val A % NumR.val B)) ∧ Below w.heap.size w w' := by
  by_cases h : B.length = 1
  · obtain ⟨c, rfl⟩ := List.length_eq_one_iff.1 h
    have e : NumR.val [c] = c := by simp [NumR.val]
    rw [e] at *
    exact rdiv1_c a b ca cb A c w ha hb hA (hB c (by simp)) hD0 (by omega)
  · exact rdivL_c a b ca cb A B w ha hb hA hB hAn hBn h hD0 h1 h2

end Go.Proofs.YthlphfjmdgcpdaaGreatDoor

/- Plain: decimal digits, low one first; nine at a time; a number's text. -/
namespace Go.Proofs.YthlphfjmdgcpdaaGreatDoor.Num
/-- the decimal digits of a number, low one first; none of 0 -/
def lowD : Nat → List Nat
  | 0 => []
  | n + 1 => (n + 1) % 10 :: lowD ((n + 1) / 10)
decreasing_by omega
theorem lowD_zero : lowD 0 = [] := by rw [lowD]
theorem lowD_pos {n : Nat} (h : 0 < n) : lowD n = n % 10 :: lowD (n / 10) := by
  cases n with
  | zero => omega
  | succ n => rw [lowD]
theorem lowD_lt (n : Nat) : ∀ d ∈ lowD n, d < 10 := by
  induction n using Nat.strongRecOn with
  | _ n ih =>
    intro d hd
    by_cases h : 0 < n
    · rw [lowD_pos h] at hd
      rcases List.mem_cons.1 hd with rfl | hd
      · omega
      · exact ih (n / 10) (by omega) d hd
    · obtain rfl : n = 0 := by omega
      rw [lowD_zero] at hd; cases hd
theorem lowD_ne {n : Nat} (h : 0 < n) : lowD n ≠ [] := by rw [lowD_pos h]; simp
theorem lowD_len (k : Nat) : ∀ n, n < 2 ^ k → (lowD n).length ≤ k := by
  induction k with
  | zero => intro n h; obtain rfl : n = 0 := by simpa using h
            rw [lowD_zero]; simp
  | succ k ih =>
    intro n h
    by_cases h0 : 0 < n
    · rw [lowD_pos h0]
      have := ih (n / 10) (by rw [Nat.pow_succ] at h; omega)
      simp; exact this
    · obtain rfl : n = 0 := by omega
      rw [lowD_zero]; simp
/-- the low k digits of a number, with noughts -/
def padD : Nat → Nat → List Nat
  | 0, _ => []
  | k + 1, n => n % 10 :: padD k (n / 10)
theorem padD_len (k n : Nat) : (padD k n).length = k := by
  induction k generalizing n with
  | zero => rfl
  | succ k ih => simp [padD, ih]
theorem padD_snoc (k n : Nat) : padD (k + 1) n = padD k n ++ [n / 10 ^ k % 10] := by
  induction k generalizing n with
  | zero => simp [padD]
  | succ k ih =>
    rw [padD, ih (n / 10)]
    show _ = (n % 10 :: padD k (n / 10)) ++ _
    rw [List.cons_append, Nat.div_div_eq_div_mul, Nat.pow_succ, Nat.mul_comm 10]
/-- a number's digits: its low k, then those of what is above -/
theorem lowD_split (k : Nat) : ∀ n, 10 ^ k ≤ n → lowD n = padD k n ++ lowD (n / 10 ^ k) := by
  induction k with
  | zero => intro n _; simp [padD]
  | succ k ih =>
    intro n h
    have hp : 0 < 10 ^ k := Nat.pow_pos (by omega)
    rw [Nat.pow_succ] at h
    have hn : 0 < n := by omega
    rw [lowD_pos hn, ih (n / 10) (by rw [Nat.le_div_iff_mul_le (by omega)]; exact h), padD, Nat.div_div_eq_div_mul, Nat.pow_succ, Nat.mul_comm 10]
    rfl
/-- of a short number: with noughts above -/
theorem padD_low (k : Nat) : ∀ n, n < 10 ^ k → padD k n = lowD n ++ List.replicate (k - (lowD n).length) 0 ∧ (lowD n).length ≤ k := by
  induction k with
  | zero =>
    intro n h
    obtain rfl : n = 0 := by simpa using h
    simp [padD, lowD_zero]
  | succ k ih =>
    intro n h
    have h2 : n / 10 < 10 ^ k := by rw [Nat.pow_succ] at h; omega
    obtain ⟨e, hl⟩ := ih (n / 10) h2
    by_cases h0 : 0 < n
    · rw [padD, e, lowD_pos h0]
      refine ⟨?_, by simpa using hl⟩
      simp
    · obtain rfl : n = 0 := by omega
      rw [padD, e]
      simp [lowD_zero, List.replicate_succ]
theorem padD_mod (k : Nat) : ∀ n, padD k (n % 10 ^ k) = padD k n := by
  induction k with
  | zero => intro n; rfl
  | succ k ih =>
    intro n
    rw [padD, padD]
    have e1 : n % 10 ^ (k + 1) % 10 = n % 10 := by
      rw [Nat.pow_succ, Nat.mul_comm]
      exact Nat.mod_mul_right_mod n 10 (10 ^ k)
    have e2 : n % 10 ^ (k + 1) / 10 = n / 10 % 10 ^ k := by
      rw [Nat.pow_succ, Nat.mul_comm]
      exact Nat.mod_mul_right_div_self n 10 (10 ^ k)
    rw [e1, e2, ih]
/-- a number nine digits at a time, low ones first -/
def pcs : Nat → List Nat
  | 0 => []
  | n + 1 => (n + 1) % 1000000000 :: pcs ((n + 1) / 1000000000)
decreasing_by omega
theorem pcs_zero : pcs 0 = [] := by rw [pcs]
theorem pcs_pos {n : Nat} (h : 0 < n) : pcs n = n % 1000000000 :: pcs (n / 1000000000) := by
  cases n with
  | zero => omega
  | succ n => rw [pcs]
theorem pcs_lt (n : Nat) : ∀ d ∈ pcs n, d < 1000000000 := by
  induction n using Nat.strongRecOn with
  | _ n ih =>
    intro d hd
    by_cases h : 0 < n
    · rw [pcs_pos h] at hd
      rcases List.mem_cons.1 hd with rfl | hd
      · omega
      · exact ih (n / 1000000000) (by omega) d hd
    · obtain rfl : n = 0 := by omega
      rw [pcs_zero] at hd; cases hd
theorem pcs_ne {n : Nat} (h : 0 < n) : pcs n ≠ [] := by rw [pcs_pos h]; simp
/-- the pieces' digits: the last without noughts above -/
def lowP : List Nat → List Nat
  | [] => []
  | [p] => lowD p
  | p :: q :: l => padD 9 p ++ lowP (q :: l)
theorem lowP_pcs (n : Nat) : lowP (pcs n) = lowD n := by
  induction n using Nat.strongRecOn with
  | _ n ih =>
    by_cases h : 0 < n
    · rw [pcs_pos h]
      by_cases h2 : 0 < n / 1000000000
      · have e := ih (n / 1000000000) (by omega)
        rw [pcs_pos h2] at e ⊢
        rw [lowP, e, lowD_split 9 n (by omega)]
        have := padD_mod 9 n
        rw [show (10 : Nat) ^ 9 = 1000000000 from rfl] at *
        rw [this]
      · have h3 : n / 1000000000 = 0 := by omega
        rw [h3, pcs_zero, lowP, Nat.mod_eq_of_lt (by omega)]
    · obtain rfl : n = 0 := by omega
      rw [pcs_zero, lowD_zero]; rfl
/-- the last piece of a number is not 0 -/
theorem pcs_last (n : Nat) : ∀ h : pcs n ≠ [], 0 < (pcs n).getLast h := by
  induction n using Nat.strongRecOn with
  | _ n ih =>
    intro h
    have hn : 0 < n := by
      rcases Nat.eq_zero_or_pos n with rfl | h'
      · exact absurd pcs_zero h
      · exact h'
    by_cases h2 : 0 < n / 1000000000
    · have h3 := ih (n / 1000000000) (by omega) (pcs_ne h2)
      have e : (pcs n).getLast h = (pcs (n / 1000000000)).getLast (pcs_ne h2) := by
        have : ∀ l (hl : l ≠ []), l = n % 1000000000 :: pcs (n / 1000000000) → l.getLast hl = (pcs (n / 1000000000)).getLast (pcs_ne h2) := by
          intro l hl el; subst el; exact List.getLast_cons (pcs_ne h2)
        exact this _ h (pcs_pos hn)
      rw [e]; exact h3
    · have e : (pcs n).getLast h = n % 1000000000 := by
        have : ∀ l (hl : l ≠ []), l = [n % 1000000000] → l.getLast hl = n % 1000000000 := by
          intro l hl el; subst el; rfl
        exact this _ h (by rw [pcs_pos hn, show n / 1000000000 = 0 by omega, pcs_zero])
      rw [e]
      have : n < 1000000000 := by omega
      rw [Nat.mod_eq_of_lt this]; exact hn
/-- digits as bytes, high one first -/
def asc (l : List Nat) : List UInt8 := l.reverse.map fun d => UInt8.ofNat (48 + d)
theorem asc_append (l m : List Nat) : asc (l ++ m) = asc m ++ asc l := by simp [asc]
theorem lowD_last (n : Nat) : ∀ h : lowD n ≠ [], 0 < (lowD n).getLast h := by
  induction n using Nat.strongRecOn with
  | _ n ih =>
    intro h
    have hn : 0 < n := by
      rcases Nat.eq_zero_or_pos n with rfl | h'
      · exact absurd lowD_zero h
      · exact h'
    by_cases h2 : 0 < n / 10
    · have h3 := ih (n / 10) (by omega) (lowD_ne h2)
      have e : (lowD n).getLast h = (lowD (n / 10)).getLast (lowD_ne h2) := by
        have : ∀ l (hl : l ≠ []), l = n % 10 :: lowD (n / 10) → l.getLast hl = (lowD (n / 10)).getLast (lowD_ne h2) := by
          intro l hl el; subst el; exact List.getLast_cons (lowD_ne h2)
        exact this _ h (lowD_pos hn)
      rw [e]; exact h3
    · have e : (lowD n).getLast h = n % 10 := by
        have : ∀ l (hl : l ≠ []), l = [n % 10] → l.getLast hl = n % 10 := by
          intro l hl el; subst el; rfl
        exact this _ h (by rw [lowD_pos hn, show n / 10 = 0 by omega, lowD_zero])
      rw [e]; omega
/-- a number's text -/
def natTxt (n : Nat) : List UInt8 := if n = 0 then [48] else asc (lowD n)
def intTxt (z : Int) : List UInt8 := (if z < 0 then [45] else []) ++ natTxt z.natAbs
/-- the highest piece, its noughts ahead struck -/
theorem asc_pad_top {p : Nat} (h0 : 0 < p) (h : p < 1000000000) : (asc (padD 9 p)).dropWhile (· == 48) = asc (lowD p) := by
  obtain ⟨e, _⟩ := padD_low 9 p h
  rw [e, asc_append]
  have hz : asc (List.replicate (9 - (lowD p).length) 0) = List.replicate (9 - (lowD p).length) 48 := by simp [asc]
  rw [hz]
  have hd : ∀ (n : Nat) (l : List UInt8), (List.replicate n 48 ++ l).dropWhile (· == 48) = l.dropWhile (· == 48) := by
    intro n l
    induction n with
    | zero => rfl
    | succ n ih => rw [List.replicate_succ, List.cons_append, List.dropWhile_cons]; simp [ih]
  rw [hd]
  have hne := lowD_ne h0
  have hl := lowD_last p hne
  have hlt := lowD_lt p _ (List.getLast_mem hne)
  have e2 : asc (lowD p) = UInt8.ofNat (48 + (lowD p).getLast hne) :: asc (lowD p).dropLast := by
    conv => lhs; rw [← List.dropLast_concat_getLast hne]
    rw [asc_append]; rfl
  have h3 : (UInt8.ofNat (48 + (lowD p).getLast hne) == 48) = false := by
    rw [beq_eq_false_iff_ne]
    intro h
    have := congrArg UInt8.toNat h
    rw [UInt8.toNat_ofNat'] at this
    have h48 : (48 : UInt8).toNat = 48 := rfl
    rw [h48] at this
    omega
  rw [e2, List.dropWhile_cons, if_neg]
  intro h
  have h4 : (UInt8.ofNat (48 + (lowD p).getLast hne) == 48) = true := h
  rw [h3] at h4; cases h4
/-- the pieces from the i-th on -/
theorem lowP_cons {p : Nat} {l : List Nat} (h : l ≠ []) : lowP (p :: l) = padD 9 p ++ lowP l := by
  cases l with
  | nil => exact absurd rfl h
  | cons q l => rfl
theorem asc_len (l : List Nat) : (asc l).length = l.length := by simp [asc]
end Go.Proofs.YthlphfjmdgcpdaaGreatDoor.Num

/- Ranges over functions, in the plain walk: a law in the wide fence, and what its users need. -/
namespace Go.Proofs.YthlphfjmdgcpdaaGreatDoor
open Go.ChangeShapes Go.WideShapes Go.ChangeAt Go.RowKit
set_option linter.unusedVariables false

theorem calls_of_wp_marks {P : Program} {f : FuncId} {fn : Func} {c : Code} {args : Array Value} {w : World} {R : Ending → World → Prop}
    (hf : P.funcs[f]? = some fn) (hb : fn.body = some c)
    (h : c.wp P (bodyPostM Fence.wide 9 P fn R) { tmps := args ++ Array.replicate (fn.ntmps - args.size) undef, defers := [] } w) : Calls P f args w R :=
  callsIn_wide.1 (callsIn_of_wp_marks (F := Fence.wide) (n := 9) hf hb trivial (wpIn_wide.2 h) rfl)
theorem roundIn_wide {n m : Nat} {P : Program} {l : Nat} {f : FuncId} {tmps : Array Value} {assign body : Code} {w : World} {R : Ending → World → Prop} (h : RoundIn Fence.wide n P l f tmps assign body w R) : RoundIn Fence.wide m P l f tmps assign body w R :=
  ⟨h.1, fun c cs _ => h.2 c cs (room_wide _)⟩
theorem yieldAt_wide {n m : Nat} {P : Program} {l : Nat} {args : Array Value} {W : World} {R : Ending → World → Prop} (h : YieldAt Fence.wide n P l args W R) : YieldAt Fence.wide m P l args W R := by
  obtain ⟨fn, tmps, assign, body, hy, hR⟩ := h
  exact ⟨fn, tmps, assign, body, hy, roundIn_wide hR⟩

/-- every row of cells lies as it lay; below B everything -/
structure Soft (B : Nat) (W W' : World) : Prop where
  below : Below B W W'
  cells : ∀ (k : Nat) (o : Obj), W.heap[k]? = some o → o.isCells = true → W'.heap[k]? = some o
theorem soft_of_grown {B : Nat} {W W' : World} {row : Option Nat} (hB : B ≤ W.heap.size) (hg : W.grownBy W' row) (hr : ∀ r, row = some r → B ≤ r ∧ ∃ o : Obj, W.heap[r]? = some o ∧ o.isCells = false) : Soft B W W' := by
  refine ⟨(Below.refl B W).grown hg hB (fun k e => (hr k e).1), fun k o hk ho => ?_⟩
  refine (hg.block k (Array.getElem?_eq_some_iff.1 hk).1 (fun e => ?_)).trans hk
  obtain ⟨_, o', ho', hc⟩ := hr k e.symm
  rw [hk] at ho'; cases ho'; rw [ho] at hc; cases hc
theorem Soft.block {B : Nat} {W W' : World} (h : Soft B W W') {p : Addr} {v : Value} (hv : W.cell? p = some v) : W'.heap[p.block]? = W.heap[p.block]? := by
  unfold World.cell? at hv
  split at hv
  · rename_i c t f e
    rw [e]; exact h.cells _ _ e rfl
  · cases hv
theorem Soft.cell {B : Nat} {W W' : World} (h : Soft B W W') {p : Addr} {v : Value} (hv : W.cell? p = some v) : W'.cell? p = some v :=
  (World.cell?_of_block (h.block hv)).trans hv
theorem Soft.frozen {B : Nat} {W W' : World} (h : Soft B W W') {p : Addr} {v : Value} (hv : W.cell? p = some v) (hf : W.frozen? p = false) : W'.frozen? p = false :=
  (World.frozen?_of_block (h.block hv)).trans hf

/-! what a round's body keeps -/
/-- THE LAW: an iterator that tells the list L, or is left; the loop's variable may be boxed (Ax). -/
theorem wp_rangeK {P : Program} {α : Type} {g : Operand} {ps : Array Tmp} {assign body : Code} {Q : Exit → Act → World → Prop} {a : Act} {w : World}
    {gf : Nat} {lb : Array Value} (hg : a.eval g = .func (.func gf) #[] lb) (eg : ∀ args w, (callFunc gf args).run P w = .ok (.enter gf args) w)
    {encs : α → Array Value} {L : List α} {N : Nat} {Kp : World → World → Prop} {w0 : World} (hseq : SeqStopsK Fence.wide 8 P gf lb encs Kp (· = L) (· <+: L) N w0)
    (hKt : ∀ {A B C : World}, Kp A B → Kp B C → Kp A C) (hKb : ∀ (W : World) (l : Nat) (o o' : Obj), w.heap.size ≤ l → W.heap[l]? = some o → o.isCells = false → o.isWalk = false → Kp W (W.putObj l o'))
    (hb0 : Below w0.heap.size w0 w) (hps : ∀ x, (encs x).size = ps.size)
    (I : List α → World → Prop) (Ix : Code → List α → World → Prop) (hI : ∀ pre W W', I pre W → Soft w.heap.size W W' → I pre W') (hIx : ∀ c pre W W', Ix c pre W → Soft w.heap.size W W' → Ix c pre W')
    (hsz : ∀ pre W, I pre W → w.heap.size ≤ W.heap.size) (hszx : ∀ c pre W, Ix c pre W → w.heap.size ≤ W.heap.size) (h0 : I [] w)
    (Ax : Array Value → α → Act → World → Prop) (hAx : ∀ x a' W W', Ax a.tmps x a' W → Soft w.heap.size W W' → Ax a.tmps x a' W') (hAsz : ∀ x a' W, Ax a.tmps x a' W → w.heap.size ≤ W.heap.size)
    (hassign : ∀ (l : Nat) (pre : List α) (x : α) (W : World) (K : Act → World → Prop), I pre W → (∀ a' W', KeepsFrom w.heap.size W W' → Kp W W' → I pre W' → Ax a.tmps x a' W' → K a' W') →
      assign.wpIn (Fence.wide.inRound l) 7 P (Exit.then K (fun _ _ _ => False)) { tmps := (ps.zip (encs x)).foldl (fun t (p, v) => t.setIfInBounds p v) a.tmps, defers := [] } W)
    (hbody : ∀ (l : Nat) (pre : List α) (x : α) (a' : Act) (W : World), I pre W → Ax a.tmps x a' W → pre.length < N → body.wpIn (Fence.wide.inRound l) 7 P (ownPostG w.heap.size Kp I Ix (pre ++ [x]) W) a' W)
    (hdone : ∀ (D : Nat) (W : World), w.heap.size ≤ D → I L W → W.heap[D]? = some (.deferred (some [])) → Q .normal { a with defers := { target := .collected D, args := #[] } :: a.defers } W)
    (hstop : ∀ (D : Nat) (c : Code) (pre : List α) (W : World), w.heap.size ≤ D → pre <+: L → Ix c pre W → W.heap[D]? = some (.deferred (some [])) → c.wp P Q { a with defers := { target := .collected D, args := #[] } :: a.defers } W) :
    (Code.rangeFunc g ps assign body).wp P Q a w := by
  refine (wpIn_wide (n := 9)).1 ?_
  refine wpIn_rangeFunc_ownH (F := Fence.wide) rfl (by omega) hg trivial eg hseq hKt hKb hb0 hps I Ix ?_ ?_ h0 (Ax a.tmps) ?_ hassign
    (fun l pre x a' W _ _ hi hax hl => hbody l pre x a' W hi hax hl) (fun D xs W hD hx hi hk => by subst hx; exact hdone D W hD hi hk) (fun D c pre W hD hp hi hk => wpIn_wide.2 (hstop D c pre W hD hp hi hk))
  · intro pre W W' row hi hg' hr
    exact hI pre W W' hi (soft_of_grown (hsz _ _ hi) hg' hr)
  · intro c pre W W' row hi hg' hr
    exact hIx c pre W W' hi (soft_of_grown (hszx _ _ _ hi) hg' hr)
  · intro x a' u W W' row hi hg' hr
    exact hAx x a' W W' hi (soft_of_grown (hAsz _ _ _ hi) hg' hr)

theorem b_put {a W : World} (h : Below a.heap.size a W) {D : Nat} (hD : a.heap.size ≤ D) (o : Obj) : Below a.heap.size a (W.putObj D o) :=
  h.grown (grownBy_putObj' W D o) h.size (fun k e => by cases e; exact hD)

/-! ### A region that draws its order, in a round: one walk in the text's order -/
section
variable {P : Program} {ops : Array Oper} {C : World → Prop} {l n : Nat}
end
end Go.Proofs.YthlphfjmdgcpdaaGreatDoor

/- math/bits.TrailingZeros32, limb: Twos. -/
namespace Go.Proofs.YthlphfjmdgcpdaaGreatDoor
open Num
open Go.ChangeShapes Go.WideShapes Go.ChangeAt Go.RowKit
set_option linter.unusedVariables false
set_option linter.unusedSimpArgs false

namespace Num
end Num

end Go.Proofs.YthlphfjmdgcpdaaGreatDoor

/- The reference's numbers: Power. -/
namespace Go.Proofs.YthlphfjmdgcpdaaGreatDoor
open Num
open Go.ChangeShapes Go.WideShapes Go.ChangeAt Go.RowKit
set_option linter.unusedVariables false
set_option linter.unusedSimpArgs false
end Go.Proofs.YthlphfjmdgcpdaaGreatDoor

/- Ranges over functions whose told values lie in memory: what is told is known to be right where it is told. -/
namespace Go.Proofs.YthlphfjmdgcpdaaGreatDoor
open Go.ChangeShapes Go.WideShapes Go.ChangeAt Go.RowKit
set_option linter.unusedVariables false
set_option linter.unusedSimpArgs false
/-- blocks outside X lie as they lay; those of X are of the types that they were of -/
def OutT (X : Nat → Prop) (a b : World) : Prop := Out X a b ∧ ∀ q, X q → q < a.heap.size → typOf b q = typOf a q
end Go.Proofs.YthlphfjmdgcpdaaGreatDoor

/- The reference's numbers: norm, with the world that it leaves. -/
namespace Go.Proofs.YthlphfjmdgcpdaaGreatDoor
open Num
open Go.ChangeShapes Go.WideShapes Go.ChangeAt Go.RowKit
set_option linter.unusedVariables false
set_option linter.unusedSimpArgs false
end Go.Proofs.YthlphfjmdgcpdaaGreatDoor

