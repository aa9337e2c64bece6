/- Texts of this seat, laid together: RefK, RefL, VwA, VwE, VwB, EwA, EwB, RefM, RefP, IntK, ExA, VmF. Each opens with its own remark, which says what it proves, and under which conditions. -/
import Derived.Test.YtannhpadoooedaaGreatDoorQ06
import Derived.Test.YtannhpadoooedaaGreatDoorQ03
import Derived.Test.YtannhpadoooedaaGreatDoorQ02
import Derived.Deep.DeepFit
import Derived.Deep.RegionLaw
import Derived.Deep.DrawnRows
import Derived.Test.YtannhpadoooedaaGreatDoorQ05
import Derived.Test.YtannhpadoooedaaGreatDoorQ04
import Derived.Deep.DeepCutAuto
import Derived.Deep.Cut
set_option linter.unusedVariables false
set_option linter.unusedSimpArgs false
/- The reference's numbers: divide by more than one digit; divide. -/
namespace Go.Proofs.YtannhpadoooedaaGreatDoor
open Num
open Go.ChangeShapes Go.WideShapes Go.ChangeAt Go.RowKit
set_option linter.unusedVariables false
set_option linter.unusedSimpArgs false

set_option maxRecDepth 100000 in
set_option maxHeartbeats 8000000 in
theorem rdivL_c (a b : Option Addr) (ca cb : Nat) (A B : List Nat) (w : World) (ha : U32 w a ca A) (hb : U32 w b cb B) (hA : NumR.Limbs A) (hB : NumR.Limbs B) (hAn : Nrm A) (hBn : Nrm B) (hB1 : B.length ≠ 1) (hD0 : 0 < NumR.val B) (h1 : A.length ≤ 1073741826) (h2 : B.length ≤ 1073741826) :
    Calls Tryz.prog 132 #[.slice a A.length ca, .slice b B.length cb] w fun e w' => (∃ u v, e = .returned (.tuple #[u, v]) ∧ NewN w' u (NumR.val A / NumR.val B) ∧ NewN w' v (NumR.val A % NumR.val B)) ∧ Below w.heap.size w w' := by
  have hbz : ((B.length : Int) == 1) = false := by rw [beq_eq_false_iff_ne]; omega
  have hmk := mk32 A.length (by omega)
  have bc := fun W (h : Below w.heap.size w W) => rbits_c a ca A W (ha.keep h) hA hAn (by omega)
  have hbits : bitN (NumR.val A) ≤ 16 * A.length := NumR.bitN_le (by have := NumR.val_lt hA; rwa [NumR.BB_pow] at this)
  have HA2 := Lib.hid (show NumR.val A / 2 ^ bitN (NumR.val A) = 0 from Nat.div_eq_of_lt (NumR.lt_bitN _))
  generalize bitN (NumR.val A) = n at *
  have hfd := fieldD
  have HD0 := Lib.hid hD0
  have hB00 := Below.refl w.heap.size w
  clear hB1 hD0
  go_enter Tryz.func132, Tryz.ntmps132
  go_wp2_with fail
  (with_reducible refine (bc _ (by repeat (first | exact Below.refl _ _ | exact hB00 | refine Below.drew ?_ | refine below_drewN ?_ _ | refine bset ?_ (by simp <;> omega) _ | refine bal ?_ _))).mono ?_)
  rintro e w1 ⟨rfl, rfl⟩
  clear bc hmk
  go_wp2
  go_loopw [10, 11] (fun rv x wr => ∃ (k : Nat) (Q R : List Nat), k ≤ n ∧ x = .int .i64 ((k : Int) - 1) ∧ Blk wr w.heap.size Q ∧ OwnB (w.heap.size + 1) wr rv R ∧ Hid (Q.length = A.length) ∧ NumR.Limbs Q ∧ NumR.Limbs R ∧ Hid (Nrm R) ∧ Hid (∃ q, NumR.val Q = q * 2 ^ k ∧ NumR.val A / 2 ^ k = q * NumR.val B + NumR.val R) ∧ Hid (NumR.val R < NumR.val B) ∧ Below w.heap.size w wr) (fun _ x _ => (intOf x + 1).toNat)
  case atStart => exact ⟨n, List.replicate A.length 0, [], Nat.le_refl _, rfl, blk_new w _, OwnB.nil _ _, Lib.hid (by simp), (fun y hy => by simp at hy; rw [hy.2]; exact NumR.BB_pos), (fun _ h => by cases h), Lib.hid (fun h => absurd rfl h), Lib.hid ⟨0, by rw [NumR.val_zeros]; simp, by rw [HA2.out]; simp [NumR.val]⟩, Lib.hid HD0.out, bal (Below.refl _ _) _⟩
  case round =>
    obtain ⟨k, Q, R, hk, rfl, hQ, hR, hQl, hQL, hRL, hRn, hV, hlt, hBw⟩ := hrel
    cases k with
    | zero =>
      obtain ⟨a9, c9, rfl, hRu⟩ := hR.u32 (limbs_of_r hRL)
      have hu := hQ.u32 (limbs_of_r hQL) (by have := hQl.out; unfold maxLen; omega)
      have nc := fun W (h : Below wr.heap.size wr W) => rnormU (some ⟨w.heap.size, 0, none⟩) Q.length Q W (hu.keep h) hQL
      rw [hQl.out] at nc
      have HD := Lib.hid (show NumR.val A / NumR.val B = NumR.val Q ∧ NumR.val A % NumR.val B = NumR.val R by
        obtain ⟨q, h1, h2⟩ := hV.out
        simp at h1 h2
        have h3 := hlt.out
        rw [h1]
        constructor
        · rw [h2, Nat.add_comm, Nat.add_mul_div_right _ _ HD0.out, Nat.div_eq_of_lt h3, Nat.zero_add]
        · rw [h2, Nat.add_comm, Nat.add_mul_mod_self_right, Nat.mod_eq_of_lt h3])
      clear hu hV hQ hR hQl hlt
      go_wp2_with fail
      (with_reducible refine (nc _ (Below.refl _ _)).mono ?_)
      rintro e w1 ⟨⟨u, rfl, hq⟩, hb1⟩
      have HQ := Lib.hid hq
      obtain ⟨a1, n1, L1, rfl, -⟩ := hq
      clear nc
      go_wp2
      go_ret2
      exact ⟨⟨_, _, rfl, by rw [HD.out.1]; exact HQ.out, ⟨a9, c9, R, rfl, hRu.keep hb1, hRL, hRn.out, HD.out.2.symm⟩⟩, bthen hBw hb1⟩
    | succ j =>
      have tc := fun W (h : Below w.heap.size w W) => rbit_c a ca A j W (ha.keep h) hA (by omega) (by omega)
      have hbt : NumR.val A / 2 ^ j % 2 ≤ 1 := by omega
      obtain ⟨bt, hbte⟩ : ∃ bt, bt = NumR.val A / 2 ^ j % 2 := ⟨_, rfl⟩
      rw [← hbte] at tc hbt
      have HBIT := Lib.hid hbte
      clear hbte
      have HRL := Lib.hid (show R.length ≤ B.length from by
        apply Nat.le_of_not_lt; intro h
        have := NumR.val_lt_of_len hB hRn.out h
        have := hlt.out
        omega)
      have HJ := Lib.hid (show j / 16 < A.length by omega)
      go_wp2_with fail
      (with_reducible refine (tc _ hBw).mono ?_)
      rintro e w2 ⟨rfl, rfl⟩
      clear tc
      obtain ⟨a9, c9, rfl, -⟩ := hR.u32 (limbs_of_r hRL)
      have hbt' : bt < 65536 := by omega
      have hRm : R.length ≤ 1073741826 := by have := HRL.out; omega
      go_wp2
      go_loopw [12, 13] (fun cx x wi => ∃ (i c : Nat) (T : List Nat), i ≤ R.length ∧ x = .int .i64 i ∧ cx = .int .u32 c ∧ c ≤ 1 ∧ Blk wi w.heap.size Q ∧ OwnB (w.heap.size + 1) wi (.slice a9 R.length c9) T ∧ Hid (T.length = R.length) ∧ NumR.Limbs T ∧ Hid (∀ m, i ≤ m → T.getD m 0 = R.getD m 0) ∧ Hid (NumR.val T + c * NumR.BB ^ i = (NumR.val R + bt) + NumR.val (R.take i)) ∧ Below w.heap.size w wi) (fun _ x _ => R.length - (intOf x).toNat)
      case atStart => exact ⟨0, bt, R, Nat.zero_le _, rfl, rfl, hbt, hQ, hR, Lib.hid rfl, hRL, Lib.hid (fun _ _ => rfl), Lib.hid (by simp [NumR.val]), hBw⟩
      case round =>
        rename World => wi
        obtain ⟨i, c, T, hi, rfl, rfl, hc1, hQ2, hR2, hTl, hR2L, hT0, hTV, hBw⟩ := hrel
        by_cases hir : i < R.length
        · have hirz : (i : Int) < (R.length : Int) := by omega
          have hR2' := hR2
          rw [← hTl.out] at hR2'
          rcases hR2'.ex with ⟨h0, hT⟩ | ⟨g, cap, hv, hg, hcap⟩
          · exfalso; have := hTl.out; rw [hT] at this; simp at this; omega
          cases hv
          have q0 := hR2'.cell i (by have := hTl.out; omega)
          have qf := hR2'.frozen i
          have hx := NumR.limb_get hR2L i
          have HS := Lib.hid (fun t ht => NumR.twice_step (R := T) (R0 := R) (i := i) (c := c) (t := t) (V := NumR.val R + bt) (by have := hTl.out; omega) (hT0.out i (Nat.le_refl _)) ht hTV.out)
          rw [← hT0.out i (Nat.le_refl _)] at HS
          generalize T.getD i 0 = x at *
          have hx' : x < 65536 := hx
          have e1 : IntKind.u32.wrap (2 * (x : Int)) = 2 * (x : Int) := by rw [show 2 * (x : Int) = ((2 * x : Nat) : Int) by omega]; exact w32 (by unfold BB; omega)
          have e2 : IntKind.u32.wrap ((c : Int) + 2 * (x : Int)) = (c : Int) + 2 * (x : Int) := by rw [show (c : Int) + 2 * (x : Int) = ((c + 2 * x : Nat) : Int) by omega]; exact w32 (by unfold BB; omega)
          have HS2 := Lib.hid (HS.out (c + 2 * x) rfl)
          have hmB : (c + 2 * x) % NumR.BB < NumR.BB := Nat.mod_lt _ NumR.BB_pos
          have hdB : (c + 2 * x) / NumR.BB ≤ 1 := by unfold NumR.BB; omega
          obtain ⟨lo, hlo⟩ : ∃ lo, lo = (c + 2 * x) % NumR.BB := ⟨_, rfl⟩
          obtain ⟨up, hup⟩ : ∃ up, up = (c + 2 * x) / NumR.BB := ⟨_, rfl⟩
          rw [← hlo] at HS2 hmB
          rw [← hup] at HS2 hdB
          have g1 : ((c : Int) + 2 * (x : Int)) % 65536 = (lo : Int) := by unfold NumR.BB at hlo; omega
          have g2 : ((c : Int) + 2 * (x : Int)) / 65536 = (up : Int) := by unfold NumR.BB at hup; omega
          have g3 : ((c : Int) + 2 * (x : Int)).tmod 65536 = (lo : Int) := by rw [Int.tmod_eq_emod_of_nonneg (by omega)]; exact g1
          have g4 : ((c : Int) + 2 * (x : Int)).tdiv 65536 = (up : Int) := by rw [Int.tdiv_eq_ediv_of_nonneg (by omega)]; exact g2
          have qb := hR2'.set i lo (by have := hTl.out; omega)
          have qq := hQ2.far ⟨g, i, none⟩ (.int .u32 (lo : Int)) (by show w.heap.size ≠ g; omega)
          have ql := NumR.limbs_set hR2L (k := i) hmB
          have bs := bset hBw (p := ⟨g, i, none⟩) (by show w.heap.size ≤ g; omega) (.int .u32 (lo : Int))
          rw [List.length_set, hTl.out] at qb
          clear hlo hup HS hR2 hR2' hQ2
          go_wp2
          refine ⟨⟨i + 1, up, T.set i lo, by omega, by go_num, rfl, hdB, qq, qb, Lib.hid (by simpa using hTl.out), ql, Lib.hid ?_, HS2, bs⟩, by simp [intOf] <;> omega⟩
          intro m hm
          rw [Num.getD_set_ne (by omega)]
          exact hT0.out m (by omega)
        · obtain rfl : i = R.length := by omega
          have HV2 := Lib.hid (show NumR.val T + c * NumR.BB ^ T.length = bt + 2 * NumR.val R by
            have := hTV.out
            rw [List.take_length] at this
            rw [hTl.out]; omega)
          have HLEN := hTl
          clear hTV hT0
          -- behind the doubling: c is what is carried out of T
          rcases (show c = 0 ∨ c = 1 by omega) with rfl | rfl
          · have HV3 := Lib.hid (show NumR.val (T) = bt + 2 * NumR.val R by have := HV2.out; simpa using this)
            have HN3 := Lib.hid (show Nrm (T) from NumR.nrm_of_val hR2L fun hne => by
              have h1 := HLEN.out
              have h2 := NumR.nrm_val_pos hRn.out (by intro e; apply hne; apply List.length_eq_zero_iff.1; rw [h1, e]; rfl)
              rw [HV3.out, h1]; omega)
            have hR3 := hR2
            have hQ3 := hQ2
            have hR3L := hR2L
            clear hR2 hQ2 HV2
            -- the rest, twice and a digit more, lies in .slice a9 R.length c9
            obtain ⟨a3, k3, hv3, hU3⟩ := hR3.u32 (limbs_of_r hR3L)
            have zc := fun W h1 h2 => rsize_c a3 b k3 cb (T) B W h1 h2 hR3L hB HN3.out hBn
            have HV3s := Lib.hid hv3
            rw [← hv3] at zc
            clear hv3
            by_cases hge : NumR.val B ≤ NumR.val (T)
            · have hnl : ¬ NumR.val (T) < NumR.val B := by omega
              have hz : (0 : Int) ≤ cmpN (NumR.val (T)) (NumR.val B) := by have := (cmpN_neg (x := NumR.val (T)) (y := NumR.val B)); rw [decide_eq_false hnl] at this; have := of_decide_eq_false this; omega
              have HMIN := Lib.hid (fun W (h1 : U32 W a3 k3 (T)) h2 => rminus_c a3 b k3 cb (T) B W h1 h2 hR3L hB (by
                apply Nat.le_of_lt_succ
                have := HLEN.out
                have := HRL.out
                simp <;> omega) (by
                apply Nat.le_of_not_lt; intro h
                have := NumR.val_lt_of_len hR3L hBn h
                omega) hge)
              have HSUB := Lib.hid (show ∀ O : List Nat, NumR.val O + NumR.val B = NumR.val (T) → NumR.val (trimL O) = NumR.val (T) - NumR.val B from fun O h => by rw [NumR.val_trim]; omega)
              have HSTEP := Lib.hid (show ∃ q, NumR.val Q = q * 2 ^ (j + 1) ∧ (∃ q', NumR.val Q + 2 ^ j = q' * 2 ^ j ∧ NumR.val A / 2 ^ j = q' * NumR.val B + (NumR.val (T) - NumR.val B)) by
                obtain ⟨q, h1, h2⟩ := hV.out
                obtain ⟨h3, h4⟩ := NumR.bit_take h2 HBIT.out h1
                rw [← HV3.out] at h3
                obtain ⟨h5, h6⟩ := NumR.bit_more h3 hge h4
                exact ⟨q, h1, 2 * q + 1, h6, h5⟩)
              have HLT := Lib.hid (show NumR.val (T) - NumR.val B < NumR.val B by
                have := HV3.out
                have := hlt.out
                omega)
              have HOR := Lib.hid (by
                obtain ⟨q, h1, h2⟩ := hV.out
                exact NumR.or_val (l := Q) (k := j) (Q := q) hQL h1)
              have HMORE := Lib.hid (NumR.set_bit (l := Q) (k := j) (by have := hQl.out; have := HJ.out; omega))
              generalize cmpN (NumR.val (T)) (NumR.val B) = z at *
              clear hge hnl
              go_wp2_with fail
              (with_reducible refine (zc _ hU3 (hb.keep hBw)).mono ?_)
              rintro e w5 ⟨rfl, hb5⟩
              have hR5 := hR3.below hb5
              have hU5 := hU3.keep hb5
              have hQ5 := hQ3.keep hb5
              have hB5 := bthen hBw hb5
              have mc := HMIN.out
              rw [← HV3s.out] at mc
              clear zc hR3 hQ3 hU3
              go_wp2_with fail
              (with_reducible refine (mc _ hU5 (hb.keep hB5)).mono ?_)
              rintro e w6 ⟨v6, rfl, O, hO, hOL, hOl, hOv⟩
              have HOv := Lib.hid hOv
              clear hOv hOl
              obtain ⟨aO, cO, rfl, hOu⟩ := hO.u32 (limbs_of_r hOL)
              have hB6 := bthen hB5 hO.2
              have hQ6 := hQ5.keep hO.2
              have hOB := OwnB.of hO (B := w.heap.size + 1) hQ5.lt
              clear mc hU5 hR5 hQ5 hO
              go_wp2_with fail
              (with_reducible refine (rnormK_c false aO cO O _ hOu).mono ?_)
              rintro e w7 ⟨rfl, hb7⟩
              unfold iv
              have hQ4 := hQ6.keep hb7
              have hB7 := bthen hB6 hb7
              have hRT := (hOB.below hb7).cut' (trim_prefix O)
              have HRT := Lib.hid (And.intro (NumR.trim_limbs hOL) (And.intro (trim_nrm O) (HSUB.out O HOv.out)))
              generalize trimL O = T4 at *
              clear hOB hOu hQ6 HOv hOL
              go_wp2
              -- a binary digit of the quotient is set, in the world w7; the rest is T4
              have q0 := hQ4.cell (j / 16) (by have := hQl.out; have := HJ.out; omega)
              have qf := hQ4.frozen (j / 16)
              have ho := HOR.out
              obtain ⟨jq, hjq⟩ : ∃ jq, jq = j / 16 := ⟨_, rfl⟩
              obtain ⟨jm, hjm⟩ : ∃ jm, jm = j % 16 := ⟨_, rfl⟩
              have g1 : (j : Int) / 16 = (jq : Int) := by omega
              have g1' : (j : Int).tdiv 16 = (jq : Int) := by rw [Int.tdiv_eq_ediv_of_nonneg (by omega)]; exact g1
              have g2 : (j : Int) % 16 = (jm : Int) := by omega
              have g2' : (j : Int).tmod 16 = (jm : Int) := by rw [Int.tmod_eq_emod_of_nonneg (by omega)]; exact g2
              have hjm16 : jm < 16 := by omega
              have hjqz : (jq : Int) < (A.length : Int) := by have := HJ.out; omega
              have qb := hQ4.set (j / 16) (Q.getD (j / 16) 0 + 2 ^ (j % 16))
              have ql := NumR.limbs_set hQL (k := j / 16) ho.2
              rw [← hjq] at q0 qf
              rw [← hjq, ← hjm] at qb ho
              have hpw : 2 ^ jm < 65536 := Nat.lt_of_lt_of_le (Nat.pow_lt_pow_right (by omega) hjm16) (by decide)
              have hvv := HMORE.out
              rw [← hjq, ← hjm] at hvv ql
              have hoB := NumR.limb_get hQL jq
              generalize Q.getD jq 0 = od at *
              obtain ⟨pw, hpw2⟩ : ∃ pw, pw = 2 ^ jm := ⟨_, rfl⟩
              have g3 : (2 : Int) ^ jm = (pw : Int) := by rw [hpw2, Int.natCast_pow]; rfl
              rw [← hpw2] at qb ho hpw hvv ql
              have g4 : bits .or .u32 (od : Int) (pw : Int) = ((od + pw : Nat) : Int) := by rw [u32_or_nat _ _ (by unfold NumR.BB at hoB; omega) (by omega), ho.1]
              have g5 : (pw : Int) % 4294967296 = (pw : Int) := by omega
              have g6 : IntKind.u32.wrap (1 * 2 ^ jm) = (pw : Int) := by rw [Int.one_mul, g3]; exact w32 (by unfold BB; omega)
              generalize od + pw = nd at *
              have HQL2 := Lib.hid ql
              have HVV := Lib.hid hvv
              clear ql hvv
              have HJQ := Lib.hid (And.intro hjq (And.intro hjm hpw2))
              clear hjq hjm hpw2 ho hoB HOR HMORE
              go_region
              have HSQ := Lib.hid (show ∃ q, NumR.val (Q.set jq nd) = q * 2 ^ j ∧ NumR.val A / 2 ^ j = q * NumR.val B + NumR.val T4 by
                obtain ⟨q, h1, q', h2, h3⟩ := HSTEP.out
                exact ⟨q', by rw [HVV.out]; exact h2, by rw [h3, HRT.out.2.2]⟩)
              have hRf := hRT.far (p := ⟨w.heap.size, jq, none⟩) (Nat.lt_succ_self _) (.int .u32 (nd : Int))
              have hBf := bset hB7 (p := ⟨w.heap.size, jq, none⟩) (Nat.le_refl _) (.int .u32 (nd : Int))
              clear q0 qf
              go_wp2
              exact ⟨⟨j, Q.set jq nd, T4, by omega, rfl, qb, hRf, Lib.hid (by simpa using hQl.out), HQL2.out, HRT.out.1, Lib.hid HRT.out.2.1, HSQ, Lib.hid (by rw [HRT.out.2.2]; exact HLT.out), hBf.drew⟩, by simp [intOf] <;> omega⟩
            · have hnl : NumR.val (T) < NumR.val B := by omega
              have hz : ¬ (0 : Int) ≤ cmpN (NumR.val (T)) (NumR.val B) := by have := (cmpN_neg (x := NumR.val (T)) (y := NumR.val B)); rw [decide_eq_true hnl] at this; have := of_decide_eq_true this; omega
              have HLT := Lib.hid (show NumR.val (T) < NumR.val B by omega)
              have HEQ := Lib.hid (show ∃ q, NumR.val Q = q * 2 ^ j ∧ NumR.val A / 2 ^ j = q * NumR.val B + NumR.val (T) by
                obtain ⟨q, h1, h2⟩ := hV.out
                obtain ⟨h3, h4⟩ := NumR.bit_take h2 HBIT.out h1
                exact ⟨2 * q, h4, by rw [h3, HV3.out]⟩)
              generalize cmpN (NumR.val (T)) (NumR.val B) = z at *
              clear hge
              go_wp2_with fail
              (with_reducible refine (zc _ hU3 (hb.keep hBw)).mono ?_)
              rintro e w5 ⟨rfl, hb5⟩
              have hR5 := hR3.below hb5
              have hQ5 := hQ3.keep hb5
              have hB5 := bthen hBw hb5
              clear zc hR3 hQ3 hU3
              go_wp2
              exact ⟨⟨j, Q, T, by omega, rfl, hQ5, hR5, hQl, hQL, hR3L, HN3, HEQ, HLT, hB5⟩, by simp [intOf] <;> omega⟩
          · have HV3 := Lib.hid (show NumR.val (T ++ [1]) = bt + 2 * NumR.val R by rw [NumR.val_snoc]; exact HV2.out)
            have hR3L := NumR.limbs_snoc hR2L (x := 1) (by unfold NumR.BB; omega)
            have HN3 := Lib.hid (show Nrm (T ++ [1]) from fun _ => by simp)
            have hlm : (T).length ≤ 2147483652 := by have := HLEN.out; have := HRL.out; omega
            have hBs : w.heap.size + 1 ≤ (wi).heap.size := hQ2.lt
            have HO2 := Lib.hid hR2.ex
            go_wp2_with (at_builtin; refine appB32 (X := [1]) rfl rfl hR2 hBs rfl rfl ?_ ?_; (simp; omega); intro v3 w3 hR3 ho3; (have hQ3 : Blk w3 w.heap.size Q := ho3.blk hQ2 (fun h => by rcases HO2.out with ⟨h1, _⟩ | ⟨g, cp, h1, h2, _⟩ <;> (rw [show Value.slice a9 R.length c9 = _ from h1] at h; simp [Value.ownBlock] at h) <;> omega)); (have hBw3 : Below w.heap.size w w3 := hBw.trans (ho3.to_below (fun k hk _ h => by rcases HO2.out with ⟨h1, _⟩ | ⟨g, cp, h1, h2, _⟩ <;> (rw [show Value.slice a9 R.length c9 = _ from h1] at h; simp [Value.ownBlock] at h) <;> omega) (by omega))); clear hR2 hQ2 ho3 HV2)
            have hBw := hBw3
            clear hBw3
            -- the rest, twice and a digit more, lies in v3
            obtain ⟨a3, k3, hv3, hU3⟩ := hR3.u32 (limbs_of_r hR3L)
            have zc := fun W h1 h2 => rsize_c a3 b k3 cb (T ++ [1]) B W h1 h2 hR3L hB HN3.out hBn
            have HV3s := Lib.hid hv3
            rw [← hv3] at zc
            clear hv3
            by_cases hge : NumR.val B ≤ NumR.val (T ++ [1])
            · have hnl : ¬ NumR.val (T ++ [1]) < NumR.val B := by omega
              have hz : (0 : Int) ≤ cmpN (NumR.val (T ++ [1])) (NumR.val B) := by have := (cmpN_neg (x := NumR.val (T ++ [1])) (y := NumR.val B)); rw [decide_eq_false hnl] at this; have := of_decide_eq_false this; omega
              have HMIN := Lib.hid (fun W (h1 : U32 W a3 k3 (T ++ [1])) h2 => rminus_c a3 b k3 cb (T ++ [1]) B W h1 h2 hR3L hB (by
                apply Nat.le_of_lt_succ
                have := HLEN.out
                have := HRL.out
                simp <;> omega) (by
                apply Nat.le_of_not_lt; intro h
                have := NumR.val_lt_of_len hR3L hBn h
                omega) hge)
              have HSUB := Lib.hid (show ∀ O : List Nat, NumR.val O + NumR.val B = NumR.val (T ++ [1]) → NumR.val (trimL O) = NumR.val (T ++ [1]) - NumR.val B from fun O h => by rw [NumR.val_trim]; omega)
              have HSTEP := Lib.hid (show ∃ q, NumR.val Q = q * 2 ^ (j + 1) ∧ (∃ q', NumR.val Q + 2 ^ j = q' * 2 ^ j ∧ NumR.val A / 2 ^ j = q' * NumR.val B + (NumR.val (T ++ [1]) - NumR.val B)) by
                obtain ⟨q, h1, h2⟩ := hV.out
                obtain ⟨h3, h4⟩ := NumR.bit_take h2 HBIT.out h1
                rw [← HV3.out] at h3
                obtain ⟨h5, h6⟩ := NumR.bit_more h3 hge h4
                exact ⟨q, h1, 2 * q + 1, h6, h5⟩)
              have HLT := Lib.hid (show NumR.val (T ++ [1]) - NumR.val B < NumR.val B by
                have := HV3.out
                have := hlt.out
                omega)
              have HOR := Lib.hid (by
                obtain ⟨q, h1, h2⟩ := hV.out
                exact NumR.or_val (l := Q) (k := j) (Q := q) hQL h1)
              have HMORE := Lib.hid (NumR.set_bit (l := Q) (k := j) (by have := hQl.out; have := HJ.out; omega))
              generalize cmpN (NumR.val (T ++ [1])) (NumR.val B) = z at *
              clear hge hnl
              go_wp2_with fail
              (with_reducible refine (zc _ hU3 (hb.keep hBw)).mono ?_)
              rintro e w5 ⟨rfl, hb5⟩
              have hR5 := hR3.below hb5
              have hU5 := hU3.keep hb5
              have hQ5 := hQ3.keep hb5
              have hB5 := bthen hBw hb5
              have mc := HMIN.out
              rw [← HV3s.out] at mc
              clear zc hR3 hQ3 hU3
              go_wp2_with fail
              (with_reducible refine (mc _ hU5 (hb.keep hB5)).mono ?_)
              rintro e w6 ⟨v6, rfl, O, hO, hOL, hOl, hOv⟩
              have HOv := Lib.hid hOv
              clear hOv hOl
              obtain ⟨aO, cO, rfl, hOu⟩ := hO.u32 (limbs_of_r hOL)
              have hB6 := bthen hB5 hO.2
              have hQ6 := hQ5.keep hO.2
              have hOB := OwnB.of hO (B := w.heap.size + 1) hQ5.lt
              clear mc hU5 hR5 hQ5 hO
              go_wp2_with fail
              (with_reducible refine (rnormK_c false aO cO O _ hOu).mono ?_)
              rintro e w7 ⟨rfl, hb7⟩
              unfold iv
              have hQ4 := hQ6.keep hb7
              have hB7 := bthen hB6 hb7
              have hRT := (hOB.below hb7).cut' (trim_prefix O)
              have HRT := Lib.hid (And.intro (NumR.trim_limbs hOL) (And.intro (trim_nrm O) (HSUB.out O HOv.out)))
              generalize trimL O = T4 at *
              clear hOB hOu hQ6 HOv hOL
              go_wp2
              -- a binary digit of the quotient is set, in the world w7; the rest is T4
              have q0 := hQ4.cell (j / 16) (by have := hQl.out; have := HJ.out; omega)
              have qf := hQ4.frozen (j / 16)
              have ho := HOR.out
              obtain ⟨jq, hjq⟩ : ∃ jq, jq = j / 16 := ⟨_, rfl⟩
              obtain ⟨jm, hjm⟩ : ∃ jm, jm = j % 16 := ⟨_, rfl⟩
              have g1 : (j : Int) / 16 = (jq : Int) := by omega
              have g1' : (j : Int).tdiv 16 = (jq : Int) := by rw [Int.tdiv_eq_ediv_of_nonneg (by omega)]; exact g1
              have g2 : (j : Int) % 16 = (jm : Int) := by omega
              have g2' : (j : Int).tmod 16 = (jm : Int) := by rw [Int.tmod_eq_emod_of_nonneg (by omega)]; exact g2
              have hjm16 : jm < 16 := by omega
              have hjqz : (jq : Int) < (A.length : Int) := by have := HJ.out; omega
              have qb := hQ4.set (j / 16) (Q.getD (j / 16) 0 + 2 ^ (j % 16))
              have ql := NumR.limbs_set hQL (k := j / 16) ho.2
              rw [← hjq] at q0 qf
              rw [← hjq, ← hjm] at qb ho
              have hpw : 2 ^ jm < 65536 := Nat.lt_of_lt_of_le (Nat.pow_lt_pow_right (by omega) hjm16) (by decide)
              have hvv := HMORE.out
              rw [← hjq, ← hjm] at hvv ql
              have hoB := NumR.limb_get hQL jq
              generalize Q.getD jq 0 = od at *
              obtain ⟨pw, hpw2⟩ : ∃ pw, pw = 2 ^ jm := ⟨_, rfl⟩
              have g3 : (2 : Int) ^ jm = (pw : Int) := by rw [hpw2, Int.natCast_pow]; rfl
              rw [← hpw2] at qb ho hpw hvv ql
              have g4 : bits .or .u32 (od : Int) (pw : Int) = ((od + pw : Nat) : Int) := by rw [u32_or_nat _ _ (by unfold NumR.BB at hoB; omega) (by omega), ho.1]
              have g5 : (pw : Int) % 4294967296 = (pw : Int) := by omega
              have g6 : IntKind.u32.wrap (1 * 2 ^ jm) = (pw : Int) := by rw [Int.one_mul, g3]; exact w32 (by unfold BB; omega)
              generalize od + pw = nd at *
              have HQL2 := Lib.hid ql
              have HVV := Lib.hid hvv
              clear ql hvv
              have HJQ := Lib.hid (And.intro hjq (And.intro hjm hpw2))
              clear hjq hjm hpw2 ho hoB HOR HMORE
              go_region
              have HSQ := Lib.hid (show ∃ q, NumR.val (Q.set jq nd) = q * 2 ^ j ∧ NumR.val A / 2 ^ j = q * NumR.val B + NumR.val T4 by
                obtain ⟨q, h1, q', h2, h3⟩ := HSTEP.out
                exact ⟨q', by rw [HVV.out]; exact h2, by rw [h3, HRT.out.2.2]⟩)
              have hRf := hRT.far (p := ⟨w.heap.size, jq, none⟩) (Nat.lt_succ_self _) (.int .u32 (nd : Int))
              have hBf := bset hB7 (p := ⟨w.heap.size, jq, none⟩) (Nat.le_refl _) (.int .u32 (nd : Int))
              clear q0 qf
              go_wp2
              exact ⟨⟨j, Q.set jq nd, T4, by omega, rfl, qb, hRf, Lib.hid (by simpa using hQl.out), HQL2.out, HRT.out.1, Lib.hid HRT.out.2.1, HSQ, Lib.hid (by rw [HRT.out.2.2]; exact HLT.out), hBf.drew⟩, by simp [intOf] <;> omega⟩
            · have hnl : NumR.val (T ++ [1]) < NumR.val B := by omega
              have hz : ¬ (0 : Int) ≤ cmpN (NumR.val (T ++ [1])) (NumR.val B) := by have := (cmpN_neg (x := NumR.val (T ++ [1])) (y := NumR.val B)); rw [decide_eq_true hnl] at this; have := of_decide_eq_true this; omega
              have HLT := Lib.hid (show NumR.val (T ++ [1]) < NumR.val B by omega)
              have HEQ := Lib.hid (show ∃ q, NumR.val Q = q * 2 ^ j ∧ NumR.val A / 2 ^ j = q * NumR.val B + NumR.val (T ++ [1]) by
                obtain ⟨q, h1, h2⟩ := hV.out
                obtain ⟨h3, h4⟩ := NumR.bit_take h2 HBIT.out h1
                exact ⟨2 * q, h4, by rw [h3, HV3.out]⟩)
              generalize cmpN (NumR.val (T ++ [1])) (NumR.val B) = z at *
              clear hge
              go_wp2_with fail
              (with_reducible refine (zc _ hU3 (hb.keep hBw)).mono ?_)
              rintro e w5 ⟨rfl, hb5⟩
              have hR5 := hR3.below hb5
              have hQ5 := hQ3.keep hb5
              have hB5 := bthen hBw hb5
              clear zc hR3 hQ3 hU3
              go_wp2
              exact ⟨⟨j, Q, T ++ [1], by omega, rfl, hQ5, hR5, hQl, hQL, hR3L, HN3, HEQ, HLT, hB5⟩, by simp [intOf] <;> omega⟩
end Go.Proofs.YtannhpadoooedaaGreatDoor

/- The reference's numbers: divide. -/
namespace Go.Proofs.YtannhpadoooedaaGreatDoor
open Num
open Go.ChangeShapes Go.WideShapes Go.ChangeAt Go.RowKit
set_option linter.unusedVariables false
set_option linter.unusedSimpArgs false
theorem rdivide_c (a b : Option Addr) (ca cb : Nat) (A B : List Nat) (w : World) (ha : U32 w a ca A) (hb : U32 w b cb B) (hA : NumR.Limbs A) (hB : NumR.Limbs B) (hAn : Nrm A) (hBn : Nrm B) (hD0 : 0 < NumR.val B) (h1 : A.length ≤ 1073741826) (h2 : B.length ≤ 1073741826) :
    Calls Tryz.prog 132 #[.slice a A.length ca, .slice b B.length cb] w fun e w' => (∃ u v, e = .returned (.tuple #[u, v]) ∧ NewN w' u (NumR.val A / NumR.val B) ∧ NewN w' v (NumR.val A % NumR.val B)) ∧ Below w.heap.size w w' := by
  by_cases h : B.length = 1
  · obtain ⟨c, rfl⟩ := List.length_eq_one_iff.1 h
    have e : NumR.val [c] = c := by simp [NumR.val]
    rw [e] at *
    exact rdiv1_c a b ca cb A c w ha hb hA (hB c (by simp)) hD0 (by omega)
  · exact rdivL_c a b ca cb A B w ha hb hA hB hAn hBn h hD0 h1 h2

end Go.Proofs.YtannhpadoooedaaGreatDoor

/- vm's laws: the numbers that come in, as the program's blocks and as the reference's. -/
namespace Go.Proofs.YtannhpadoooedaaGreatDoor
open Num
open Go.ChangeShapes Go.WideShapes Go.ChangeAt Go.RowKit
set_option linter.unusedVariables false
set_option linter.unusedSimpArgs false
/-- fits in an int64 -/
def I64 (x : Int) : Prop := -9223372036854775808 ≤ x ∧ x ≤ 9223372036854775807
/-- a list of ints that came in -/
def RowI (w : World) (v : Value) (l : List Int) : Prop := ∃ a c, v = .slice a l.length c ∧ ∀ k, k < l.length → ∃ b off, a = some ⟨b, off, none⟩ ∧ w.cell? ⟨b, off + k, none⟩ = some (.int .i64 (l.getD k 0)) ∧ I64 (l.getD k 0)
theorem RowI.keep {w w' : World} {v : Value} {l : List Int} (h : RowI w v l) (hb : Below w.heap.size w w') : RowI w' v l := by
  obtain ⟨a, c, h1, h2⟩ := h
  exact ⟨a, c, h1, fun k hk => by obtain ⟨b, off, h3, h4, h5⟩ := h2 k hk; exact ⟨b, off, h3, bkeep hb h4, h5⟩⟩
/-- a list of such lists -/
def GridI (w : World) (v : Value) (g : Grid) : Prop := ∃ a c, v = .slice a g.length c ∧ ∀ k, k < g.length → ∃ b off u, a = some ⟨b, off, none⟩ ∧ w.cell? ⟨b, off + k, none⟩ = some u ∧ RowI w u (g.getD k [])
theorem GridI.keep {w w' : World} {v : Value} {g : Grid} (h : GridI w v g) (hb : Below w.heap.size w w') : GridI w' v g := by
  obtain ⟨a, c, h1, h2⟩ := h
  exact ⟨a, c, h1, fun k hk => by obtain ⟨b, off, u, h3, h4, h5⟩ := h2 k hk; exact ⟨b, off, u, h3, bkeep hb h4, h5.keep hb⟩⟩
/-- how many numbers there are in a grid -/
def sumG (g : Grid) : Nat := (g.map List.length).sum
theorem sumG_le {g : Grid} {k : Nat} (hk : k < g.length) : (g.getD k []).length ≤ sumG g := by
  induction g generalizing k with
  | nil => simp at hk
  | cons a g ih =>
    cases k with
    | zero => simp [sumG]
    | succ k => have := ih (k := k) (by simpa using hk); simp [sumG] at this ⊢; omega
theorem take_getD {α : Type} {l : List α} {k : Nat} (d : α) (h : k < l.length) : l.take (k + 1) = l.take k ++ [l.getD k d] := by
  rw [List.take_succ_eq_append_getElem h]; simp [h]
theorem OwnF.congr' {R : World → Value → Int → Prop} {E : TypeId} {w0 wr : World} {v : Value} {n : Nat} {f f' : Nat → Int} (h : OwnF R E w0 wr v n f) (he : ∀ k, k < n → f k = f' k) : OwnF R E w0 wr v n f' := by
  obtain ⟨xs, h1, h2⟩ := h
  exact ⟨xs, h1, fun k hk => by rw [← he k hk]; exact h2 k hk⟩
theorem OwnF.rebase' {R : World → Value → Int → Prop} {E : TypeId} {w0 w1 wr : World} {v : Value} {n : Nat} {f : Nat → Int} (hb : Below w0.heap.size w0 w1) (h : OwnF R E w1 wr v n f) : OwnF R E w0 wr v n f := by
  obtain ⟨xs, ⟨⟨hl, h1⟩, hB⟩, h2⟩ := h
  refine ⟨xs, ⟨⟨hl, ?_⟩, bthen hb hB⟩, h2⟩
  rcases h1 with h1 | ⟨g, cap, cur, hv, hg, hr⟩
  · exact .inl h1
  · exact .inr ⟨g, cap, cur, hv, Nat.le_trans hb.size hg, hr⟩
theorem snoc_fun (l : List Int) (j : Nat) (hj : j < l.length) : ∀ k, k < j + 1 → (fun i => if i = j then l.getD j 0 else l.getD i 0) k = l.getD k 0 := by
  intro k hk; dsimp only; split
  · subst_vars; rfl
  · rfl
end Go.Proofs.YtannhpadoooedaaGreatDoor

/- vm's laws: long; the document's example. -/
namespace Go.Proofs.YtannhpadoooedaaGreatDoor
open Num
open Go.ChangeShapes Go.WideShapes Go.ChangeAt Go.RowKit
set_option linter.unusedVariables false
set_option linter.unusedSimpArgs false
theorem sum_take {g : Grid} {k : Nat} (hk : k < g.length) : sumG (g.take (k + 1)) = sumG (g.take k) + (g.getD k []).length := by
  rw [take_getD [] hk]; simp [sumG]
end Go.Proofs.YtannhpadoooedaaGreatDoor

/- vm's laws: the numbers that come in, as the reference's blocks. -/
namespace Go.Proofs.YtannhpadoooedaaGreatDoor
open Num
open Go.ChangeShapes Go.WideShapes Go.ChangeAt Go.RowKit
set_option linter.unusedVariables false
set_option linter.unusedSimpArgs false
end Go.Proofs.YtannhpadoooedaaGreatDoor

/- exact's laws: long; numbers that come in as rows of both. -/
namespace Go.Proofs.YtannhpadoooedaaGreatDoor
open Num
open Go.ChangeShapes Go.WideShapes Go.ChangeAt Go.RowKit
set_option linter.unusedVariables false
set_option linter.unusedSimpArgs false
/-- what long finds out where it answers false -/
def ShortE (cn : Nat) (g : Grid) (cl ol : Nat) : Prop := cn + (sumG g + g.length) ≤ 400 ∧ cl ≤ 60 ∧ ol ≤ 128
/-- what long answers -/
def LongE (cn : Nat) (g : Grid) (cl ol : Nat) (w : World) (e : Ending) (w' : World) : Prop := ∃ b, e = .returned (.bool b) ∧ Hid (b = false → ShortE cn g cl ol) ∧ Below w.heap.size w w'
set_option maxRecDepth 100000 in
set_option maxHeartbeats 8000000 in
theorem long10_c (ins regs : Int) (ca oa : Option Addr) (cc ol oc : Nat) (code : List Ins) (v vc : Value) (g : Grid) (cn : Nat) (w : World) (hc : InsV w ca cc code) (hg : GridI w v g) (hl : ∀ k, k < g.length → (g.getD k []).length ≤ 1152921504606846976) (hvc : ∃ a c, vc = .slice a cn c) (hcn : cn ≤ 1152921504606846976) :
    Calls Tryz.prog 11 #[.agg #[.int .i64 ins, .int .i64 regs, .slice ca code.length cc, .slice oa ol oc], v, vc] w (LongE cn g code.length ol w) := by
  obtain ⟨ga, gc, rfl, hv⟩ := hg
  obtain ⟨va, vcp, rfl⟩ := hvc
  have HV := Lib.hid hv
  have HL := Lib.hid hl
  have HC := Lib.hid hc
  clear hv hl hc
  have hB := Below.refl w.heap.size w
  go_enter Tryz.func11, Tryz.ntmps11
  go_wp2
  refine wp_name fun w0 hW0 => ?_
  have p2 : w0.cell? ⟨w.heap.size, 2, none⟩ = some (.slice ca code.length cc) := by rw [hW0]; exact (by first | assumption | exact cell_new (by with_reducible first | rfl | (simp; done) | (simp; omega)) rfl | (repeat (first | assumption | exact cell_new (by with_reducible first | rfl | (simp; done) | (simp; omega)) rfl | refine cell_alloc ?_ _ | refine cell_drew ?_ | refine cell_drewN ?_ _ | refine cell_far ?_ (by simp) _ | (refine cell_far ?_ (by simp <;> omega) _))) | simp [go_sem, *])
  have zp2 := cell_lt p2
  have p3 : w0.cell? ⟨w.heap.size, 3, none⟩ = some (.slice oa ol oc) := by rw [hW0]; exact (by first | assumption | exact cell_new (by with_reducible first | rfl | (simp; done) | (simp; omega)) rfl | (repeat (first | assumption | exact cell_new (by with_reducible first | rfl | (simp; done) | (simp; omega)) rfl | refine cell_alloc ?_ _ | refine cell_drew ?_ | refine cell_drewN ?_ _ | refine cell_far ?_ (by simp) _ | (refine cell_far ?_ (by simp <;> omega) _))) | simp [go_sem, *])
  have hB : Below w.heap.size w w0 := by rw [hW0]; repeat (first | exact Below.refl _ _ | exact hB | refine Below.drew ?_ | refine below_drewN ?_ _ | refine bset ?_ (by simp <;> omega) _ | refine bal ?_ _)
  have hz : w.heap.size ≤ w0.heap.size := hB.size
  clear hW0
  have hB0 := hB
  go_loop [7, 8] (fun n x => ∃ k m : Nat, k ≤ g.length ∧ x = .int .i64 k ∧ n = .int .i64 m ∧ m ≤ 1152921504606846976 ∧ Hid (m = cn + (sumG (g.take k) + k)) ∧ Hid (0 < k → m ≤ 400)) (fun _ x => g.length - (intOf x).toNat)
  case atStart => exact ⟨0, cn, Nat.zero_le _, rfl, rfl, hcn, Lib.hid (by simp [sumG]), Lib.hid fun h => by omega⟩
  case round =>
    obtain ⟨k, m, hk, rfl, rfl, hm, HM, H4⟩ := hrel
    have hk2 : k ≤ 1152921504606846976 := by have := HM.out; omega
    by_cases hlt : k < g.length
    · have hltI : (k : Int) < (g.length : Int) := by omega
      obtain ⟨gb, go, u, rfl, hu, hrow⟩ := HV.out k hlt
      obtain ⟨ra, rc, rfl, hr⟩ := hrow
      have hu2 := bkeep hB hu
      have hll := HL.out k hlt
      have hs := sum_take hlt
      obtain ⟨l, hl⟩ : ∃ l, (g.getD k []).length = l := ⟨_, rfl⟩
      rw [hl] at hs hu2 hll
      have HS := Lib.hid (show m + (1 + l) = cn + (sumG (g.take (k + 1)) + (k + 1)) by have := HM.out; omega)
      clear hu hr hl hs
      by_cases h4 : 400 < m + (1 + l)
      · have h4I : (400 : Int) < (m : Int) + (1 + (l : Int)) := by omega
        go_wp2
        go_ret
        exact ⟨_, rfl, Lib.hid (fun h => by cases h), hB⟩
      · have h4I : ¬ (400 : Int) < (m : Int) + (1 + (l : Int)) := by omega
        have H5 := Lib.hid (show 0 < k + 1 → m + (1 + l) ≤ 400 from fun _ => by omega)
        go_wp2
        go_round
        case rel => exact ⟨k + 1, m + (1 + l), by omega, by go_num, by go_num, by omega, HS, H5⟩
        case measure => simp [intOf]; omega
    · obtain rfl : k = g.length := by omega
      rw [List.take_length] at HM
      by_cases h6 : 60 < code.length
      · have h6I : (60 : Int) < (code.length : Int) := by omega
        go_wp2
        go_ret
        exact ⟨_, rfl, Lib.hid (fun h => by cases h), hB⟩
      · have h6I : ¬ (60 : Int) < (code.length : Int) := by omega
        by_cases h7 : 128 < ol
        · have h7I : (128 : Int) < (ol : Int) := by omega
          go_wp2
          go_ret
          exact ⟨_, rfl, Lib.hid (fun h => by cases h), hB⟩
        · have h7I : ¬ (128 : Int) < (ol : Int) := by omega
          by_cases h4 : 400 < m
          · have h4I : (400 : Int) < (m : Int) := by omega
            go_wp2
            go_ret
            exact ⟨_, rfl, Lib.hid (fun h => by cases h), hB⟩
          · have h4I : ¬ (400 : Int) < (m : Int) := by omega
            have HSH := Lib.hid (show ShortE cn g code.length ol from ⟨by have := HM.out; omega, by omega, by omega⟩)
            clear H4 HM
            go_wp2
            go_loop [9, 10] (fun s x => ∃ j q : Nat, j ≤ code.length ∧ x = .int .i64 j ∧ s = .int .i64 q ∧ q ≤ j) (fun _ x => code.length - (intOf x).toNat)
            case atStart => exact ⟨0, 0, Nat.zero_le _, rfl, rfl, by omega⟩
            case round =>
              obtain ⟨j, q, hj, rfl, rfl, hq⟩ := hrel
              by_cases hlt2 : j < code.length
              · have hltJ : (j : Int) < (code.length : Int) := by omega
                rcases HC.out with h0 | ⟨cb, co, rfl, hcap, hcell⟩
                · rw [h0] at hlt2; simp at hlt2
                have q0 := bkeep hB (hcell j hlt2).c0
                clear hcell
                obtain ⟨op, hop⟩ : ∃ op, (code.getD j default).op = op := ⟨_, rfl⟩
                rw [hop] at q0
                clear hop
                by_cases h7 : op = 7
                · subst h7
                  go_wp2
                  go_round
                  case rel => exact ⟨j + 1, q + 1, by omega, by go_num, by go_num, by omega⟩
                  case measure => simp [intOf]; omega
                · have h7I : (op == 7) = false := by simpa using h7
                  clear h7
                  go_wp2
                  go_round
                  case rel => exact ⟨j + 1, q, by omega, by go_num, rfl, by omega⟩
                  case measure => simp [intOf]; omega
              · obtain rfl : j = code.length := by omega
                go_wp2
                go_ret
                exact ⟨_, rfl, Lib.hid (fun _ => HSH.out), hB⟩
end Go.Proofs.YtannhpadoooedaaGreatDoor

/- exact's laws: numbers that come in, as rows of both; grids of both. -/
namespace Go.Proofs.YtannhpadoooedaaGreatDoor
open Num
open Go.ChangeShapes Go.WideShapes Go.ChangeAt Go.RowKit
set_option linter.unusedVariables false
set_option linter.unusedSimpArgs false
attribute [local go_sem ↓] Go.wp_at_zero Go.wp_at_succ
theorem infoRw : (Tryz.prog.info? 31).map (fun i => (i.zero, i.size, i.bytes)) = some (some (.slice none 0 0), 1, 24) := by kernel_rfl
theorem elRws : Elt Tryz.prog 41 31 1 24 := Elt.mk' Tryz.underlying41 infoRw rfl (by decide) (by decide)
theorem elRw : Elt Tryz.prog 31 44 2 32 := Elt.mk' Tryz.underlying31 infoRef rfl (by decide) (by decide)
theorem OwnF.kp {R : World → Value → Int → Prop} {E : TypeId} {w0 wr w' : World} {v : Value} {n : Nat} {f : Nat → Int} {S : TypeId → Prop} (hR : Lims R) (h : OwnF R E w0 wr v n f) (k : Kp S wr w') (hs : S 137) (hE : S E) (hb : Below w0.heap.size w0 w') : OwnF R E w0 w' v n f := by
  obtain ⟨xs, ⟨h1, _⟩, h2⟩ := h
  refine ⟨xs, ⟨owns_kp h1 k hE, hb⟩, fun j hj => ?_⟩
  obtain ⟨nb, a, len, c, k1, k2, k3⟩ := h2 j hj
  exact ⟨nb, a, len, c, k1, k2, hR _ _ _ _ k3 (k.lim hs)⟩
theorem OwnF.grown {R : World → Value → Int → Prop} {E : TypeId} {w0 wr w' : World} {v : Value} {n : Nat} {f : Nat → Int} (h : OwnF R E w0 wr v n f) (ho : Out (fun k => v.ownBlock = some k) wr w') : Kp (· ≠ E) wr w' :=
  Kp.out ho (fun q t hq ht hne => by
    obtain ⟨xs, h1, _⟩ := h
    rw [own_typ h1 hq] at ht
    exact hne (Option.some.inj ht).symm)
theorem OwnL.kp {α : Type} {S S' : TypeId → Prop} {T : TypeId} {Pr : World → Value → α → Prop} {w0 wr w' : World} {v : Value} {g : List α} (hP : Prs S Pr) (h : OwnL T Pr w0 wr v g) (k : Kp S' wr w') (hs : ∀ t, S t → S' t) (hT : S' T) (hb : Below w0.heap.size w0 w') : OwnL T Pr w0 w' v g := by
  obtain ⟨xs, ⟨h1, _⟩, h2⟩ := h
  refine ⟨xs, ⟨owns_kp h1 k hT, hb⟩, fun j hj => ?_⟩
  obtain ⟨u, hu, hr⟩ := h2 j hj
  exact ⟨u, hu, hP.kp hr (k.weak hs)⟩
set_option maxRecDepth 100000 in
set_option maxHeartbeats 8000000 in
theorem rows10_c (v : Value) (l : List Int) (w : World) (hr : RowI w v l) (hl : l.length ≤ 400) :
    Calls Tryz.prog 12 #[v] w fun e w' => ∃ va vb, e = .returned (.tuple #[va, vb]) ∧ RowO IsInt 48 w.heap.size w' va l ∧ RowO IsRef 44 w.heap.size w' vb l ∧ Below w.heap.size w w' := by
  obtain ⟨ra, rc, rfl, hr⟩ := hr
  have HR := Lib.hid hr
  clear hr
  have hB := Below.refl w.heap.size w
  go_enter Tryz.func12, Tryz.ntmps12
  go_wp2
  go_loopw [4, 5, 6] (fun va vb x wr => ∃ j : Nat, j ≤ l.length ∧ x = .int .i64 j ∧ Hid (OwnF IsInt 48 w wr va j (fun i => l.getD i 0)) ∧ Hid (OwnF IsRef 44 w wr vb j (fun i => l.getD i 0))) (fun _ _ x _ => l.length - (intOf x).toNat)
  case atStart => exact ⟨0, Nat.zero_le _, rfl, Lib.hid (OwnF.nil _ _ _ hB), Lib.hid (OwnF.nil _ _ _ hB)⟩
  case round =>
    obtain ⟨j, hj, rfl, hF, hG⟩ := hrel
    have hBr := hF.out.bel
    obtain ⟨fa, fc, hfv⟩ : ∃ a c, _ = Value.slice a j c := by obtain ⟨a, c, h, _⟩ := hF.out.view; exact ⟨a, c, h⟩
    subst hfv
    obtain ⟨ga, gc, hgv⟩ : ∃ a c, _ = Value.slice a j c := by obtain ⟨a, c, h, _⟩ := hG.out.view; exact ⟨a, c, h⟩
    subst hgv
    by_cases hlt : j < l.length
    · have hltI : (j : Int) < (l.length : Int) := by omega
      obtain ⟨rb, ro, rfl, hc, hI⟩ := HR.out j hlt
      have zrb := cell_lt hc
      have HCE := Lib.hid hc
      have hc2 := bkeep hBr hc
      have oc := fun W => of_c (l.getD j 0) W hI.1 hI.2
      have rc := fun W => rof_c (l.getD j 0) W hI.1 hI.2
      have HSN := Lib.hid (snoc_fun l j hlt)
      obtain ⟨z, hz⟩ : ∃ z, l.getD j 0 = z := ⟨_, rfl⟩
      rw [hz] at hc2 oc rc HSN HCE
      clear hc hI hz
      go_wp2_with fail
      refine (oc _).mono ?_
      rintro e w5 ⟨⟨v5, rfl, hi5⟩, hb5⟩
      have HF5 := Lib.hid (hF.out.below lims_int hb5)
      have HG5 := Lib.hid (hG.out.below lims_ref hb5)
      have HI5 := Lib.hid hi5
      obtain ⟨n5, a5, c5, l5, rfl, -⟩ := hi5
      unfold iv at *
      clear oc hc2
      go_wp2_with (first
        | (at_builtin; refine app_num elInt (by decide) lims_int (by rfl) (by rfl) HF5.out HI5.out (by rfl) (by rfl) (by omega) ?_; intro v8 w8 hF8 _ ho8; have HF8 := Lib.hid (hF8.congr' HSN.out); have HG8 := Lib.hid (HG5.out.kp lims_ref (HF5.out.grown ho8) (by decide) (by decide) hF8.bel); have hc8 := bkeep hF8.bel HCE.out; obtain ⟨a8, c8, hv8⟩ : ∃ a c, v8 = Value.slice a (j + 1) c := (by obtain ⟨a, c, h, _⟩ := hF8.view; exact ⟨a, c, h⟩); subst hv8; clear hF8 ho8)
        | (go_at_call 55; refine (rc _).mono ?_; rintro e w9 ⟨⟨v9, rfl, hi9⟩, hb9⟩; have HF9 := Lib.hid (HF8.out.below lims_int hb9); have HG9 := Lib.hid (HG8.out.below lims_ref hb9); have HI9 := Lib.hid hi9; obtain ⟨n9, a9, c9, l9, rfl, -⟩ := hi9; unfold iv at *; clear rc hc8)
        | (at_builtin; refine app_num elRw (by decide) lims_ref (by rfl) (by rfl) HG9.out HI9.out (by rfl) (by rfl) (by omega) ?_)
        | fail)
      intro v7 w7 hG7 _ ho7
      have HG7 := Lib.hid (hG7.congr' HSN.out)
      have HF7 := Lib.hid (HF9.out.kp lims_int (HG9.out.grown ho7) (by decide) (by decide) hG7.bel)
      clear hG7 ho7
      go_wp2
      exact ⟨⟨j + 1, by omega, by go_num, HF7, HG7⟩, by simp [intOf]; omega⟩
    · obtain rfl : j = l.length := by omega
      go_wp2
      go_ret2
      exact ⟨_, _, rfl, hF.out.rowO, hG.out.rowO, hBr⟩
/-- rows are of one length -/
def Even (g : Grid) : Prop := ∀ k, k < g.length → (g.getD k []).length = (g.getD 0 []).length
/-- what grids answers -/
def GridsE (g : Grid) (w : World) (e : Ending) (w' : World) : Prop :=
  (∃ a b f, e = .returned (.tuple #[a, b, .bool f]) ∧ (f = true ↔ Even g) ∧ OwnL 29 (RowO IsInt 48 w.heap.size) w w' a g ∧ OwnL 31 (RowO IsRef 44 w.heap.size) w w' b g) ∧ Below w.heap.size w w'
set_option maxRecDepth 100000 in
set_option maxHeartbeats 8000000 in
theorem grids10_c (v : Value) (g : Grid) (w : World) (hg : GridI w v g) (hs : sumG g + g.length ≤ 400) :
    Calls Tryz.prog 43 #[v] w (GridsE g w) := by
  obtain ⟨ga, gc, rfl, hv⟩ := hg
  have HV := Lib.hid hv
  have HS := Lib.hid (fun k (hk : k < g.length) => Nat.le_trans (sumG_le hk) (show sumG g ≤ 400 by omega))
  have hgl : g.length ≤ 400 := by omega
  clear hv hs
  have hB := Below.refl w.heap.size w
  go_enter Tryz.func43, Tryz.ntmps43
  go_wp2
  go_loopw [2, 3, 4, 5] (fun a b f x wr => ∃ k : Nat, k ≤ g.length ∧ x = .int .i64 k ∧ Hid (OwnL 29 (RowO IsInt 48 w.heap.size) w wr a (g.take k)) ∧ Hid (OwnL 31 (RowO IsRef 44 w.heap.size) w wr b (g.take k)) ∧ ∃ q : Bool, f = .bool q ∧ Hid (q = true ↔ ∀ i, i < k → (g.getD i []).length = (g.getD 0 []).length)) (fun _ _ _ x _ => g.length - (intOf x).toNat)
  case atStart => exact ⟨0, Nat.zero_le _, rfl, Lib.hid (OwnL.nil _ _ hB), Lib.hid (OwnL.nil _ _ hB), true, rfl, Lib.hid ⟨fun _ i hi => by omega, fun _ => rfl⟩⟩
  case round =>
    obtain ⟨k, hk, rfl, hO, hQ, q, rfl, HE⟩ := hrel
    have hBr := hO.out.bel
    have hlen : (g.take k).length = k := by rw [List.length_take]; omega
    obtain ⟨va, vc, hvv⟩ := hO.out.ex
    rw [hlen] at hvv
    subst hvv
    obtain ⟨ua, uc, huv⟩ := hQ.out.ex
    rw [hlen] at huv
    subst huv
    have HLEN := Lib.hid hlen
    clear hlen
    by_cases hlt : k < g.length
    · have hltI : (k : Int) < (g.length : Int) := by omega
      obtain ⟨gb, go, u, rfl, hu, hrow⟩ := HV.out k hlt
      obtain ⟨gb', go', u0, he, hu0, hrow0⟩ := HV.out 0 (by omega)
      cases he
      obtain ⟨ra0, rc0, rfl, -⟩ := hrow0
      have hl3 := HS.out k hlt
      have HT := Lib.hid (take_getD [] hlt)
      have h0I : (0 : Int) < (g.length : Int) := by omega
      rw [Nat.add_zero] at hu0
      have hrowR := Lib.hid hrow
      obtain ⟨ra, rc, rfl, -⟩ := hrow
      obtain ⟨m0, hm0⟩ : ∃ m, (g.getD 0 []).length = m := ⟨_, rfl⟩
      obtain ⟨l, hl⟩ : ∃ l, g.getD k [] = l := ⟨_, rfl⟩
      rw [hm0] at hu0 HE
      rw [hl] at hu hl3 HT hrowR
      obtain ⟨lk, hlk⟩ : ∃ n, l.length = n := ⟨_, rfl⟩
      rw [hlk] at hu hrowR
      have HCE := Lib.hid (And.intro hu hu0)
      have HNX := Lib.hid (show (∀ i, i < k + 1 → (g.getD i []).length = m0) ↔ ((∀ i, i < k → (g.getD i []).length = m0) ∧ lk = m0) from
        ⟨fun h => ⟨fun i hi => h i (by omega), by have := h k (by omega); rw [hl, hlk] at this; exact this⟩, fun h i hi => by
          by_cases e : i = k
          · subst e; rw [hl, hlk]; exact h.2
          · exact h.1 i (by omega)⟩)
      have HM0 := Lib.hid hm0
      have hu2 := bkeep hBr hu
      have zgb := cell_lt hu2
      have rx := fun W (h : Below wr.heap.size wr W) => rows10_c (.slice ra lk rc) l W (hrowR.out.keep (bthen hBr h)) hl3
      have hBw := Below.refl wr.heap.size wr
      clear hu hu0 hl hlk hm0
      go_wp2_with fail
      refine (rx _ (by repeat (first | exact Below.refl _ _ | exact hBw | refine Below.drew ?_ | refine below_drewN ?_ _ | refine bset ?_ (by simp <;> omega) _ | refine bal ?_ _))).mono ?_
      rintro e w5 ⟨v5, v6, rfl, hr5, hr6, hb5⟩
      have hB5 : Below wr.heap.size wr w5 := bthen (by repeat (first | exact Below.refl _ _ | exact hBw | refine Below.drew ?_ | refine below_drewN ?_ _ | refine bset ?_ (by simp <;> omega) _ | refine bal ?_ _)) hb5
      have HO5 := Lib.hid (hO.out.below (prs_rowO lims_int _ _) hB5)
      have HQ5 := Lib.hid (hQ.out.below (prs_rowO lims_ref _ _) hB5)
      have HR5 := Lib.hid (hr5.rebase (base' := w.heap.size) (by first | exact hBr.size | (simp; exact hBr.size)))
      have HR6 := Lib.hid (hr6.rebase (base' := w.heap.size) (by first | exact hBr.size | (simp; exact hBr.size)))
      obtain ⟨a5, n5, c5, rfl⟩ : ∃ a n c, v5 = Value.slice a n c := by obtain ⟨a, c, h⟩ := hr5.ex; exact ⟨a, _, c, h⟩
      obtain ⟨a6, n6, c6, rfl⟩ : ∃ a n c, v6 = Value.slice a n c := by obtain ⟨a, c, h⟩ := hr6.ex; exact ⟨a, _, c, h⟩
      clear hr5 hr6 rx hu2
      go_wp2_with (first
        | (at_builtin; refine appL elRow (prs_rowO lims_int _ _) (by decide) (by rfl) (by rfl) (HO5.out.below (prs_rowO lims_int _ _) (bal (Below.refl _ _) _)) (HR5.out.keep lims_int (bal (Below.refl _ _) _)) (by rfl) (by rfl) (cell_new rfl rfl) (by rw [HLEN.out]; omega) (by rw [HLEN.out]; unfold maxLen; omega) ?_; intro v8 w8 hO8 hk8; have hb58 : Below w.heap.size w w8 := hO8.bel; have HQ8 := Lib.hid ((HQ5.out.below (prs_rowO lims_ref _ _) (bal (Below.refl _ _) _)).kp (prs_rowO lims_ref _ _) hk8 (fun t h e => by rcases h with h | h <;> (rw [h] at e; exact absurd e (by decide))) (by decide) hb58); have HR8 := Lib.hid (((HR6.out.keep lims_ref (bal (Below.refl _ _) _)).kp lims_ref hk8 (by decide) (by decide))); rw [← HT.out] at hO8; have HO8 := Lib.hid hO8; obtain ⟨a8, c8, hv8⟩ : ∃ a c, v8 = Value.slice a (k + 1) c := (by obtain ⟨a, c, h⟩ := hO8.ex; exact ⟨a, c, by rw [h, List.length_take]; congr 1; omega⟩); subst hv8; clear hO8 hk8)
        | (at_builtin; refine appL elRws (prs_rowO lims_ref _ _) (by decide) (by rfl) (by rfl) (HQ8.out.below (prs_rowO lims_ref _ _) (bal (Below.refl _ _) _)) (HR8.out.keep lims_ref (bal (Below.refl _ _) _)) (by rfl) (by rfl) (cell_new rfl rfl) (by rw [HLEN.out]; omega) (by rw [HLEN.out]; unfold maxLen; omega) ?_)
        | fail)
      intro v7 w7 hQ7 hk7
      have hB7 : Below w.heap.size w w7 := hQ7.bel
      have HO7 := Lib.hid ((HO8.out.below (prs_rowO lims_int _ _) (bal (Below.refl _ _) _)).kp (prs_rowO lims_int _ _) hk7 (fun t h e => by rcases h with h | h <;> (rw [h] at e; exact absurd e (by decide))) (by decide) hB7)
      rw [← HT.out] at hQ7
      have HQ7 := Lib.hid hQ7
      have c1 := bkeep hB7 HCE.out.1
      have c0 := bkeep hB7 HCE.out.2
      have zg := cell_lt c1
      obtain ⟨a7, c7, hv7⟩ : ∃ a c, v7 = Value.slice a (k + 1) c := by obtain ⟨a, c, h⟩ := hQ7.ex; exact ⟨a, c, by rw [h, List.length_take]; congr 1; omega⟩
      subst hv7
      clear hQ7 hk7
      cases q with
      | false =>
        have HN := Lib.hid (show false = true ↔ ∀ i, i < k + 1 → (g.getD i []).length = m0 from ⟨(fun h => by cases h), fun h => HE.out.2 (HNX.out.1 h).1⟩)
        go_wp2
        go_quiet (fail)
        go_wp2
        refine ⟨⟨k + 1, by omega, by go_num, ?_, ?_, false, rfl, ?_⟩, by simp [intOf]; omega⟩
        · exact Lib.hid (HO7.out.below (prs_rowO lims_int _ _) (below_drewN (Below.refl _ _) _))
        · exact Lib.hid (HQ7.out.below (prs_rowO lims_ref _ _) (below_drewN (Below.refl _ _) _))
        · rw [HM0.out]; exact HN
      | true =>
        by_cases hm : lk = m0
        · have HN := Lib.hid (show true = true ↔ ∀ i, i < k + 1 → (g.getD i []).length = m0 from ⟨(fun h => HNX.out.2 ⟨HE.out.1 rfl, hm⟩), fun _ => rfl⟩)
          have hmI : ((lk : Int) == (m0 : Int)) = true := by rw [hm]; simp
          have hmN : (lk == m0) = true := by rw [hm]; simp
          clear hm
          go_wp2
          go_quiet (fail)
          go_wp2
          refine ⟨⟨k + 1, by omega, by go_num, ?_, ?_, true, rfl, ?_⟩, by simp [intOf]; omega⟩
          · exact Lib.hid (HO7.out.below (prs_rowO lims_int _ _) (below_drewN (Below.refl _ _) _))
          · exact Lib.hid (HQ7.out.below (prs_rowO lims_ref _ _) (below_drewN (Below.refl _ _) _))
          · rw [HM0.out]; exact Lib.hid ⟨fun _ => HN.out.1 (by trivial), fun _ => rfl⟩
        · have HN := Lib.hid (show false = true ↔ ∀ i, i < k + 1 → (g.getD i []).length = m0 from ⟨(fun h => by cases h), fun h => absurd (HNX.out.1 h).2 hm⟩)
          have hmI : ((lk : Int) == (m0 : Int)) = false := by simp; omega
          have hmN : (lk == m0) = false := by simp; exact hm
          clear hm
          go_wp2
          go_quiet (fail)
          go_wp2
          refine ⟨⟨k + 1, by omega, by go_num, ?_, ?_, false, rfl, ?_⟩, by simp [intOf]; omega⟩
          · exact Lib.hid (HO7.out.below (prs_rowO lims_int _ _) (below_drewN (Below.refl _ _) _))
          · exact Lib.hid (HQ7.out.below (prs_rowO lims_ref _ _) (below_drewN (Below.refl _ _) _))
          · rw [HM0.out]; exact HN
    · obtain rfl : k = g.length := by omega
      rw [List.take_length] at hO hQ
      have HEV := Lib.hid (show q = true ↔ Even g from HE.out)
      clear HE
      go_wp2
      go_ret3
      exact ⟨⟨_, _, _, rfl, HEV.out, hO.out, hQ.out⟩, hBr⟩
end Go.Proofs.YtannhpadoooedaaGreatDoor

/- The reference's numbers: Power. -/
namespace Go.Proofs.YtannhpadoooedaaGreatDoor
open Num
open Go.ChangeShapes Go.WideShapes Go.ChangeAt Go.RowKit
set_option linter.unusedVariables false
set_option linter.unusedSimpArgs false
theorem pow_limbs (q m : Nat) (hm : m < 16) : NumR.Limbs ((List.replicate (q + 1) 0).set q (2 ^ m)) ∧ NumR.val ((List.replicate (q + 1) 0).set q (2 ^ m)) = 2 ^ (16 * q + m) := by
  have h2 : 2 ^ m < 65536 := Nat.lt_of_lt_of_le (Nat.pow_lt_pow_right (by omega) hm) (by decide)
  have e : (List.replicate (q + 1) 0).set q (2 ^ m) = List.replicate q 0 ++ [2 ^ m] := by
    rw [List.replicate_succ', List.set_append_right _ _ (by simp)]
    simp
  rw [e]
  refine ⟨fun x hx => ?_, ?_⟩
  · simp only [List.mem_append, List.mem_replicate, List.mem_singleton] at hx
    rcases hx with ⟨_, rfl⟩ | rfl
    · exact NumR.BB_pos
    · exact h2
  · rw [NumR.val_append, NumR.val_zeros]
    simp only [NumR.val, List.length_replicate, Nat.mul_zero, Nat.add_zero, Nat.zero_add]
    rw [Nat.pow_add, Nat.pow_mul]
    rfl
set_option maxRecDepth 100000 in
set_option maxHeartbeats 1000000 in
theorem rpower_c (n : Nat) (w : World) (hn : n ≤ 1048576) :
    Calls Tryz.prog 160 #[.int .i64 (n : Int)] w fun e w' => (∃ v, e = .returned v ∧ IsRef w' v (2 ^ n)) ∧ Below w.heap.size w w' := by
  obtain ⟨q, hq⟩ : ∃ q, q = n / 16 := ⟨_, rfl⟩
  obtain ⟨m, hm⟩ : ∃ m, m = n % 16 := ⟨_, rfl⟩
  have hnn : n = 16 * q + m := by omega
  have e1 : (n : Int) / 16 = (q : Int) := by omega
  have e1' : (n : Int).tdiv 16 = (q : Int) := by rw [Int.tdiv_eq_ediv_of_nonneg (by omega)]; exact e1
  have e2 : (n : Int) % 16 = (m : Int) := by omega
  have e2' : (n : Int).tmod 16 = (m : Int) := by rw [Int.tmod_eq_emod_of_nonneg (by omega)]; exact e2
  have hm16 : m < 16 := by omega
  have hqk : q ≤ 65536 := by omega
  have HP := Lib.hid (pow_limbs q m hm16)
  have HN := Lib.hid (show (2 : Int) ^ n = sg false (NumR.val ((List.replicate (q + 1) 0).set q (2 ^ m))) by rw [(pow_limbs q m hm16).2, ← hnn]; simp [sg])
  have hmk := mk32 (q + 1) (by omega)
  have ec : ((q + 1 : Nat) : Int) = (q : Int) + 1 := by omega
  rw [ec] at hmk
  have h2 : 2 ^ m < 65536 := Nat.lt_of_lt_of_le (Nat.pow_lt_pow_right (by omega) hm16) (by decide)
  obtain ⟨y, hy⟩ : ∃ y, y = 2 ^ m := ⟨_, rfl⟩
  rw [← hy] at HP HN h2
  have e3 : (2 : Int) ^ m = (y : Int) := by rw [hy, Int.natCast_pow]; rfl
  have e4 : IntKind.u32.wrap (y : Int) = (y : Int) := w32 (by unfold BB; omega)
  clear hq hm hy ec hnn
  have hs : w.heap.size + 1 = (w.alloc (.cells #[.bool false, .slice none 0 0] 44)).heap.size := by rw [World.size_alloc]
  have hb : Blk ((w.alloc (.cells #[.bool false, .slice none 0 0] 44)).alloc (.cells (cel (List.replicate (q + 1) 0)).toArray 137)) (w.heap.size + 1) (List.replicate (q + 1) 0) := blk_at hs
  have c0 := hb.cell q (by simp)
  have f0 := hb.frozen q
  have hu : U32 ((w.alloc (.cells #[.bool false, .slice none 0 0] 44)).alloc (.cells ((cel (List.replicate (q + 1) 0)).set q (.int .u32 (y : Int))).toArray 137)) (some ⟨w.heap.size + 1, 0, none⟩) (q + 1) ((List.replicate (q + 1) 0).set q y) := by
    have h := (blk_at (l := (List.replicate (q + 1) 0).set q y) hs).u32 (limbs_of_r HP.out.1) (by unfold maxLen; simp; omega)
    rw [List.length_set, List.length_replicate, show cel ((List.replicate (q + 1) 0).set q y) = (cel (List.replicate (q + 1) 0)).set q (.int .u32 (y : Int)) by simp [cel, List.map_set]] at h
    exact h
  have nc := rnorm_c false _ _ _ _ hu HP.out.1
  rw [← HN.out] at nc
  rw [List.length_set, List.length_replicate] at nc
  clear hu
  clear hb hs
  go_enter Tryz.func160, Tryz.ntmps160
  go_wp2_with fail
  refine nc.mono ?_
  rintro e w1 ⟨⟨v, rfl, hi⟩, hb1⟩
  have hB := bthen (bal (bal (Below.refl w.heap.size w) _) _) hb1
  have x0 : w1.cell? ⟨w.heap.size, 0, none⟩ = some (.bool false) := bkc hb1
  have zx0 := cell_lt x0
  have x0f : w1.frozen? ⟨w.heap.size, 0, none⟩ = false := bkcf (v := .bool false) hb1
  have x1 : w1.cell? ⟨w.heap.size, 1, none⟩ = some (.slice none 0 0) := bkc hb1
  have x1f : w1.frozen? ⟨w.heap.size, 1, none⟩ = false := bkcf (v := .slice none 0 0) hb1
  have hB : Below w.heap.size w w1 := bthen (by repeat (first | exact Below.refl _ _ | exact hB | refine Below.drew ?_ | refine below_drewN ?_ _ | refine bset ?_ (by simp <;> omega) _ | refine bal ?_ _)) hb1
  have hz : w.heap.size ≤ w1.heap.size := hB.size
  have HI := Lib.hid (hi.put2 x0 x1)
  obtain ⟨n1, a1, c1, l1, rfl, -⟩ := hi
  unfold iv at *
  clear nc c0 f0
  go_wp2
  refine bodyPost_ret (v := .agg #[.bool n1, .slice a1 l1.length c1]) (by simp [results, Tryz.results160, go_sem, *]) rfl ⟨⟨_, rfl, HI.out _ _⟩, ?_⟩
  repeat (first | exact Below.refl _ _ | exact hB | refine Below.drew ?_ | refine below_drewN ?_ _ | refine bset ?_ (by simp <;> omega) _ | refine bal ?_ _)
end Go.Proofs.YtannhpadoooedaaGreatDoor

/- Plain laws: a quotient and a remainder out of those of the sizes. -/
namespace Go.Proofs.YtannhpadoooedaaGreatDoor
open Num
open Go.ChangeShapes Go.WideShapes Go.ChangeAt Go.RowKit
/-- no remainder, or what is divided is not below 0 -/
theorem dm_low {n1 n2 : Bool} {A B : Nat} (hB : 0 < B) (h : n1 = false ∨ A % B = 0) : sg n1 A / sg n2 B = sg (!(n1 == n2)) (A / B) ∧ sg n1 A % sg n2 B = ((A % B : Nat) : Int) := by
  have hm : (A : Int) % (B : Int) = ((A % B : Nat) : Int) := (Int.natCast_emod A B).symm
  have hd : (A : Int) / (B : Int) = ((A / B : Nat) : Int) := (Int.natCast_ediv A B).symm
  cases n1 with
  | false =>
    cases n2 with
    | false => simp only [sg, Bool.false_eq_true, if_false, beq_self_eq_true, Bool.not_true]; exact ⟨hd, hm⟩
    | true =>
      simp only [sg, Bool.false_eq_true, if_false, if_true, show (!(false == true)) = true from rfl]
      rw [Int.ediv_neg, Int.emod_neg]
      exact ⟨by rw [hd], hm⟩
  | true =>
    have h0 : A % B = 0 := by simpa using h
    have hdv : (B : Int) ∣ (A : Int) := Int.natCast_dvd_natCast.2 (Nat.dvd_of_mod_eq_zero h0)
    have hz : (-(A : Int)) % (B : Int) = 0 := Int.emod_eq_zero_of_dvd (Int.dvd_neg.2 hdv)
    have hq : (-(A : Int)) / (B : Int) = -((A / B : Nat) : Int) := by rw [Int.neg_ediv_of_dvd hdv, hd]
    rw [h0]
    cases n2 with
    | false =>
      simp only [sg, Bool.false_eq_true, if_false, if_true, show (!(true == false)) = true from rfl]
      exact ⟨hq, hz⟩
    | true =>
      simp only [sg, Bool.false_eq_true, if_false, if_true, show (!(true == true)) = false from rfl]
      rw [Int.ediv_neg, Int.emod_neg]
      exact ⟨by rw [hq, Int.neg_neg], hz⟩
/-- a remainder, and what is divided is below 0 -/
theorem dm_high {n2 : Bool} {A B : Nat} (hB : 0 < B) (h : 0 < A % B) : sg true A / sg n2 B = sg (!(true == n2)) (A / B) - (sg n2 B).sign ∧ sg true A % sg n2 B = sg true (A % B) + ((sg n2 B).natAbs : Int) := by
  have e := Nat.div_add_mod A B
  have hl := Nat.mod_lt A hB
  have hs : (B : Int).sign = 1 := Int.sign_eq_one_of_pos (by omega)
  have key : (-(A : Int)) / (B : Int) = -((A / B : Nat) : Int) - 1 ∧ (-(A : Int)) % (B : Int) = (B : Int) - ((A % B : Nat) : Int) := by
    have e2 : -(A : Int) = ((B : Int) - ((A % B : Nat) : Int)) + (B : Int) * (-((A / B : Nat) : Int) - 1) := by
      have : (A : Int) = (B : Int) * ((A / B : Nat) : Int) + ((A % B : Nat) : Int) := by rw [← Int.natCast_mul, ← Int.natCast_add, e]
      rw [Int.mul_sub, Int.mul_neg]; omega
    constructor
    · rw [e2, Int.add_mul_ediv_left _ _ (by omega), Int.ediv_eq_zero_of_lt (by omega) (by omega)]; omega
    · rw [e2, Int.add_mul_emod_self_left, Int.emod_eq_of_lt (by omega) (by omega)]
  cases n2 with
  | false => simp only [sg, if_true, if_false, Bool.false_eq_true]; rw [key.1, key.2]; simp [hs]; omega
  | true => simp only [sg, if_true]; rw [Int.ediv_neg, Int.emod_neg, key.1, key.2]; simp [hs]; omega
/-- a number out of its digits and a sign that stands where there are digits -/
theorem ref_of {w : World} {a : Option Addr} {c : Nat} {l : List Nat} {b s : Bool} (hu : U32 w a c l) (hl : NumR.Limbs l) (hn : Nrm l) (hb : b = (s && decide (0 < l.length))) : IsRef w (.agg #[.bool b, .slice a l.length c]) (sg s (NumR.val l)) := by
  refine ⟨b, a, c, l, rfl, hu, hl, hn, ?_, ?_⟩
  · intro h
    rw [hb] at h
    simp at h
    intro e
    rw [e] at h
    simp at h
  · cases l with
    | nil => cases s <;> cases b <;> simp [sg, NumR.val]
    | cons x t => simp at hb; rw [hb]
end Go.Proofs.YtannhpadoooedaaGreatDoor

/- integer: DivMod, where what divides is not 0. -/
namespace Go.Proofs.YtannhpadoooedaaGreatDoor
open Num
open Go.ChangeShapes Go.WideShapes Go.ChangeAt Go.RowKit
set_option linter.unusedVariables false
set_option linter.unusedSimpArgs false
/-- the sign, by a number's parts -/
def sgI (n : Bool) (k : Nat) : Int := if k = 0 then 0 else if n then -1 else 1
theorem Free.al' {w : World} {g : Nat} (h : Free w g) (o : Obj) : Free (w.alloc o) g := h.keep (bal (Below.refl _ _) _)
theorem Free.dr' {w : World} {g : Nat} (h : Free w g) : Free w.drew g := h
set_option maxRecDepth 100000 in
set_option maxHeartbeats 1000000 in
theorem madeW_c (neg : Bool) (a : Option Addr) (ca : Nat) (l : List Nat) (w : World) :
    Calls Tryz.prog 114 #[.bool neg, .slice a l.length ca] w fun e w' => e = .returned (iv (neg && decide (0 < l.length)) a l.length ca) ∧ w' = w.alloc (.cells #[.bool (neg && decide (0 < l.length)), .slice a l.length ca] 48) := by
  generalize hk : l.length = k
  clear hk
  cases neg with
  | false =>
    go_enter Tryz.func114, Tryz.ntmps114
    go_wp2
    refine bodyPost_ret (v := iv false a k ca) (by simp [iv, results, Tryz.results114, go_sem, *]) rfl ⟨rfl, by simp⟩
  | true =>
    by_cases hk : 0 < k
    · have e : (0 : Int) < (k : Int) := by omega
      go_enter Tryz.func114, Tryz.ntmps114
      go_wp2
      refine bodyPost_ret (v := iv true a k ca) (by simp [iv, results, Tryz.results114, go_sem, *]) rfl ⟨by simp [hk], by simp [hk]⟩
    · obtain rfl : k = 0 := by omega
      go_enter Tryz.func114, Tryz.ntmps114
      go_wp2
      refine bodyPost_ret (v := iv false a 0 ca) (by simp [iv, results, Tryz.results114, go_sem, *]) rfl ⟨by simp, by simp⟩
/-- a number out of its limbs and a sign that stands where there are limbs -/
theorem int_of {w : World} {a : Option Addr} {c : Nat} {l : List Nat} {b s : Bool} (hu : U32 w a c l) (hn : Nrm l) (hb : b = (s && decide (0 < l.length))) : IsInt w (.agg #[.bool b, .slice a l.length c]) (sg s (val l)) := by
  refine ⟨b, a, c, l, rfl, hu, hn, ?_, ?_⟩
  · intro h
    rw [hb] at h
    simp at h
    intro e
    rw [e] at h
    simp at h
  · cases l with
    | nil => cases s <;> cases b <;> simp [sg, val]
    | cons x t => simp at hb; rw [hb]
theorem isg_sign {n : Bool} {l : List Nat} (hn : Nrm l) (hs : n = true → l ≠ []) : (sg n (val l)).sign = sgI n l.length := by
  unfold sgI
  by_cases h0 : l = []
  · subst h0; cases n <;> simp [sg, val]
  · have h1 := List.length_pos_iff.2 h0
    have h2 : 0 < val l := Nat.pos_of_ne_zero fun e => h0 ((val_nil_iff hn).1 e)
    rw [if_neg (by omega)]
    cases n with
    | true => simp only [sg, if_true]; rw [Int.sign_neg, Int.sign_eq_one_of_pos (by omega)]
    | false => simp only [sg]; exact Int.sign_eq_one_of_pos (by simp; omega)
set_option maxRecDepth 100000 in
set_option maxHeartbeats 2000000 in
theorem divmodV_c (n1 n2 : Bool) (a1 a2 : Option Addr) (c1 c2 : Nat) (l1 l2 : List Nat) (k : Nat) (w : World) (u1 : U32 w a1 c1 l1) (u2 : U32 w a2 c2 l2) (g1 : Nrm l1) (g2 : Nrm l2) (hz : 0 < val l2) (k1 : l1.length ≤ 274877906944) (k2 : l2.length ≤ 274877906944) (b1 : val l1 < 2 ^ k) (b2 : val l2 < 2 ^ k) (hk : k ≤ 17179869184) (h1k : 1 ≤ k) (s1 : n1 = true → l1 ≠ []) (s2 : n2 = true → l2 ≠ []) :
    Calls Tryz.prog 105 #[.agg #[.bool n1, .slice a1 l1.length c1], .agg #[.bool n2, .slice a2 l2.length c2]] w fun e w' => (∃ u v, e = .returned (.tuple #[u, v, .int .i64 0]) ∧ IsInt w' u (sg n1 (val l1) / sg n2 (val l2)) ∧ IsInt w' v (sg n1 (val l1) % sg n2 (val l2))) ∧ Below w.heap.size w w' := by
  have dc := fun w h1 h2 => limbDivMod_c a1 a2 c1 c2 l1 l2 w h1 h2 k1 k2 hz
  have HBD := Lib.hid (And.intro b1 (And.intro b2 (And.intro hk h1k)))
  have hB0 := Below.refl w.heap.size w
  have HK := Lib.hid (And.intro k1 k2)
  have HZ := Lib.hid hz
  have HS := Lib.hid (And.intro s1 s2)
  clear k1 k2 hz s1 s2 b1 b2 hk h1k
  go_enter Tryz.func105, Tryz.ntmps105
  go_wp2_with fail
  refine (dc _ (u1.keep (by repeat (first | exact Below.refl _ _ | exact hB0 | refine Below.drew ?_ | refine below_drewN ?_ _ | refine bset ?_ (by simp <;> omega) _ | refine bal ?_ _))) (u2.keep (by repeat (first | exact Below.refl _ _ | exact hB0 | refine Below.drew ?_ | refine below_drewN ?_ _ | refine bset ?_ (by simp <;> omega) _ | refine bal ?_ _)))).mono ?_
  rintro e w1 ⟨⟨u, v, rfl, hu, hv⟩, hb1⟩
  have x0 : w1.cell? ⟨w.heap.size, 0, none⟩ = some (.bool n1) := bkc hb1
  have zx0 := cell_lt x0
  have x1 : w1.cell? ⟨w.heap.size, 1, none⟩ = some (.slice a1 l1.length c1) := bkc hb1
  have y0 : w1.cell? ⟨w.heap.size + 1, 0, none⟩ = some (.bool n2) := bkc hb1
  have zy0 := cell_lt y0
  have y1 : w1.cell? ⟨w.heap.size + 1, 1, none⟩ = some (.slice a2 l2.length c2) := bkc hb1
  have r0 : w1.cell? ⟨w.heap.size + 2, 0, none⟩ = some (.bool false) := bkc hb1
  have zr0 := cell_lt r0
  have r0f : w1.frozen? ⟨w.heap.size + 2, 0, none⟩ = false := bkcf (v := .bool false) hb1
  have r1 : w1.cell? ⟨w.heap.size + 2, 1, none⟩ = some (.slice none 0 0) := bkc hb1
  have r1f : w1.frozen? ⟨w.heap.size + 2, 1, none⟩ = false := bkcf (v := .slice none 0 0) hb1
  have t0 : w1.cell? ⟨w.heap.size + 3, 0, none⟩ = some (.bool false) := bkc hb1
  have zt0 := cell_lt t0
  have t0f : w1.frozen? ⟨w.heap.size + 3, 0, none⟩ = false := bkcf (v := .bool false) hb1
  have t1 : w1.cell? ⟨w.heap.size + 3, 1, none⟩ = some (.slice none 0 0) := bkc hb1
  have t1f : w1.frozen? ⟨w.heap.size + 3, 1, none⟩ = false := bkcf (v := .slice none 0 0) hb1
  have hB : Below w.heap.size w w1 := bthen (by repeat (first | exact Below.refl _ _ | exact hB | refine Below.drew ?_ | refine below_drewN ?_ _ | refine bset ?_ (by simp <;> omega) _ | refine bal ?_ _)) hb1
  have hz : w.heap.size ≤ w1.heap.size := hB.size
  clear dc
  obtain ⟨aq, cq, Q, rfl, rfl, uq, gq, vq⟩ := hu
  obtain ⟨ar, cr, R, rfl, rfl, ur, gr, vr⟩ := hv
  have nc := fun W => madeW_c (!(n1 == n2)) aq Q.length Q W
  have nd := fun W => madeW_c n1 ar R.length R W
  obtain ⟨b1, hb1'⟩ : ∃ b, b = ((!(n1 == n2)) && decide (0 < Q.length)) := ⟨_, rfl⟩
  obtain ⟨b2, hb2'⟩ : ∃ b, b = (n1 && decide (0 < R.length)) := ⟨_, rfl⟩
  rw [← hb1'] at nc
  rw [← hb2'] at nd
  have HQ := Lib.hid (And.intro uq (And.intro gq (And.intro vq hb1')))
  have HR := Lib.hid (And.intro ur (And.intro gr (And.intro vr hb2')))
  clear uq ur gq gr vq vr hb1' hb2'
  unfold iv at nc nd
  have hs0 := cell_lt x0
  have hs1 : w.heap.size < w1.heap.size + 1 := by omega
  have hs2 : w.heap.size < w1.heap.size + 1 + 1 := by omega
  have hs3 : w.heap.size < w1.heap.size + 1 + 1 + 1 := by omega
  have hv0 := cell_lt y0
  have hv1 : w.heap.size + 1 < w1.heap.size + 1 := by omega
  have hv2 : w.heap.size + 1 < w1.heap.size + 1 + 1 := by omega
  have hv3 : w.heap.size + 1 < w1.heap.size + 1 + 1 + 1 := by omega
  go_upto_region 4 with (fail)
  have hBw := Below.refl w1.heap.size w1
  have HSS := Lib.hid (fun W (h : Below w1.heap.size w1 W) => And.intro (bkeep h x0) (bkeep h y0))
  go_cut [10, 11] (fun p q wx => ∃ g h : Nat, p = .pointer (some ⟨g, 0, none⟩) ∧ q = .pointer (some ⟨h, 0, none⟩) ∧ g ≠ h ∧ w1.heap.size ≤ g ∧ w1.heap.size ≤ h ∧ wx.cell? ⟨g, 0, none⟩ = some (.bool b1) ∧ wx.cell? ⟨g, 1, none⟩ = some (.slice aq Q.length Q.length) ∧ wx.cell? ⟨h, 0, none⟩ = some (.bool b2) ∧ wx.cell? ⟨h, 1, none⟩ = some (.slice ar R.length R.length) ∧ Free wx g ∧ Free wx h ∧ Below w1.heap.size w1 wx)
  case first =>
    go_region_held3 (fun w' => w'.cell? ⟨w.heap.size, 0, none⟩ = some (.bool n1) ∧ w'.cell? ⟨w.heap.size + 1, 0, none⟩ = some (.bool n2))
      (first | (refine HSS.out _ ?_; (repeat (first | exact Below.refl _ _ | exact hBw | refine Below.drew ?_ | refine below_drewN ?_ _ | refine bset ?_ (by simp <;> omega) _ | refine bal ?_ _)); done) | fail)
      (first | (go_at_call 114; (first | (with_reducible refine (nc _).mono ?_) | (with_reducible refine (nd _).mono ?_)); rintro e w5 ⟨rfl, rfl⟩) | fail)
    all_goals
      go_wp2_with fail
      go_meet
      refine ⟨_, _, rfl, rfl, by omega, by omega, by omega, ?_, ?_, ?_, ?_, ?_, ?_, ?_⟩
      · repeat (first | (refine cell_new ?_ rfl; first | (with_reducible rfl) | (simp only [World.size_alloc]; done)) | (with_reducible refine cell_drew ?_) | (with_reducible refine cell_alloc ?_ _))
      · repeat (first | (refine cell_new ?_ rfl; first | (with_reducible rfl) | (simp only [World.size_alloc]; done)) | (with_reducible refine cell_drew ?_) | (with_reducible refine cell_alloc ?_ _))
      · repeat (first | (refine cell_new ?_ rfl; first | (with_reducible rfl) | (simp only [World.size_alloc]; done)) | (with_reducible refine cell_drew ?_) | (with_reducible refine cell_alloc ?_ _))
      · repeat (first | (refine cell_new ?_ rfl; first | (with_reducible rfl) | (simp only [World.size_alloc]; done)) | (with_reducible refine cell_drew ?_) | (with_reducible refine cell_alloc ?_ _))
      · repeat (first | (refine Free.new ?_; first | (with_reducible rfl) | (simp only [World.size_alloc]; done)) | (with_reducible refine Free.dr' ?_) | (with_reducible refine Free.al' ?_ _))
      · repeat (first | (refine Free.new ?_; first | (with_reducible rfl) | (simp only [World.size_alloc]; done)) | (with_reducible refine Free.dr' ?_) | (with_reducible refine Free.al' ?_ _))
      · exact Below.drew (bal (bal (bal (bal (Below.refl _ _) _) _) _) _)
  case rest =>
    obtain ⟨g, h, rfl, rfl, hgh, hg, hh, m0, m1, d0, d1, fg, fh, hBx⟩ := hcut
    have hBy := bthen hB hBx
    have k0 := bkeep hBx y0
    have k1 := bkeep hBx y1
    have e0 := bkeep hBx r0
    have e1 := bkeep hBx r1
    have e0f := bkeepf hBx r0 r0f
    have e1f := bkeepf hBx r1 r1f
    have o0 := bkeep hBx t0
    have o1 := bkeep hBx t1
    have o0f := bkeepf hBx t0 t0f
    have o1f := bkeepf hBx t1 t1f
    have fg0 := fg.2 0
    have fg1 := fg.2 1
    have fh0 := fh.2 0
    have fh1 := fh.2 1
    have hlt := cell_lt t0
    have hg3 : w.heap.size + 3 < g := by omega
    have hh3 : w.heap.size + 3 < h := by omega
    have HUQ := Lib.hid (HQ.out.1.keep hBx)
    have HUR := Lib.hid (HR.out.1.keep hBx)
    have HYR := Lib.hid (show IsInt wc (.agg #[.bool n2, .slice a2 l2.length c2]) (sg n2 (val l2)) from ⟨n2, a2, c2, l2, rfl, u2.keep hBy, g2, HS.out.2, rfl⟩)
    clear nc nd hs0 hs1 hs2 hs3 hv0 hv1 hv2 hv3 x0 x1 y0 y1 r0 r1 r0f r1f t0 t1 t0f t1f hb1 hB HSS u1 u2 hBw
    cases b2 with
    | false =>
      have PL := Lib.hid (show sg n1 (val l1) / sg n2 (val l2) = sg (!(n1 == n2)) (val Q) ∧ sg n1 (val l1) % sg n2 (val l2) = sg false (val R) by
        rw [HQ.out.2.2.1, HR.out.2.2.1]
        refine dm_low HZ.out ?_
        have h := HR.out.2.2.2
        cases n1 with
        | false => exact .inl rfl
        | true =>
          right
          have h2 : R = [] := by cases hR : R with | nil => rfl | cons x t => rw [hR] at h; simp at h
          rw [← HR.out.2.2.1, h2]; rfl)
      go_upto_region 8 with (fail)
      go_region
      go_wp2
      have hbe : Below w.heap.size w ((((wc.setCell ⟨w.heap.size + 1 + 1, 0, none⟩ (.bool b1)).setCell ⟨w.heap.size + 1 + 1, 1, none⟩ (.slice aq Q.length Q.length)).setCell ⟨w.heap.size + 1 + 1 + 1, 0, none⟩ (.bool false)).setCell ⟨w.heap.size + 1 + 1 + 1, 1, none⟩ (.slice ar R.length R.length)).drew := Below.drew (bset (bset (bset (bset hBy (by simp <;> omega) _) (by simp <;> omega) _) (by simp <;> omega) _) (by simp <;> omega) _)
      have e0 : wc.cell? ⟨w.heap.size + 1 + 1, 0, none⟩ = some (.bool false) := e0
      have e1 : wc.cell? ⟨w.heap.size + 1 + 1, 1, none⟩ = some (.slice none 0 0) := e1
      have o0 : wc.cell? ⟨w.heap.size + 1 + 1 + 1, 0, none⟩ = some (.bool false) := o0
      have o1 : wc.cell? ⟨w.heap.size + 1 + 1 + 1, 1, none⟩ = some (.slice none 0 0) := o1
      refine bodyPost_ret (v := .tuple #[.agg #[.bool b1, .slice aq Q.length Q.length], .agg #[.bool false, .slice ar R.length R.length], .int .i64 0]) (by simp [results, Tryz.results105, go_sem, *]) rfl ⟨⟨_, _, rfl, ?_, ?_⟩, hbe⟩
      · rw [PL.out.1]
        exact (((int_of HUQ.out HQ.out.2.1 HQ.out.2.2.2).put2 e0 e1 _ _).put2 (cell_far (cell_far o0 (by simp) _) (by simp) _) (cell_far (cell_far o1 (by simp) _) (by simp) _) _ _).keep (Below.drew (Below.refl _ _))
      · rw [PL.out.2]
        exact (((int_of (s := false) HUR.out HR.out.2.1 rfl).put2 e0 e1 _ _).put2 (cell_far (cell_far o0 (by simp) _) (by simp) _) (cell_far (cell_far o1 (by simp) _) (by simp) _) _ _).keep (Below.drew (Below.refl _ _))
    | true =>
      have hn1 : n1 = true ∧ 0 < R.length := by have h := HR.out.2.2.2; simpa using h.symm
      obtain ⟨rfl, hRl⟩ := hn1
      have HM := Lib.hid (show IsInt wc (.agg #[.bool true, .slice ar R.length R.length]) (sg true (val R)) from int_of HUR.out HR.out.2.1 HR.out.2.2.2)
      have HN := Lib.hid (show IsInt wc (.agg #[.bool b1, .slice aq Q.length Q.length]) (sg (!(true == n2)) (val Q)) from int_of HUQ.out HQ.out.2.1 HQ.out.2.2.2)
      have hRv : 0 < val R := Nat.pos_of_ne_zero fun e => (List.length_pos_iff.1 hRl) ((val_nil_iff HR.out.2.1).1 e)
      have hRl2 : val R ≤ val l2 := by rw [HR.out.2.2.1]; exact Nat.le_of_lt (Nat.mod_lt _ HZ.out)
      have hQl1 : val Q ≤ val l1 := by rw [HQ.out.2.2.1]; exact Nat.div_le_self _ _
      have hl1 : 1 ≤ val l1 := by
        have h : val R ≤ val l1 := by rw [HR.out.2.2.1]; exact Nat.mod_le _ _
        omega
      have PL := Lib.hid (show sg true (val l1) / sg n2 (val l2) = sg (!(true == n2)) (val Q) - sgI n2 l2.length ∧ sg true (val l1) % sg n2 (val l2) = sg true (val R) + ((sg n2 (val l2)).natAbs : Int) by
        have h : sgI n2 l2.length = (sg n2 (val l2)).sign := by rw [isg_sign g2 HS.out.2]
        rw [h, HQ.out.2.2.1, HR.out.2.2.1]
        exact dm_high HZ.out (by rw [← HR.out.2.2.1]; exact hRv))
      have hsv : -1 ≤ sgI n2 l2.length ∧ sgI n2 l2.length ≤ 1 := by unfold sgI; split <;> (try split) <;> omega
      have ax := fun W (k : Below wc.heap.size wc W) => abs_c _ _ W (HYR.out.keep k)
      have ad := fun vy W (h : Below wc.heap.size wc W) (hy : IsInt W vy ((sg n2 (val l2)).natAbs : Int)) => addI_c _ vy _ _ k W (HM.out.keep h) hy (by unfold Bd; rw [sg_abs]; exact Nat.lt_of_le_of_lt hRl2 HBD.out.2.1) (by unfold Bd; rw [Int.natAbs_natCast, sg_abs]; exact HBD.out.2.1) HBD.out.2.2.1
      have hsi : (sg n2 (val l2)).sign = sgI n2 l2.length := by rw [isg_sign g2 HS.out.2]
      have ox := fun W => of_c (sgI n2 l2.length) W (by omega) (by omega)
      have sd := fun vx vy W (hx : IsInt W vx (sg (!(true == n2)) (val Q))) (hy : IsInt W vy (sgI n2 l2.length)) => subI_c vx vy _ _ k W hx hy (by unfold Bd; rw [sg_abs]; exact Nat.lt_of_le_of_lt hQl1 HBD.out.1) (Nat.lt_of_le_of_lt (show (sgI n2 l2.length).natAbs ≤ 1 by omega) (Nat.lt_of_lt_of_le (by omega) (Nat.pow_le_pow_right (by omega) HBD.out.2.2.2))) HBD.out.2.2.1
      clear hRv hRl hRl2 hQl1 hl1
      obtain ⟨sv, hsvE⟩ : ∃ sv, sv = sgI n2 l2.length := ⟨_, rfl⟩
      rw [← hsvE] at PL hsv hsi ox sd
      have HSV := Lib.hid hsi
      clear hsvE hsi
      go_upto_region 6 with (fail)
      go_cut [] (fun wx => ∃ n4 a4 c4, ∃ L4 : List Nat, wx.cell? ⟨h, 0, none⟩ = some (.bool n4) ∧ wx.cell? ⟨h, 1, none⟩ = some (.slice a4 L4.length c4) ∧ IsInt wx (.agg #[.bool n4, .slice a4 L4.length c4]) (sg true (val R) + ((sg n2 (val l2)).natAbs : Int)) ∧ Out (fun k => k = h) wc wx ∧ Lim wc wx)
      case first =>
        have hBw := Below.refl wc.heap.size wc
        go_region_law (go_simp; go_wp2_with (first
          | (go_at_call 143; refine (ax _ ?_).mono ?_; (repeat (first | exact Below.refl _ _ | exact hBw | refine Below.drew ?_ | refine below_drewN ?_ _ | refine bset ?_ (by simp <;> omega) _ | refine bal ?_ _)); rintro e w5 ⟨⟨v5, rfl, hi5⟩, hb5⟩; have hB5 : Below wc.heap.size wc w5 := bthen (by repeat (first | exact Below.refl _ _ | exact hBw | refine Below.drew ?_ | refine below_drewN ?_ _ | refine bset ?_ (by simp <;> omega) _ | refine bal ?_ _)) hb5; have HI5 := Lib.hid hi5; have d05 := bkeep hB5 d0; have d15 := bkeep hB5 d1; obtain ⟨n5, a5, c5, l5, rfl, -⟩ := hi5; unfold iv at *)
          | (go_at_call 102; refine (ad _ _ ?_ ?_).mono ?_; (repeat (first | exact Below.refl _ _ | exact hB5 | refine Below.drew ?_ | refine below_drewN ?_ _ | refine bset ?_ (by simp <;> omega) _ | refine bal ?_ _)); (refine HI5.out.keep ?_; have hBz := Below.refl w5.heap.size w5; (repeat (first | exact Below.refl _ _ | exact hBz | refine Below.drew ?_ | refine below_drewN ?_ _ | refine bset ?_ (by simp <;> omega) _ | refine bal ?_ _))); rintro e w6 ⟨⟨v6, rfl, hi6⟩, hb6⟩; have hB6 : Below wc.heap.size wc w6 := bthen (by repeat (first | exact Below.refl _ _ | exact hB5 | refine Below.drew ?_ | refine below_drewN ?_ _ | refine bset ?_ (by simp <;> omega) _ | refine bal ?_ _)) hb6; have HI6 := Lib.hid hi6; have d06 := bkeep hB6 d0; have d16 := bkeep hB6 d1; have d06f := bkeepf hB6 d0 fh0; have d16f := bkeepf hB6 d1 fh1; obtain ⟨n6, a6, c6, l6, rfl, -⟩ := hi6; unfold iv at *)))
        all_goals
          go_wp2_with fail
          go_meet
          refine ⟨n6, a6, c6, l6, cell_far (cell_here d06 _) (by simp) _, cell_here (cell_far d16 (by simp) _) _, HI6.out.put2 d06 d16 _ _, (Out.of_below (fun k => k = h) hB6).set2 (fun _ => rfl) _ _, (Lim.of_below hB6).trans (Lim.set2 d06 d16 _ _)⟩
      case rest =>
        obtain ⟨n4, a4, c4, L4, d0, d1, hi4, hO4, hL4⟩ := hcut
        rename World => wd
        have HI4 := Lib.hid hi4
        have HN4 := Lib.hid (HN.out.lim hL4)
        have hgh' : ¬ (w.heap.size + 1 = h) := by omega
        have hgh2 : ¬ (w.heap.size + 2 = h) := by omega
        have hgh3 : ¬ (w.heap.size + 3 = h) := by omega
        have fg : Free wd g := Free.out (show Free wc g from fg) hO4 hgh
        have e0f := okeepf hO4 e0 e0f hgh2
        have e1f := okeepf hO4 e1 e1f hgh2
        have o0f := okeepf hO4 o0 o0f hgh3
        have o1f := okeepf hO4 o1 o1f hgh3
        have k0 := okeep hO4 k0 hgh'
        have k1 := okeep hO4 k1 hgh'
        have m0 := okeep hO4 m0 hgh
        have m1 := okeep hO4 m1 hgh
        have e0 := okeep hO4 e0 hgh2
        have e1 := okeep hO4 e1 hgh2
        have o0 := okeep hO4 o0 hgh3
        have o1 := okeep hO4 o1 hgh3
        have hBd : Below w.heap.size w wd := hBy.trans (hO4.to_below (fun k hk _ e => by omega) hBy.size)
        have fg0 := fg.2 0
        have fg1 := fg.2 1
        have HYR4 := Lib.hid (HYR.out.lim hL4)
        have sx := fun W (k : Below wd.heap.size wd W) => sign_c _ _ W (HYR4.out.keep k)
        rw [HSV.out] at sx
        clear hi4 hO4 hL4 hBy HM HN ad
        go_upto_region 7 with (fail)
        go_cut [] (fun wx => ∃ n5 a5 c5, ∃ L5 : List Nat, wx.cell? ⟨g, 0, none⟩ = some (.bool n5) ∧ wx.cell? ⟨g, 1, none⟩ = some (.slice a5 L5.length c5) ∧ IsInt wx (.agg #[.bool n5, .slice a5 L5.length c5]) (sg (!(true == n2)) (val Q) - sv) ∧ Out (fun k => k = g) wd wx ∧ Lim wd wx)
        case first =>
          have hBw := Below.refl wd.heap.size wd
          go_region_law (go_simp; go_wp2_with (first
            | (go_at_call 48; refine (sx _ ?_).mono ?_; (repeat (first | exact Below.refl _ _ | exact hBw | refine Below.drew ?_ | refine below_drewN ?_ _ | refine bset ?_ (by simp <;> omega) _ | refine bal ?_ _)); rintro e w5 ⟨rfl, hb5⟩; have hB5 : Below wd.heap.size wd w5 := bthen (by repeat (first | exact Below.refl _ _ | exact hBw | refine Below.drew ?_ | refine below_drewN ?_ _ | refine bset ?_ (by simp <;> omega) _ | refine bal ?_ _)) hb5; have d05 := bkeep hB5 m0; have d15 := bkeep hB5 m1)
            | (go_at_call 27; refine (ox _).mono ?_; rintro e w6 ⟨⟨v6, rfl, hi6⟩, hb6⟩; have hB6 : Below wd.heap.size wd w6 := bthen (by repeat (first | exact Below.refl _ _ | exact hB5 | refine Below.drew ?_ | refine below_drewN ?_ _ | refine bset ?_ (by simp <;> omega) _ | refine bal ?_ _)) hb6; have HI6 := Lib.hid hi6; have d06 := bkeep hB6 m0; have d16 := bkeep hB6 m1; obtain ⟨n6, a6, c6, l6, rfl, -⟩ := hi6; unfold iv at *)
            | (go_at_call 103; refine (sd _ _ _ ?_ ?_).mono ?_; (refine HN4.out.keep ?_; (repeat (first | exact Below.refl _ _ | exact hB6 | refine Below.drew ?_ | refine below_drewN ?_ _ | refine bset ?_ (by simp <;> omega) _ | refine bal ?_ _))); (refine HI6.out.keep ?_; have hBz := Below.refl w6.heap.size w6; (repeat (first | exact Below.refl _ _ | exact hBz | refine Below.drew ?_ | refine below_drewN ?_ _ | refine bset ?_ (by simp <;> omega) _ | refine bal ?_ _))); rintro e w7 ⟨⟨v7, rfl, hi7⟩, hb7⟩; have hB7 : Below wd.heap.size wd w7 := bthen (by repeat (first | exact Below.refl _ _ | exact hB6 | refine Below.drew ?_ | refine below_drewN ?_ _ | refine bset ?_ (by simp <;> omega) _ | refine bal ?_ _)) hb7; have HI7 := Lib.hid hi7; have d07 := bkeep hB7 m0; have d17 := bkeep hB7 m1; have d07f := bkeepf hB7 m0 fg0; have d17f := bkeepf hB7 m1 fg1; obtain ⟨n7, a7, c7, l7, rfl, -⟩ := hi7; unfold iv at *)))
          all_goals
            go_wp2_with fail
            go_meet
            refine ⟨n7, a7, c7, l7, cell_far (cell_here d07 _) (by simp) _, cell_here (cell_far d17 (by simp) _) _, HI7.out.put2 d07 d17 _ _, (Out.of_below (fun k => k = g) hB7).set2 (fun _ => rfl) _ _, (Lim.of_below hB7).trans (Lim.set2 d07 d17 _ _)⟩
        case rest =>
          obtain ⟨n5, a5, c5, L5, m0, m1, hi5, hO5, hL5⟩ := hcut
          rename World => wy
          have HI5 := Lib.hid hi5
          have HR5 := Lib.hid (HI4.out.lim hL5)
          have hgh4 : ¬ (w.heap.size + 2 = g) := by omega
          have hgh5 : ¬ (w.heap.size + 3 = g) := by omega
          have e0f := okeepf hO5 e0 e0f hgh4
          have e1f := okeepf hO5 e1 e1f hgh4
          have o0f := okeepf hO5 o0 o0f hgh5
          have o1f := okeepf hO5 o1 o1f hgh5
          have d0 := okeep hO5 d0 (show ¬ h = g from fun e => hgh e.symm)
          have d1 := okeep hO5 d1 (show ¬ h = g from fun e => hgh e.symm)
          have e0 := okeep hO5 e0 hgh4
          have e1 := okeep hO5 e1 hgh4
          have o0 := okeep hO5 o0 hgh5
          have o1 := okeep hO5 o1 hgh5
          have hBy : Below w.heap.size w wy := hBd.trans (hO5.to_below (fun k hk _ e => by omega) hBd.size)
          clear hi5 hO5 hL5 hBd HI4 HN4
          go_upto_region 8 with (fail)
          go_region
          go_wp2
          have hbe : Below w.heap.size w ((((wy.setCell ⟨w.heap.size + 1 + 1, 0, none⟩ (.bool n5)).setCell ⟨w.heap.size + 1 + 1, 1, none⟩ (.slice a5 L5.length c5)).setCell ⟨w.heap.size + 1 + 1 + 1, 0, none⟩ (.bool n4)).setCell ⟨w.heap.size + 1 + 1 + 1, 1, none⟩ (.slice a4 L4.length c4)).drew := Below.drew (bset (bset (bset (bset hBy (by simp <;> omega) _) (by simp <;> omega) _) (by simp <;> omega) _) (by simp <;> omega) _)
          have e0 : wy.cell? ⟨w.heap.size + 1 + 1, 0, none⟩ = some (.bool false) := e0
          have e1 : wy.cell? ⟨w.heap.size + 1 + 1, 1, none⟩ = some (.slice none 0 0) := e1
          have o0 : wy.cell? ⟨w.heap.size + 1 + 1 + 1, 0, none⟩ = some (.bool false) := o0
          have o1 : wy.cell? ⟨w.heap.size + 1 + 1 + 1, 1, none⟩ = some (.slice none 0 0) := o1
          refine bodyPost_ret (v := .tuple #[.agg #[.bool n5, .slice a5 L5.length c5], .agg #[.bool n4, .slice a4 L4.length c4], .int .i64 0]) (by simp [results, Tryz.results105, go_sem, *]) rfl ⟨⟨_, _, rfl, ?_, ?_⟩, hbe⟩
          · rw [PL.out.1]
            exact ((HI5.out.put2 e0 e1 _ _).put2 (cell_far (cell_far o0 (by simp) _) (by simp) _) (cell_far (cell_far o1 (by simp) _) (by simp) _) _ _).keep (Below.drew (Below.refl _ _))
          · rw [PL.out.2]
            exact ((HR5.out.put2 e0 e1 _ _).put2 (cell_far (cell_far o0 (by simp) _) (by simp) _) (cell_far (cell_far o1 (by simp) _) (by simp) _) _ _).keep (Below.drew (Below.refl _ _))
theorem isg_ne {n : Bool} {k : Nat} (h : sg n k ≠ 0) : 0 < k := by
  apply Nat.pos_of_ne_zero; intro e; subst e; exact h (sg_zero n)
theorem divmod_c (vx vy : Value) (x y : Int) (k : Nat) (w : World) (hx : IsInt w vx x) (hy : IsInt w vy y) (bx : Bd k x) (by' : Bd k y) (hk : k ≤ 17179869184) (h0 : y ≠ 0) :
    Calls Tryz.prog 105 #[vx, vy] w fun e w' => (∃ u v, e = .returned (.tuple #[u, v, .int .i64 0]) ∧ IsInt w' u (x / y) ∧ IsInt w' v (x % y)) ∧ Below w.heap.size w w' := by
  obtain ⟨n1, a1, c1, l1, rfl, u1, g1, s1, rfl⟩ := hx
  obtain ⟨n2, a2, c2, l2, rfl, u2, g2, s2, rfl⟩ := hy
  have hp := isg_ne h0
  have k1 := bd_len g1 (sg_bd bx) hk
  have k2 := bd_len g2 (sg_bd by') hk
  have h1k : 1 ≤ k := by
    apply Nat.pos_of_ne_zero; intro e; subst e
    have := sg_bd by'
    simp at this; omega
  exact divmodV_c n1 n2 a1 a2 c1 c2 l1 l2 k w u1 u2 g1 g2 hp (by omega) (by omega) (sg_bd bx) (sg_bd by') hk h1k s1 s2
end Go.Proofs.YtannhpadoooedaaGreatDoor

/- exact: numbers' over, power; what an instruction does to numbers. -/
namespace Go.Proofs.YtannhpadoooedaaGreatDoor
open Num
open Go.ChangeShapes Go.WideShapes Go.ChangeAt Go.RowKit
set_option linter.unusedVariables false
set_option linter.unusedSimpArgs false
attribute [local go_sem ↓] Go.wp_at_zero Go.wp_at_succ
/-- answers z and true, or a number and false -/
def AnsP (z : Option Int) (w : World) (e : Ending) (w' : World) : Prop :=
  (match z with
    | some x => ∃ v, e = .returned (.tuple #[v, .bool true]) ∧ IsInt w' v x
    | none => ∃ v x, e = .returned (.tuple #[v, .bool false]) ∧ IsInt w' v x) ∧ Below w.heap.size w w'
theorem ansP_some {z : Option Int} {x : Int} {v : Value} {w w' : World} (h : z = some x) (hv : IsInt w' v x) (hb : Below w.heap.size w w') : AnsP z w (.returned (.tuple #[v, .bool true])) w' := by
  subst h; exact ⟨⟨v, rfl, hv⟩, hb⟩
theorem ansP_none {z : Option Int} {x : Int} {v : Value} {w w' : World} (h : z = none) (hv : IsInt w' v x) (hb : Below w.heap.size w w') : AnsP z w (.returned (.tuple #[v, .bool false])) w' := by
  subst h; exact ⟨⟨v, x, rfl, hv⟩, hb⟩
set_option maxRecDepth 100000 in
set_option maxHeartbeats 2000000 in
theorem power_c (n : Nat) (w : World) (hn : n ≤ 65536) :
    Calls Tryz.prog 155 #[.int .i64 (n : Int)] w fun e w' => (∃ v, e = .returned v ∧ IsInt w' v (2 ^ n)) ∧ Below w.heap.size w w' := by
  have oc := fun W => of_c 1 W (by omega) (by omega)
  have sc := fun v W (h : IsInt W v 1) => shlI_c v 1 1 n W h (by unfold Bd; decide) (by omega) hn
  have HE := Lib.hid (show (1 : Int) * 2 ^ n = 2 ^ n by rw [Int.one_mul])
  have hB := Below.refl w.heap.size w
  go_enter Tryz.func155, Tryz.ntmps155
  go_wp2_with fail
  refine (oc _).mono ?_
  rintro e w1 ⟨⟨v1, rfl, hi1⟩, hb1⟩
  have r0 : w1.cell? ⟨w.heap.size, 0, none⟩ = some (.bool false) := bkc hb1
  have zr0 := cell_lt r0
  have r0f : w1.frozen? ⟨w.heap.size, 0, none⟩ = false := bkcf (v := .bool false) hb1
  have r1 : w1.cell? ⟨w.heap.size, 1, none⟩ = some (.slice none 0 0) := bkc hb1
  have r1f : w1.frozen? ⟨w.heap.size, 1, none⟩ = false := bkcf (v := .slice none 0 0) hb1
  have hB : Below w.heap.size w w1 := bthen (by repeat (first | exact Below.refl _ _ | exact hB | refine Below.drew ?_ | refine below_drewN ?_ _ | refine bset ?_ (by simp <;> omega) _ | refine bal ?_ _)) hb1
  have hz : w.heap.size ≤ w1.heap.size := hB.size
  have HI1 := Lib.hid hi1
  obtain ⟨n1, a1, c1, l1, rfl, -⟩ := hi1
  unfold iv at *
  go_wp2_with fail
  refine (sc _ _ HI1.out).mono ?_
  rintro e w2 ⟨⟨v2, rfl, hi2⟩, hb2⟩
  have r0 : w2.cell? ⟨w.heap.size, 0, none⟩ = some (.bool false) := bkc hb2
  have zr0 := cell_lt r0
  have r0f : w2.frozen? ⟨w.heap.size, 0, none⟩ = false := bkcf (v := .bool false) hb2
  have r1 : w2.cell? ⟨w.heap.size, 1, none⟩ = some (.slice none 0 0) := bkc hb2
  have r1f : w2.frozen? ⟨w.heap.size, 1, none⟩ = false := bkcf (v := .slice none 0 0) hb2
  have hB : Below w.heap.size w w2 := bthen (by repeat (first | exact Below.refl _ _ | exact hB | refine Below.drew ?_ | refine below_drewN ?_ _ | refine bset ?_ (by simp <;> omega) _ | refine bal ?_ _)) hb2
  have hz : w.heap.size ≤ w2.heap.size := hB.size
  rw [HE.out] at hi2
  have HI2 := Lib.hid (hi2.put2 r0 r1)
  obtain ⟨n2, a2, c2, l2, rfl, -⟩ := hi2
  have zr1 : w.heap.size < w2.heap.size + 1 := by omega
  unfold iv at *
  clear oc sc
  go_wp2
  refine bodyPost_ret (v := .agg #[.bool n2, .slice a2 l2.length c2]) (by simp [results, Tryz.results155, go_sem, *]) rfl ⟨⟨_, rfl, ?_⟩, ?_⟩
  · refine IsInt.keep (HI2.out (.bool n2) (.slice a2 l2.length c2)) ?_
    repeat (first | exact Below.refl _ _ | exact hB | refine Below.drew ?_ | refine below_drewN ?_ _ | refine bset ?_ (by simp <;> omega) _ | refine bal ?_ _)
  ·
    repeat (first | exact Below.refl _ _ | exact hB | refine Below.drew ?_ | refine below_drewN ?_ _ | refine bset ?_ (by simp <;> omega) _ | refine bal ?_ _)
set_option maxRecDepth 100000 in
set_option maxHeartbeats 2000000 in
theorem nover_yes (va vc : Value) (a c : Int) (k : Nat) (w : World) (hx : IsInt w va a) (hy : IsInt w vc c) (bx : Bd k a) (bY : Bd k c) (hk : k ≤ 17179869184) (h0 : c ≠ 0) (hd : a % c = 0) :
    Calls Tryz.prog 104 #[va, vc] w (AnsP (some (a / c)) w) := by
  have dc := fun W (h : Below w.heap.size w W) => divmod_c va vc a c k W (hx.keep h) (hy.keep h) bx bY hk h0
  obtain ⟨n1, a1, c1, l1, rfl, -⟩ := hx
  obtain ⟨n2, a2, c2, l2, rfl, -⟩ := hy
  unfold iv at *
  have HD := Lib.hid hd
  clear bx bY hk h0 hd
  have hB := Below.refl w.heap.size w
  go_enter Tryz.func104, Tryz.ntmps104
  go_wp2_with fail
  refine (dc _ (by repeat (first | exact Below.refl _ _ | exact hB | refine Below.drew ?_ | refine below_drewN ?_ _ | refine bset ?_ (by simp <;> omega) _ | refine bal ?_ _))).mono ?_
  rintro e w1 ⟨⟨u, v, rfl, hu, hv⟩, hb1⟩
  have r0 : w1.cell? ⟨w.heap.size + 2, 0, none⟩ = some (.bool false) := bkc hb1
  have zr0 := cell_lt r0
  have r0f : w1.frozen? ⟨w.heap.size + 2, 0, none⟩ = false := bkcf (v := .bool false) hb1
  have r1 : w1.cell? ⟨w.heap.size + 2, 1, none⟩ = some (.slice none 0 0) := bkc hb1
  have r1f : w1.frozen? ⟨w.heap.size + 2, 1, none⟩ = false := bkcf (v := .slice none 0 0) hb1
  have hB : Below w.heap.size w w1 := bthen (by repeat (first | exact Below.refl _ _ | exact hB | refine Below.drew ?_ | refine below_drewN ?_ _ | refine bset ?_ (by simp <;> omega) _ | refine bal ?_ _)) hb1
  have hz : w.heap.size ≤ w1.heap.size := hB.size
  clear dc
  have HU := Lib.hid hu
  have sx := fun W (h : Below w1.heap.size w1 W) => sign_c v _ W (hv.keep h)
  rw [HD.out, Int.sign_zero] at sx
  obtain ⟨nu, au, cu, lu, rfl, -⟩ := hu
  obtain ⟨nv, av, cv, lv, rfl, -⟩ := hv
  unfold iv at *
  have zr1 : w.heap.size + 2 < w1.heap.size + 1 := by omega
  have zr2 : w.heap.size + 2 < w1.heap.size + 1 + 1 := by omega
  go_wp2
  refine wp_name fun w3 hW3 => ?_
  have hb3 : Below w1.heap.size w1 w3 := by rw [hW3]; exact bal (bal (Below.refl _ _) _) _
  have q0 : w3.cell? ⟨w1.heap.size, 0, none⟩ = some (.bool nu) := by rw [hW3]; exact cell_alloc (cell_new rfl rfl) _
  have q1 : w3.cell? ⟨w1.heap.size, 1, none⟩ = some (.slice au lu.length cu) := by rw [hW3]; exact cell_alloc (cell_new rfl rfl) _
  have s0 : w3.cell? ⟨w1.heap.size + 1, 0, none⟩ = some (.bool nv) := by rw [hW3]; exact cell_new (by simp) rfl
  have s1 : w3.cell? ⟨w1.heap.size + 1, 1, none⟩ = some (.slice av lv.length cv) := by rw [hW3]; exact cell_new (by simp) rfl
  clear hW3
  have r0f := bkeepf hb3 r0 r0f
  have r1f := bkeepf hb3 r1 r1f
  replace r0 := bkeep hb3 r0
  replace r1 := bkeep hb3 r1
  have HU3 := Lib.hid (HU.out.keep hb3)
  have sx3 := fun W (h : Below w3.heap.size w3 W) => sx W (bthen hb3 h)
  have hB3 := bthen hB hb3
  have hBw := Below.refl w3.heap.size w3
  clear sx
  go_region_law (go_simp; go_wp2_with (go_at_call 48; refine (sx3 _ ?_).mono ?_; (repeat (first | exact Below.refl _ _ | exact hBw | refine Below.drew ?_ | refine below_drewN ?_ _ | refine bset ?_ (by simp <;> omega) _ | refine bal ?_ _)); rintro e w5 ⟨rfl, hb5⟩; have hB5 : Below w3.heap.size w3 w5 := bthen (by repeat (first | exact Below.refl _ _ | exact hBw | refine Below.drew ?_ | refine below_drewN ?_ _ | refine bset ?_ (by simp <;> omega) _ | refine bal ?_ _)) hb5; have q05 := bkeep hB5 q0; have q15 := bkeep hB5 q1; have r05f := bkeepf hB5 r0 r0f; have r15f := bkeepf hB5 r1 r1f; have r05 := bkeep hB5 r0; have r15 := bkeep hB5 r1))
  all_goals
    go_wp2
    have hB9 := bthen hB3 hB5
    refine bodyPost_ret (v := .tuple #[.agg #[.bool nu, .slice au lu.length cu], .bool true]) (by simp [results, Tryz.results104, go_sem, *]) rfl (ansP_some rfl (HU3.out.keep hB5 |>.put2 r05 r15 _ _) ?_)
    repeat (first | exact Below.refl _ _ | exact hB9 | refine Below.drew ?_ | refine below_drewN ?_ _ | refine bset ?_ (by simp <;> omega) _ | refine bal ?_ _)
set_option maxRecDepth 100000 in
set_option maxHeartbeats 2000000 in
theorem nover_no (va vc : Value) (a c : Int) (k : Nat) (w : World) (hx : IsInt w va a) (hy : IsInt w vc c) (bx : Bd k a) (bY : Bd k c) (hk : k ≤ 17179869184) (h0 : c ≠ 0) (hd : a % c ≠ 0) :
    Calls Tryz.prog 104 #[va, vc] w (AnsP none w) := by
  have dc := fun W (h : Below w.heap.size w W) => divmod_c va vc a c k W (hx.keep h) (hy.keep h) bx bY hk h0
  obtain ⟨n1, a1, c1, l1, rfl, -⟩ := hx
  obtain ⟨n2, a2, c2, l2, rfl, -⟩ := hy
  unfold iv at *
  have HD := Lib.hid hd
  clear bx bY hk h0 hd
  have hB := Below.refl w.heap.size w
  go_enter Tryz.func104, Tryz.ntmps104
  go_wp2_with fail
  refine (dc _ (by repeat (first | exact Below.refl _ _ | exact hB | refine Below.drew ?_ | refine below_drewN ?_ _ | refine bset ?_ (by simp <;> omega) _ | refine bal ?_ _))).mono ?_
  rintro e w1 ⟨⟨u, v, rfl, hu, hv⟩, hb1⟩
  have r0 : w1.cell? ⟨w.heap.size + 2, 0, none⟩ = some (.bool false) := bkc hb1
  have zr0 := cell_lt r0
  have r0f : w1.frozen? ⟨w.heap.size + 2, 0, none⟩ = false := bkcf (v := .bool false) hb1
  have r1 : w1.cell? ⟨w.heap.size + 2, 1, none⟩ = some (.slice none 0 0) := bkc hb1
  have r1f : w1.frozen? ⟨w.heap.size + 2, 1, none⟩ = false := bkcf (v := .slice none 0 0) hb1
  have hB : Below w.heap.size w w1 := bthen (by repeat (first | exact Below.refl _ _ | exact hB | refine Below.drew ?_ | refine below_drewN ?_ _ | refine bset ?_ (by simp <;> omega) _ | refine bal ?_ _)) hb1
  have hz : w.heap.size ≤ w1.heap.size := hB.size
  clear dc
  have HU := Lib.hid hu
  have sx := fun W (h : Below w1.heap.size w1 W) => sign_c v _ W (hv.keep h)
  obtain ⟨sg, hsg, hsgE⟩ : ∃ s : Int, s ≠ 0 ∧ (a % c).sign = s := ⟨_, (fun e => HD.out (Int.sign_eq_zero_iff_zero.1 e)), rfl⟩; rw [hsgE] at sx; clear hsgE; have hsb : (sg == 0) = false := by simpa using hsg
  obtain ⟨nu, au, cu, lu, rfl, -⟩ := hu
  obtain ⟨nv, av, cv, lv, rfl, -⟩ := hv
  unfold iv at *
  have zr1 : w.heap.size + 2 < w1.heap.size + 1 := by omega
  have zr2 : w.heap.size + 2 < w1.heap.size + 1 + 1 := by omega
  go_wp2
  refine wp_name fun w3 hW3 => ?_
  have hb3 : Below w1.heap.size w1 w3 := by rw [hW3]; exact bal (bal (Below.refl _ _) _) _
  have q0 : w3.cell? ⟨w1.heap.size, 0, none⟩ = some (.bool nu) := by rw [hW3]; exact cell_alloc (cell_new rfl rfl) _
  have q1 : w3.cell? ⟨w1.heap.size, 1, none⟩ = some (.slice au lu.length cu) := by rw [hW3]; exact cell_alloc (cell_new rfl rfl) _
  have s0 : w3.cell? ⟨w1.heap.size + 1, 0, none⟩ = some (.bool nv) := by rw [hW3]; exact cell_new (by simp) rfl
  have s1 : w3.cell? ⟨w1.heap.size + 1, 1, none⟩ = some (.slice av lv.length cv) := by rw [hW3]; exact cell_new (by simp) rfl
  clear hW3
  have r0f := bkeepf hb3 r0 r0f
  have r1f := bkeepf hb3 r1 r1f
  replace r0 := bkeep hb3 r0
  replace r1 := bkeep hb3 r1
  have HU3 := Lib.hid (HU.out.keep hb3)
  have sx3 := fun W (h : Below w3.heap.size w3 W) => sx W (bthen hb3 h)
  have hB3 := bthen hB hb3
  have hBw := Below.refl w3.heap.size w3
  clear sx
  go_region_law (go_simp; go_wp2_with (go_at_call 48; refine (sx3 _ ?_).mono ?_; (repeat (first | exact Below.refl _ _ | exact hBw | refine Below.drew ?_ | refine below_drewN ?_ _ | refine bset ?_ (by simp <;> omega) _ | refine bal ?_ _)); rintro e w5 ⟨rfl, hb5⟩; have hB5 : Below w3.heap.size w3 w5 := bthen (by repeat (first | exact Below.refl _ _ | exact hBw | refine Below.drew ?_ | refine below_drewN ?_ _ | refine bset ?_ (by simp <;> omega) _ | refine bal ?_ _)) hb5; have q05 := bkeep hB5 q0; have q15 := bkeep hB5 q1; have r05f := bkeepf hB5 r0 r0f; have r15f := bkeepf hB5 r1 r1f; have r05 := bkeep hB5 r0; have r15 := bkeep hB5 r1))
  all_goals
    go_wp2
    have hB9 := bthen hB3 hB5
    refine bodyPost_ret (v := .tuple #[.agg #[.bool nu, .slice au lu.length cu], .bool false]) (by simp [results, Tryz.results104, go_sem, *]) rfl (ansP_none rfl (HU3.out.keep hB5 |>.put2 r05 r15 _ _) ?_)
    repeat (first | exact Below.refl _ _ | exact hB9 | refine Below.drew ?_ | refine below_drewN ?_ _ | refine bset ?_ (by simp <;> omega) _ | refine bal ?_ _)
end Go.Proofs.YtannhpadoooedaaGreatDoor

/- vm: New. -/
namespace Go.Proofs.YtannhpadoooedaaGreatDoor
open Num
open Go.ChangeShapes Go.WideShapes Go.ChangeAt Go.RowKit
set_option linter.unusedVariables false
set_option linter.unusedSimpArgs false
attribute [local go_sem ↓] Go.wp_at_zero Go.wp_at_succ
/-- blocks fit a program -/
structure FitsG (ins : Int) (g : Grid) : Prop where
  len : (g.length : Int) = ins
  rect : Rect (g.getD 0 []).length g
  m : (g.getD 0 []).length ≤ 4096
abbrev GridV (w : World) (v : Value) (g : Grid) : Prop := IsL 29 (PRow 0) 0 w v g
end Go.Proofs.YtannhpadoooedaaGreatDoor

