/- Texts of this seat, laid together: LimbK, GrT. Each opens with its own remark, which says what it proves, and under which conditions. -/
import Derived.Test.YtbmaffijncapiaaGreatDoorL08
import Derived.Test.YtbmaffijncapiaaGreatDoorL05
import Derived.Deep.Cut
import Derived.Deep.DeepCutAuto
import Derived.Test.YtbmaffijncapiaaGreatDoorL01
import Derived.StillTail
import Derived.Deep.Quiet
set_option linter.unusedVariables false
set_option linter.unusedSimpArgs false
/- limb: digit (a limb of a quotient). -/
namespace Go.Proofs.YtbmaffijncapiaaGreatDoor
open Num
open Go.ChangeShapes Go.WideShapes Go.ChangeAt Go.RowKit
set_option linter.unusedVariables false
set_option linter.unusedSimpArgs false
namespace Num
theorem back_step {O U V : List Nat} {k i c x : Nat} (hO : k + i < O.length) (hU : k + i < U.length) (hx : x = U.getD (k + i) 0)
    (h : win O k i + c * BB ^ i = win U k i + val (V.take i)) :
    ∀ cc, cc = c + x + V.getD i 0 → win (O.set (k + i) (cc % BB)) k (i + 1) + cc / BB * BB ^ (i + 1) = win U k (i + 1) + val (V.take (i + 1)) := by
  intro cc h1
  rw [win_set_succ hO, win_succ hU, take_any, ← hx, Nat.pow_succ, Nat.mul_comm (BB ^ i) BB]
  have := back_arith (r := cc % BB) (c1 := cc / BB) (B := BB) h (vi := V.getD i 0) (ui := x) (by rw [← h1, Nat.mul_comm]; exact (Nat.div_add_mod cc BB).symm)
  omega
structure Guess (N D v1 v2 u2 high g r : Nat) : Prop where
  sum : g * v1 + r = high
  low : N / D ≤ g
  high : g ≤ BB + 1
def KGood (N D g : Nat) : Prop := N / D ≤ g ∧ g < BB ∧ g * D < N + D
end Num
structure DigSet (N D v1 v2 low high u2 lowN P2 : Nat) : Prop where
  hP : 0 < P2
  hD : D = v1 * (BB * P2) + v2 * P2 + low
  hN : N = high * (BB * P2) + u2 * P2 + lowN
  hl : low < P2
  hlN : lowN < P2
  hv1 : 2147483648 ≤ v1
  hv1B : v1 < BB
  hv2 : v2 < BB
  hu2 : u2 < BB
  hND : N < D * BB
namespace Num
theorem digSet_high {N D v1 v2 low high u2 lowN P2 : Nat} (h : DigSet N D v1 v2 low high u2 lowN P2) : high / v1 ≤ BB + 1 := by
  obtain ⟨hP, hD, hN, hl, hlN, hv1, hv1B, hv2, hu2, hND⟩ := h
  have h2 := low_two hv2 hl
  have h3 : D ≤ (v1 + 1) * (BB * P2) := by rw [Nat.add_mul]; omega
  have h4 : high * (BB * P2) < (v1 + 1) * BB * (BB * P2) := by
    have : D * BB ≤ (v1 + 1) * (BB * P2) * BB := Nat.mul_le_mul h3 (Nat.le_refl _)
    have e : (v1 + 1) * (BB * P2) * BB = (v1 + 1) * BB * (BB * P2) := by ac_rfl
    omega
  have h5 : high < (v1 + 1) * BB := Nat.lt_of_mul_lt_mul_right h4
  have h6 : high / v1 < BB + 2 := by
    rw [Nat.div_lt_iff_lt_mul (by omega), Nat.add_mul]
    rw [Nat.add_mul, Nat.mul_comm v1] at h5
    unfold BB at *
    omega
  omega
theorem digSet_first {N D v1 v2 low high u2 lowN P2 : Nat} (h : DigSet N D v1 v2 low high u2 lowN P2) : Guess N D v1 v2 u2 high (high / v1) (high % v1) := by
  have hb := digSet_high h
  obtain ⟨hP, hD, hN, hl, hlN, hv1, hv1B, hv2, hu2, hND⟩ := h
  refine ⟨by rw [Nat.mul_comm]; exact Nat.div_add_mod _ _, ?_, hb⟩
  have h2 := low_two hu2 hlN
  refine kn_first (P1 := BB * P2) (Nat.mul_pos BB_pos hP) (by omega) ?_ ?_ (by omega)
  · rw [Nat.add_mul]; omega
  · have : 1 * (BB * P2) ≤ v1 * (BB * P2) := Nat.mul_le_mul (by omega) (Nat.le_refl _)
    have : 0 < BB * P2 := Nat.mul_pos BB_pos hP
    omega
theorem digSet_pos {N D v1 v2 low high u2 lowN P2 : Nat} (h : DigSet N D v1 v2 low high u2 lowN P2) : 0 < D := by
  obtain ⟨hP, hD, hN, hl, hlN, hv1, hv1B, hv2, hu2, hND⟩ := h
  have : 1 * (BB * P2) ≤ v1 * (BB * P2) := Nat.mul_le_mul (by omega) (Nat.le_refl _)
  have : 0 < BB * P2 := Nat.mul_pos BB_pos hP
  omega
theorem digSet_step {N D v1 v2 low high u2 lowN P2 g r : Nat} (h : DigSet N D v1 v2 low high u2 lowN P2) (hg : Guess N D v1 v2 u2 high g r) (ht : BB ≤ g ∨ r * BB + u2 < g * v2) :
    0 < g ∧ Guess N D v1 v2 u2 high (g - 1) (r + v1) := by
  have hp := digSet_pos h
  obtain ⟨hP, hD, hN, hl, hlN, hv1, hv1B, hv2, hu2, hND⟩ := h
  obtain ⟨h1, h2, h3⟩ := hg
  have hlt : N / D < g := by
    rcases ht with ht | ht
    · exact Nat.lt_of_lt_of_le (kn_big hND) ht
    · exact kn_step hP hp hD hN hlN h1 ht
  refine ⟨Nat.lt_of_le_of_lt (Nat.zero_le _) hlt, ?_, Nat.le_sub_one_of_lt hlt, by omega⟩
  obtain ⟨k, rfl⟩  : ∃ k, g = k + 1 := ⟨g - 1, (Nat.succ_pred_eq_of_pos (Nat.lt_of_le_of_lt (Nat.zero_le _) hlt)).symm⟩
  rw [Nat.add_mul] at h1
  simp only [Nat.add_sub_cancel]
  omega
theorem digSet_good {N D v1 v2 low high u2 lowN P2 g r : Nat} (h : DigSet N D v1 v2 low high u2 lowN P2) (hg : Guess N D v1 v2 u2 high g r) (h1 : g < BB) (h2 : g * v2 ≤ r * BB + u2) : KGood N D g := by
  obtain ⟨hP, hD, hN, hl, hlN, hv1, hv1B, hv2, hu2, hND⟩ := h
  exact ⟨hg.low, h1, kn_exit (by omega) BB_pos h1 hl hD hN hg.sum h2⟩
theorem digSet_far {N D v1 v2 low high u2 lowN P2 g r : Nat} (h : DigSet N D v1 v2 low high u2 lowN P2) (hg : Guess N D v1 v2 u2 high g r) (h1 : g ≤ BB) (h2 : BB ≤ r) : KGood N D g := by
  have hp := digSet_pos h
  obtain ⟨hP, hD, hN, hl, hlN, hv1, hv1B, hv2, hu2, hND⟩ := h
  have h3 := kn_far (low_two hv2 hl) hD hN hg.sum (by omega)
  have h4 : g ≤ N / D := by rw [Nat.le_div_iff_mul_le hp]; exact h3
  have h5 := kn_big hND
  exact ⟨hg.low, Nat.lt_of_le_of_lt h4 h5, by omega⟩
end Num

set_option maxRecDepth 100000 in
set_option maxHeartbeats 8000000 in
theorem digit_core (g k n n1 m L cu bv ov cv : Nat) (U V : List Nat) (N D v1 v2 u0 u1 u2 low lowN P2 : Nat) (w : World) (en : m = n1 + 1) (en1 : n1 = n + 1) (eL : L = m + 1) (hN : n ≤ 1099511627776)
    (hU : Rw32 w g U) (hV : At32 w bv ov V) (hg : bv ≠ g) (hkU : k + L ≤ U.length) (hVn : V.length = m) (hUL : Limbs U) (hVL : Limbs V)
    (eN : win U k L = N) (eD : val V = D) (hset : DigSet N D v1 v2 low (u0 * BB + u1) u2 lowN P2)
    (c0 : w.cell? ⟨g, k + m, none⟩ = some (.int .u32 (u0 : Int))) (c1 : w.cell? ⟨g, k + n1, none⟩ = some (.int .u32 (u1 : Int))) (c2 : w.cell? ⟨g, k + n, none⟩ = some (.int .u32 (u2 : Int)))
    (d1 : w.cell? ⟨bv, ov + n1, none⟩ = some (.int .u32 (v1 : Int))) (d2 : w.cell? ⟨bv, ov + n, none⟩ = some (.int .u32 (v2 : Int))) (hu0 : u0 < BB) (hu1 : u1 < BB) (hcu : L ≤ cu) (hcv : m ≤ cv) (HUm : U.length ≤ 1099511627776) :
    Calls Tryz.prog 263 #[.slice (some ⟨g, k, none⟩) L cu, .slice (some ⟨bv, ov, none⟩) m cv] w fun e w' => (∃ (O : List Nat), e = .returned (.int .u32 ((N / D : Nat) : Int)) ∧ Rw32 w' g O ∧ O.length = U.length ∧ Limbs O ∧ (∀ j, j < k ∨ k + L ≤ j → O.getD j 0 = U.getD j 0) ∧ win O k L = N % D) ∧ Out (· = g) w w' := by
  have hv1 := hset.hv1
  have hv1B := hset.hv1B
  have hv2 := hset.hv2
  have hu2 := hset.hu2
  have hfirst := digSet_first hset
  have HSet := Lib.hid hset
  clear hset
  have e51 : IntKind.i64.wrap ((m : Int) - 1) = (n1 : Int) := by rw [IntKind.wrap_i64]; omega
  have e52 : IntKind.i64.wrap ((m : Int) - 2) = (n : Int) := by rw [IntKind.wrap_i64]; omega
  have l0 : (m : Int) < (L : Int) := by omega
  have l1 : (n1 : Int) < (L : Int) := by omega
  have l2 : (n : Int) < (L : Int) := by omega
  have l3 : (n1 : Int) < (m : Int) := by omega
  have l4 : (n : Int) < (m : Int) := by omega
  have x0 := w64 (BB_sq u0 hu0)
  have x1 := w64 (BB_sq u1 hu1)
  have x2 := w64 (BB_sq u2 hu2)
  have y1 := w64 (BB_sq v1 hv1B)
  have y2 := w64 (BB_sq v2 hv2)
  have o1 : bits .or .u64 ((u0 : Int) * 4294967296) (u1 : Int) = ((u0 * BB + u1 : Nat) : Int) := by rw [← hi_or hu0 hu1, Int.natCast_mul]; rfl
  have o2 : bits .or .u64 (IntKind.u64.wrap ((u0 : Int) * 4294967296)) (u1 : Int) = ((u0 * BB + u1 : Nat) : Int) := by rw [show (u0 : Int) * 4294967296 = ((u0 * BB : Nat) : Int) by rw [Int.natCast_mul]; rfl, w64 (by unfold BB at *; omega), hi_or hu0 hu1]
  have hu0B : (u0 : Int) < 4294967296 := by unfold BB at hu0; omega
  have hv1z : ((v1 : Int) == 0) = false := by simp; omega
  generalize hHi : u0 * BB + u1 = hi at *
  have t1 : (hi : Int).tdiv (v1 : Int) = ((hi / v1 : Nat) : Int) := rfl
  have t2 : (hi : Int).tmod (v1 : Int) = ((hi % v1 : Nat) : Int) := rfl
  have t3 : (hi : Int) / (v1 : Int) = ((hi / v1 : Nat) : Int) := rfl
  have t4 : (hi : Int) % (v1 : Int) = ((hi % v1 : Nat) : Int) := rfl
  have hr0 : hi % v1 < v1 := Nat.mod_lt _ (by omega)
  generalize hi / v1 = q0 at *
  generalize hi % v1 = r0 at *
  have HF := Lib.hid hfirst
  have hB := Below.refl w.heap.size w
  have HEN := Lib.hid (And.intro en (And.intro en1 eL))
  clear hfirst en en1 eL hHi
  go_enter Tryz.func263, Tryz.ntmps263
  go_wp2
  go_step3
  go_wp2
  go_quiet (fail)
  go_wp2
  have wq0 : IntKind.u64.wrap (q0 : Int) = (q0 : Int) := w64 (by have := HF.out.high; unfold BB at *; omega)
  go_quiet (fail)
  go_wp2
  clear t1 t2 t3 t4 o1 o2 wq0 hv1z
  go_step3
  go_wp2
  go_loopw [7, 8] (fun gx rx wr => ∃ (q r : Nat), gx = .int .u64 q ∧ rx = .int .u64 r ∧ Hid (Guess N D v1 v2 u2 hi q r) ∧ r < BB ∧ Below w.heap.size w wr) (fun gx _ _ => (intOf gx).toNat)
  case atStart => exact ⟨q0, r0, rfl, rfl, HF, by omega, by repeat (first|exact bzR _ _|exact hB|refine bzD ?_|refine bzN ?_|refine bzS ?_|refine bzA ?_)⟩
  case round =>
    obtain ⟨q, r, rfl, rfl, hG, hr, hb⟩ := hrel
    have hqB := hG.out.high
    have cc0 := bkeep hb c0
    have cc1 := bkeep hb c1
    have cc2 := bkeep hb c2
    have dd1 := bkeep hb d1
    have dd2 := bkeep hb d2
    clear c0 c1 c2 d1 d2 hB x0 x1
    by_cases hq : BB ≤ q
    · have eg : (q : Int) / 4294967296 = 1 := by unfold BB at *; omega
      obtain ⟨hq0, hG2⟩ := digSet_step HSet.out hG.out (.inl hq)
      have em : IntKind.u64.wrap ((q : Int) - 1) = ((q - 1 : Nat) : Int) := by rw [show (q : Int) - 1 = ((q - 1 : Nat) : Int) by omega]; exact w64 (by unfold BB at *; omega)
      have ea : IntKind.u64.wrap ((r : Int) + (v1 : Int)) = ((r + v1 : Nat) : Int) := by rw [← Int.natCast_add]; exact w64 (by unfold BB at *; omega)
      by_cases hfar : BB ≤ r + v1
      · have HK := Lib.hid (digSet_far HSet.out hG2 (by omega) hfar)
        have ez : ((r + v1 : Nat) : Int) / 4294967296 = 1 := by unfold BB at *; omega
        generalize q - 1 = q1 at *
        generalize r + v1 = r1 at *
        clear hG2
        go_wp2
        go_quiet (fail)
        have lc := fun W (h : Below w.heap.size w W) => less_c g k m cu bv ov cv q1 U V W (hU.keep h) hUL (by have := HEN.out; omega) (by have := HEN.out; omega) HUm ⟨fun j hj => bkeep h (hV j hj), typ_keep hV.ty h⟩ hVL hVn hcv hg HK.out.2.1
        rw [eD, show m + 1 = L from (HEN.out.2.2).symm, eN] at lc
        go_wp2_with fail
        refine (lc _ (by repeat (first|exact bzR _ _|exact hb|refine bzD ?_|refine bzN ?_|refine bzS ?_|refine bzA ?_))).mono ?_
        rintro e w2 ⟨⟨O, z, rfl, hz, hO, hol, hOL, hO0, hW⟩, hOut⟩
        have hqq := HK.out.2.1
        have hO2 : Out (· = g) w w2 := (Out.of_below _ (show Below w.heap.size w _ by repeat (first|exact bzR _ _|exact hb|refine bzD ?_|refine bzN ?_|refine bzS ?_|refine bzA ?_))).trans hOut
        clear lc hOut
        rcases (show z = 0 ∨ z = 1 by omega) with rfl | rfl
        · have HD := Lib.hid (kn_done (digSet_pos HSet.out) HK.out.1 (by rw [Nat.zero_mul, Nat.add_zero] at hW; exact hW))
          have hd : decide (0 < 0) = false := rfl
          have eq : (q1 : Int) % 4294967296 = (q1 : Int) := by unfold BB at hqq; omega
          clear hW
          go_wp2
          rw [Exit.noGoto_ret]
          go_ret
          exact ⟨⟨O, by rw [HD.out.1]; rfl, hO, hol, hOL, hO0, HD.out.2.symm⟩, hO2⟩
        · have HD := Lib.hid (kn_over (P := BB ^ L) (digSet_pos HSet.out) HK.out.2.2 (win_lt hOL k L) (by rw [Nat.one_mul] at hW; exact hW))
          have hd : decide (0 < 1) = true := rfl
          have eq1 : IntKind.u64.wrap ((q1 : Int) - 1) = ((N / D : Nat) : Int) := by
            have h := HD.out.1
            generalize N / D = nd at *
            rw [show (q1 : Int) - 1 = (nd : Int) by omega]; exact w64 (by unfold BB at *; omega)
          have eq2 : ((N / D : Nat) : Int) % 4294967296 = ((N / D : Nat) : Int) := by
            have h := HD.out.1
            generalize N / D = nd at *
            unfold BB at hqq; omega
          have HO0 := Lib.hid hO0
          have HOl := Lib.hid hol
          clear hW hO0
          obtain ⟨nd, hnd⟩ : ∃ nd, nd = N / D := ⟨_, rfl⟩
          rw [← hnd] at eq1 eq2
          have HND := Lib.hid hnd
          clear hnd
          go_wp2
          go_loopw [9, 89] (fun cx x wr => ∃ (i c : Nat) (Z : List Nat), i ≤ L ∧ x = .int .i64 i ∧ cx = .int .u64 c ∧ c < BB ∧ Rw32 wr g Z ∧ Hid (Z.length = U.length) ∧ Limbs Z ∧ Hid (∀ j, j < k ∨ k + i ≤ j → Z.getD j 0 = O.getD j 0) ∧ Hid (win Z k i + c * BB ^ i = win O k i + val (V.take i)) ∧ Out (· = g) w wr) (fun _ x _ => L - (intOf x).toNat)
          case atStart => exact ⟨0, 0, O, by omega, rfl, rfl, BB_pos, hO, HOl, hOL, Lib.hid (fun _ _ => rfl), Lib.hid (by simp [win_zero, val]), hO2⟩
          case round =>
            rename World => wi
            obtain ⟨i, c, Z, hi, rfl, rfl, hcB, hZ, hZl, hZL, hZ0, hZW, hOut⟩ := hrel
            have hzl := hZl.out
            by_cases hlt : i < L
            · have hltz : (i : Int) < (L : Int) := by omega
              have q0 := hZ.cell (k + i) (by omega)
              have qf := hZ.frozen (k + i)
              have hx := limb_get hZL (k + i)
              have HS := Lib.hid (back_step (O := Z) (U := O) (V := V) (k := k) (i := i) (c := c) (x := Z.getD (k + i) 0) (by omega) (by have := HOl.out; omega) (hZ0.out (k + i) (.inr (Nat.le_refl _))) hZW.out)
              by_cases him : i < m
              · have himz : (i : Int) < (m : Int) := by omega
                have dd0 := okeep hOut (hV i (by omega)) hg
                have hy := limb_get hVL i
                generalize V.getD i 0 = y at *
                generalize Z.getD (k + i) 0 = x at *
                have f1 := w64 (BB_sq x hx)
                have f2 := w64 (BB_sq y hy)
                have f3 : IntKind.u64.wrap ((c : Int) + (x : Int)) = ((c + x : Nat) : Int) := by rw [← Int.natCast_add]; exact w64 (by unfold BB at *; omega)
                have f4 : IntKind.u64.wrap (((c + x : Nat) : Int) + (y : Int)) = ((c + x + y : Nat) : Int) := by rw [← Int.natCast_add]; exact w64 (by unfold BB at *; omega)
                have HS2 := Lib.hid (HS.out (c + x + y) rfl)
                have hT : c + x + y < BB * BB := by unfold BB at *; omega
                have hdB : (c + x + y) / BB < BB := Nat.div_lt_of_lt_mul hT
                have hmB : (c + x + y) % BB < BB := Nat.mod_lt _ BB_pos
                obtain ⟨lo, hlo⟩ : ∃ lo, lo = (c + x + y) % BB := ⟨_, rfl⟩
                obtain ⟨up, hup⟩ : ∃ up, up = (c + x + y) / BB := ⟨_, rfl⟩
                rw [← hlo] at HS2 hmB
                rw [← hup] at HS2 hdB
                have g0 : IntKind.u64.wrap ((c : Int) + (x : Int) + (y : Int)) = (c : Int) + (x : Int) + (y : Int) := by rw [show ((c : Int) + (x : Int) + (y : Int)) = ((c + x + y : Nat) : Int) by omega]; exact w64 hT
                have g1 : ((c : Int) + (x : Int) + (y : Int)) % 4294967296 = (lo : Int) := by unfold BB at hlo; omega
                have g2 : ((c : Int) + (x : Int) + (y : Int)) / 4294967296 = (up : Int) := by unfold BB at hup; omega
                have qb := hZ.set (k + i) lo
                have ql := limbs_set hZL (k := k + i) hmB
                have bs := hOut.set (p := ⟨g, k + i, none⟩) (fun _ => rfl) (.int .u32 (lo : Int))
                clear hzl hlo hup hT HS hol
                go_wp2
                refine ⟨⟨i + 1, up, Z.set (k + i) lo, by omega, by go_num, rfl, hdB, qb, Lib.hid (by simpa using hZl.out), ql, Lib.hid ?_, HS2, bs⟩, by simp [intOf] <;> omega⟩
                intro j hj
                rw [getD_set_far (by omega)]
                exact hZ0.out j (by omega)
              · have hy0 : V.getD i 0 = 0 := by simp [show V.length ≤ i by omega]
                rw [hy0] at HS
                have him' : decide (i < m) = false := by simpa using him
                generalize Z.getD (k + i) 0 = x at *
                have f1 := w64 (BB_sq x hx)
                have f3 : IntKind.u64.wrap ((c : Int) + (x : Int)) = ((c + x : Nat) : Int) := by rw [← Int.natCast_add]; exact w64 (by unfold BB at *; omega)
                have HS2 := Lib.hid (HS.out (c + x) rfl)
                have hT : c + x < BB * BB := by unfold BB at *; omega
                have hdB : (c + x) / BB < BB := Nat.div_lt_of_lt_mul hT
                have hmB : (c + x) % BB < BB := Nat.mod_lt _ BB_pos
                obtain ⟨lo, hlo⟩ : ∃ lo, lo = (c + x) % BB := ⟨_, rfl⟩
                obtain ⟨up, hup⟩ : ∃ up, up = (c + x) / BB := ⟨_, rfl⟩
                rw [← hlo] at HS2 hmB
                rw [← hup] at HS2 hdB
                have g0 : IntKind.u64.wrap ((c : Int) + (x : Int)) = (c : Int) + (x : Int) := by rw [show ((c : Int) + (x : Int)) = ((c + x : Nat) : Int) by omega]; exact w64 hT
                have g1 : ((c : Int) + (x : Int)) % 4294967296 = (lo : Int) := by unfold BB at hlo; omega
                have g2 : ((c : Int) + (x : Int)) / 4294967296 = (up : Int) := by unfold BB at hup; omega
                have qb := hZ.set (k + i) lo
                have ql := limbs_set hZL (k := k + i) hmB
                have bs := hOut.set (p := ⟨g, k + i, none⟩) (fun _ => rfl) (.int .u32 (lo : Int))
                clear hzl hlo hup hT HS hol
                go_wp2
                refine ⟨⟨i + 1, up, Z.set (k + i) lo, by omega, by go_num, rfl, hdB, qb, Lib.hid (by simpa using hZl.out), ql, Lib.hid ?_, HS2, bs⟩, by simp [intOf] <;> omega⟩
                intro j hj
                rw [getD_set_far (by omega)]
                exact hZ0.out j (by omega)
            · obtain rfl : i = L := by omega
              have HR := Lib.hid (show win Z k i = N % D by
                have h := hZW.out
                rw [List.take_of_length_le (by have := HEN.out; omega), eD, HD.out.2] at h
                refine kn_back (P := BB ^ i) (Nat.lt_of_lt_of_le (Nat.mod_lt _ (digSet_pos HSet.out)) ?_) (win_lt hZL k i) h
                rw [← eD]
                refine Nat.le_of_lt (Nat.lt_of_lt_of_le (val_lt hVL) (Nat.pow_le_pow_right BB_pos (by have := HEN.out; omega))))
              have HZ0 := Lib.hid (show ∀ j, j < k ∨ k + i ≤ j → Z.getD j 0 = U.getD j 0 from fun j hj => (hZ0.out j hj).trans (HO0.out j hj))
              clear hzl hol
              go_wp2
              rw [Exit.noGoto_ret]
              go_ret
              exact ⟨⟨Z, by rw [← HND.out]; rfl, hZ, hZl.out, hZL, HZ0.out, HR.out⟩, hOut⟩
      · have ez : ((r + v1 : Nat) : Int) / 4294967296 = 0 := by unfold BB at *; omega
        have hlt : q - 1 < q := by omega
        generalize q - 1 = q1 at *
        generalize r + v1 = r1 at *
        have HG2 := Lib.hid hG2
        clear hG2
        go_wp2
        go_quiet (fail)
        go_wp2
        exact ⟨⟨q1, r1, rfl, rfl, HG2, by omega, by repeat (first|exact bzR _ _|exact hb|refine bzD ?_|refine bzN ?_|refine bzS ?_|refine bzA ?_)⟩, by simp [intOf]; omega⟩
    · have eg : (q : Int) / 4294967296 = 0 := by unfold BB at *; omega
      have hrz : (r : Int) < 4294967296 := by unfold BB at hr; omega
      have hqv : q * v2 < BB * BB := Nat.mul_lt_mul'' (by omega) hv2
      have ep : IntKind.u64.wrap ((q : Int) * (v2 : Int)) = ((q * v2 : Nat) : Int) := by rw [← Int.natCast_mul]; exact w64 hqv
      have eo : bits .or .u64 ((r : Int) * 4294967296) (u2 : Int) = ((r * BB + u2 : Nat) : Int) := by rw [← hi_or hr hu2, Int.natCast_mul]; rfl
      by_cases ht : r * BB + u2 < q * v2
      · have HT := Lib.hid ht
        generalize q * v2 = p at ep ht hqv
        generalize r * BB + u2 = z at eo ht
        have htz : (z : Int) < (p : Int) := by omega
        clear ht
        obtain ⟨hq0, hG2⟩ := digSet_step HSet.out hG.out (.inr HT.out)
        have em : IntKind.u64.wrap ((q : Int) - 1) = ((q - 1 : Nat) : Int) := by rw [show (q : Int) - 1 = ((q - 1 : Nat) : Int) by omega]; exact w64 (by unfold BB at *; omega)
        have ea : IntKind.u64.wrap ((r : Int) + (v1 : Int)) = ((r + v1 : Nat) : Int) := by rw [← Int.natCast_add]; exact w64 (by unfold BB at *; omega)
        by_cases hfar : BB ≤ r + v1
        · have HK := Lib.hid (digSet_far HSet.out hG2 (by omega) hfar)
          have ez : ((r + v1 : Nat) : Int) / 4294967296 = 1 := by unfold BB at *; omega
          generalize q - 1 = q1 at *
          generalize r + v1 = r1 at *
          clear hG2
          go_wp2
          go_quiet (fail)
          have lc := fun W (h : Below w.heap.size w W) => less_c g k m cu bv ov cv q1 U V W (hU.keep h) hUL (by have := HEN.out; omega) (by have := HEN.out; omega) HUm ⟨fun j hj => bkeep h (hV j hj), typ_keep hV.ty h⟩ hVL hVn hcv hg HK.out.2.1
          rw [eD, show m + 1 = L from (HEN.out.2.2).symm, eN] at lc
          go_wp2_with fail
          refine (lc _ (by repeat (first|exact bzR _ _|exact hb|refine bzD ?_|refine bzN ?_|refine bzS ?_|refine bzA ?_))).mono ?_
          rintro e w2 ⟨⟨O, z, rfl, hz, hO, hol, hOL, hO0, hW⟩, hOut⟩
          have hqq := HK.out.2.1
          have hO2 : Out (· = g) w w2 := (Out.of_below _ (show Below w.heap.size w _ by repeat (first|exact bzR _ _|exact hb|refine bzD ?_|refine bzN ?_|refine bzS ?_|refine bzA ?_))).trans hOut
          clear lc hOut
          rcases (show z = 0 ∨ z = 1 by omega) with rfl | rfl
          · have HD := Lib.hid (kn_done (digSet_pos HSet.out) HK.out.1 (by rw [Nat.zero_mul, Nat.add_zero] at hW; exact hW))
            have hd : decide (0 < 0) = false := rfl
            have eq : (q1 : Int) % 4294967296 = (q1 : Int) := by unfold BB at hqq; omega
            clear hW
            go_wp2
            rw [Exit.noGoto_ret]
            go_ret
            exact ⟨⟨O, by rw [HD.out.1]; rfl, hO, hol, hOL, hO0, HD.out.2.symm⟩, hO2⟩
          · have HD := Lib.hid (kn_over (P := BB ^ L) (digSet_pos HSet.out) HK.out.2.2 (win_lt hOL k L) (by rw [Nat.one_mul] at hW; exact hW))
            have hd : decide (0 < 1) = true := rfl
            have eq1 : IntKind.u64.wrap ((q1 : Int) - 1) = ((N / D : Nat) : Int) := by
              have h := HD.out.1
              generalize N / D = nd at *
              rw [show (q1 : Int) - 1 = (nd : Int) by omega]; exact w64 (by unfold BB at *; omega)
            have eq2 : ((N / D : Nat) : Int) % 4294967296 = ((N / D : Nat) : Int) := by
              have h := HD.out.1
              generalize N / D = nd at *
              unfold BB at hqq; omega
            have HO0 := Lib.hid hO0
            have HOl := Lib.hid hol
            clear hW hO0
            obtain ⟨nd, hnd⟩ : ∃ nd, nd = N / D := ⟨_, rfl⟩
            rw [← hnd] at eq1 eq2
            have HND := Lib.hid hnd
            clear hnd
            go_wp2
            go_loopw [9, 89] (fun cx x wr => ∃ (i c : Nat) (Z : List Nat), i ≤ L ∧ x = .int .i64 i ∧ cx = .int .u64 c ∧ c < BB ∧ Rw32 wr g Z ∧ Hid (Z.length = U.length) ∧ Limbs Z ∧ Hid (∀ j, j < k ∨ k + i ≤ j → Z.getD j 0 = O.getD j 0) ∧ Hid (win Z k i + c * BB ^ i = win O k i + val (V.take i)) ∧ Out (· = g) w wr) (fun _ x _ => L - (intOf x).toNat)
            case atStart => exact ⟨0, 0, O, by omega, rfl, rfl, BB_pos, hO, HOl, hOL, Lib.hid (fun _ _ => rfl), Lib.hid (by simp [win_zero, val]), hO2⟩
            case round =>
              rename World => wi
              obtain ⟨i, c, Z, hi, rfl, rfl, hcB, hZ, hZl, hZL, hZ0, hZW, hOut⟩ := hrel
              have hzl := hZl.out
              by_cases hlt : i < L
              · have hltz : (i : Int) < (L : Int) := by omega
                have q0 := hZ.cell (k + i) (by omega)
                have qf := hZ.frozen (k + i)
                have hx := limb_get hZL (k + i)
                have HS := Lib.hid (back_step (O := Z) (U := O) (V := V) (k := k) (i := i) (c := c) (x := Z.getD (k + i) 0) (by omega) (by have := HOl.out; omega) (hZ0.out (k + i) (.inr (Nat.le_refl _))) hZW.out)
                by_cases him : i < m
                · have himz : (i : Int) < (m : Int) := by omega
                  have dd0 := okeep hOut (hV i (by omega)) hg
                  have hy := limb_get hVL i
                  generalize V.getD i 0 = y at *
                  generalize Z.getD (k + i) 0 = x at *
                  have f1 := w64 (BB_sq x hx)
                  have f2 := w64 (BB_sq y hy)
                  have f3 : IntKind.u64.wrap ((c : Int) + (x : Int)) = ((c + x : Nat) : Int) := by rw [← Int.natCast_add]; exact w64 (by unfold BB at *; omega)
                  have f4 : IntKind.u64.wrap (((c + x : Nat) : Int) + (y : Int)) = ((c + x + y : Nat) : Int) := by rw [← Int.natCast_add]; exact w64 (by unfold BB at *; omega)
                  have HS2 := Lib.hid (HS.out (c + x + y) rfl)
                  have hT : c + x + y < BB * BB := by unfold BB at *; omega
                  have hdB : (c + x + y) / BB < BB := Nat.div_lt_of_lt_mul hT
                  have hmB : (c + x + y) % BB < BB := Nat.mod_lt _ BB_pos
                  obtain ⟨lo, hlo⟩ : ∃ lo, lo = (c + x + y) % BB := ⟨_, rfl⟩
                  obtain ⟨up, hup⟩ : ∃ up, up = (c + x + y) / BB := ⟨_, rfl⟩
                  rw [← hlo] at HS2 hmB
                  rw [← hup] at HS2 hdB
                  have g0 : IntKind.u64.wrap ((c : Int) + (x : Int) + (y : Int)) = (c : Int) + (x : Int) + (y : Int) := by rw [show ((c : Int) + (x : Int) + (y : Int)) = ((c + x + y : Nat) : Int) by omega]; exact w64 hT
                  have g1 : ((c : Int) + (x : Int) + (y : Int)) % 4294967296 = (lo : Int) := by unfold BB at hlo; omega
                  have g2 : ((c : Int) + (x : Int) + (y : Int)) / 4294967296 = (up : Int) := by unfold BB at hup; omega
                  have qb := hZ.set (k + i) lo
                  have ql := limbs_set hZL (k := k + i) hmB
                  have bs := hOut.set (p := ⟨g, k + i, none⟩) (fun _ => rfl) (.int .u32 (lo : Int))
                  clear hzl hlo hup hT HS hol
                  go_wp2
                  refine ⟨⟨i + 1, up, Z.set (k + i) lo, by omega, by go_num, rfl, hdB, qb, Lib.hid (by simpa using hZl.out), ql, Lib.hid ?_, HS2, bs⟩, by simp [intOf] <;> omega⟩
                  intro j hj
                  rw [getD_set_far (by omega)]
                  exact hZ0.out j (by omega)
                · have hy0 : V.getD i 0 = 0 := by simp [show V.length ≤ i by omega]
                  rw [hy0] at HS
                  have him' : decide (i < m) = false := by simpa using him
                  generalize Z.getD (k + i) 0 = x at *
                  have f1 := w64 (BB_sq x hx)
                  have f3 : IntKind.u64.wrap ((c : Int) + (x : Int)) = ((c + x : Nat) : Int) := by rw [← Int.natCast_add]; exact w64 (by unfold BB at *; omega)
                  have HS2 := Lib.hid (HS.out (c + x) rfl)
                  have hT : c + x < BB * BB := by unfold BB at *; omega
                  have hdB : (c + x) / BB < BB := Nat.div_lt_of_lt_mul hT
                  have hmB : (c + x) % BB < BB := Nat.mod_lt _ BB_pos
                  obtain ⟨lo, hlo⟩ : ∃ lo, lo = (c + x) % BB := ⟨_, rfl⟩
                  obtain ⟨up, hup⟩ : ∃ up, up = (c + x) / BB := ⟨_, rfl⟩
                  rw [← hlo] at HS2 hmB
                  rw [← hup] at HS2 hdB
                  have g0 : IntKind.u64.wrap ((c : Int) + (x : Int)) = (c : Int) + (x : Int) := by rw [show ((c : Int) + (x : Int)) = ((c + x : Nat) : Int) by omega]; exact w64 hT
                  have g1 : ((c : Int) + (x : Int)) % 4294967296 = (lo : Int) := by unfold BB at hlo; omega
                  have g2 : ((c : Int) + (x : Int)) / 4294967296 = (up : Int) := by unfold BB at hup; omega
                  have qb := hZ.set (k + i) lo
                  have ql := limbs_set hZL (k := k + i) hmB
                  have bs := hOut.set (p := ⟨g, k + i, none⟩) (fun _ => rfl) (.int .u32 (lo : Int))
                  clear hzl hlo hup hT HS hol
                  go_wp2
                  refine ⟨⟨i + 1, up, Z.set (k + i) lo, by omega, by go_num, rfl, hdB, qb, Lib.hid (by simpa using hZl.out), ql, Lib.hid ?_, HS2, bs⟩, by simp [intOf] <;> omega⟩
                  intro j hj
                  rw [getD_set_far (by omega)]
                  exact hZ0.out j (by omega)
              · obtain rfl : i = L := by omega
                have HR := Lib.hid (show win Z k i = N % D by
                  have h := hZW.out
                  rw [List.take_of_length_le (by have := HEN.out; omega), eD, HD.out.2] at h
                  refine kn_back (P := BB ^ i) (Nat.lt_of_lt_of_le (Nat.mod_lt _ (digSet_pos HSet.out)) ?_) (win_lt hZL k i) h
                  rw [← eD]
                  refine Nat.le_of_lt (Nat.lt_of_lt_of_le (val_lt hVL) (Nat.pow_le_pow_right BB_pos (by have := HEN.out; omega))))
                have HZ0 := Lib.hid (show ∀ j, j < k ∨ k + i ≤ j → Z.getD j 0 = U.getD j 0 from fun j hj => (hZ0.out j hj).trans (HO0.out j hj))
                clear hzl hol
                go_wp2
                rw [Exit.noGoto_ret]
                go_ret
                exact ⟨⟨Z, by rw [← HND.out]; rfl, hZ, hZl.out, hZL, HZ0.out, HR.out⟩, hOut⟩
        · have ez : ((r + v1 : Nat) : Int) / 4294967296 = 0 := by unfold BB at *; omega
          have hlt : q - 1 < q := by omega
          generalize q - 1 = q1 at *
          generalize r + v1 = r1 at *
          have HG2 := Lib.hid hG2
          clear hG2
          go_wp2
          go_quiet (fail)
          go_wp2
          exact ⟨⟨q1, r1, rfl, rfl, HG2, by omega, by repeat (first|exact bzR _ _|exact hb|refine bzD ?_|refine bzN ?_|refine bzS ?_|refine bzA ?_)⟩, by simp [intOf]; omega⟩
      · have HK := Lib.hid (digSet_good HSet.out hG.out (by omega) (by omega))
        generalize q * v2 = p at ep ht hqv
        generalize r * BB + u2 = z at eo ht
        have htz : ¬ (z : Int) < (p : Int) := by omega
        have htd : decide (z < p) = false := by simpa using ht
        clear ht
        go_wp2
        go_quiet (fail)
        have lc := fun W (h : Below w.heap.size w W) => less_c g k m cu bv ov cv q U V W (hU.keep h) hUL (by have := HEN.out; omega) (by have := HEN.out; omega) HUm ⟨fun j hj => bkeep h (hV j hj), typ_keep hV.ty h⟩ hVL hVn hcv hg HK.out.2.1
        rw [eD, show m + 1 = L from (HEN.out.2.2).symm, eN] at lc
        go_wp2_with fail
        refine (lc _ (by repeat (first|exact bzR _ _|exact hb|refine bzD ?_|refine bzN ?_|refine bzS ?_|refine bzA ?_))).mono ?_
        rintro e w2 ⟨⟨O, z, rfl, hz, hO, hol, hOL, hO0, hW⟩, hOut⟩
        have hqq := HK.out.2.1
        have hO2 : Out (· = g) w w2 := (Out.of_below _ (show Below w.heap.size w _ by repeat (first|exact bzR _ _|exact hb|refine bzD ?_|refine bzN ?_|refine bzS ?_|refine bzA ?_))).trans hOut
        clear lc hOut
        rcases (show z = 0 ∨ z = 1 by omega) with rfl | rfl
        · have HD := Lib.hid (kn_done (digSet_pos HSet.out) HK.out.1 (by rw [Nat.zero_mul, Nat.add_zero] at hW; exact hW))
          have hd : decide (0 < 0) = false := rfl
          have eq : (q : Int) % 4294967296 = (q : Int) := by unfold BB at hqq; omega
          clear hW
          go_wp2
          rw [Exit.noGoto_ret]
          go_ret
          exact ⟨⟨O, by rw [HD.out.1]; rfl, hO, hol, hOL, hO0, HD.out.2.symm⟩, hO2⟩
        · have HD := Lib.hid (kn_over (P := BB ^ L) (digSet_pos HSet.out) HK.out.2.2 (win_lt hOL k L) (by rw [Nat.one_mul] at hW; exact hW))
          have hd : decide (0 < 1) = true := rfl
          have eq1 : IntKind.u64.wrap ((q : Int) - 1) = ((N / D : Nat) : Int) := by
            have h := HD.out.1
            generalize N / D = nd at *
            rw [show (q : Int) - 1 = (nd : Int) by omega]; exact w64 (by unfold BB at *; omega)
          have eq2 : ((N / D : Nat) : Int) % 4294967296 = ((N / D : Nat) : Int) := by
            have h := HD.out.1
            generalize N / D = nd at *
            unfold BB at hqq; omega
          have HO0 := Lib.hid hO0
          have HOl := Lib.hid hol
          clear hW hO0
          obtain ⟨nd, hnd⟩ : ∃ nd, nd = N / D := ⟨_, rfl⟩
          rw [← hnd] at eq1 eq2
          have HND := Lib.hid hnd
          clear hnd
          go_wp2
          go_loopw [9, 89] (fun cx x wr => ∃ (i c : Nat) (Z : List Nat), i ≤ L ∧ x = .int .i64 i ∧ cx = .int .u64 c ∧ c < BB ∧ Rw32 wr g Z ∧ Hid (Z.length = U.length) ∧ Limbs Z ∧ Hid (∀ j, j < k ∨ k + i ≤ j → Z.getD j 0 = O.getD j 0) ∧ Hid (win Z k i + c * BB ^ i = win O k i + val (V.take i)) ∧ Out (· = g) w wr) (fun _ x _ => L - (intOf x).toNat)
          case atStart => exact ⟨0, 0, O, by omega, rfl, rfl, BB_pos, hO, HOl, hOL, Lib.hid (fun _ _ => rfl), Lib.hid (by simp [win_zero, val]), hO2⟩
          case round =>
            rename World => wi
            obtain ⟨i, c, Z, hi, rfl, rfl, hcB, hZ, hZl, hZL, hZ0, hZW, hOut⟩ := hrel
            have hzl := hZl.out
            by_cases hlt : i < L
            · have hltz : (i : Int) < (L : Int) := by omega
              have q0 := hZ.cell (k + i) (by omega)
              have qf := hZ.frozen (k + i)
              have hx := limb_get hZL (k + i)
              have HS := Lib.hid (back_step (O := Z) (U := O) (V := V) (k := k) (i := i) (c := c) (x := Z.getD (k + i) 0) (by omega) (by have := HOl.out; omega) (hZ0.out (k + i) (.inr (Nat.le_refl _))) hZW.out)
              by_cases him : i < m
              · have himz : (i : Int) < (m : Int) := by omega
                have dd0 := okeep hOut (hV i (by omega)) hg
                have hy := limb_get hVL i
                generalize V.getD i 0 = y at *
                generalize Z.getD (k + i) 0 = x at *
                have f1 := w64 (BB_sq x hx)
                have f2 := w64 (BB_sq y hy)
                have f3 : IntKind.u64.wrap ((c : Int) + (x : Int)) = ((c + x : Nat) : Int) := by rw [← Int.natCast_add]; exact w64 (by unfold BB at *; omega)
                have f4 : IntKind.u64.wrap (((c + x : Nat) : Int) + (y : Int)) = ((c + x + y : Nat) : Int) := by rw [← Int.natCast_add]; exact w64 (by unfold BB at *; omega)
                have HS2 := Lib.hid (HS.out (c + x + y) rfl)
                have hT : c + x + y < BB * BB := by unfold BB at *; omega
                have hdB : (c + x + y) / BB < BB := Nat.div_lt_of_lt_mul hT
                have hmB : (c + x + y) % BB < BB := Nat.mod_lt _ BB_pos
                obtain ⟨lo, hlo⟩ : ∃ lo, lo = (c + x + y) % BB := ⟨_, rfl⟩
                obtain ⟨up, hup⟩ : ∃ up, up = (c + x + y) / BB := ⟨_, rfl⟩
                rw [← hlo] at HS2 hmB
                rw [← hup] at HS2 hdB
                have g0 : IntKind.u64.wrap ((c : Int) + (x : Int) + (y : Int)) = (c : Int) + (x : Int) + (y : Int) := by rw [show ((c : Int) + (x : Int) + (y : Int)) = ((c + x + y : Nat) : Int) by omega]; exact w64 hT
                have g1 : ((c : Int) + (x : Int) + (y : Int)) % 4294967296 = (lo : Int) := by unfold BB at hlo; omega
                have g2 : ((c : Int) + (x : Int) + (y : Int)) / 4294967296 = (up : Int) := by unfold BB at hup; omega
                have qb := hZ.set (k + i) lo
                have ql := limbs_set hZL (k := k + i) hmB
                have bs := hOut.set (p := ⟨g, k + i, none⟩) (fun _ => rfl) (.int .u32 (lo : Int))
                clear hzl hlo hup hT HS hol
                go_wp2
                refine ⟨⟨i + 1, up, Z.set (k + i) lo, by omega, by go_num, rfl, hdB, qb, Lib.hid (by simpa using hZl.out), ql, Lib.hid ?_, HS2, bs⟩, by simp [intOf] <;> omega⟩
                intro j hj
                rw [getD_set_far (by omega)]
                exact hZ0.out j (by omega)
              · have hy0 : V.getD i 0 = 0 := by simp [show V.length ≤ i by omega]
                rw [hy0] at HS
                have him' : decide (i < m) = false := by simpa using him
                generalize Z.getD (k + i) 0 = x at *
                have f1 := w64 (BB_sq x hx)
                have f3 : IntKind.u64.wrap ((c : Int) + (x : Int)) = ((c + x : Nat) : Int) := by rw [← Int.natCast_add]; exact w64 (by unfold BB at *; omega)
                have HS2 := Lib.hid (HS.out (c + x) rfl)
                have hT : c + x < BB * BB := by unfold BB at *; omega
                have hdB : (c + x) / BB < BB := Nat.div_lt_of_lt_mul hT
                have hmB : (c + x) % BB < BB := Nat.mod_lt _ BB_pos
                obtain ⟨lo, hlo⟩ : ∃ lo, lo = (c + x) % BB := ⟨_, rfl⟩
                obtain ⟨up, hup⟩ : ∃ up, up = (c + x) / BB := ⟨_, rfl⟩
                rw [← hlo] at HS2 hmB
                rw [← hup] at HS2 hdB
                have g0 : IntKind.u64.wrap ((c : Int) + (x : Int)) = (c : Int) + (x : Int) := by rw [show ((c : Int) + (x : Int)) = ((c + x : Nat) : Int) by omega]; exact w64 hT
                have g1 : ((c : Int) + (x : Int)) % 4294967296 = (lo : Int) := by unfold BB at hlo; omega
                have g2 : ((c : Int) + (x : Int)) / 4294967296 = (up : Int) := by unfold BB at hup; omega
                have qb := hZ.set (k + i) lo
                have ql := limbs_set hZL (k := k + i) hmB
                have bs := hOut.set (p := ⟨g, k + i, none⟩) (fun _ => rfl) (.int .u32 (lo : Int))
                clear hzl hlo hup hT HS hol
                go_wp2
                refine ⟨⟨i + 1, up, Z.set (k + i) lo, by omega, by go_num, rfl, hdB, qb, Lib.hid (by simpa using hZl.out), ql, Lib.hid ?_, HS2, bs⟩, by simp [intOf] <;> omega⟩
                intro j hj
                rw [getD_set_far (by omega)]
                exact hZ0.out j (by omega)
            · obtain rfl : i = L := by omega
              have HR := Lib.hid (show win Z k i = N % D by
                have h := hZW.out
                rw [List.take_of_length_le (by have := HEN.out; omega), eD, HD.out.2] at h
                refine kn_back (P := BB ^ i) (Nat.lt_of_lt_of_le (Nat.mod_lt _ (digSet_pos HSet.out)) ?_) (win_lt hZL k i) h
                rw [← eD]
                refine Nat.le_of_lt (Nat.lt_of_lt_of_le (val_lt hVL) (Nat.pow_le_pow_right BB_pos (by have := HEN.out; omega))))
              have HZ0 := Lib.hid (show ∀ j, j < k ∨ k + i ≤ j → Z.getD j 0 = U.getD j 0 from fun j hj => (hZ0.out j hj).trans (HO0.out j hj))
              clear hzl hol
              go_wp2
              rw [Exit.noGoto_ret]
              go_ret
              exact ⟨⟨Z, by rw [← HND.out]; rfl, hZ, hZl.out, hZL, HZ0.out, HR.out⟩, hOut⟩

theorem digit_c (g k n cu bv ov cv : Nat) (U V : List Nat) (w : World) (hU : Rw32 w g U) (hUL : Limbs U) (hk : k + (n + 3) ≤ U.length) (hcu : n + 3 ≤ cu) (hkm : U.length ≤ 1099511627776) (hV : At32 w bv ov V) (hVL : Limbs V) (hVn : V.length = n + 2) (hcv : n + 2 ≤ cv) (hg : bv ≠ g)
    (hv1 : 2147483648 ≤ V.getD (n + 1) 0) (hND : win U k (n + 3) < val V * BB) :
    Calls Tryz.prog 263 #[.slice (some ⟨g, k, none⟩) (n + 3) cu, .slice (some ⟨bv, ov, none⟩) (n + 2) cv] w fun e w' => (∃ (O : List Nat), e = .returned (.int .u32 ((win U k (n + 3) / val V : Nat) : Int)) ∧ Rw32 w' g O ∧ O.length = U.length ∧ Limbs O ∧ (∀ j, j < k ∨ k + (n + 3) ≤ j → O.getD j 0 = U.getD j 0) ∧ win O k (n + 3) = win U k (n + 3) % val V) ∧ Out (· = g) w w' := by
  have hvv := top_two hVn
  have huu := win_top (U := U) (k := k) (n := n) (by omega)
  have hset : DigSet (win U k (n + 3)) (val V) (V.getD (n + 1) 0) (V.getD n 0) (val (V.take n)) (U.getD (k + (n + 2)) 0 * BB + U.getD (k + (n + 1)) 0) (U.getD (k + n) 0) (win U k n) (BB ^ n) := by
    refine ⟨Nat.pow_pos BB_pos, ?_, ?_, ?_, win_lt hUL _ _, hv1, limb_get hVL _, limb_get hVL _, limb_get hUL _, hND⟩
    · rw [hvv, Nat.pow_succ, Nat.mul_comm (BB ^ n)]
    · rw [huu, Nat.pow_succ, Nat.mul_comm (BB ^ n)]
    · refine Nat.lt_of_lt_of_le (val_lt fun x hx => hVL x (List.mem_of_mem_take hx)) (Nat.pow_le_pow_right BB_pos ?_)
      simp; omega
  exact digit_core g k n (n + 1) (n + 2) (n + 3) cu bv ov cv U V _ _ _ _ _ _ _ _ _ _ w rfl rfl rfl (by omega) hU hV hg hk hVn hUL hVL rfl rfl hset (hU.cell _ (by omega)) (hU.cell _ (by omega)) (hU.cell _ (by omega)) (hV _ (by omega)) (hV _ (by omega)) (limb_get hUL _) (limb_get hUL _) hcu hcv hkm
end Go.Proofs.YtbmaffijncapiaaGreatDoor

/- A region that draws its order: a head whose calls answer what their arguments say and only make memory, and a tail whose order is forced: one walk. -/
namespace Go.Proofs.YtbmaffijncapiaaGreatDoor
open Go.ChangeShapes Go.WideShapes Go.ChangeAt Go.RowKit
set_option linter.unusedVariables false
set_option linter.unusedSimpArgs false
section
variable {P : Program} {ops : Array Oper} {md : Region.Mode} {C : World → Prop}
def headQ (P : Program) (md : Region.Mode) (ops : Array Oper) (C : World → Prop) (n : Nat) (L : Array Bool → Act → Prop) : Nat → Array Bool → Act → Prop
  | 0, ls, a => L ls a
  | f + 1, ls, a => Region.ready md ops ls ≠ [] ∧ ∀ i ∈ Region.ready md ops ls, i < n ∧ qOp P ops C i (headQ P md ops C n L f (ls.setIfInBounds i true)) a
theorem headQ_first {n i : Nat} {oi : Oper} {v : Value} {L : Array Bool → Act → Prop} (hi : ops[i]? = some oi) (hsel : ∀ (j : Nat) (o : Oper) cs b, ops[j]? = some o → o.op ≠ .select cs b)
    (hs : Region.sinkB md ops n = true) (hc : Region.chainB md ops n = true) (hn : n < ops.size) (hin : i < n) (hdone : ∀ ls a, L ls a → ∀ j ∈ Region.ready md ops ls, n ≤ j) :
    ∀ (f : Nat) (ls : Array Bool) (a : Act), HeadInv md ops n ls →
      (∀ j oj, ops[j]? = some oj → j ≠ i → ls.getD j true = false → (∀ e ∈ oj.after, Region.binds md e = true → e.on ≠ i) → oi.apart ops oj = true) →
      i ∈ Region.ready md ops ls → YieldsIn P ops C oi v a → headQ P md ops C n L f (ls.setIfInBounds i true) (a.put oi.dst v) → headQ P md ops C n L (f + 1) ls a := by
  have below : ∀ ls, HeadInv md ops n ls → i ∈ Region.ready md ops ls → ∀ j ∈ Region.ready md ops ls, j < n := fun ls inv hr j hj => by
    apply Nat.lt_of_not_le
    intro hge
    exact tail_waits hs hc hn inv _ i rfl hin (mem_ready.1 hr).1 j hge hj
  intro f
  induction f with
  | zero =>
    intro ls a inv _ hr hy H
    refine ⟨fun h => (by rw [h] at hr; cases hr), fun j hj => ⟨below ls inv hr j hj, ?_⟩⟩
    by_cases e : j = i
    · subst e; exact hy.qOp hi H
    · have h1 := hdone _ _ H j (ready_mono hj e)
      have h2 := below ls inv hr j hj
      omega
  | succ f ih =>
    intro ls a inv hfree hr hy H
    refine ⟨fun h => (by rw [h] at hr; cases hr), fun j hj => ⟨below ls inv hr j hj, ?_⟩⟩
    by_cases e : j = i
    · subst e; exact hy.qOp hi H
    · have hjn := below ls inv hr j hj
      have h1 := (H.2 j (ready_mono hj e)).2
      obtain ⟨hjun, oj, hoj, hall⟩ := mem_ready.1 hj
      have hno : ∀ d ∈ oj.after, Region.binds md d = true → d.on ≠ i := fun d hd hb he => by
        have h2 := hall d hd hb
        rw [he, getD_both (mem_ready.1 hr).1] at h2
        cases h2
      have h2 := qOp_put hoj (hfree j oj hoj e hjun hno) (fun cs b => hsel i oi cs b hi) (fun cs b => hsel j oj cs b hoj) hy h1
      refine qOp_mono (fun a' h3 => ih (ls.setIfInBounds j true) a' (inv.set hj hjn) (fun k ok hk hki hun hnk => hfree k ok hk hki ?_ hnk) (ready_mono hr (Ne.symm e)) h3.1 (by rw [Array.setIfInBounds_comm _ _ e]; exact h3.2)) h2
      by_cases hjk : j = k
      · subst hjk; exact hjun
      · rw [getD_set_ne true hjk] at hun; exact hun
theorem headQ_lex {n g : Nat} {Lq : Act → Prop} (hsel : Region.noSelect ops = true) (hs : Region.sinkB md ops n = true) (hc : Region.chainB md ops n = true) (hn : n < ops.size) :
    ∀ (l : List Oper) (k : Nat) (ls : Array Bool) (a : Act), (∀ j, j < l.length → l[j]? = ops[k + j]?) → k + l.length = n → HeadInv md ops n ls →
    Region.lexHead md ops g l.length k ls = true → wpQuiet P ops C Lq l a → headQ P md ops C n (fun ls' a' => Region.seqB md ops g n ls' = true ∧ Lq a') l.length ls a := by
  intro l
  induction l with
  | nil =>
    intro k ls a _ hk _ hB h
    have e : k = n := by simpa using hk
    subst e
    exact ⟨by simpa [Region.lexHead] using hB, h⟩
  | cons o l ih =>
    intro k ls a hl hk inv hB h
    have h0 : ops[k]? = some o := by simpa using (hl 0 (by simp)).symm
    simp only [List.length_cons, Region.lexHead, Bool.and_eq_true] at hB
    have hkn : k < n := by simp only [List.length_cons] at hk; omega
    have hr : k ∈ Region.ready md ops ls := by simpa using hB.1.1
    have hq : qOp P ops C k (wpQuiet P ops C Lq l) a := by unfold qOp; simp only [h0]; exact h
    obtain ⟨v, hy, hK⟩ := yieldsIn_of_qOp h0 hq
    refine headQ_first h0 (Region.noSelect_spec hsel) hs hc hn hkn (fun ls' a' hL => seqB_ready hL.1) l.length ls a inv (Region.free_spec h0 hB.1.2) hr hy ?_
    exact ih (k + 1) _ _ (fun j hj => by have := hl (j + 1) (by simp; omega); simpa [Nat.add_assoc, Nat.add_comm 1 j] using this) (by simp only [List.length_cons] at hk; omega) (inv.set hr hkn) hB.2 hK
end
end Go.Proofs.YtbmaffijncapiaaGreatDoor

