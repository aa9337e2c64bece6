/- Texts of this seat, laid together: LimbK, LimbL, Jn, LimbD. What each theorem proves, and under which conditions, its statement says. -/
import Derived.Test.YtbmaffijncapiaaGreatDoorB06
import Derived.ArgAppend
import Derived.Deep.DeepFit
import Derived.Test.YtbmaffijncapiaaGreatDoorB03
import Derived.Shelf.Strings.OnBuilder
set_option maxRecDepth 100000
set_option maxHeartbeats 32000000
set_option linter.unusedVariables false
set_option linter.unusedSimpArgs false
namespace Go.Proofs.YtbmaffijncapiaaGreatDoor
open Num
open Go.ChangeShapes Go.WideShapes Go.ChangeAt Go.RowKit
namespace Num
theorem back_step {O U V : List Nat} {k i c x : Nat} (hO : k + i < O.length) (hU : k + i < U.length) (hx : x = U.getD (k + i) 0)
 (h : win O k i + c * BB ^ i = win U k i + val (V.take i)) :
 ∀ cc, cc = c + x + V.getD i 0 → win (O.set (k + i) (cc % BB)) k (i + 1) + cc / BB * BB ^ (i + 1) = win U k (i + 1) + val (V.take (i + 1)) := by
 intro cc h1
 rw [win_set_succ hO, win_succ hU, take_any, ← hx, Nat.pow_succ, Nat.mul_comm (BB ^ i) BB]
 have := back_arith (r := cc % BB) (c1 := cc / BB) (B := BB) h (vi := V.getD i 0) (ui := x) (by rw [← h1, Nat.mul_comm]; exact (Nat.div_add_mod cc BB).symm)
 omega
structure Guess (N D v1 v2 u2 high g r : Nat) : Prop where
 sum : g * v1 + r = high
 low : N / D ≤ g
 high : g ≤ BB + 1
def KGood (N D g : Nat) : Prop := N / D ≤ g ∧ g < BB ∧ g * D < N + D
end Num
structure DigSet (N D v1 v2 low high u2 lowN P2 : Nat) : Prop where
 hP : 0 < P2
 hD : D = v1 * (BB * P2) + v2 * P2 + low
 hN : N = high * (BB * P2) + u2 * P2 + lowN
 hl : low < P2
 hlN : lowN < P2
 hv1 : 2147483648 ≤ v1
 hv1B : v1 < BB
 hv2 : v2 < BB
 hu2 : u2 < BB
 hND : N < D * BB
namespace Num
theorem digSet_high {N D v1 v2 low high u2 lowN P2 : Nat} (h : DigSet N D v1 v2 low high u2 lowN P2) : high / v1 ≤ BB + 1 := by
 obtain ⟨hP, hD, hN, hl, hlN, hv1, hv1B, hv2, hu2, hND⟩ := h
 have h2 := low_two hv2 hl
 have h3 : D ≤ (v1 + 1) * (BB * P2) := by rw [Nat.add_mul]; omega
 have h4 : high * (BB * P2) < (v1 + 1) * BB * (BB * P2) := by
  have : D * BB ≤ (v1 + 1) * (BB * P2) * BB := Nat.mul_le_mul h3 (Nat.le_refl _)
  have e : (v1 + 1) * (BB * P2) * BB = (v1 + 1) * BB * (BB * P2) := by ac_rfl
  omega
 have h5 : high < (v1 + 1) * BB := Nat.lt_of_mul_lt_mul_right h4
 have h6 : high / v1 < BB + 2 := by
  rw [Nat.div_lt_iff_lt_mul (by omega), Nat.add_mul]
  rw [Nat.add_mul, Nat.mul_comm v1] at h5
  unfold BB at *
  omega
 omega
theorem digSet_first {N D v1 v2 low high u2 lowN P2 : Nat} (h : DigSet N D v1 v2 low high u2 lowN P2) : Guess N D v1 v2 u2 high (high / v1) (high % v1) := by
 have hb := digSet_high h
 obtain ⟨hP, hD, hN, hl, hlN, hv1, hv1B, hv2, hu2, hND⟩ := h
 refine ⟨by rw [Nat.mul_comm]; exact Nat.div_add_mod _ _, ?_, hb⟩
 have h2 := low_two hu2 hlN
 refine kn_first (P1 := BB * P2) (Nat.mul_pos BB_pos hP) (by omega) ?_ ?_ (by omega)
 · rw [Nat.add_mul]; omega
 · have : 1 * (BB * P2) ≤ v1 * (BB * P2) := Nat.mul_le_mul (by omega) (Nat.le_refl _)
   have : 0 < BB * P2 := Nat.mul_pos BB_pos hP
   omega
theorem digSet_pos {N D v1 v2 low high u2 lowN P2 : Nat} (h : DigSet N D v1 v2 low high u2 lowN P2) : 0 < D := by
 obtain ⟨hP, hD, hN, hl, hlN, hv1, hv1B, hv2, hu2, hND⟩ := h
 have : 1 * (BB * P2) ≤ v1 * (BB * P2) := Nat.mul_le_mul (by omega) (Nat.le_refl _)
 have : 0 < BB * P2 := Nat.mul_pos BB_pos hP
 omega
theorem digSet_step {N D v1 v2 low high u2 lowN P2 g r : Nat} (h : DigSet N D v1 v2 low high u2 lowN P2) (hg : Guess N D v1 v2 u2 high g r) (ht : BB ≤ g ∨ r * BB + u2 < g * v2) :
 0 < g ∧ Guess N D v1 v2 u2 high (g - 1) (r + v1) := by
 have hp := digSet_pos h
 obtain ⟨hP, hD, hN, hl, hlN, hv1, hv1B, hv2, hu2, hND⟩ := h
 obtain ⟨h1, h2, h3⟩ := hg
 have hlt : N / D < g := by
  rcases ht with ht | ht
  · exact Nat.lt_of_lt_of_le (kn_big hND) ht
  · exact kn_step hP hp hD hN hlN h1 ht
 refine ⟨Nat.lt_of_le_of_lt (Nat.zero_le _) hlt, ?_, Nat.le_sub_one_of_lt hlt, by omega⟩
 obtain ⟨k, rfl⟩  : ∃ k, g = k + 1 := ⟨g - 1, (Nat.succ_pred_eq_of_pos (Nat.lt_of_le_of_lt (Nat.zero_le _) hlt)).symm⟩
 rw [Nat.add_mul] at h1
 simp only [Nat.add_sub_cancel]
 omega
theorem digSet_good {N D v1 v2 low high u2 lowN P2 g r : Nat} (h : DigSet N D v1 v2 low high u2 lowN P2) (hg : Guess N D v1 v2 u2 high g r) (h1 : g < BB) (h2 : g * v2 ≤ r * BB + u2) : KGood N D g := by
 obtain ⟨hP, hD, hN, hl, hlN, hv1, hv1B, hv2, hu2, hND⟩ := h
 exact ⟨hg.low, h1, kn_exit (by omega) BB_pos h1 hl hD hN hg.sum h2⟩
theorem digSet_far {N D v1 v2 low high u2 lowN P2 g r : Nat} (h : DigSet N D v1 v2 low high u2 lowN P2) (hg : Guess N D v1 v2 u2 high g r) (h1 : g ≤ BB) (h2 : BB ≤ r) : KGood N D g := by
 have hp := digSet_pos h
 obtain ⟨hP, hD, hN, hl, hlN, hv1, hv1B, hv2, hu2, hND⟩ := h
 have h3 := kn_far (low_two hv2 hl) hD hN hg.sum (by omega)
 have h4 : g ≤ N / D := by rw [Nat.le_div_iff_mul_le hp]; exact h3
 have h5 := kn_big hND
 exact ⟨hg.low, Nat.lt_of_le_of_lt h4 h5, by omega⟩
end Num

theorem digit_core (g k n n1 m L cu bv ov cv : Nat) (U V : List Nat) (N D v1 v2 u0 u1 u2 low lowN P2 : Nat) (w : World) (en : m = n1 + 1) (en1 : n1 = n + 1) (eL : L = m + 1) (hN : n ≤ 1099511627776)
 (hU : Rw32 w g U) (hV : At32 w bv ov V) (hg : bv ≠ g) (hkU : k + L ≤ U.length) (hVn : V.length = m) (hUL : Limbs U) (hVL : Limbs V)
 (eN : win U k L = N) (eD : val V = D) (hset : DigSet N D v1 v2 low (u0 * BB + u1) u2 lowN P2)
 (c0 : w.cell? ⟨g, k + m, none⟩ = some (.int .u32 (u0 : Int))) (c1 : w.cell? ⟨g, k + n1, none⟩ = some (.int .u32 (u1 : Int))) (c2 : w.cell? ⟨g, k + n, none⟩ = some (.int .u32 (u2 : Int)))
 (d1 : w.cell? ⟨bv, ov + n1, none⟩ = some (.int .u32 (v1 : Int))) (d2 : w.cell? ⟨bv, ov + n, none⟩ = some (.int .u32 (v2 : Int))) (hu0 : u0 < BB) (hu1 : u1 < BB) (hcu : L ≤ cu) (hcv : m ≤ cv) (HUm : U.length ≤ 1099511627776) :
 Calls Tryz.prog 263 #[.slice (some ⟨g, k, none⟩) L cu, .slice (some ⟨bv, ov, none⟩) m cv] w fun e w' => (∃ (O : List Nat), e = .returned (.int .u32 ((N / D : Nat) : Int)) ∧ Rw32 w' g O ∧ O.length = U.length ∧ Limbs O ∧ (∀ j, j < k ∨ k + L ≤ j → O.getD j 0 = U.getD j 0) ∧ win O k L = N % D) ∧ Out (· = g) w w' := by
 have hv1 := hset.hv1
 have hv1B := hset.hv1B
 have hv2 := hset.hv2
 have hu2 := hset.hu2
 have hfirst := digSet_first hset
 have HSet := Lib.hid hset
 clear hset
 have e51 : IntKind.i64.wrap ((m : Int) - 1) = (n1 : Int) := by rw [IntKind.wrap_i64]; omega
 have e52 : IntKind.i64.wrap ((m : Int) - 2) = (n : Int) := by rw [IntKind.wrap_i64]; omega
 have l0 : (m : Int) < (L : Int) := by omega
 have l1 : (n1 : Int) < (L : Int) := by omega
 have l2 : (n : Int) < (L : Int) := by omega
 have l3 : (n1 : Int) < (m : Int) := by omega
 have l4 : (n : Int) < (m : Int) := by omega
 have x0 := w64 (BB_sq u0 hu0)
 have x1 := w64 (BB_sq u1 hu1)
 have x2 := w64 (BB_sq u2 hu2)
 have y1 := w64 (BB_sq v1 hv1B)
 have y2 := w64 (BB_sq v2 hv2)
 have o1 : bits .or .u64 ((u0 : Int) * 4294967296) (u1 : Int) = ((u0 * BB + u1 : Nat) : Int) := by rw [← hi_or hu0 hu1, Int.natCast_mul]; rfl
 have o2 : bits .or .u64 (IntKind.u64.wrap ((u0 : Int) * 4294967296)) (u1 : Int) = ((u0 * BB + u1 : Nat) : Int) := by rw [show (u0 : Int) * 4294967296 = ((u0 * BB : Nat) : Int) by rw [Int.natCast_mul]; rfl, w64 (by unfold BB at *; omega), hi_or hu0 hu1]
 have hu0B : (u0 : Int) < 4294967296 := by unfold BB at hu0; omega
 have hv1z : ((v1 : Int) == 0) = false := by simp; omega
 generalize hHi : u0 * BB + u1 = hi at *
 have t1 : (hi : Int).tdiv (v1 : Int) = ((hi / v1 : Nat) : Int) := rfl
 have t2 : (hi : Int).tmod (v1 : Int) = ((hi % v1 : Nat) : Int) := rfl
 have t3 : (hi : Int) / (v1 : Int) = ((hi / v1 : Nat) : Int) := rfl
 have t4 : (hi : Int) % (v1 : Int) = ((hi % v1 : Nat) : Int) := rfl
 have hr0 : hi % v1 < v1 := Nat.mod_lt _ (by omega)
 generalize hi / v1 = q0 at *
 generalize hi % v1 = r0 at *
 have HF := Lib.hid hfirst
 have hB := Below.refl w.heap.size w
 have HEN := Lib.hid (And.intro en (And.intro en1 eL))
 clear hfirst en en1 eL hHi
 go_enter Tryz.func263, Tryz.ntmps263
 go_wp2
 go_step3
 go_wp2
 go_quiet (fail)
 go_wp2
 have wq0 : IntKind.u64.wrap (q0 : Int) = (q0 : Int) := w64 (by have := HF.out.high; unfold BB at *; omega)
 go_quiet (fail)
 go_wp2
 clear t1 t2 t3 t4 o1 o2 wq0 hv1z
 go_step3
 go_wp2
 go_loopw [7, 8] (fun gx rx wr => ∃ (q r : Nat), gx = .int .u64 q ∧ rx = .int .u64 r ∧ Hid (Guess N D v1 v2 u2 hi q r) ∧ r < BB ∧ Below w.heap.size w wr) (fun gx _ _ => (intOf gx).toNat)
 case atStart => exact ⟨q0, r0, rfl, rfl, HF, by omega, bZ⟩
 case round =>
  obtain ⟨q, r, rfl, rfl, hG, hr, hb⟩ := hrel
  have hqB := hG.out.high
  have cc0 := bkeep hb c0
  have cc1 := bkeep hb c1
  have cc2 := bkeep hb c2
  have dd1 := bkeep hb d1
  have dd2 := bkeep hb d2
  clear c0 c1 c2 d1 d2 hB x0 x1
  by_cases hq : BB ≤ q
  · have eg : (q : Int) / 4294967296 = 1 := by unfold BB at *; omega
    obtain ⟨hq0, hG2⟩ := digSet_step HSet.out hG.out (.inl hq)
    have em : IntKind.u64.wrap ((q : Int) - 1) = ((q - 1 : Nat) : Int) := by rw [show (q : Int) - 1 = ((q - 1 : Nat) : Int) by omega]; exact w64 (by unfold BB at *; omega)
    have ea : IntKind.u64.wrap ((r : Int) + (v1 : Int)) = ((r + v1 : Nat) : Int) := by rw [← Int.natCast_add]; exact w64 (by unfold BB at *; omega)
    by_cases hfar : BB ≤ r + v1
    · have HK := Lib.hid (digSet_far HSet.out hG2 (by omega) hfar)
      have ez : ((r + v1 : Nat) : Int) / 4294967296 = 1 := by unfold BB at *; omega
      generalize q - 1 = q1 at *
      generalize r + v1 = r1 at *
      clear hG2
      go_wp2
      go_quiet (fail)
      have lc := fun W (h : Below w.heap.size w W) => less_c g k m cu bv ov cv q1 U V W (hU.keep h) hUL (by have := HEN.out; omega) (by have := HEN.out; omega) HUm ⟨fun j hj => bkeep h (hV j hj), typ_keep hV.ty h⟩ hVL hVn hcv hg HK.out.2.1
      rw [eD, show m + 1 = L from (HEN.out.2.2).symm, eN] at lc
      go_wp2_with fail
      refine (lc _ bZ).mono ?_
      rintro e w2 ⟨⟨O, z, rfl, hz, hO, hol, hOL, hO0, hW⟩, hOut⟩
      have hqq := HK.out.2.1
      have hO2 : Out (· = g) w w2 := (Out.of_below _ (show Below w.heap.size w _ by repeat (first|exact bzR _ _|exact hb|refine bzD ?_|refine bzN ?_|refine bzS ?_|refine bzA ?_))).trans hOut
      clear lc hOut
      rcases (show z = 0 ∨ z = 1 by omega) with rfl | rfl
      · have HD := Lib.hid (kn_done (digSet_pos HSet.out) HK.out.1 (by rw [Nat.zero_mul, Nat.add_zero] at hW; exact hW))
        have hd : decide (0 < 0) = false := rfl
        have eq : (q1 : Int) % 4294967296 = (q1 : Int) := by unfold BB at hqq; omega
        clear hW
        go_wp2
        rw [Exit.noGoto_ret]
        go_ret
        exact ⟨⟨O, by rw [HD.out.1]; rfl, hO, hol, hOL, hO0, HD.out.2.symm⟩, hO2⟩
      · have HD := Lib.hid (kn_over (P := BB ^ L) (digSet_pos HSet.out) HK.out.2.2 (win_lt hOL k L) (by rw [Nat.one_mul] at hW; exact hW))
        have hd : decide (0 < 1) = true := rfl
        have eq1 : IntKind.u64.wrap ((q1 : Int) - 1) = ((N / D : Nat) : Int) := by
         have h := HD.out.1
         generalize N / D = nd at *
         rw [show (q1 : Int) - 1 = (nd : Int) by omega]; exact w64 (by unfold BB at *; omega)
        have eq2 : ((N / D : Nat) : Int) % 4294967296 = ((N / D : Nat) : Int) := by
         have h := HD.out.1
         generalize N / D = nd at *
         unfold BB at hqq; omega
        have HO0 := Lib.hid hO0
        have HOl := Lib.hid hol
        clear hW hO0
        obtain ⟨nd, hnd⟩ : ∃ nd, nd = N / D := ⟨_, rfl⟩
        rw [← hnd] at eq1 eq2
        have HND := Lib.hid hnd
        clear hnd
        go_wp2
        go_loopw [9, 89] (fun cx x wr => ∃ (i c : Nat) (Z : List Nat), i ≤ L ∧ x = .int .i64 i ∧ cx = .int .u64 c ∧ c < BB ∧ Rw32 wr g Z ∧ Hid (Z.length = U.length) ∧ Limbs Z ∧ Hid (∀ j, j < k ∨ k + i ≤ j → Z.getD j 0 = O.getD j 0) ∧ Hid (win Z k i + c * BB ^ i = win O k i + val (V.take i)) ∧ Out (· = g) w wr) (fun _ x _ => L - (intOf x).toNat)
        case atStart => exact ⟨0, 0, O, by omega, rfl, rfl, BB_pos, hO, HOl, hOL, Lib.hid (fun _ _ => rfl), Lib.hid (by simp [win_zero, val]), hO2⟩
        case round =>
         rename World => wi
         obtain ⟨i, c, Z, hi, rfl, rfl, hcB, hZ, hZl, hZL, hZ0, hZW, hOut⟩ := hrel
         have hzl := hZl.out
         by_cases hlt : i < L
         · have hltz : (i : Int) < (L : Int) := by omega
           have q0 := hZ.cell (k + i) (by omega)
           have qf := hZ.frozen (k + i)
           have hx := limb_get hZL (k + i)
           have HS := Lib.hid (back_step (O := Z) (U := O) (V := V) (k := k) (i := i) (c := c) (x := Z.getD (k + i) 0) (by omega) (by have := HOl.out; omega) (hZ0.out (k + i) (.inr (Nat.le_refl _))) hZW.out)
           by_cases him : i < m
           · have himz : (i : Int) < (m : Int) := by omega
             have dd0 := okeep hOut (hV i (by omega)) hg
             have hy := limb_get hVL i
             generalize V.getD i 0 = y at *
             generalize Z.getD (k + i) 0 = x at *
             have f1 := w64 (BB_sq x hx)
             have f2 := w64 (BB_sq y hy)
             have f3 : IntKind.u64.wrap ((c : Int) + (x : Int)) = ((c + x : Nat) : Int) := by rw [← Int.natCast_add]; exact w64 (by unfold BB at *; omega)
             have f4 : IntKind.u64.wrap (((c + x : Nat) : Int) + (y : Int)) = ((c + x + y : Nat) : Int) := by rw [← Int.natCast_add]; exact w64 (by unfold BB at *; omega)
             have HS2 := Lib.hid (HS.out (c + x + y) rfl)
             have hT : c + x + y < BB * BB := by unfold BB at *; omega
             have hdB : (c + x + y) / BB < BB := Nat.div_lt_of_lt_mul hT
             have hmB : (c + x + y) % BB < BB := Nat.mod_lt _ BB_pos
             obtain ⟨lo, hlo⟩ : ∃ lo, lo = (c + x + y) % BB := ⟨_, rfl⟩
             obtain ⟨up, hup⟩ : ∃ up, up = (c + x + y) / BB := ⟨_, rfl⟩
             rw [← hlo] at HS2 hmB
             rw [← hup] at HS2 hdB
             have g0 : IntKind.u64.wrap ((c : Int) + (x : Int) + (y : Int)) = (c : Int) + (x : Int) + (y : Int) := by rw [show ((c : Int) + (x : Int) + (y : Int)) = ((c + x + y : Nat) : Int) by omega]; exact w64 hT
             have g1 : ((c : Int) + (x : Int) + (y : Int)) % 4294967296 = (lo : Int) := by unfold BB at hlo; omega
             have g2 : ((c : Int) + (x : Int) + (y : Int)) / 4294967296 = (up : Int) := by unfold BB at hup; omega
             have qb := hZ.set (k + i) lo
             have ql := limbs_set hZL (k := k + i) hmB
             have bs := hOut.set (p := ⟨g, k + i, none⟩) (fun _ => rfl) (.int .u32 (lo : Int))
             clear hzl hlo hup hT HS hol
             go_wp2
             refine ⟨⟨i + 1, up, Z.set (k + i) lo, by omega, by go_num, rfl, hdB, qb, Lib.hid (by simpa using hZl.out), ql, Lib.hid ?_, HS2, bs⟩, by simp [intOf] <;> omega⟩
             intro j hj
             rw [getD_set_far (by omega)]
             exact hZ0.out j (by omega)
           · have hy0 : V.getD i 0 = 0 := by simp [show V.length ≤ i by omega]
             rw [hy0] at HS
             have him' : decide (i < m) = false := by simpa using him
             generalize Z.getD (k + i) 0 = x at *
             have f1 := w64 (BB_sq x hx)
             have f3 : IntKind.u64.wrap ((c : Int) + (x : Int)) = ((c + x : Nat) : Int) := by rw [← Int.natCast_add]; exact w64 (by unfold BB at *; omega)
             have HS2 := Lib.hid (HS.out (c + x) rfl)
             have hT : c + x < BB * BB := by unfold BB at *; omega
             have hdB : (c + x) / BB < BB := Nat.div_lt_of_lt_mul hT
             have hmB : (c + x) % BB < BB := Nat.mod_lt _ BB_pos
             obtain ⟨lo, hlo⟩ : ∃ lo, lo = (c + x) % BB := ⟨_, rfl⟩
             obtain ⟨up, hup⟩ : ∃ up, up = (c + x) / BB := ⟨_, rfl⟩
             rw [← hlo] at HS2 hmB
             rw [← hup] at HS2 hdB
             have g0 : IntKind.u64.wrap ((c : Int) + (x : Int)) = (c : Int) + (x : Int) := by rw [show ((c : Int) + (x : Int)) = ((c + x : Nat) : Int) by omega]; exact w64 hT
             have g1 : ((c : Int) + (x : Int)) % 4294967296 = (lo : Int) := by unfold BB at hlo; omega
             have g2 : ((c : Int) + (x : Int)) / 4294967296 = (up : Int) := by unfold BB at hup; omega
             have qb := hZ.set (k + i) lo
             have ql := limbs_set hZL (k := k + i) hmB
             have bs := hOut.set (p := ⟨g, k + i, none⟩) (fun _ => rfl) (.int .u32 (lo : Int))
             clear hzl hlo hup hT HS hol
             go_wp2
             refine ⟨⟨i + 1, up, Z.set (k + i) lo, by omega, by go_num, rfl, hdB, qb, Lib.hid (by simpa using hZl.out), ql, Lib.hid ?_, HS2, bs⟩, by simp [intOf] <;> omega⟩
             intro j hj
             rw [getD_set_far (by omega)]
             exact hZ0.out j (by omega)
         · obtain rfl : i = L := by omega
           have HR := Lib.hid (show win Z k i = N % D by
            have h := hZW.out
            rw [List.take_of_length_le (by have := HEN.out; omega), eD, HD.out.2] at h
            refine kn_back (P := BB ^ i) (Nat.lt_of_lt_of_le (Nat.mod_lt _ (digSet_pos HSet.out)) ?_) (win_lt hZL k i) h
            rw [← eD]
            refine Nat.le_of_lt (Nat.lt_of_lt_of_le (val_lt hVL) (Nat.pow_le_pow_right BB_pos (by have := HEN.out; omega))))
           have HZ0 := Lib.hid (show ∀ j, j < k ∨ k + i ≤ j → Z.getD j 0 = U.getD j 0 from fun j hj => (hZ0.out j hj).trans (HO0.out j hj))
           clear hzl hol
           go_wp2
           rw [Exit.noGoto_ret]
           go_ret
           exact ⟨⟨Z, by rw [← HND.out]; rfl, hZ, hZl.out, hZL, HZ0.out, HR.out⟩, hOut⟩
    · have ez : ((r + v1 : Nat) : Int) / 4294967296 = 0 := by unfold BB at *; omega
      have hlt : q - 1 < q := by omega
      generalize q - 1 = q1 at *
      generalize r + v1 = r1 at *
      have HG2 := Lib.hid hG2
      clear hG2
      go_wp2
      go_quiet (fail)
      go_wp2
      exact ⟨⟨q1, r1, rfl, rfl, HG2, by omega, bZ⟩, by simp [intOf]; omega⟩
  · have eg : (q : Int) / 4294967296 = 0 := by unfold BB at *; omega
    have hrz : (r : Int) < 4294967296 := by unfold BB at hr; omega
    have hqv : q * v2 < BB * BB := Nat.mul_lt_mul'' (by omega) hv2
    have ep : IntKind.u64.wrap ((q : Int) * (v2 : Int)) = ((q * v2 : Nat) : Int) := by rw [← Int.natCast_mul]; exact w64 hqv
    have eo : bits .or .u64 ((r : Int) * 4294967296) (u2 : Int) = ((r * BB + u2 : Nat) : Int) := by rw [← hi_or hr hu2, Int.natCast_mul]; rfl
    by_cases ht : r * BB + u2 < q * v2
    · have HT := Lib.hid ht
      generalize q * v2 = p at ep ht hqv
      generalize r * BB + u2 = z at eo ht
      have htz : (z : Int) < (p : Int) := by omega
      clear ht
      obtain ⟨hq0, hG2⟩ := digSet_step HSet.out hG.out (.inr HT.out)
      have em : IntKind.u64.wrap ((q : Int) - 1) = ((q - 1 : Nat) : Int) := by rw [show (q : Int) - 1 = ((q - 1 : Nat) : Int) by omega]; exact w64 (by unfold BB at *; omega)
      have ea : IntKind.u64.wrap ((r : Int) + (v1 : Int)) = ((r + v1 : Nat) : Int) := by rw [← Int.natCast_add]; exact w64 (by unfold BB at *; omega)
      by_cases hfar : BB ≤ r + v1
      · have HK := Lib.hid (digSet_far HSet.out hG2 (by omega) hfar)
        have ez : ((r + v1 : Nat) : Int) / 4294967296 = 1 := by unfold BB at *; omega
        generalize q - 1 = q1 at *
        generalize r + v1 = r1 at *
        clear hG2
        go_wp2
        go_quiet (fail)
        have lc := fun W (h : Below w.heap.size w W) => less_c g k m cu bv ov cv q1 U V W (hU.keep h) hUL (by have := HEN.out; omega) (by have := HEN.out; omega) HUm ⟨fun j hj => bkeep h (hV j hj), typ_keep hV.ty h⟩ hVL hVn hcv hg HK.out.2.1
        rw [eD, show m + 1 = L from (HEN.out.2.2).symm, eN] at lc
        go_wp2_with fail
        refine (lc _ bZ).mono ?_
        rintro e w2 ⟨⟨O, z, rfl, hz, hO, hol, hOL, hO0, hW⟩, hOut⟩
        have hqq := HK.out.2.1
        have hO2 : Out (· = g) w w2 := (Out.of_below _ (show Below w.heap.size w _ by repeat (first|exact bzR _ _|exact hb|refine bzD ?_|refine bzN ?_|refine bzS ?_|refine bzA ?_))).trans hOut
        clear lc hOut
        rcases (show z = 0 ∨ z = 1 by omega) with rfl | rfl
        · have HD := Lib.hid (kn_done (digSet_pos HSet.out) HK.out.1 (by rw [Nat.zero_mul, Nat.add_zero] at hW; exact hW))
          have hd : decide (0 < 0) = false := rfl
          have eq : (q1 : Int) % 4294967296 = (q1 : Int) := by unfold BB at hqq; omega
          clear hW
          go_wp2
          rw [Exit.noGoto_ret]
          go_ret
          exact ⟨⟨O, by rw [HD.out.1]; rfl, hO, hol, hOL, hO0, HD.out.2.symm⟩, hO2⟩
        · have HD := Lib.hid (kn_over (P := BB ^ L) (digSet_pos HSet.out) HK.out.2.2 (win_lt hOL k L) (by rw [Nat.one_mul] at hW; exact hW))
          have hd : decide (0 < 1) = true := rfl
          have eq1 : IntKind.u64.wrap ((q1 : Int) - 1) = ((N / D : Nat) : Int) := by
           have h := HD.out.1
           generalize N / D = nd at *
           rw [show (q1 : Int) - 1 = (nd : Int) by omega]; exact w64 (by unfold BB at *; omega)
          have eq2 : ((N / D : Nat) : Int) % 4294967296 = ((N / D : Nat) : Int) := by
           have h := HD.out.1
           generalize N / D = nd at *
           unfold BB at hqq; omega
          have HO0 := Lib.hid hO0
          have HOl := Lib.hid hol
          clear hW hO0
          obtain ⟨nd, hnd⟩ : ∃ nd, nd = N / D := ⟨_, rfl⟩
          rw [← hnd] at eq1 eq2
          have HND := Lib.hid hnd
          clear hnd
          go_wp2
          go_loopw [9, 89] (fun cx x wr => ∃ (i c : Nat) (Z : List Nat), i ≤ L ∧ x = .int .i64 i ∧ cx = .int .u64 c ∧ c < BB ∧ Rw32 wr g Z ∧ Hid (Z.length = U.length) ∧ Limbs Z ∧ Hid (∀ j, j < k ∨ k + i ≤ j → Z.getD j 0 = O.getD j 0) ∧ Hid (win Z k i + c * BB ^ i = win O k i + val (V.take i)) ∧ Out (· = g) w wr) (fun _ x _ => L - (intOf x).toNat)
          case atStart => exact ⟨0, 0, O, by omega, rfl, rfl, BB_pos, hO, HOl, hOL, Lib.hid (fun _ _ => rfl), Lib.hid (by simp [win_zero, val]), hO2⟩
          case round =>
           rename World => wi
           obtain ⟨i, c, Z, hi, rfl, rfl, hcB, hZ, hZl, hZL, hZ0, hZW, hOut⟩ := hrel
           have hzl := hZl.out
           by_cases hlt : i < L
           · have hltz : (i : Int) < (L : Int) := by omega
             have q0 := hZ.cell (k + i) (by omega)
             have qf := hZ.frozen (k + i)
             have hx := limb_get hZL (k + i)
             have HS := Lib.hid (back_step (O := Z) (U := O) (V := V) (k := k) (i := i) (c := c) (x := Z.getD (k + i) 0) (by omega) (by have := HOl.out; omega) (hZ0.out (k + i) (.inr (Nat.le_refl _))) hZW.out)
             by_cases him : i < m
             · have himz : (i : Int) < (m : Int) := by omega
               have dd0 := okeep hOut (hV i (by omega)) hg
               have hy := limb_get hVL i
               generalize V.getD i 0 = y at *
               generalize Z.getD (k + i) 0 = x at *
               have f1 := w64 (BB_sq x hx)
               have f2 := w64 (BB_sq y hy)
               have f3 : IntKind.u64.wrap ((c : Int) + (x : Int)) = ((c + x : Nat) : Int) := by rw [← Int.natCast_add]; exact w64 (by unfold BB at *; omega)
               have f4 : IntKind.u64.wrap (((c + x : Nat) : Int) + (y : Int)) = ((c + x + y : Nat) : Int) := by rw [← Int.natCast_add]; exact w64 (by unfold BB at *; omega)
               have HS2 := Lib.hid (HS.out (c + x + y) rfl)
               have hT : c + x + y < BB * BB := by unfold BB at *; omega
               have hdB : (c + x + y) / BB < BB := Nat.div_lt_of_lt_mul hT
               have hmB : (c + x + y) % BB < BB := Nat.mod_lt _ BB_pos
               obtain ⟨lo, hlo⟩ : ∃ lo, lo = (c + x + y) % BB := ⟨_, rfl⟩
               obtain ⟨up, hup⟩ : ∃ up, up = (c + x + y) / BB := ⟨_, rfl⟩
               rw [← hlo] at HS2 hmB
               rw [← hup] at HS2 hdB
               have g0 : IntKind.u64.wrap ((c : Int) + (x : Int) + (y : Int)) = (c : Int) + (x : Int) + (y : Int) := by rw [show ((c : Int) + (x : Int) + (y : Int)) = ((c + x + y : Nat) : Int) by omega]; exact w64 hT
               have g1 : ((c : Int) + (x : Int) + (y : Int)) % 4294967296 = (lo : Int) := by unfold BB at hlo; omega
               have g2 : ((c : Int) + (x : Int) + (y : Int)) / 4294967296 = (up : Int) := by unfold BB at hup; omega
               have qb := hZ.set (k + i) lo
               have ql := limbs_set hZL (k := k + i) hmB
               have bs := hOut.set (p := ⟨g, k + i, none⟩) (fun _ => rfl) (.int .u32 (lo : Int))
               clear hzl hlo hup hT HS hol
               go_wp2
               refine ⟨⟨i + 1, up, Z.set (k + i) lo, by omega, by go_num, rfl, hdB, qb, Lib.hid (by simpa using hZl.out), ql, Lib.hid ?_, HS2, bs⟩, by simp [intOf] <;> omega⟩
               intro j hj
               rw [getD_set_far (by omega)]
               exact hZ0.out j (by omega)
             · have hy0 : V.getD i 0 = 0 := by simp [show V.length ≤ i by omega]
               rw [hy0] at HS
               have him' : decide (i < m) = false := by simpa using him
               generalize Z.getD (k + i) 0 = x at *
               have f1 := w64 (BB_sq x hx)
               have f3 : IntKind.u64.wrap ((c : Int) + (x : Int)) = ((c + x : Nat) : Int) := by rw [← Int.natCast_add]; exact w64 (by unfold BB at *; omega)
               have HS2 := Lib.hid (HS.out (c + x) rfl)
               have hT : c + x < BB * BB := by unfold BB at *; omega
               have hdB : (c + x) / BB < BB := Nat.div_lt_of_lt_mul hT
               have hmB : (c + x) % BB < BB := Nat.mod_lt _ BB_pos
               obtain ⟨lo, hlo⟩ : ∃ lo, lo = (c + x) % BB := ⟨_, rfl⟩
               obtain ⟨up, hup⟩ : ∃ up, up = (c + x) / BB := ⟨_, rfl⟩
               rw [← hlo] at HS2 hmB
               rw [← hup] at HS2 hdB
               have g0 : IntKind.u64.wrap ((c : Int) + (x : Int)) = (c : Int) + (x : Int) := by rw [show ((c : Int) + (x : Int)) = ((c + x : Nat) : Int) by omega]; exact w64 hT
               have g1 : ((c : Int) + (x : Int)) % 4294967296 = (lo : Int) := by unfold BB at hlo; omega
               have g2 : ((c : Int) + (x : Int)) / 4294967296 = (up : Int) := by unfold BB at hup; omega
               have qb := hZ.set (k + i) lo
               have ql := limbs_set hZL (k := k + i) hmB
               have bs := hOut.set (p := ⟨g, k + i, none⟩) (fun _ => rfl) (.int .u32 (lo : Int))
               clear hzl hlo hup hT HS hol
               go_wp2
               refine ⟨⟨i + 1, up, Z.set (k + i) lo, by omega, by go_num, rfl, hdB, qb, Lib.hid (by simpa using hZl.out), ql, Lib.hid ?_, HS2, bs⟩, by simp [intOf] <;> omega⟩
               intro j hj
               rw [getD_set_far (by omega)]
               exact hZ0.out j (by omega)
           · obtain rfl : i = L := by omega
             have HR := Lib.hid (show win Z k i = N % D by
              have h := hZW.out
              rw [List.take_of_length_le (by have := HEN.out; omega), eD, HD.out.2] at h
              refine kn_back (P := BB ^ i) (Nat.lt_of_lt_of_le (Nat.mod_lt _ (digSet_pos HSet.out)) ?_) (win_lt hZL k i) h
              rw [← eD]
              refine Nat.le_of_lt (Nat.lt_of_lt_of_le (val_lt hVL) (Nat.pow_le_pow_right BB_pos (by have := HEN.out; omega))))
             have HZ0 := Lib.hid (show ∀ j, j < k ∨ k + i ≤ j → Z.getD j 0 = U.getD j 0 from fun j hj => (hZ0.out j hj).trans (HO0.out j hj))
             clear hzl hol
             go_wp2
             rw [Exit.noGoto_ret]
             go_ret
             exact ⟨⟨Z, by rw [← HND.out]; rfl, hZ, hZl.out, hZL, HZ0.out, HR.out⟩, hOut⟩
      · have ez : ((r + v1 : Nat) : Int) / 4294967296 = 0 := by unfold BB at *; omega
        have hlt : q - 1 < q := by omega
        generalize q - 1 = q1 at *
        generalize r + v1 = r1 at *
        have HG2 := Lib.hid hG2
        clear hG2
        go_wp2
        go_quiet (fail)
        go_wp2
        exact ⟨⟨q1, r1, rfl, rfl, HG2, by omega, bZ⟩, by simp [intOf]; omega⟩
    · have HK := Lib.hid (digSet_good HSet.out hG.out (by omega) (by omega))
      generalize q * v2 = p at ep ht hqv
      generalize r * BB + u2 = z at eo ht
      have htz : ¬ (z : Int) < (p : Int) := by omega
      have htd : decide (z < p) = false := by simpa using ht
      clear ht
      go_wp2
      go_quiet (fail)
      have lc := fun W (h : Below w.heap.size w W) => less_c g k m cu bv ov cv q U V W (hU.keep h) hUL (by have := HEN.out; omega) (by have := HEN.out; omega) HUm ⟨fun j hj => bkeep h (hV j hj), typ_keep hV.ty h⟩ hVL hVn hcv hg HK.out.2.1
      rw [eD, show m + 1 = L from (HEN.out.2.2).symm, eN] at lc
      go_wp2_with fail
      refine (lc _ bZ).mono ?_
      rintro e w2 ⟨⟨O, z, rfl, hz, hO, hol, hOL, hO0, hW⟩, hOut⟩
      have hqq := HK.out.2.1
      have hO2 : Out (· = g) w w2 := (Out.of_below _ (show Below w.heap.size w _ by repeat (first|exact bzR _ _|exact hb|refine bzD ?_|refine bzN ?_|refine bzS ?_|refine bzA ?_))).trans hOut
      clear lc hOut
      rcases (show z = 0 ∨ z = 1 by omega) with rfl | rfl
      · have HD := Lib.hid (kn_done (digSet_pos HSet.out) HK.out.1 (by rw [Nat.zero_mul, Nat.add_zero] at hW; exact hW))
        have hd : decide (0 < 0) = false := rfl
        have eq : (q : Int) % 4294967296 = (q : Int) := by unfold BB at hqq; omega
        clear hW
        go_wp2
        rw [Exit.noGoto_ret]
        go_ret
        exact ⟨⟨O, by rw [HD.out.1]; rfl, hO, hol, hOL, hO0, HD.out.2.symm⟩, hO2⟩
      · have HD := Lib.hid (kn_over (P := BB ^ L) (digSet_pos HSet.out) HK.out.2.2 (win_lt hOL k L) (by rw [Nat.one_mul] at hW; exact hW))
        have hd : decide (0 < 1) = true := rfl
        have eq1 : IntKind.u64.wrap ((q : Int) - 1) = ((N / D : Nat) : Int) := by
         have h := HD.out.1
         generalize N / D = nd at *
         rw [show (q : Int) - 1 = (nd : Int) by omega]; exact w64 (by unfold BB at *; omega)
        have eq2 : ((N / D : Nat) : Int) % 4294967296 = ((N / D : Nat) : Int) := by
         have h := HD.out.1
         generalize N / D = nd at *
         unfold BB at hqq; omega
        have HO0 := Lib.hid hO0
        have HOl := Lib.hid hol
        clear hW hO0
        obtain ⟨nd, hnd⟩ : ∃ nd, nd = N / D := ⟨_, rfl⟩
        rw [← hnd] at eq1 eq2
        have HND := Lib.hid hnd
        clear hnd
        go_wp2
        go_loopw [9, 89] (fun cx x wr => ∃ (i c : Nat) (Z : List Nat), i ≤ L ∧ x = .int .i64 i ∧ cx = .int .u64 c ∧ c < BB ∧ Rw32 wr g Z ∧ Hid (Z.length = U.length) ∧ Limbs Z ∧ Hid (∀ j, j < k ∨ k + i ≤ j → Z.getD j 0 = O.getD j 0) ∧ Hid (win Z k i + c * BB ^ i = win O k i + val (V.take i)) ∧ Out (· = g) w wr) (fun _ x _ => L - (intOf x).toNat)
        case atStart => exact ⟨0, 0, O, by omega, rfl, rfl, BB_pos, hO, HOl, hOL, Lib.hid (fun _ _ => rfl), Lib.hid (by simp [win_zero, val]), hO2⟩
        case round =>
         rename World => wi
         obtain ⟨i, c, Z, hi, rfl, rfl, hcB, hZ, hZl, hZL, hZ0, hZW, hOut⟩ := hrel
         have hzl := hZl.out
         by_cases hlt : i < L
         · have hltz : (i : Int) < (L : Int) := by omega
           have q0 := hZ.cell (k + i) (by omega)
           have qf := hZ.frozen (k + i)
           have hx := limb_get hZL (k + i)
           have HS := Lib.hid (back_step (O := Z) (U := O) (V := V) (k := k) (i := i) (c := c) (x := Z.getD (k + i) 0) (by omega) (by have := HOl.out; omega) (hZ0.out (k + i) (.inr (Nat.le_refl _))) hZW.out)
           by_cases him : i < m
           · have himz : (i : Int) < (m : Int) := by omega
             have dd0 := okeep hOut (hV i (by omega)) hg
             have hy := limb_get hVL i
             generalize V.getD i 0 = y at *
             generalize Z.getD (k + i) 0 = x at *
             have f1 := w64 (BB_sq x hx)
             have f2 := w64 (BB_sq y hy)
             have f3 : IntKind.u64.wrap ((c : Int) + (x : Int)) = ((c + x : Nat) : Int) := by rw [← Int.natCast_add]; exact w64 (by unfold BB at *; omega)
             have f4 : IntKind.u64.wrap (((c + x : Nat) : Int) + (y : Int)) = ((c + x + y : Nat) : Int) := by rw [← Int.natCast_add]; exact w64 (by unfold BB at *; omega)
             have HS2 := Lib.hid (HS.out (c + x + y) rfl)
             have hT : c + x + y < BB * BB := by unfold BB at *; omega
             have hdB : (c + x + y) / BB < BB := Nat.div_lt_of_lt_mul hT
             have hmB : (c + x + y) % BB < BB := Nat.mod_lt _ BB_pos
             obtain ⟨lo, hlo⟩ : ∃ lo, lo = (c + x + y) % BB := ⟨_, rfl⟩
             obtain ⟨up, hup⟩ : ∃ up, up = (c + x + y) / BB := ⟨_, rfl⟩
             rw [← hlo] at HS2 hmB
             rw [← hup] at HS2 hdB
             have g0 : IntKind.u64.wrap ((c : Int) + (x : Int) + (y : Int)) = (c : Int) + (x : Int) + (y : Int) := by rw [show ((c : Int) + (x : Int) + (y : Int)) = ((c + x + y : Nat) : Int) by omega]; exact w64 hT
             have g1 : ((c : Int) + (x : Int) + (y : Int)) % 4294967296 = (lo : Int) := by unfold BB at hlo; omega
             have g2 : ((c : Int) + (x : Int) + (y : Int)) / 4294967296 = (up : Int) := by unfold BB at hup; omega
             have qb := hZ.set (k + i) lo
             have ql := limbs_set hZL (k := k + i) hmB
             have bs := hOut.set (p := ⟨g, k + i, none⟩) (fun _ => rfl) (.int .u32 (lo : Int))
             clear hzl hlo hup hT HS hol
             go_wp2
             refine ⟨⟨i + 1, up, Z.set (k + i) lo, by omega, by go_num, rfl, hdB, qb, Lib.hid (by simpa using hZl.out), ql, Lib.hid ?_, HS2, bs⟩, by simp [intOf] <;> omega⟩
             intro j hj
             rw [getD_set_far (by omega)]
             exact hZ0.out j (by omega)
           · have hy0 : V.getD i 0 = 0 := by simp [show V.length ≤ i by omega]
             rw [hy0] at HS
             have him' : decide (i < m) = false := by simpa using him
             generalize Z.getD (k + i) 0 = x at *
             have f1 := w64 (BB_sq x hx)
             have f3 : IntKind.u64.wrap ((c : Int) + (x : Int)) = ((c + x : Nat) : Int) := by rw [← Int.natCast_add]; exact w64 (by unfold BB at *; omega)
             have HS2 := Lib.hid (HS.out (c + x) rfl)
             have hT : c + x < BB * BB := by unfold BB at *; omega
             have hdB : (c + x) / BB < BB := Nat.div_lt_of_lt_mul hT
             have hmB : (c + x) % BB < BB := Nat.mod_lt _ BB_pos
             obtain ⟨lo, hlo⟩ : ∃ lo, lo = (c + x) % BB := ⟨_, rfl⟩
             obtain ⟨up, hup⟩ : ∃ up, up = (c + x) / BB := ⟨_, rfl⟩
             rw [← hlo] at HS2 hmB
             rw [← hup] at HS2 hdB
             have g0 : IntKind.u64.wrap ((c : Int) + (x : Int)) = (c : Int) + (x : Int) := by rw [show ((c : Int) + (x : Int)) = ((c + x : Nat) : Int) by omega]; exact w64 hT
             have g1 : ((c : Int) + (x : Int)) % 4294967296 = (lo : Int) := by unfold BB at hlo; omega
             have g2 : ((c : Int) + (x : Int)) / 4294967296 = (up : Int) := by unfold BB at hup; omega
             have qb := hZ.set (k + i) lo
             have ql := limbs_set hZL (k := k + i) hmB
             have bs := hOut.set (p := ⟨g, k + i, none⟩) (fun _ => rfl) (.int .u32 (lo : Int))
             clear hzl hlo hup hT HS hol
             go_wp2
             refine ⟨⟨i + 1, up, Z.set (k + i) lo, by omega, by go_num, rfl, hdB, qb, Lib.hid (by simpa using hZl.out), ql, Lib.hid ?_, HS2, bs⟩, by simp [intOf] <;> omega⟩
             intro j hj
             rw [getD_set_far (by omega)]
             exact hZ0.out j (by omega)
         · obtain rfl : i = L := by omega
           have HR := Lib.hid (show win Z k i = N % D by
            have h := hZW.out
            rw [List.take_of_length_le (by have := HEN.out; omega), eD, HD.out.2] at h
            refine kn_back (P := BB ^ i) (Nat.lt_of_lt_of_le (Nat.mod_lt _ (digSet_pos HSet.out)) ?_) (win_lt hZL k i) h
            rw [← eD]
            refine Nat.le_of_lt (Nat.lt_of_lt_of_le (val_lt hVL) (Nat.pow_le_pow_right BB_pos (by have := HEN.out; omega))))
           have HZ0 := Lib.hid (show ∀ j, j < k ∨ k + i ≤ j → Z.getD j 0 = U.getD j 0 from fun j hj => (hZ0.out j hj).trans (HO0.out j hj))
           clear hzl hol
           go_wp2
           rw [Exit.noGoto_ret]
           go_ret
           exact ⟨⟨Z, by rw [← HND.out]; rfl, hZ, hZl.out, hZL, HZ0.out, HR.out⟩, hOut⟩

theorem digit_c (g k n cu bv ov cv : Nat) (U V : List Nat) (w : World) (hU : Rw32 w g U) (hUL : Limbs U) (hk : k + (n + 3) ≤ U.length) (hcu : n + 3 ≤ cu) (hkm : U.length ≤ 1099511627776) (hV : At32 w bv ov V) (hVL : Limbs V) (hVn : V.length = n + 2) (hcv : n + 2 ≤ cv) (hg : bv ≠ g)
 (hv1 : 2147483648 ≤ V.getD (n + 1) 0) (hND : win U k (n + 3) < val V * BB) :
 Calls Tryz.prog 263 #[.slice (some ⟨g, k, none⟩) (n + 3) cu, .slice (some ⟨bv, ov, none⟩) (n + 2) cv] w fun e w' => (∃ (O : List Nat), e = .returned (.int .u32 ((win U k (n + 3) / val V : Nat) : Int)) ∧ Rw32 w' g O ∧ O.length = U.length ∧ Limbs O ∧ (∀ j, j < k ∨ k + (n + 3) ≤ j → O.getD j 0 = U.getD j 0) ∧ win O k (n + 3) = win U k (n + 3) % val V) ∧ Out (· = g) w w' := by
 have hvv := top_two hVn
 have huu := win_top (U := U) (k := k) (n := n) (by omega)
 have hset : DigSet (win U k (n + 3)) (val V) (V.getD (n + 1) 0) (V.getD n 0) (val (V.take n)) (U.getD (k + (n + 2)) 0 * BB + U.getD (k + (n + 1)) 0) (U.getD (k + n) 0) (win U k n) (BB ^ n) := by
  refine ⟨Nat.pow_pos BB_pos, ?_, ?_, ?_, win_lt hUL _ _, hv1, limb_get hVL _, limb_get hVL _, limb_get hUL _, hND⟩
  · rw [hvv, Nat.pow_succ, Nat.mul_comm (BB ^ n)]
  · rw [huu, Nat.pow_succ, Nat.mul_comm (BB ^ n)]
  · refine Nat.lt_of_lt_of_le (val_lt fun x hx => hVL x (List.mem_of_mem_take hx)) (Nat.pow_le_pow_right BB_pos ?_)
    simp; omega
 exact digit_core g k n (n + 1) (n + 2) (n + 3) cu bv ov cv U V _ _ _ _ _ _ _ _ _ _ w rfl rfl rfl (by omega) hU hV hg hk hVn hUL hVL rfl rfl hset (hU.cell _ (by omega)) (hU.cell _ (by omega)) (hU.cell _ (by omega)) (hV _ (by omega)) (hV _ (by omega)) (limb_get hUL _) (limb_get hUL _) hcu hcv hkm
end Go.Proofs.YtbmaffijncapiaaGreatDoor
namespace Go.Proofs.YtbmaffijncapiaaGreatDoor
open Num
open Go.ChangeShapes Go.WideShapes Go.ChangeAt Go.RowKit
namespace Num
theorem nrm_len_le {l : List Nat} {k : Nat} (hn : Nrm l) (h : val l < BB ^ k) : l.length ≤ k := by
 by_cases h0 : l = []
 · subst h0; simp
 · have h1 := nrm_val_pos hn h0
   have h2 := Nat.lt_of_le_of_lt h1 h
   have := (Nat.pow_lt_pow_iff_right (a := BB) (by unfold BB; omega)).1 h2
   omega
theorem le_len {l : List Nat} {k : Nat} (hl : Limbs l) (h : BB ^ k ≤ val l) : k < l.length := by
 have h2 := Nat.lt_of_le_of_lt h (val_lt hl)
 exact (Nat.pow_lt_pow_iff_right (a := BB) (by unfold BB; omega)).1 h2
theorem shift_top {m : List Nat} {p : Nat} (hm : Limbs m) (hn : Nrm m) (hp : m.length = p + 1) : bitN (m.getD p 0) ≤ 32 ∧ 1 ≤ bitN (m.getD p 0) ∧ 2147483648 * BB ^ p ≤ val m * 2 ^ (32 - bitN (m.getD p 0)) ∧ val m * 2 ^ (32 - bitN (m.getD p 0)) < BB ^ (p + 1) := by
 have ht := limb_get hm p
 have hs : val m = val (m.take p) + m.getD p 0 * BB ^ p := by
  have := val_take_succ (l := m) (k := p) (by omega)
  rwa [List.take_of_length_le (by omega)] at this
 have h0 : m.getD p 0 ≠ 0 := by
  have := hn (by intro e; subst e; simp at hp)
  rw [List.getLast_eq_getElem] at this
  simpa [hp] using this
 have hlow : val (m.take p) < BB ^ p := by
  have := val_lt (l := m.take p) (fun x hx => hm x (List.mem_of_mem_take hx))
  rwa [List.length_take, Nat.min_eq_left (by omega)] at this
 generalize m.getD p 0 = t at *
 have e : bitN t = t.log2 + 1 := by unfold bitN; rw [if_neg h0]
 have k1 := Nat.log2_self_le h0
 have k2 := @Nat.lt_log2_self t
 have hl : t.log2 < 32 := by
  apply Nat.lt_of_not_le
  intro h32
  have : 2 ^ 32 ≤ 2 ^ t.log2 := Nat.pow_le_pow_right (by omega) h32
  unfold BB at ht
  omega
 rw [e]
 generalize t.log2 = b at *
 have e31 : 2 ^ b * 2 ^ (32 - (b + 1)) = 2147483648 := by rw [← Nat.pow_add, show b + (32 - (b + 1)) = 31 by omega]
 have e32 : 2 ^ (b + 1) * 2 ^ (32 - (b + 1)) = BB := by rw [← Nat.pow_add, show b + 1 + (32 - (b + 1)) = 32 by omega]; rfl
 generalize 2 ^ (32 - (b + 1)) = K at *
 refine ⟨by omega, by omega, ?_, ?_⟩
 · rw [hs, ← e31]
   have h1 : 2 ^ b * BB ^ p ≤ t * BB ^ p := Nat.mul_le_mul k1 (Nat.le_refl _)
   have h2 : 2 ^ b * BB ^ p * K ≤ (val (List.take p m) + t * BB ^ p) * K := Nat.mul_le_mul (by omega) (Nat.le_refl _)
   have : 2 ^ b * K * BB ^ p = 2 ^ b * BB ^ p * K := by ac_rfl
   omega
 · rw [hs, Nat.pow_succ]
   have h1 : (t + 1) * BB ^ p ≤ 2 ^ (b + 1) * BB ^ p := Nat.mul_le_mul k2 (Nat.le_refl _)
   rw [Nat.add_mul] at h1
   have hK : 0 < K := by
    rcases Nat.eq_zero_or_pos K with h | h
    · subst h; unfold BB at e32; omega
    · exact h
   have h2 : (val (List.take p m) + t * BB ^ p) * K < 2 ^ (b + 1) * BB ^ p * K := Nat.mul_lt_mul_of_pos_right (by omega) hK
   have : 2 ^ (b + 1) * BB ^ p * K = BB ^ p * BB := by rw [← e32]; ac_rfl
   omega
theorem top_of_val {V : List Nat} {p : Nat} (hV : Limbs V) (hp : V.length = p + 1) (h : 2147483648 * BB ^ p ≤ val V) : 2147483648 ≤ V.getD p 0 := by
 have hs : val V = val (V.take p) + V.getD p 0 * BB ^ p := by
  have := val_take_succ (l := V) (k := p) (by omega)
  rwa [List.take_of_length_le (by omega)] at this
 have hlow : val (V.take p) < BB ^ p := by
  have := val_lt (l := V.take p) (fun x hx => hV x (List.mem_of_mem_take hx))
  rwa [List.length_take, Nat.min_eq_left (by omega)] at this
 apply Nat.le_of_not_lt
 intro hlt
 have : (V.getD p 0 + 1) * BB ^ p ≤ 2147483648 * BB ^ p := Nat.mul_le_mul hlt (Nat.le_refl _)
 rw [Nat.add_mul] at this
 omega
theorem dm_pre {U : List Nat} {k n D : Nat} (hU : Limbs U) (hk : k + n < U.length) (hh : val (U.drop (k + 1)) < D) (hD : D < BB ^ n) : win U k (n + 1) = val (U.drop k) ∧ val (U.drop k) < D * BB := by
 have e : U.drop k = U.getD k 0 :: U.drop (k + 1) := by
  rw [List.drop_eq_getElem_cons (by omega)]
  simp [show k < U.length by omega]
 have h1 : val (U.drop k) = U.getD k 0 + BB * val (U.drop (k + 1)) := by rw [e]; rfl
 have h2 := limb_get hU k
 refine ⟨?_, ?_⟩
 · unfold win
   rw [e, List.take_succ_cons, val, val]
   congr 2
   -- what is above the window is nothing
   have hL : Limbs (U.drop (k + 1)) := fun x hx => hU x (List.mem_of_mem_drop hx)
   have hlt := Nat.lt_trans hh hD
   generalize U.drop (k + 1) = T at *
   conv => rhs; rw [← List.take_append_drop n T]
   rw [val_append]
   by_cases hn : T.length ≤ n
   · rw [List.drop_eq_nil_of_le hn]; simp [val]
   · rw [List.length_take, Nat.min_eq_left (by omega)]
     have h3 : val (T.drop n) = val T / BB ^ n := val_drop hL (by omega)
     rw [h3, Nat.div_eq_of_lt hlt]; simp
 · rw [h1]
   have : (val (U.drop (k + 1)) + 1) * BB ≤ D * BB := Nat.mul_le_mul hh (Nat.le_refl _)
   rw [Nat.add_mul] at this
   rw [Nat.mul_comm BB]
   omega
theorem win_drop {O : List Nat} {k n : Nat} (hO : Limbs O) (h0 : ∀ j, k + n ≤ j → O.getD j 0 = 0) : val (O.drop k) = win O k n := by
 unfold win
 conv => lhs; rw [← List.take_append_drop n (O.drop k)]
 rw [val_append]
 have : val ((O.drop k).drop n) = 0 := by
  rw [List.drop_drop]
  have hz : ∀ l : List Nat, (∀ j, l.getD j 0 = 0) → val l = 0 := by
   intro l
   induction l with
   | nil => intro _; rfl
   | cons x l ih =>
    intro h
    have h1 := h 0
    have h2 := ih fun j => by have := h (j + 1); simpa using this
    simp at h1
    simp [val, h1, h2]
  refine hz _ fun j => ?_
  have := h0 (k + n + j) (by omega)
  simpa [List.getElem?_drop] using this
 rw [this]; simp
theorem getD_zero {T : List Nat} {n t : Nat} (hT : Limbs T) (h : val T < BB ^ n) (ht : n ≤ t) : T.getD t 0 = 0 := by
 by_cases hl : t < T.length
 · have hs := val_split hl
   apply Nat.eq_zero_of_not_pos
   intro hp
   have h1 : BB ^ t * 1 ≤ BB ^ t * (T.getD t 0 + BB * val (T.drop (t + 1))) := Nat.mul_le_mul (Nat.le_refl _) (by omega)
   have h2 : BB ^ n ≤ BB ^ t := Nat.pow_le_pow_right BB_pos ht
   omega
 · simp [show T.length ≤ t by omega]
theorem dm_step {U O Q : List Nat} {j n D A d : Nat} (hU : Limbs U) (hO : Limbs O) (hl : O.length = U.length) (hj : j + n < U.length) (hQ : j < Q.length) (hq0 : Q.getD j 0 = 0) (hD : D < BB ^ n) (hD0 : 0 < D)
 (hh : val (U.drop (j + 1)) < D) (hA : val Q * D + val U = A) (ho : ∀ i, i < j ∨ j + (n + 1) ≤ i → O.getD i 0 = U.getD i 0) (hd : d = win U j (n + 1) / D) (hw : win O j (n + 1) = win U j (n + 1) % D) :
 val (Q.set j d) * D + val O = A ∧ val (O.drop j) < D := by
 obtain ⟨h1, h2⟩ := dm_pre hU hj hh hD
 have hz : ∀ i, j + (n + 1) ≤ i → O.getD i 0 = 0 := fun i hi => by
  rw [ho i (.inr hi)]
  have := getD_zero (T := U.drop (j + 1)) (fun x hx => hU x (List.mem_of_mem_drop hx)) (Nat.lt_trans hh hD) (show n ≤ i - (j + 1) by omega)
  simpa [List.getElem?_drop, show j + 1 + (i - (j + 1)) = i by omega] using this
 have h3 := win_drop hO hz
 have h4 : val (O.drop j) < D := by rw [h3, hw]; exact Nat.mod_lt _ hD0
 refine ⟨?_, h4⟩
 have ht : O.take j = U.take j := by
  apply List.ext_getElem?
  intro i
  simp only [List.getElem?_take]
  by_cases hi : i < j
  · rw [if_pos hi, if_pos hi]
    have := ho i (.inl hi)
    simpa [show i < O.length by omega, show i < U.length by omega] using this
  · rw [if_neg hi, if_neg hi]
 have hO2 := val_cut (U := O) (k := j) (by omega)
 have hU2 := val_cut (U := U) (k := j) (by omega)
 rw [ht, h3, hw] at hO2
 rw [← h1] at hU2
 have e := Nat.div_add_mod (win U j (n + 1)) D
 rw [← hd] at e
 have e2 := congrArg (BB ^ j * ·) e
 simp only [Nat.mul_add] at e2
 have e3 := val_set0 (l := Q) d hQ hq0
 rw [e3, Nat.add_mul]
 have e4 : d * BB ^ j * D = BB ^ j * (D * d) := by ac_rfl
 omega
theorem dm_end {A B s Q R : Nat} (hB : 0 < B) (h : Q * (B * 2 ^ s) + R = A * 2 ^ s) (hR : R < B * 2 ^ s) : A / B = Q ∧ A % B = R / 2 ^ s := by
 have hp : 0 < 2 ^ s := Nat.pow_pos (by omega)
 have hd := kn_done (N := A * 2 ^ s) (D := B * 2 ^ s) (g := A * 2 ^ s / (B * 2 ^ s)) (W := A * 2 ^ s % (B * 2 ^ s)) (Nat.mul_pos hB hp) (Nat.le_refl _) (by rw [Nat.add_comm]; exact Nat.div_add_mod _ _)
 have e1 : A * 2 ^ s / (B * 2 ^ s) = Q := by
  rw [← h, Nat.add_comm, Nat.add_mul_div_right _ _ (Nat.mul_pos hB hp), Nat.div_eq_of_lt hR, Nat.zero_add]
 have e2 : A * 2 ^ s % (B * 2 ^ s) = R := by
  rw [← h, Nat.add_comm, Nat.add_mul_mod_self_right, Nat.mod_eq_of_lt hR]
 rw [Nat.mul_div_mul_right _ _ hp] at e1
 rw [Nat.mul_mod_mul_right] at e2
 exact ⟨e1, by rw [← e2, Nat.mul_div_cancel _ hp]⟩
end Num

theorem NewL.keep {w w' : World} {u : Value} {v : Nat} (h : NewL w u v) (hb : Below w.heap.size w w') : NewL w' u v := by
 obtain ⟨a, n, L, h1, h2, h3, h4⟩ := h
 exact ⟨a, n, L, h1, h2, h3.keep hb, h4⟩

theorem divmod_small (a b : Option Addr) (ca cb : Nat) (l lb : List Nat) (w : World) (ha : U32 w a ca l) (hb : U32 w b cb lb) (h1 : l.length ≤ 1099511627776) (h2 : lb.length ≤ 1099511627776) (h0 : 0 < val lb) (hs : val l < val lb ∨ (trimL lb).length = 1) :
 Calls Tryz.prog 225 #[.slice a l.length ca, .slice b lb.length cb] w fun e w' => (∃ u v, e = .returned (.tuple #[u, v, .int .i64 0]) ∧ NewL w' u (val l / val lb) ∧ NewL w' v (val l % val lb)) ∧ Below w.heap.size w w' := by
 have tc := trim_c b cb lb w hb
 have hbt := hb.trim
 have hbn := trim_nrm lb
 have h3 := Nat.le_trans (trim_len lb) h2
 rw [← val_trim lb] at *
 generalize trimL lb = m at *
 have cc := fun W (hB : Below w.heap.size w W) => limbCmp_c a b ca m.length l m W (ha.keep hB) (hbt.keep hB)
 have hcz := cmpN_neg (x := val l) (y := val m)
 have hm0 : m ≠ [] := by intro e; subst e; simp [val] at h0
 have hml : 0 < m.length := List.length_pos_iff.2 hm0
 have hmz : ((m.length : Int) == 0) = false := by simp; exact hm0
 by_cases hlt : val l < val m
 · have nc := fun W (hB : Below w.heap.size w W) => limbNorm_c a ca l W (ha.keep hB) h1
   have HD := hZ (And.intro (Nat.div_eq_of_lt hlt) (Nat.mod_eq_of_lt hlt))
   have HL := hZ (val_trim l)
   have HN := hZ (trim_nrm l)
   rw [show decide (val l < val m) = true from by simpa using hlt] at hcz
   clear hlt hs
   generalize cmpN (val l) (val m) = z at *
   generalize trimL l = L at *
   go_enter Tryz.func225, Tryz.ntmps225
   go_wp2_with fail
   refine tc.mono ?_
   rintro e w1 ⟨rfl, rfl⟩
   clear tc
   go_wp2_with fail
   refine (cc _ (Below.refl _ _)).mono ?_
   rintro e w1 ⟨rfl, hb1⟩
   go_wp2_with fail
   refine (nc _ hb1).mono ?_
   rintro e w2 ⟨⟨a', rfl, hu⟩, hb2⟩
   go_wp2
   go_ret3
   exact ⟨⟨_, _, rfl, by rw [HD.out.1]; exact newL_nil _, ⟨a', _, L, rfl, rfl, hu, HN.out, by rw [HL.out, HD.out.2]⟩⟩, bthen hb1 hb2⟩
 · rcases hs with hs | hs
   · exact absurd hs hlt
   obtain ⟨c, rfl⟩ : ∃ c, m = [c] := List.length_eq_one_iff.1 hs
   have hc : val [c] = c := by simp [val]
   have hcB : c < BB := hbt.2.2.1 c (by simp)
   rw [hc] at hcz hlt h0 ⊢
   simp only [hc] at cc
   rcases hbt.2.2.2 with hn | ⟨bb, ob, rfl, hcell⟩
   · cases hn
   have c0 := hcell 0 (by simp)
   simp only [List.getD_cons_zero, Nat.add_zero] at c0
   rw [show decide (val l < c) = false from by simpa using hlt] at hcz
   have dc := fun W (hB : Below w.heap.size w W) => divSmall_c a ca l c W (ha.keep hB) h1 h0 hcB
   clear hlt hs hc hcell
   have nc := fun (g : Nat) W (hB : Below w.heap.size w W) (hg : g = W.heap.size) => limbNorm_c (some ⟨g, 0, none⟩) 1 [val l % c] (W.alloc (.cells (cel [val l % c]).toArray 177)) ((blk_at hg).u32 (fun x hx => by simp at hx; subst hx; exact Nat.lt_trans (Nat.mod_lt _ h0) hcB) (by simp [maxLen])) (by simp)
   generalize hr : val l % c = r at *
   have HL := hZ (show val (trimL [r]) = r by rw [val_trim]; simp [val])
   have HN := hZ (trim_nrm [r])
   generalize trimL [r] = L at *
   generalize cmpN (val l) c = z at *
   simp only [List.length_cons, List.length_nil, Nat.zero_add] at *
   clear hr
   go_enter Tryz.func225, Tryz.ntmps225
   go_wp2_with fail
   refine tc.mono ?_
   rintro e w1 ⟨rfl, rfl⟩
   clear tc
   go_wp2_with fail
   refine (cc _ (Below.refl _ _)).mono ?_
   rintro e w1 ⟨rfl, hb1⟩
   have k0 := bkeep hb1 c0
   go_wp2_with fail
   refine (dc _ hb1).mono ?_
   rintro e w2 ⟨⟨u, rfl, hq⟩, hb2⟩
   have HQ := hZ hq
   obtain ⟨a1, n1, L1, rfl, -⟩ := hq
   have hB2 := bthen hb1 hb2
   clear dc cc hb1 hb2
   go_wp2_with fail
   refine (nc _ _ hB2 rfl).mono ?_
   rintro e w3 ⟨⟨a', rfl, hu⟩, hb3⟩
   go_wp2
   go_ret3
   exact ⟨⟨_, _, rfl, HQ.out.keep (bthen (bal (Below.refl _ _) _) hb3), ⟨a', _, L, rfl, rfl, hu, HN.out, HL.out⟩⟩, bthen (bal hB2 _) hb3⟩
end Go.Proofs.YtbmaffijncapiaaGreatDoor
namespace Go.Proofs.YtbmaffijncapiaaGreatDoor
open Go.ChangeShapes Go.WideShapes Go.ChangeAt Go.RowKit
section
open Num
def jn_lays156_ren : Go.Shelf.Ren := ⟨fun | 156 => 188 | 165 => 235 | 166 => 236 | 169 => 237 | 240 => 268 | 241 => 269 | 276 => 281 | 277 => 282 | n => n, fun | 0 => 0 | 3 => 3 | 4 => 4 | 5 => 5 | 9 => 9 | 20 => 20 | 31 => 243 | 37 => 173 | 70 => 284 | 72 => 286 | 75 => 289 | 76 => 290 | 80 => 59 | 127 => 308 | 164 => 321 | n => n, fun n => n⟩
theorem jn_lays156 : Go.Proofs.Lays.n156 Tryz.prog jn_lays156_ren := {
 mixed := by kernel_rfl
 f156 := Tryz.func188.trans (congrArg some (by kernel_rfl))
 f165 := Tryz.func235.trans (congrArg some (by kernel_rfl))
 f166 := Tryz.func236.trans (congrArg some (by kernel_rfl))
 f169 := Tryz.func237.trans (congrArg some (by kernel_rfl))
 f240 := Tryz.func268.trans (congrArg some (by kernel_rfl))
 f241 := Tryz.func269.trans (congrArg some (by kernel_rfl))
 f276 := Tryz.func281.trans (congrArg some (by kernel_rfl))
 f277 := Tryz.func282.trans (congrArg some (by kernel_rfl))
 t0 := Tryz.underlying0
 a0 := Tryz.isAgg0
 z0 := Tryz.sizeOf0
 v0 := Tryz.zeroValue0
 t3 := Tryz.underlying3
 a3 := Tryz.isAgg3
 z3 := Tryz.sizeOf3
 v3 := Tryz.zeroValue3
 t4 := Tryz.underlying4
 a4 := Tryz.isAgg4
 z4 := Tryz.sizeOf4
 v4 := Tryz.zeroValue4
 t9 := Tryz.underlying9
 a9 := Tryz.isAgg9
 z9 := Tryz.sizeOf9
 v9 := Tryz.zeroValue9
 t20 := Tryz.underlying20
 a20 := Tryz.isAgg20
 z20 := Tryz.sizeOf20
 v20 := Tryz.zeroValue20
 t31 := Tryz.underlying243
 a31 := Tryz.isAgg243
 z31 := Tryz.sizeOf243
 v31 := Tryz.zeroValue243
 t37 := Tryz.underlying173
 a37 := Tryz.isAgg173
 z37 := Tryz.sizeOf173
 v37 := Tryz.zeroValue173
 t70 := Tryz.underlying284
 a70 := Tryz.isAgg284
 z70 := Tryz.sizeOf284
 v70 := Tryz.zeroValue284
 t72 := Tryz.underlying286
 a72 := Tryz.isAgg286
 z72 := Tryz.sizeOf286
 v72 := Tryz.zeroValue286
 t75 := Tryz.underlying289
 a75 := Tryz.isAgg289
 z75 := Tryz.sizeOf289
 v75 := Tryz.zeroValue289
 t76 := Tryz.underlying290
 a76 := Tryz.isAgg290
 z76 := Tryz.sizeOf290
 v76 := Tryz.zeroValue290
 t127 := Tryz.underlying308
 a127 := Tryz.isAgg308
 z127 := Tryz.sizeOf308
 v127 := Tryz.zeroValue308
 t164 := Tryz.underlying321
 a164 := Tryz.isAgg321
 z164 := Tryz.sizeOf321
 v164 := Tryz.zeroValue321 }
theorem jn_Builder_Extra : Go.Proofs.Builder.Extra Tryz.prog jn_lays156_ren := {
 sizeBuilder := by kernel_rfl
 liesBuilder := by kernel_rfl
 t5 := Tryz.underlying5
 a5 := Tryz.isAgg5
 z5 := Tryz.sizeOf5
 v5 := Tryz.zeroValue5
 infoByte := by kernel_rfl
 cellsByte := by kernel_rfl
 sizeByte := by kernel_rfl
 neB5 := by decide }
def PTx (w : World) (u : Value) (x : List UInt8) : Prop := u = .string ⟨x.toArray⟩
theorem prs_ptx : Prs (fun _ => False) PTx := ⟨fun h => by cases h; rfl, fun h _ => h⟩
theorem infoStr : (Tryz.prog.info? 9).map (fun i => (i.zero, i.size, i.bytes)) = some (some (.string ⟨#[]⟩), 1, 16) := by kernel_rfl
theorem elStr : Elt Tryz.prog 243 9 1 16 := Elt.mk' Tryz.underlying243 infoStr rfl (by decide) (by decide)
theorem txt_back (L : List (List UInt8)) : (L.map fun x => (⟨x.toArray⟩ : ByteArray)).map (·.data.toList) = L := by
 rw [List.map_map]; conv => rhs; rw [← List.map_id L]
 rfl
theorem join_c (v : Value) (L : List (List UInt8)) (base : Nat) (w : World) (hv : IsL 9 PTx base w v L) (hN : L.length ≤ 140737488355328) (hlen : (Lib.join L [32]).length ≤ 140737488355328) :
 Calls Tryz.prog 188 #[v, .string ⟨#[32]⟩] w fun e w' => e = .returned (.string ⟨(Lib.join L [32]).toArray⟩) ∧ Below w.heap.size w w' := by
 obtain ⟨a, c, rfl, hcap, hvw⟩ := hv.view
 cases L with
 | nil =>
  have h := (Any.strings_Join_none jn_lays156 jn_Builder_Extra a c ⟨#[32]⟩ w).mono fun e w' ⟨he, hw⟩ => (⟨he, hw ▸ Below.refl _ _⟩ : _ ∧ Below w.heap.size w w')
  exact h
 | cons x L =>
  obtain ⟨b, off, u, rfl, hu, -⟩ := hvw 0 (by simp)
  have h := Any.strings_Join jn_lays156 jn_Builder_Extra b off c ((x :: L).map fun x => (⟨x.toArray⟩ : ByteArray)) ⟨#[32]⟩ w (fun j y hj => by
   rw [List.getElem?_map] at hj
   obtain ⟨z, hz, rfl⟩ := Option.map_eq_some_iff.1 hj
   obtain ⟨hj', rfl⟩ := List.getElem?_eq_some_iff.1 hz
   obtain ⟨b2, off2, u2, e2, hu2, hp⟩ := hvw j hj'
   cases e2
   rw [← show u2 = _ from hp]; exact hu2) (cell_lt hu) (by simpa using hN) (by simpa using hcap) (by rw [txt_back]; exact hlen)
  rw [txt_back, List.length_map] at h
  exact h
end
section
open Num

def lensRen : Go.Shelf.Ren := ⟨fun | 128 => 219 | n => n, fun | 3 => 3 | 4 => 4 | 5 => 5 | 9 => 9 | 46 => 194 | 51 => 177 | n => n, fun n => n⟩
theorem lens : Go.Proofs.Lays.n128 Tryz.prog lensRen := {
 mixed := by kernel_rfl
 f128 := Tryz.func219.trans (congrArg some (by kernel_rfl))
 t3 := Tryz.underlying3, a3 := Tryz.isAgg3, z3 := Tryz.sizeOf3, v3 := Tryz.zeroValue3
 t4 := Tryz.underlying4, a4 := Tryz.isAgg4, z4 := Tryz.sizeOf4, v4 := Tryz.zeroValue4
 t5 := Tryz.underlying5, a5 := Tryz.isAgg5, z5 := Tryz.sizeOf5, v5 := Tryz.zeroValue5
 t9 := Tryz.underlying9, a9 := Tryz.isAgg9, z9 := Tryz.sizeOf9, v9 := Tryz.zeroValue9
 t46 := Tryz.underlying194, a46 := Tryz.isAgg194, z46 := Tryz.sizeOf194, v46 := Tryz.zeroValue194
 t51 := Tryz.underlying177, a51 := Tryz.isAgg177, z51 := Tryz.sizeOf177, v51 := Tryz.zeroValue177 }
theorem len32_c (x : Nat) (w : World) (h : x < BB) :
 Calls Tryz.prog 219 #[.int .u32 (x : Int)] w fun e w' => e = .returned (.int .i64 (Lib.bitLen x)) ∧ w = w' := by
 unfold BB at h
 have := Go.Proofs.Any.bits_Len32 lens (x : Int) w (by omega) (by omega)
 rw [Int.toNat_natCast] at this
 refine this.mono ?_
 rintro e w' ⟨rfl, rfl⟩
 exact ⟨rfl, rfl⟩


theorem limbBits_c (a : Option Addr) (ca : Nat) (l : List Nat) (w : World) (ha : U32 w a ca l) (h1 : l.length ≤ 1099511627776) :
 Calls Tryz.prog 143 #[.slice a l.length ca] w fun e w' => e = .returned (.int .i64 (bitN (val l))) ∧ w = w' := by
 have tca := trim_c a ca l w ha
 have ha2 := ha.trim
 have na := trim_nrm l
 have h2 := Nat.le_trans (trim_len l) h1
 rw [← val_trim l]
 generalize trimL l = L at *
 obtain ⟨_, hLm, hL, hLc⟩ := ha2
 cases hLl : L.length with
 | zero =>
  have hnil : L = [] := List.length_eq_zero_iff.1 hLl
  subst hnil
  have HV := hZ (show bitN (val []) = 0 from rfl)
  generalize bitN (val []) = v at *
  go_enter Tryz.func143, Tryz.ntmps143
  go_wp2_with fail
  refine tca.mono ?_
  rintro e w1 ⟨rfl, rfl⟩
  clear tca
  go_wp2
  go_ret
  exact ⟨by rw [HV.out]; rfl, rfl⟩
 | succ k =>
  have HB := hZ (bitN_nrm hL na hLl)
  rcases hLc with rfl | ⟨ba, oa, rfl, hca⟩
  · simp at hLl
  have cj := hca k (by omega)
  have hx := limb_get hL k
  have lc := fun w => len32_c (L.getD k 0) w hx
  generalize L.getD k 0 = x at *
  generalize bitN (val L) = v at *
  rw [hLl] at tca h2
  have hb1 : bitN x ≤ 32 := by
   rw [← bitLen_eq x (by unfold BB at hx; omega)]
   exact Lib.bitLen_le x 32 (by omega) (by unfold BB at hx; omega)
  have HX := hZ (bitLen_eq x (by unfold BB at hx; omega))
  clear hL na
  clear hLl hca
  generalize Lib.bitLen x = y at *
  have hy : y ≤ 32 := by rw [HX.out]; exact hb1
  clear hb1
  go_enter Tryz.func143, Tryz.ntmps143
  go_wp2_with fail
  refine tca.mono ?_
  rintro e w1 ⟨rfl, rfl⟩
  clear tca
  go_wp2_with fail
  refine (lc _).mono ?_
  rintro e w1 ⟨rfl, rfl⟩
  clear lc
  go_wp2
  go_ret
  refine ⟨?_, rfl⟩
  rw [HB.out, ← HX.out]
  simp [go_sem]
end
end Go.Proofs.YtbmaffijncapiaaGreatDoor
