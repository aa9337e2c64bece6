/- Texts of this seat, laid together: LimbJ, LimbK. Each opens with its own remark, which says what it proves, and under which conditions. -/
import Derived.Test.YtannhpadoooedaaDoorG17
import Derived.Test.YtannhpadoooedaaDoorG19
import Derived.Test.YtannhpadoooedaaDoorG09
import Derived.Test.YtannhpadoooedaaDoorG15
import Derived.Deep.Cut
import Derived.Deep.DeepCutAuto
/- limb: less (v, so many times, is taken from a part of u). -/
namespace Go.Proofs.YtannhpadoooedaaDoor
open Num
open Go.ChangeShapes Go.WideShapes Go.ChangeAt Go.RowKit
set_option linter.unusedVariables false
set_option linter.unusedSimpArgs false
/-- a block of limbs that may be written, whose first cells are l -/
def Rw32 (w : World) (g : Nat) (l : List Nat) : Prop := ∃ cur, w.heap[g]? = some (.cells cur 120 (0, 0)) ∧ cur.toList.take l.length = cel l
theorem Rw32.cell {w : World} {g : Nat} {l : List Nat} (h : Rw32 w g l) (k : Nat) (hk : k < l.length) : w.cell? ⟨g, k, none⟩ = some (.int .u32 (l.getD k 0 : Nat)) := by
  obtain ⟨cur, h1, h2⟩ := h
  have := cel_get l k hk
  rw [← h2, List.getElem?_take_of_lt hk] at this
  unfold World.cell?
  rw [show w.heap[(⟨g, k, none⟩ : Addr).block]? = _ from h1]
  simpa using this
theorem Rw32.frozen {w : World} {g : Nat} {l : List Nat} (h : Rw32 w g l) (k : Nat) : w.frozen? ⟨g, k, none⟩ = false := by
  obtain ⟨cur, h1, _⟩ := h
  unfold World.frozen?
  rw [show w.heap[(⟨g, k, none⟩ : Addr).block]? = _ from h1]
  simp
theorem Rw32.lt {w : World} {g : Nat} {l : List Nat} (h : Rw32 w g l) : g < w.heap.size := by obtain ⟨cur, h1, _⟩ := h; exact (Array.getElem?_eq_some_iff.1 h1).1
theorem Rw32.keep {w w' : World} {g : Nat} {l : List Nat} (h : Rw32 w g l) (hb : Below w.heap.size w w') : Rw32 w' g l := by
  have hl := h.lt
  obtain ⟨cur, h1, h2⟩ := h
  exact ⟨cur, (hb.block g hl).trans h1, h2⟩
theorem Rw32.set {w : World} {g : Nat} {l : List Nat} (h : Rw32 w g l) (k x : Nat) : Rw32 (w.setCell ⟨g, k, none⟩ (.int .u32 (x : Int))) g (l.set k x) := by
  obtain ⟨cur, h1, h2⟩ := h
  refine ⟨cur.setIfInBounds k (.int .u32 (x : Int)), ?_, ?_⟩
  · unfold World.setCell
    simp only [Array.getElem?_modify, if_true]
    rw [show w.heap[g]? = _ from h1]
    rfl
  · rw [Array.toList_setIfInBounds, List.length_set, List.take_set, h2]
    simp [cel, List.map_set]
theorem Rw32.out {X : Nat → Prop} {w w' : World} {g : Nat} {l : List Nat} (h : Rw32 w g l) (ho : Out X w w') (hx : ¬ X g) : Rw32 w' g l := by
  have hl := h.lt
  obtain ⟨cur, h1, h2⟩ := h
  exact ⟨cur, (ho.block g hl hx).trans h1, h2⟩
theorem Rw32.u32 {w : World} {g : Nat} {l : List Nat} (h : Rw32 w g l) (hl : Limbs l) {c : Nat} (hc : l.length ≤ c) (hm : c ≤ maxLen) : U32 w (some ⟨g, 0, none⟩) c l :=
  ⟨hc, hm, hl, .inr ⟨g, 0, rfl, fun k hk => by simpa using h.cell k hk, by obtain ⟨cur, h1, _⟩ := h; unfold typOf; rw [h1]⟩⟩
theorem Blk.rw {w : World} {g : Nat} {l : List Nat} (h : Blk w g l) : Rw32 w g l := ⟨_, h, by rw [show ((cel l).toArray).toList = cel l from rfl, List.take_of_length_le (by rw [cel_len]; omega)]⟩
namespace Num
theorem less_step {O U V : List Nat} {k i c b t x : Nat} (hO : k + i < O.length) (hU : k + i < U.length) (hx : x = U.getD (k + i) 0)
    (h : win O k i + val (V.take i) * t = win U k i + (c + b) * BB ^ i) :
    ∀ cc c1 m r b1, cc = c + V.getD i 0 * t → cc = c1 * BB + m → r + m + b = x + b1 * BB → win (O.set (k + i) r) k (i + 1) + val (V.take (i + 1)) * t = win U k (i + 1) + (c1 + b1) * BB ^ (i + 1) := by
  intro cc c1 m r b1 h1 h2 h3
  rw [win_set_succ hO, win_succ hU, take_any, ← hx, Nat.pow_succ, Nat.mul_comm (BB ^ i) BB]
  exact less_arith h (h1 ▸ h2) h3
end Num
set_option maxRecDepth 100000 in
set_option maxHeartbeats 4000000 in
theorem less_c (g k n cu bv ov cv t : Nat) (U V : List Nat) (w : World) (hU : Rw32 w g U) (hUL : Limbs U) (hk : k + (n + 1) ≤ U.length) (hcu : n + 1 ≤ cu) (hkm : U.length ≤ 1099511627776) (hV : At32 w bv ov V) (hVL : Limbs V) (hVn : V.length = n) (hcv : n ≤ cv) (hg : bv ≠ g) (ht : t < BB) :
    Calls Tryd.prog 131 #[.slice (some ⟨g, k, none⟩) (n + 1) cu, .slice (some ⟨bv, ov, none⟩) n cv, .int .u64 (t : Int)] w fun e w' => (∃ (O : List Nat) (z : Nat), e = .returned (.bool (decide (0 < z))) ∧ z ≤ 1 ∧ Rw32 w' g O ∧ O.length = U.length ∧ Limbs O ∧ (∀ j, j < k ∨ k + (n + 1) ≤ j → O.getD j 0 = U.getD j 0) ∧ win O k (n + 1) + val V * t = win U k (n + 1) + z * BB ^ (n + 1)) ∧ Out (· = g) w w' := by
  go_enter Tryd.func131, Tryd.ntmps131
  go_wp2
  go_loopw [7, 8, 13] (fun cx bx x wr => ∃ (i c b : Nat) (O : List Nat), i ≤ n + 1 ∧ x = .int .i64 i ∧ cx = .int .u64 c ∧ bx = .int .u64 b ∧ c < BB ∧ b ≤ 1 ∧ Rw32 wr g O ∧ Hid (O.length = U.length) ∧ Limbs O ∧ Hid (∀ j, j < k ∨ k + i ≤ j → O.getD j 0 = U.getD j 0) ∧ Hid (win O k i + val (V.take i) * t = win U k i + (c + b) * BB ^ i) ∧ Hid (i = n + 1 → c = 0) ∧ Out (· = g) w wr) (fun _ _ x _ => n + 1 - (intOf x).toNat)
  case atStart => exact ⟨0, 0, 0, U, by omega, rfl, rfl, rfl, BB_pos, by omega, hU, Lib.hid rfl, hUL, Lib.hid (fun _ _ => rfl), Lib.hid (by simp [win_zero, val]), Lib.hid (fun h => rfl), Out.refl _ _⟩
  case round =>
    obtain ⟨i, c, b, O, hi, rfl, rfl, rfl, hcB, hb1, hO, hOl, hOL, hO0, hW, hCz, hOut⟩ := hrel
    have hol := hOl.out
    by_cases hlt : i < n + 1
    · have hltz : (i : Int) < (n : Int) + 1 := by omega
      have q0 := hO.cell (k + i) (by omega)
      have qf := hO.frozen (k + i)
      have hx := limb_get hOL (k + i)
      have hxe := hO0.out (k + i) (.inr (Nat.le_refl _))
      have HS := Lib.hid (less_step (O := O) (U := U) (V := V) (k := k) (i := i) (c := c) (b := b) (t := t) (x := O.getD (k + i) 0) (by omega) (by omega) hxe hW.out)
      clear hxe
      by_cases hiv : i < n
      · have d0 := okeep hOut (hV i (by omega)) hg
        have hy := limb_get hVL i
        have hcc : c + V.getD i 0 * t < BB * BB := by
          have h1 : V.getD i 0 * t ≤ (BB - 1) * (BB - 1) := Nat.mul_le_mul (by omega) (by omega)
          have h2 : (BB - 1) * (BB - 1) + (BB - 1) + (BB - 1) + 1 = BB * BB := by unfold BB; rfl
          omega
        generalize hye : V.getD i 0 = y at *
        generalize O.getD (k + i) 0 = x at *
        have e1 := w64 (BB_sq x hx)
        have e2 := w64 (BB_sq y hy)
        have e3 : IntKind.u64.wrap ((y : Int) * (t : Int)) = ((y * t : Nat) : Int) := by rw [← Int.natCast_mul]; exact w64 (by omega)
        have e3' : IntKind.u64.wrap ((c : Int) + ((y * t : Nat) : Int)) = ((c + y * t : Nat) : Int) := by rw [← Int.natCast_add]; exact w64 hcc
        obtain ⟨cc, hce⟩ : ∃ cc, cc = c + y * t := ⟨_, rfl⟩
        rw [← hce] at hcc e3'
        have HE := Lib.hid hce
        clear hce hye
        generalize y * t = yt at e3 e3' 
        obtain ⟨m, hm⟩ : ∃ m, m = cc % BB := ⟨_, rfl⟩
        obtain ⟨c1, h1⟩ : ∃ c1, c1 = cc / BB := ⟨_, rfl⟩
        have HZ := Lib.hid (show i + 1 = n + 1 → c1 = 0 from fun h => by omega)
        have hmB : m < BB := by rw [hm]; exact Nat.mod_lt _ BB_pos
        have h1B : c1 < BB := by rw [h1]; exact Nat.div_lt_of_lt_mul hcc
        have eand : bits .and .u64 (cc : Int) 4294967295 = (m : Int) := by
          rw [show (4294967295 : Int) = ((4294967295 : Nat) : Int) from rfl, bits_and_u64_nat cc 4294967295 (by unfold BB at hcc; omega) (by omega), show (4294967295 : Nat) = 2 ^ 32 - 1 from rfl, Nat.and_two_pow_sub_one_eq_mod, hm]; rfl
        have eshr : (cc : Int) / 4294967296 = (c1 : Int) := by unfold BB at h1; omega
        have HC := Lib.hid (show cc = c1 * BB + m by rw [h1, hm, Nat.mul_comm]; exact (Nat.div_add_mod cc BB).symm)
        clear hm h1
        by_cases hlow : m + b ≤ x
        · have e4 : IntKind.u64.wrap ((x : Int) - (m : Int)) = ((x - m : Nat) : Int) := by rw [show (x : Int) - (m : Int) = ((x - m : Nat) : Int) by omega]; exact w64 (by unfold BB at *; omega)
          have e5 : IntKind.u64.wrap (((x - m : Nat) : Int) - (b : Int)) = ((x - m - b : Nat) : Int) := by rw [show ((x - m : Nat) : Int) - (b : Int) = ((x - m - b : Nat) : Int) by omega]; exact w64 (by unfold BB at *; omega)
          have hr1 : x - m - b < BB := by omega
          have HR := Lib.hid (HS.out cc c1 m (x - m - b) 0 HE.out HC.out (by omega))
          generalize x - m - b = r at *
          generalize x - m = xm at *
          have e6 : (r : Int) / 4294967296 = 0 := by unfold BB at hr1; omega
          have e7 : (r : Int) % 4294967296 = (r : Int) := by unfold BB at hr1; omega
          have b0 : bits .and .u64 0 1 = 0 := by rfl
          have qb := hO.set (k + i) r
          have ql := limbs_set hOL (k := k + i) hr1
          have bs := hOut.set (p := ⟨g, k + i, none⟩) (fun _ => rfl) (.int .u32 (r : Int))
          have hrr := hr1
          clear hol HE hcc
          go_wp2
          refine ⟨⟨i + 1, c1, 0, O.set (k + i) r, by omega, by go_num, rfl, by first | rfl | simp, by omega, by omega, qb, Lib.hid (by simpa using hOl.out), ql, Lib.hid ?_, HR, HZ, bs⟩, by simp [intOf] <;> omega⟩
          intro j hj
          rw [getD_set_far (by omega)]
          exact hO0.out j (by omega)
        · have hD : 18446744073709551616 - (m + b - x) < 18446744073709551616 := by omega
          have hr1 : BB + x - m - b < BB := by omega
          have HR := Lib.hid (HS.out cc c1 m (BB + x - m - b) 1 HE.out HC.out (by omega))
          have e45 : ∃ X : Nat, IntKind.u64.wrap ((x : Int) - (m : Int)) = (X : Int) ∧ IntKind.u64.wrap ((X : Int) - (b : Int)) = ((18446744073709551616 - (m + b - x) : Nat) : Int) := by
            by_cases hxm : m ≤ x
            · refine ⟨x - m, ?_, ?_⟩
              · rw [show (x : Int) - (m : Int) = ((x - m : Nat) : Int) by omega]; exact w64 (by unfold BB at *; omega)
              · simp only [IntKind.wrap, IntKind.bits, IntKind.signed]
                simp
                unfold BB at *
                omega
            · refine ⟨18446744073709551616 - (m - x), ?_, ?_⟩
              · simp only [IntKind.wrap, IntKind.bits, IntKind.signed]
                simp
                unfold BB at *
                omega
              · simp only [IntKind.wrap, IntKind.bits, IntKind.signed]
                simp
                unfold BB at *
                omega
          obtain ⟨xm, e4, e5⟩ := e45
          have e7 : ((18446744073709551616 - (m + b - x) : Nat) : Int) % 4294967296 = ((BB + x - m - b : Nat) : Int) := by unfold BB at *; omega
          have e6 : ((18446744073709551616 - (m + b - x) : Nat) : Int) / 4294967296 = 4294967295 := by unfold BB at *; omega
          generalize 18446744073709551616 - (m + b - x) = D at e5 e6 e7 hD
          generalize BB + x - m - b = r at *
          have b0 : bits .and .u64 4294967295 1 = 1 := by rfl
          have qb := hO.set (k + i) r
          have ql := limbs_set hOL (k := k + i) hr1
          have bs := hOut.set (p := ⟨g, k + i, none⟩) (fun _ => rfl) (.int .u32 (r : Int))
          clear hol HE hcc
          go_wp2
          refine ⟨⟨i + 1, c1, 1, O.set (k + i) r, by omega, by go_num, rfl, by first | rfl | simp, by omega, by omega, qb, Lib.hid (by simpa using hOl.out), ql, Lib.hid ?_, HR, HZ, bs⟩, by simp [intOf] <;> omega⟩
          intro j hj
          rw [getD_set_far (by omega)]
          exact hO0.out j (by omega)
      · obtain rfl : i = n := by omega
        have hy0 : V.getD i 0 = 0 := by simp [hVn]
        rw [hy0] at HS
        have hcc : c < BB * BB := BB_sq c hcB
        generalize O.getD (k + i) 0 = x at *
        have e1 := w64 (BB_sq x hx)
        obtain ⟨cc, hce⟩ : ∃ cc, cc = c := ⟨_, rfl⟩
        have HE := Lib.hid (show cc = c + 0 * t by omega)
        subst hce
        clear hy0
        obtain ⟨m, hm⟩ : ∃ m, m = cc % BB := ⟨_, rfl⟩
        obtain ⟨c1, h1⟩ : ∃ c1, c1 = cc / BB := ⟨_, rfl⟩
        have HZ := Lib.hid (show i + 1 = i + 1 → c1 = 0 from fun _ => by rw [h1]; exact Nat.div_eq_of_lt hcB)
        have hmB : m < BB := by rw [hm]; exact Nat.mod_lt _ BB_pos
        have h1B : c1 < BB := by rw [h1]; exact Nat.div_lt_of_lt_mul hcc
        have eand : bits .and .u64 (cc : Int) 4294967295 = (m : Int) := by
          rw [show (4294967295 : Int) = ((4294967295 : Nat) : Int) from rfl, bits_and_u64_nat cc 4294967295 (by unfold BB at hcc; omega) (by omega), show (4294967295 : Nat) = 2 ^ 32 - 1 from rfl, Nat.and_two_pow_sub_one_eq_mod, hm]; rfl
        have eshr : (cc : Int) / 4294967296 = (c1 : Int) := by unfold BB at h1; omega
        have HC := Lib.hid (show cc = c1 * BB + m by rw [h1, hm, Nat.mul_comm]; exact (Nat.div_add_mod cc BB).symm)
        clear hm h1
        by_cases hlow : m + b ≤ x
        · have e4 : IntKind.u64.wrap ((x : Int) - (m : Int)) = ((x - m : Nat) : Int) := by rw [show (x : Int) - (m : Int) = ((x - m : Nat) : Int) by omega]; exact w64 (by unfold BB at *; omega)
          have e5 : IntKind.u64.wrap (((x - m : Nat) : Int) - (b : Int)) = ((x - m - b : Nat) : Int) := by rw [show ((x - m : Nat) : Int) - (b : Int) = ((x - m - b : Nat) : Int) by omega]; exact w64 (by unfold BB at *; omega)
          have hr1 : x - m - b < BB := by omega
          have HR := Lib.hid (HS.out cc c1 m (x - m - b) 0 HE.out HC.out (by omega))
          generalize x - m - b = r at *
          generalize x - m = xm at *
          have e6 : (r : Int) / 4294967296 = 0 := by unfold BB at hr1; omega
          have e7 : (r : Int) % 4294967296 = (r : Int) := by unfold BB at hr1; omega
          have b0 : bits .and .u64 0 1 = 0 := by rfl
          have qb := hO.set (k + i) r
          have ql := limbs_set hOL (k := k + i) hr1
          have bs := hOut.set (p := ⟨g, k + i, none⟩) (fun _ => rfl) (.int .u32 (r : Int))
          have hrr := hr1
          clear hol HE hcc
          go_wp2
          refine ⟨⟨i + 1, c1, 0, O.set (k + i) r, by omega, by go_num, rfl, by first | rfl | simp, by omega, by omega, qb, Lib.hid (by simpa using hOl.out), ql, Lib.hid ?_, HR, HZ, bs⟩, by simp [intOf] <;> omega⟩
          intro j hj
          rw [getD_set_far (by omega)]
          exact hO0.out j (by omega)
        · have hD : 18446744073709551616 - (m + b - x) < 18446744073709551616 := by omega
          have hr1 : BB + x - m - b < BB := by omega
          have HR := Lib.hid (HS.out cc c1 m (BB + x - m - b) 1 HE.out HC.out (by omega))
          have e45 : ∃ X : Nat, IntKind.u64.wrap ((x : Int) - (m : Int)) = (X : Int) ∧ IntKind.u64.wrap ((X : Int) - (b : Int)) = ((18446744073709551616 - (m + b - x) : Nat) : Int) := by
            by_cases hxm : m ≤ x
            · refine ⟨x - m, ?_, ?_⟩
              · rw [show (x : Int) - (m : Int) = ((x - m : Nat) : Int) by omega]; exact w64 (by unfold BB at *; omega)
              · simp only [IntKind.wrap, IntKind.bits, IntKind.signed]
                simp
                unfold BB at *
                omega
            · refine ⟨18446744073709551616 - (m - x), ?_, ?_⟩
              · simp only [IntKind.wrap, IntKind.bits, IntKind.signed]
                simp
                unfold BB at *
                omega
              · simp only [IntKind.wrap, IntKind.bits, IntKind.signed]
                simp
                unfold BB at *
                omega
          obtain ⟨xm, e4, e5⟩ := e45
          have e7 : ((18446744073709551616 - (m + b - x) : Nat) : Int) % 4294967296 = ((BB + x - m - b : Nat) : Int) := by unfold BB at *; omega
          have e6 : ((18446744073709551616 - (m + b - x) : Nat) : Int) / 4294967296 = 4294967295 := by unfold BB at *; omega
          generalize 18446744073709551616 - (m + b - x) = D at e5 e6 e7 hD
          generalize BB + x - m - b = r at *
          have b0 : bits .and .u64 4294967295 1 = 1 := by rfl
          have qb := hO.set (k + i) r
          have ql := limbs_set hOL (k := k + i) hr1
          have bs := hOut.set (p := ⟨g, k + i, none⟩) (fun _ => rfl) (.int .u32 (r : Int))
          clear hol HE hcc
          go_wp2
          refine ⟨⟨i + 1, c1, 1, O.set (k + i) r, by omega, by go_num, rfl, by first | rfl | simp, by omega, by omega, qb, Lib.hid (by simpa using hOl.out), ql, Lib.hid ?_, HR, HZ, bs⟩, by simp [intOf] <;> omega⟩
          intro j hj
          rw [getD_set_far (by omega)]
          exact hO0.out j (by omega)
    · obtain rfl : i = n + 1 := by omega
      have HW := Lib.hid (show c = 0 ∧ win O k (n + 1) + val V * t = win U k (n + 1) + b * BB ^ (n + 1) by
        have h := hW.out
        rw [List.take_of_length_le (by omega)] at h
        have h0 : c = 0 := hCz.out rfl
        subst h0
        exact ⟨rfl, by simpa using h⟩)
      clear hol
      go_wp2
      go_ret
      exact ⟨⟨O, b, by simp, hb1, hO, hOl.out, hOL, hO0.out, HW.out.2⟩, hOut⟩
end Go.Proofs.YtannhpadoooedaaDoor
/- limb: digit (a limb of a quotient). -/
namespace Go.Proofs.YtannhpadoooedaaDoor
open Num
open Go.ChangeShapes Go.WideShapes Go.ChangeAt Go.RowKit
set_option linter.unusedVariables false
set_option linter.unusedSimpArgs false
namespace Num
theorem back_step {O U V : List Nat} {k i c x : Nat} (hO : k + i < O.length) (hU : k + i < U.length) (hx : x = U.getD (k + i) 0)
    (h : win O k i + c * BB ^ i = win U k i + val (V.take i)) :
    ∀ cc, cc = c + x + V.getD i 0 → win (O.set (k + i) (cc % BB)) k (i + 1) + cc / BB * BB ^ (i + 1) = win U k (i + 1) + val (V.take (i + 1)) := by
  intro cc h1
  rw [win_set_succ hO, win_succ hU, take_any, ← hx, Nat.pow_succ, Nat.mul_comm (BB ^ i) BB]
  have := back_arith (r := cc % BB) (c1 := cc / BB) (B := BB) h (vi := V.getD i 0) (ui := x) (by rw [← h1, Nat.mul_comm]; exact (Nat.div_add_mod cc BB).symm)
  omega
/-- what the guess is, before and behind the mending -/
structure Guess (N D v1 v2 u2 high g r : Nat) : Prop where
  sum : g * v1 + r = high
  low : N / D ≤ g
  high : g ≤ BB + 1
/-- a guess that is good -/
def KGood (N D g : Nat) : Prop := N / D ≤ g ∧ g < BB ∧ g * D < N + D
end Num
/-- the setting of a digit's division -/
structure DigSet (N D v1 v2 low high u2 lowN P2 : Nat) : Prop where
  hP : 0 < P2
  hD : D = v1 * (BB * P2) + v2 * P2 + low
  hN : N = high * (BB * P2) + u2 * P2 + lowN
  hl : low < P2
  hlN : lowN < P2
  hv1 : 2147483648 ≤ v1
  hv1B : v1 < BB
  hv2 : v2 < BB
  hu2 : u2 < BB
  hND : N < D * BB
namespace Num
theorem digSet_high {N D v1 v2 low high u2 lowN P2 : Nat} (h : DigSet N D v1 v2 low high u2 lowN P2) : high / v1 ≤ BB + 1 := by
  obtain ⟨hP, hD, hN, hl, hlN, hv1, hv1B, hv2, hu2, hND⟩ := h
  have h2 := low_two hv2 hl
  have h3 : D ≤ (v1 + 1) * (BB * P2) := by rw [Nat.add_mul]; omega
  have h4 : high * (BB * P2) < (v1 + 1) * BB * (BB * P2) := by
    have : D * BB ≤ (v1 + 1) * (BB * P2) * BB := Nat.mul_le_mul h3 (Nat.le_refl _)
    have e : (v1 + 1) * (BB * P2) * BB = (v1 + 1) * BB * (BB * P2) := by ac_rfl
    omega
  have h5 : high < (v1 + 1) * BB := Nat.lt_of_mul_lt_mul_right h4
  have h6 : high / v1 < BB + 2 := by
    rw [Nat.div_lt_iff_lt_mul (by omega), Nat.add_mul]
    rw [Nat.add_mul, Nat.mul_comm v1] at h5
    unfold BB at *
    omega
  omega
theorem digSet_first {N D v1 v2 low high u2 lowN P2 : Nat} (h : DigSet N D v1 v2 low high u2 lowN P2) : Guess N D v1 v2 u2 high (high / v1) (high % v1) := by
  have hb := digSet_high h
  obtain ⟨hP, hD, hN, hl, hlN, hv1, hv1B, hv2, hu2, hND⟩ := h
  refine ⟨by rw [Nat.mul_comm]; exact Nat.div_add_mod _ _, ?_, hb⟩
  have h2 := low_two hu2 hlN
  refine kn_first (P1 := BB * P2) (Nat.mul_pos BB_pos hP) (by omega) ?_ ?_ (by omega)
  · rw [Nat.add_mul]; omega
  · have : 1 * (BB * P2) ≤ v1 * (BB * P2) := Nat.mul_le_mul (by omega) (Nat.le_refl _)
    have : 0 < BB * P2 := Nat.mul_pos BB_pos hP
    omega
theorem digSet_pos {N D v1 v2 low high u2 lowN P2 : Nat} (h : DigSet N D v1 v2 low high u2 lowN P2) : 0 < D := by
  obtain ⟨hP, hD, hN, hl, hlN, hv1, hv1B, hv2, hu2, hND⟩ := h
  have : 1 * (BB * P2) ≤ v1 * (BB * P2) := Nat.mul_le_mul (by omega) (Nat.le_refl _)
  have : 0 < BB * P2 := Nat.mul_pos BB_pos hP
  omega
/-- one step of the mending -/
theorem digSet_step {N D v1 v2 low high u2 lowN P2 g r : Nat} (h : DigSet N D v1 v2 low high u2 lowN P2) (hg : Guess N D v1 v2 u2 high g r) (ht : BB ≤ g ∨ r * BB + u2 < g * v2) :
    0 < g ∧ Guess N D v1 v2 u2 high (g - 1) (r + v1) := by
  have hp := digSet_pos h
  obtain ⟨hP, hD, hN, hl, hlN, hv1, hv1B, hv2, hu2, hND⟩ := h
  obtain ⟨h1, h2, h3⟩ := hg
  have hlt : N / D < g := by
    rcases ht with ht | ht
    · exact Nat.lt_of_lt_of_le (kn_big hND) ht
    · exact kn_step hP hp hD hN hlN h1 ht
  refine ⟨Nat.lt_of_le_of_lt (Nat.zero_le _) hlt, ?_, Nat.le_sub_one_of_lt hlt, by omega⟩
  obtain ⟨k, rfl⟩  : ∃ k, g = k + 1 := ⟨g - 1, (Nat.succ_pred_eq_of_pos (Nat.lt_of_le_of_lt (Nat.zero_le _) hlt)).symm⟩
  rw [Nat.add_mul] at h1
  simp only [Nat.add_sub_cancel]
  omega
/-- the mending ends: the test says no -/
theorem digSet_good {N D v1 v2 low high u2 lowN P2 g r : Nat} (h : DigSet N D v1 v2 low high u2 lowN P2) (hg : Guess N D v1 v2 u2 high g r) (h1 : g < BB) (h2 : g * v2 ≤ r * BB + u2) : KGood N D g := by
  obtain ⟨hP, hD, hN, hl, hlN, hv1, hv1B, hv2, hu2, hND⟩ := h
  exact ⟨hg.low, h1, kn_exit (by omega) BB_pos h1 hl hD hN hg.sum h2⟩
/-- .. or the rest has grown out -/
theorem digSet_far {N D v1 v2 low high u2 lowN P2 g r : Nat} (h : DigSet N D v1 v2 low high u2 lowN P2) (hg : Guess N D v1 v2 u2 high g r) (h1 : g ≤ BB) (h2 : BB ≤ r) : KGood N D g := by
  have hp := digSet_pos h
  obtain ⟨hP, hD, hN, hl, hlN, hv1, hv1B, hv2, hu2, hND⟩ := h
  have h3 := kn_far (low_two hv2 hl) hD hN hg.sum (by omega)
  have h4 : g ≤ N / D := by rw [Nat.le_div_iff_mul_le hp]; exact h3
  have h5 := kn_big hND
  exact ⟨hg.low, Nat.lt_of_le_of_lt h4 h5, by omega⟩
end Num

/-- what the mending comes to -/
def Mended (w : World) (N D : Nat) (v : Value) (wc : World) : Prop := ∃ q : Nat, v = .int .u64 q ∧ KGood N D q ∧ Below w.heap.size w wc

set_option maxRecDepth 100000 in
set_option maxHeartbeats 8000000 in
theorem digit_core (g k n n1 m L cu bv ov cv : Nat) (U V : List Nat) (N D v1 v2 u0 u1 u2 low lowN P2 : Nat) (w : World) (en : m = n1 + 1) (en1 : n1 = n + 1) (eL : L = m + 1) (hN : n ≤ 1099511627776)
    (hU : Rw32 w g U) (hV : At32 w bv ov V) (hg : bv ≠ g) (hkU : k + L ≤ U.length) (hVn : V.length = m) (hUL : Limbs U) (hVL : Limbs V)
    (eN : win U k L = N) (eD : val V = D) (hset : DigSet N D v1 v2 low (u0 * BB + u1) u2 lowN P2)
    (c0 : w.cell? ⟨g, k + m, none⟩ = some (.int .u32 (u0 : Int))) (c1 : w.cell? ⟨g, k + n1, none⟩ = some (.int .u32 (u1 : Int))) (c2 : w.cell? ⟨g, k + n, none⟩ = some (.int .u32 (u2 : Int)))
    (d1 : w.cell? ⟨bv, ov + n1, none⟩ = some (.int .u32 (v1 : Int))) (d2 : w.cell? ⟨bv, ov + n, none⟩ = some (.int .u32 (v2 : Int))) (hu0 : u0 < BB) (hu1 : u1 < BB) (hcu : L ≤ cu) (hcv : m ≤ cv) (HUm : U.length ≤ 1099511627776) :
    Calls Tryd.prog 125 #[.slice (some ⟨g, k, none⟩) L cu, .slice (some ⟨bv, ov, none⟩) m cv] w fun e w' => (∃ (O : List Nat), e = .returned (.int .u32 ((N / D : Nat) : Int)) ∧ Rw32 w' g O ∧ O.length = U.length ∧ Limbs O ∧ (∀ j, j < k ∨ k + L ≤ j → O.getD j 0 = U.getD j 0) ∧ win O k L = N % D) ∧ Out (· = g) w w' := by
  have hv1 := hset.hv1
  have hv1B := hset.hv1B
  have hv2 := hset.hv2
  have hu2 := hset.hu2
  have hfirst := digSet_first hset
  have HSet := Lib.hid hset
  clear hset
  have e51 : IntKind.i64.wrap ((m : Int) - 1) = (n1 : Int) := by rw [IntKind.wrap_i64]; omega
  have e52 : IntKind.i64.wrap ((m : Int) - 2) = (n : Int) := by rw [IntKind.wrap_i64]; omega
  have l0 : (m : Int) < (L : Int) := by omega
  have l1 : (n1 : Int) < (L : Int) := by omega
  have l2 : (n : Int) < (L : Int) := by omega
  have l3 : (n1 : Int) < (m : Int) := by omega
  have l4 : (n : Int) < (m : Int) := by omega
  have x0 := w64 (BB_sq u0 hu0)
  have x1 := w64 (BB_sq u1 hu1)
  have x2 := w64 (BB_sq u2 hu2)
  have y1 := w64 (BB_sq v1 hv1B)
  have y2 := w64 (BB_sq v2 hv2)
  have o1 : bits .or .u64 ((u0 : Int) * 4294967296) (u1 : Int) = ((u0 * BB + u1 : Nat) : Int) := by rw [← hi_or hu0 hu1, Int.natCast_mul]; rfl
  have o2 : bits .or .u64 (IntKind.u64.wrap ((u0 : Int) * 4294967296)) (u1 : Int) = ((u0 * BB + u1 : Nat) : Int) := by rw [show (u0 : Int) * 4294967296 = ((u0 * BB : Nat) : Int) by rw [Int.natCast_mul]; rfl, w64 (by unfold BB at *; omega), hi_or hu0 hu1]
  have hu0B : (u0 : Int) < 4294967296 := by unfold BB at hu0; omega
  have hv1z : ((v1 : Int) == 0) = false := by simp; omega
  generalize hHi : u0 * BB + u1 = hi at *
  have t1 : (hi : Int).tdiv (v1 : Int) = ((hi / v1 : Nat) : Int) := rfl
  have t2 : (hi : Int).tmod (v1 : Int) = ((hi % v1 : Nat) : Int) := rfl
  have t3 : (hi : Int) / (v1 : Int) = ((hi / v1 : Nat) : Int) := rfl
  have t4 : (hi : Int) % (v1 : Int) = ((hi % v1 : Nat) : Int) := rfl
  have hr0 : hi % v1 < v1 := Nat.mod_lt _ (by omega)
  generalize hi / v1 = q0 at *
  generalize hi % v1 = r0 at *
  have HF := Lib.hid hfirst
  have hB := Below.refl w.heap.size w
  have HEN := Lib.hid (And.intro en (And.intro en1 eL))
  clear hfirst en en1 eL hHi
  go_enter Tryd.func125, Tryd.ntmps125
  go_wp2
  go_step3
  go_wp2
  go_quiet (fail)
  go_wp2
  have wq0 : IntKind.u64.wrap (q0 : Int) = (q0 : Int) := w64 (by have := HF.out.high; unfold BB at *; omega)
  go_quiet (fail)
  go_wp2
  clear t1 t2 t3 t4 o1 o2 wq0 hv1z
  go_step3
  go_wp2
  go_loopw [7, 8] (fun gx rx wr => ∃ (q r : Nat), gx = .int .u64 q ∧ rx = .int .u64 r ∧ Hid (Guess N D v1 v2 u2 hi q r) ∧ r < BB ∧ Below w.heap.size w wr) (fun gx _ _ => (intOf gx).toNat)
  case atStart => exact ⟨q0, r0, rfl, rfl, HF, by omega, by repeat (first | exact Below.refl _ _ | exact hB | refine Below.drew ?_ | refine below_drewN ?_ _ | refine bset ?_ (by simp <;> omega) _ | refine bal ?_ _)⟩
  case round =>
    obtain ⟨q, r, rfl, rfl, hG, hr, hb⟩ := hrel
    have hqB := hG.out.high
    have cc0 := bkeep hb c0
    have cc1 := bkeep hb c1
    have cc2 := bkeep hb c2
    have dd1 := bkeep hb d1
    have dd2 := bkeep hb d2
    clear c0 c1 c2 d1 d2 hB x0 x1
    by_cases hq : BB ≤ q
    · have eg : (q : Int) / 4294967296 = 1 := by unfold BB at *; omega
      obtain ⟨hq0, hG2⟩ := digSet_step HSet.out hG.out (.inl hq)
      have em : IntKind.u64.wrap ((q : Int) - 1) = ((q - 1 : Nat) : Int) := by rw [show (q : Int) - 1 = ((q - 1 : Nat) : Int) by omega]; exact w64 (by unfold BB at *; omega)
      have ea : IntKind.u64.wrap ((r : Int) + (v1 : Int)) = ((r + v1 : Nat) : Int) := by rw [← Int.natCast_add]; exact w64 (by unfold BB at *; omega)
      by_cases hfar : BB ≤ r + v1
      · have HK := Lib.hid (digSet_far HSet.out hG2 (by omega) hfar)
        have ez : ((r + v1 : Nat) : Int) / 4294967296 = 1 := by unfold BB at *; omega
        generalize q - 1 = q1 at *
        generalize r + v1 = r1 at *
        clear hG2
        go_wp2
        go_quiet (fail)
        have lc := fun W (h : Below w.heap.size w W) => less_c g k m cu bv ov cv q1 U V W (hU.keep h) hUL (by have := HEN.out; omega) (by have := HEN.out; omega) HUm ⟨fun j hj => bkeep h (hV j hj), typ_keep hV.ty h⟩ hVL hVn hcv hg HK.out.2.1
        rw [eD, show m + 1 = L from (HEN.out.2.2).symm, eN] at lc
        go_wp2_with fail
        refine (lc _ (by repeat (first | exact Below.refl _ _ | exact hb | refine Below.drew ?_ | refine below_drewN ?_ _ | refine bset ?_ (by simp <;> omega) _ | refine bal ?_ _))).mono ?_
        rintro e w2 ⟨⟨O, z, rfl, hz, hO, hol, hOL, hO0, hW⟩, hOut⟩
        have hqq := HK.out.2.1
        have hO2 : Out (· = g) w w2 := (Out.of_below _ (show Below w.heap.size w _ by repeat (first | exact Below.refl _ _ | exact hb | refine Below.drew ?_ | refine below_drewN ?_ _ | refine bset ?_ (by simp <;> omega) _ | refine bal ?_ _))).trans hOut
        clear lc hOut
        rcases (show z = 0 ∨ z = 1 by omega) with rfl | rfl
        · have HD := Lib.hid (kn_done (digSet_pos HSet.out) HK.out.1 (by rw [Nat.zero_mul, Nat.add_zero] at hW; exact hW))
          have hd : decide (0 < 0) = false := rfl
          have eq : (q1 : Int) % 4294967296 = (q1 : Int) := by unfold BB at hqq; omega
          clear hW
          go_wp2
          rw [Exit.noGoto_ret]
          go_ret
          exact ⟨⟨O, by rw [HD.out.1]; rfl, hO, hol, hOL, hO0, HD.out.2.symm⟩, hO2⟩
        · have HD := Lib.hid (kn_over (P := BB ^ L) (digSet_pos HSet.out) HK.out.2.2 (win_lt hOL k L) (by rw [Nat.one_mul] at hW; exact hW))
          have hd : decide (0 < 1) = true := rfl
          have eq1 : IntKind.u64.wrap ((q1 : Int) - 1) = ((N / D : Nat) : Int) := by
            have h := HD.out.1
            generalize N / D = nd at *
            rw [show (q1 : Int) - 1 = (nd : Int) by omega]; exact w64 (by unfold BB at *; omega)
          have eq2 : ((N / D : Nat) : Int) % 4294967296 = ((N / D : Nat) : Int) := by
            have h := HD.out.1
            generalize N / D = nd at *
            unfold BB at hqq; omega
          have HO0 := Lib.hid hO0
          have HOl := Lib.hid hol
          clear hW hO0
          obtain ⟨nd, hnd⟩ : ∃ nd, nd = N / D := ⟨_, rfl⟩
          rw [← hnd] at eq1 eq2
          have HND := Lib.hid hnd
          clear hnd
          go_wp2
          go_loopw [9, 89] (fun cx x wr => ∃ (i c : Nat) (Z : List Nat), i ≤ L ∧ x = .int .i64 i ∧ cx = .int .u64 c ∧ c < BB ∧ Rw32 wr g Z ∧ Hid (Z.length = U.length) ∧ Limbs Z ∧ Hid (∀ j, j < k ∨ k + i ≤ j → Z.getD j 0 = O.getD j 0) ∧ Hid (win Z k i + c * BB ^ i = win O k i + val (V.take i)) ∧ Out (· = g) w wr) (fun _ x _ => L - (intOf x).toNat)
          case atStart => exact ⟨0, 0, O, by omega, rfl, rfl, BB_pos, hO, HOl, hOL, Lib.hid (fun _ _ => rfl), Lib.hid (by simp [win_zero, val]), hO2⟩
          case round =>
            rename World => wi
            obtain ⟨i, c, Z, hi, rfl, rfl, hcB, hZ, hZl, hZL, hZ0, hZW, hOut⟩ := hrel
            have hzl := hZl.out
            by_cases hlt : i < L
            · have hltz : (i : Int) < (L : Int) := by omega
              have q0 := hZ.cell (k + i) (by omega)
              have qf := hZ.frozen (k + i)
              have hx := limb_get hZL (k + i)
              have HS := Lib.hid (back_step (O := Z) (U := O) (V := V) (k := k) (i := i) (c := c) (x := Z.getD (k + i) 0) (by omega) (by have := HOl.out; omega) (hZ0.out (k + i) (.inr (Nat.le_refl _))) hZW.out)
              by_cases him : i < m
              · have himz : (i : Int) < (m : Int) := by omega
                have dd0 := okeep hOut (hV i (by omega)) hg
                have hy := limb_get hVL i
                generalize V.getD i 0 = y at *
                generalize Z.getD (k + i) 0 = x at *
                have f1 := w64 (BB_sq x hx)
                have f2 := w64 (BB_sq y hy)
                have f3 : IntKind.u64.wrap ((c : Int) + (x : Int)) = ((c + x : Nat) : Int) := by rw [← Int.natCast_add]; exact w64 (by unfold BB at *; omega)
                have f4 : IntKind.u64.wrap (((c + x : Nat) : Int) + (y : Int)) = ((c + x + y : Nat) : Int) := by rw [← Int.natCast_add]; exact w64 (by unfold BB at *; omega)
                have HS2 := Lib.hid (HS.out (c + x + y) rfl)
                have hT : c + x + y < BB * BB := by unfold BB at *; omega
                have hdB : (c + x + y) / BB < BB := Nat.div_lt_of_lt_mul hT
                have hmB : (c + x + y) % BB < BB := Nat.mod_lt _ BB_pos
                obtain ⟨lo, hlo⟩ : ∃ lo, lo = (c + x + y) % BB := ⟨_, rfl⟩
                obtain ⟨up, hup⟩ : ∃ up, up = (c + x + y) / BB := ⟨_, rfl⟩
                rw [← hlo] at HS2 hmB
                rw [← hup] at HS2 hdB
                have g0 : IntKind.u64.wrap ((c : Int) + (x : Int) + (y : Int)) = (c : Int) + (x : Int) + (y : Int) := by rw [show ((c : Int) + (x : Int) + (y : Int)) = ((c + x + y : Nat) : Int) by omega]; exact w64 hT
                have g1 : ((c : Int) + (x : Int) + (y : Int)) % 4294967296 = (lo : Int) := by unfold BB at hlo; omega
                have g2 : ((c : Int) + (x : Int) + (y : Int)) / 4294967296 = (up : Int) := by unfold BB at hup; omega
                have qb := hZ.set (k + i) lo
                have ql := limbs_set hZL (k := k + i) hmB
                have bs := hOut.set (p := ⟨g, k + i, none⟩) (fun _ => rfl) (.int .u32 (lo : Int))
                clear hzl hlo hup hT HS hol
                go_wp2
                refine ⟨⟨i + 1, up, Z.set (k + i) lo, by omega, by go_num, rfl, hdB, qb, Lib.hid (by simpa using hZl.out), ql, Lib.hid ?_, HS2, bs⟩, by simp [intOf] <;> omega⟩
                intro j hj
                rw [getD_set_far (by omega)]
                exact hZ0.out j (by omega)
              · have hy0 : V.getD i 0 = 0 := by simp [show V.length ≤ i by omega]
                rw [hy0] at HS
                have him' : decide (i < m) = false := by simpa using him
                generalize Z.getD (k + i) 0 = x at *
                have f1 := w64 (BB_sq x hx)
                have f3 : IntKind.u64.wrap ((c : Int) + (x : Int)) = ((c + x : Nat) : Int) := by rw [← Int.natCast_add]; exact w64 (by unfold BB at *; omega)
                have HS2 := Lib.hid (HS.out (c + x) rfl)
                have hT : c + x < BB * BB := by unfold BB at *; omega
                have hdB : (c + x) / BB < BB := Nat.div_lt_of_lt_mul hT
                have hmB : (c + x) % BB < BB := Nat.mod_lt _ BB_pos
                obtain ⟨lo, hlo⟩ : ∃ lo, lo = (c + x) % BB := ⟨_, rfl⟩
                obtain ⟨up, hup⟩ : ∃ up, up = (c + x) / BB := ⟨_, rfl⟩
                rw [← hlo] at HS2 hmB
                rw [← hup] at HS2 hdB
                have g0 : IntKind.u64.wrap ((c : Int) + (x : Int)) = (c : Int) + (x : Int) := by rw [show ((c : Int) + (x : Int)) = ((c + x : Nat) : Int) by omega]; exact w64 hT
                have g1 : ((c : Int) + (x : Int)) % 4294967296 = (lo : Int) := by unfold BB at hlo; omega
                have g2 : ((c : Int) + (x : Int)) / 4294967296 = (up : Int) := by unfold BB at hup; omega
                have qb := hZ.set (k + i) lo
                have ql := limbs_set hZL (k := k + i) hmB
                have bs := hOut.set (p := ⟨g, k + i, none⟩) (fun _ => rfl) (.int .u32 (lo : Int))
                clear hzl hlo hup hT HS hol
                go_wp2
                refine ⟨⟨i + 1, up, Z.set (k + i) lo, by omega, by go_num, rfl, hdB, qb, Lib.hid (by simpa using hZl.out), ql, Lib.hid ?_, HS2, bs⟩, by simp [intOf] <;> omega⟩
                intro j hj
                rw [getD_set_far (by omega)]
                exact hZ0.out j (by omega)
            · obtain rfl : i = L := by omega
              have HR := Lib.hid (show win Z k i = N % D by
                have h := hZW.out
                rw [List.take_of_length_le (by have := HEN.out; omega), eD, HD.out.2] at h
                refine kn_back (P := BB ^ i) (Nat.lt_of_lt_of_le (Nat.mod_lt _ (digSet_pos HSet.out)) ?_) (win_lt hZL k i) h
                rw [← eD]
                refine Nat.le_of_lt (Nat.lt_of_lt_of_le (val_lt hVL) (Nat.pow_le_pow_right BB_pos (by have := HEN.out; omega))))
              have HZ0 := Lib.hid (show ∀ j, j < k ∨ k + i ≤ j → Z.getD j 0 = U.getD j 0 from fun j hj => (hZ0.out j hj).trans (HO0.out j hj))
              clear hzl hol
              go_wp2
              rw [Exit.noGoto_ret]
              go_ret
              exact ⟨⟨Z, by rw [← HND.out]; rfl, hZ, hZl.out, hZL, HZ0.out, HR.out⟩, hOut⟩
      · have ez : ((r + v1 : Nat) : Int) / 4294967296 = 0 := by unfold BB at *; omega
        have hlt : q - 1 < q := by omega
        generalize q - 1 = q1 at *
        generalize r + v1 = r1 at *
        have HG2 := Lib.hid hG2
        clear hG2
        go_wp2
        go_quiet (fail)
        go_wp2
        exact ⟨⟨q1, r1, rfl, rfl, HG2, by omega, by repeat (first | exact Below.refl _ _ | exact hb | refine Below.drew ?_ | refine below_drewN ?_ _ | refine bset ?_ (by simp <;> omega) _ | refine bal ?_ _)⟩, by simp [intOf]; omega⟩
    · have eg : (q : Int) / 4294967296 = 0 := by unfold BB at *; omega
      have hrz : (r : Int) < 4294967296 := by unfold BB at hr; omega
      have hqv : q * v2 < BB * BB := Nat.mul_lt_mul'' (by omega) hv2
      have ep : IntKind.u64.wrap ((q : Int) * (v2 : Int)) = ((q * v2 : Nat) : Int) := by rw [← Int.natCast_mul]; exact w64 hqv
      have eo : bits .or .u64 ((r : Int) * 4294967296) (u2 : Int) = ((r * BB + u2 : Nat) : Int) := by rw [← hi_or hr hu2, Int.natCast_mul]; rfl
      by_cases ht : r * BB + u2 < q * v2
      · have HT := Lib.hid ht
        generalize q * v2 = p at ep ht hqv
        generalize r * BB + u2 = z at eo ht
        have htz : (z : Int) < (p : Int) := by omega
        clear ht
        obtain ⟨hq0, hG2⟩ := digSet_step HSet.out hG.out (.inr HT.out)
        have em : IntKind.u64.wrap ((q : Int) - 1) = ((q - 1 : Nat) : Int) := by rw [show (q : Int) - 1 = ((q - 1 : Nat) : Int) by omega]; exact w64 (by unfold BB at *; omega)
        have ea : IntKind.u64.wrap ((r : Int) + (v1 : Int)) = ((r + v1 : Nat) : Int) := by rw [← Int.natCast_add]; exact w64 (by unfold BB at *; omega)
        by_cases hfar : BB ≤ r + v1
        · have HK := Lib.hid (digSet_far HSet.out hG2 (by omega) hfar)
          have ez : ((r + v1 : Nat) : Int) / 4294967296 = 1 := by unfold BB at *; omega
          generalize q - 1 = q1 at *
          generalize r + v1 = r1 at *
          clear hG2
          go_wp2
          go_quiet (fail)
          have lc := fun W (h : Below w.heap.size w W) => less_c g k m cu bv ov cv q1 U V W (hU.keep h) hUL (by have := HEN.out; omega) (by have := HEN.out; omega) HUm ⟨fun j hj => bkeep h (hV j hj), typ_keep hV.ty h⟩ hVL hVn hcv hg HK.out.2.1
          rw [eD, show m + 1 = L from (HEN.out.2.2).symm, eN] at lc
          go_wp2_with fail
          refine (lc _ (by repeat (first | exact Below.refl _ _ | exact hb | refine Below.drew ?_ | refine below_drewN ?_ _ | refine bset ?_ (by simp <;> omega) _ | refine bal ?_ _))).mono ?_
          rintro e w2 ⟨⟨O, z, rfl, hz, hO, hol, hOL, hO0, hW⟩, hOut⟩
          have hqq := HK.out.2.1
          have hO2 : Out (· = g) w w2 := (Out.of_below _ (show Below w.heap.size w _ by repeat (first | exact Below.refl _ _ | exact hb | refine Below.drew ?_ | refine below_drewN ?_ _ | refine bset ?_ (by simp <;> omega) _ | refine bal ?_ _))).trans hOut
          clear lc hOut
          rcases (show z = 0 ∨ z = 1 by omega) with rfl | rfl
          · have HD := Lib.hid (kn_done (digSet_pos HSet.out) HK.out.1 (by rw [Nat.zero_mul, Nat.add_zero] at hW; exact hW))
            have hd : decide (0 < 0) = false := rfl
            have eq : (q1 : Int) % 4294967296 = (q1 : Int) := by unfold BB at hqq; omega
            clear hW
            go_wp2
            rw [Exit.noGoto_ret]
            go_ret
            exact ⟨⟨O, by rw [HD.out.1]; rfl, hO, hol, hOL, hO0, HD.out.2.symm⟩, hO2⟩
          · have HD := Lib.hid (kn_over (P := BB ^ L) (digSet_pos HSet.out) HK.out.2.2 (win_lt hOL k L) (by rw [Nat.one_mul] at hW; exact hW))
            have hd : decide (0 < 1) = true := rfl
            have eq1 : IntKind.u64.wrap ((q1 : Int) - 1) = ((N / D : Nat) : Int) := by
              have h := HD.out.1
              generalize N / D = nd at *
              rw [show (q1 : Int) - 1 = (nd : Int) by omega]; exact w64 (by unfold BB at *; omega)
            have eq2 : ((N / D : Nat) : Int) % 4294967296 = ((N / D : Nat) : Int) := by
              have h := HD.out.1
              generalize N / D = nd at *
              unfold BB at hqq; omega
            have HO0 := Lib.hid hO0
            have HOl := Lib.hid hol
            clear hW hO0
            obtain ⟨nd, hnd⟩ : ∃ nd, nd = N / D := ⟨_, rfl⟩
            rw [← hnd] at eq1 eq2
            have HND := Lib.hid hnd
            clear hnd
            go_wp2
            go_loopw [9, 89] (fun cx x wr => ∃ (i c : Nat) (Z : List Nat), i ≤ L ∧ x = .int .i64 i ∧ cx = .int .u64 c ∧ c < BB ∧ Rw32 wr g Z ∧ Hid (Z.length = U.length) ∧ Limbs Z ∧ Hid (∀ j, j < k ∨ k + i ≤ j → Z.getD j 0 = O.getD j 0) ∧ Hid (win Z k i + c * BB ^ i = win O k i + val (V.take i)) ∧ Out (· = g) w wr) (fun _ x _ => L - (intOf x).toNat)
            case atStart => exact ⟨0, 0, O, by omega, rfl, rfl, BB_pos, hO, HOl, hOL, Lib.hid (fun _ _ => rfl), Lib.hid (by simp [win_zero, val]), hO2⟩
            case round =>
              rename World => wi
              obtain ⟨i, c, Z, hi, rfl, rfl, hcB, hZ, hZl, hZL, hZ0, hZW, hOut⟩ := hrel
              have hzl := hZl.out
              by_cases hlt : i < L
              · have hltz : (i : Int) < (L : Int) := by omega
                have q0 := hZ.cell (k + i) (by omega)
                have qf := hZ.frozen (k + i)
                have hx := limb_get hZL (k + i)
                have HS := Lib.hid (back_step (O := Z) (U := O) (V := V) (k := k) (i := i) (c := c) (x := Z.getD (k + i) 0) (by omega) (by have := HOl.out; omega) (hZ0.out (k + i) (.inr (Nat.le_refl _))) hZW.out)
                by_cases him : i < m
                · have himz : (i : Int) < (m : Int) := by omega
                  have dd0 := okeep hOut (hV i (by omega)) hg
                  have hy := limb_get hVL i
                  generalize V.getD i 0 = y at *
                  generalize Z.getD (k + i) 0 = x at *
                  have f1 := w64 (BB_sq x hx)
                  have f2 := w64 (BB_sq y hy)
                  have f3 : IntKind.u64.wrap ((c : Int) + (x : Int)) = ((c + x : Nat) : Int) := by rw [← Int.natCast_add]; exact w64 (by unfold BB at *; omega)
                  have f4 : IntKind.u64.wrap (((c + x : Nat) : Int) + (y : Int)) = ((c + x + y : Nat) : Int) := by rw [← Int.natCast_add]; exact w64 (by unfold BB at *; omega)
                  have HS2 := Lib.hid (HS.out (c + x + y) rfl)
                  have hT : c + x + y < BB * BB := by unfold BB at *; omega
                  have hdB : (c + x + y) / BB < BB := Nat.div_lt_of_lt_mul hT
                  have hmB : (c + x + y) % BB < BB := Nat.mod_lt _ BB_pos
                  obtain ⟨lo, hlo⟩ : ∃ lo, lo = (c + x + y) % BB := ⟨_, rfl⟩
                  obtain ⟨up, hup⟩ : ∃ up, up = (c + x + y) / BB := ⟨_, rfl⟩
                  rw [← hlo] at HS2 hmB
                  rw [← hup] at HS2 hdB
                  have g0 : IntKind.u64.wrap ((c : Int) + (x : Int) + (y : Int)) = (c : Int) + (x : Int) + (y : Int) := by rw [show ((c : Int) + (x : Int) + (y : Int)) = ((c + x + y : Nat) : Int) by omega]; exact w64 hT
                  have g1 : ((c : Int) + (x : Int) + (y : Int)) % 4294967296 = (lo : Int) := by unfold BB at hlo; omega
                  have g2 : ((c : Int) + (x : Int) + (y : Int)) / 4294967296 = (up : Int) := by unfold BB at hup; omega
                  have qb := hZ.set (k + i) lo
                  have ql := limbs_set hZL (k := k + i) hmB
                  have bs := hOut.set (p := ⟨g, k + i, none⟩) (fun _ => rfl) (.int .u32 (lo : Int))
                  clear hzl hlo hup hT HS hol
                  go_wp2
                  refine ⟨⟨i + 1, up, Z.set (k + i) lo, by omega, by go_num, rfl, hdB, qb, Lib.hid (by simpa using hZl.out), ql, Lib.hid ?_, HS2, bs⟩, by simp [intOf] <;> omega⟩
                  intro j hj
                  rw [getD_set_far (by omega)]
                  exact hZ0.out j (by omega)
                · have hy0 : V.getD i 0 = 0 := by simp [show V.length ≤ i by omega]
                  rw [hy0] at HS
                  have him' : decide (i < m) = false := by simpa using him
                  generalize Z.getD (k + i) 0 = x at *
                  have f1 := w64 (BB_sq x hx)
                  have f3 : IntKind.u64.wrap ((c : Int) + (x : Int)) = ((c + x : Nat) : Int) := by rw [← Int.natCast_add]; exact w64 (by unfold BB at *; omega)
                  have HS2 := Lib.hid (HS.out (c + x) rfl)
                  have hT : c + x < BB * BB := by unfold BB at *; omega
                  have hdB : (c + x) / BB < BB := Nat.div_lt_of_lt_mul hT
                  have hmB : (c + x) % BB < BB := Nat.mod_lt _ BB_pos
                  obtain ⟨lo, hlo⟩ : ∃ lo, lo = (c + x) % BB := ⟨_, rfl⟩
                  obtain ⟨up, hup⟩ : ∃ up, up = (c + x) / BB := ⟨_, rfl⟩
                  rw [← hlo] at HS2 hmB
                  rw [← hup] at HS2 hdB
                  have g0 : IntKind.u64.wrap ((c : Int) + (x : Int)) = (c : Int) + (x : Int) := by rw [show ((c : Int) + (x : Int)) = ((c + x : Nat) : Int) by omega]; exact w64 hT
                  have g1 : ((c : Int) + (x : Int)) % 4294967296 = (lo : Int) := by unfold BB at hlo; omega
                  have g2 : ((c : Int) + (x : Int)) / 4294967296 = (up : Int) := by unfold BB at hup; omega
                  have qb := hZ.set (k + i) lo
                  have ql := limbs_set hZL (k := k + i) hmB
                  have bs := hOut.set (p := ⟨g, k + i, none⟩) (fun _ => rfl) (.int .u32 (lo : Int))
                  clear hzl hlo hup hT HS hol
                  go_wp2
                  refine ⟨⟨i + 1, up, Z.set (k + i) lo, by omega, by go_num, rfl, hdB, qb, Lib.hid (by simpa using hZl.out), ql, Lib.hid ?_, HS2, bs⟩, by simp [intOf] <;> omega⟩
                  intro j hj
                  rw [getD_set_far (by omega)]
                  exact hZ0.out j (by omega)
              · obtain rfl : i = L := by omega
                have HR := Lib.hid (show win Z k i = N % D by
                  have h := hZW.out
                  rw [List.take_of_length_le (by have := HEN.out; omega), eD, HD.out.2] at h
                  refine kn_back (P := BB ^ i) (Nat.lt_of_lt_of_le (Nat.mod_lt _ (digSet_pos HSet.out)) ?_) (win_lt hZL k i) h
                  rw [← eD]
                  refine Nat.le_of_lt (Nat.lt_of_lt_of_le (val_lt hVL) (Nat.pow_le_pow_right BB_pos (by have := HEN.out; omega))))
                have HZ0 := Lib.hid (show ∀ j, j < k ∨ k + i ≤ j → Z.getD j 0 = U.getD j 0 from fun j hj => (hZ0.out j hj).trans (HO0.out j hj))
                clear hzl hol
                go_wp2
                rw [Exit.noGoto_ret]
                go_ret
                exact ⟨⟨Z, by rw [← HND.out]; rfl, hZ, hZl.out, hZL, HZ0.out, HR.out⟩, hOut⟩
        · have ez : ((r + v1 : Nat) : Int) / 4294967296 = 0 := by unfold BB at *; omega
          have hlt : q - 1 < q := by omega
          generalize q - 1 = q1 at *
          generalize r + v1 = r1 at *
          have HG2 := Lib.hid hG2
          clear hG2
          go_wp2
          go_quiet (fail)
          go_wp2
          exact ⟨⟨q1, r1, rfl, rfl, HG2, by omega, by repeat (first | exact Below.refl _ _ | exact hb | refine Below.drew ?_ | refine below_drewN ?_ _ | refine bset ?_ (by simp <;> omega) _ | refine bal ?_ _)⟩, by simp [intOf]; omega⟩
      · have HK := Lib.hid (digSet_good HSet.out hG.out (by omega) (by omega))
        generalize q * v2 = p at ep ht hqv
        generalize r * BB + u2 = z at eo ht
        have htz : ¬ (z : Int) < (p : Int) := by omega
        have htd : decide (z < p) = false := by simpa using ht
        clear ht
        go_wp2
        go_quiet (fail)
        have lc := fun W (h : Below w.heap.size w W) => less_c g k m cu bv ov cv q U V W (hU.keep h) hUL (by have := HEN.out; omega) (by have := HEN.out; omega) HUm ⟨fun j hj => bkeep h (hV j hj), typ_keep hV.ty h⟩ hVL hVn hcv hg HK.out.2.1
        rw [eD, show m + 1 = L from (HEN.out.2.2).symm, eN] at lc
        go_wp2_with fail
        refine (lc _ (by repeat (first | exact Below.refl _ _ | exact hb | refine Below.drew ?_ | refine below_drewN ?_ _ | refine bset ?_ (by simp <;> omega) _ | refine bal ?_ _))).mono ?_
        rintro e w2 ⟨⟨O, z, rfl, hz, hO, hol, hOL, hO0, hW⟩, hOut⟩
        have hqq := HK.out.2.1
        have hO2 : Out (· = g) w w2 := (Out.of_below _ (show Below w.heap.size w _ by repeat (first | exact Below.refl _ _ | exact hb | refine Below.drew ?_ | refine below_drewN ?_ _ | refine bset ?_ (by simp <;> omega) _ | refine bal ?_ _))).trans hOut
        clear lc hOut
        rcases (show z = 0 ∨ z = 1 by omega) with rfl | rfl
        · have HD := Lib.hid (kn_done (digSet_pos HSet.out) HK.out.1 (by rw [Nat.zero_mul, Nat.add_zero] at hW; exact hW))
          have hd : decide (0 < 0) = false := rfl
          have eq : (q : Int) % 4294967296 = (q : Int) := by unfold BB at hqq; omega
          clear hW
          go_wp2
          rw [Exit.noGoto_ret]
          go_ret
          exact ⟨⟨O, by rw [HD.out.1]; rfl, hO, hol, hOL, hO0, HD.out.2.symm⟩, hO2⟩
        · have HD := Lib.hid (kn_over (P := BB ^ L) (digSet_pos HSet.out) HK.out.2.2 (win_lt hOL k L) (by rw [Nat.one_mul] at hW; exact hW))
          have hd : decide (0 < 1) = true := rfl
          have eq1 : IntKind.u64.wrap ((q : Int) - 1) = ((N / D : Nat) : Int) := by
            have h := HD.out.1
            generalize N / D = nd at *
            rw [show (q : Int) - 1 = (nd : Int) by omega]; exact w64 (by unfold BB at *; omega)
          have eq2 : ((N / D : Nat) : Int) % 4294967296 = ((N / D : Nat) : Int) := by
            have h := HD.out.1
            generalize N / D = nd at *
            unfold BB at hqq; omega
          have HO0 := Lib.hid hO0
          have HOl := Lib.hid hol
          clear hW hO0
          obtain ⟨nd, hnd⟩ : ∃ nd, nd = N / D := ⟨_, rfl⟩
          rw [← hnd] at eq1 eq2
          have HND := Lib.hid hnd
          clear hnd
          go_wp2
          go_loopw [9, 89] (fun cx x wr => ∃ (i c : Nat) (Z : List Nat), i ≤ L ∧ x = .int .i64 i ∧ cx = .int .u64 c ∧ c < BB ∧ Rw32 wr g Z ∧ Hid (Z.length = U.length) ∧ Limbs Z ∧ Hid (∀ j, j < k ∨ k + i ≤ j → Z.getD j 0 = O.getD j 0) ∧ Hid (win Z k i + c * BB ^ i = win O k i + val (V.take i)) ∧ Out (· = g) w wr) (fun _ x _ => L - (intOf x).toNat)
          case atStart => exact ⟨0, 0, O, by omega, rfl, rfl, BB_pos, hO, HOl, hOL, Lib.hid (fun _ _ => rfl), Lib.hid (by simp [win_zero, val]), hO2⟩
          case round =>
            rename World => wi
            obtain ⟨i, c, Z, hi, rfl, rfl, hcB, hZ, hZl, hZL, hZ0, hZW, hOut⟩ := hrel
            have hzl := hZl.out
            by_cases hlt : i < L
            · have hltz : (i : Int) < (L : Int) := by omega
              have q0 := hZ.cell (k + i) (by omega)
              have qf := hZ.frozen (k + i)
              have hx := limb_get hZL (k + i)
              have HS := Lib.hid (back_step (O := Z) (U := O) (V := V) (k := k) (i := i) (c := c) (x := Z.getD (k + i) 0) (by omega) (by have := HOl.out; omega) (hZ0.out (k + i) (.inr (Nat.le_refl _))) hZW.out)
              by_cases him : i < m
              · have himz : (i : Int) < (m : Int) := by omega
                have dd0 := okeep hOut (hV i (by omega)) hg
                have hy := limb_get hVL i
                generalize V.getD i 0 = y at *
                generalize Z.getD (k + i) 0 = x at *
                have f1 := w64 (BB_sq x hx)
                have f2 := w64 (BB_sq y hy)
                have f3 : IntKind.u64.wrap ((c : Int) + (x : Int)) = ((c + x : Nat) : Int) := by rw [← Int.natCast_add]; exact w64 (by unfold BB at *; omega)
                have f4 : IntKind.u64.wrap (((c + x : Nat) : Int) + (y : Int)) = ((c + x + y : Nat) : Int) := by rw [← Int.natCast_add]; exact w64 (by unfold BB at *; omega)
                have HS2 := Lib.hid (HS.out (c + x + y) rfl)
                have hT : c + x + y < BB * BB := by unfold BB at *; omega
                have hdB : (c + x + y) / BB < BB := Nat.div_lt_of_lt_mul hT
                have hmB : (c + x + y) % BB < BB := Nat.mod_lt _ BB_pos
                obtain ⟨lo, hlo⟩ : ∃ lo, lo = (c + x + y) % BB := ⟨_, rfl⟩
                obtain ⟨up, hup⟩ : ∃ up, up = (c + x + y) / BB := ⟨_, rfl⟩
                rw [← hlo] at HS2 hmB
                rw [← hup] at HS2 hdB
                have g0 : IntKind.u64.wrap ((c : Int) + (x : Int) + (y : Int)) = (c : Int) + (x : Int) + (y : Int) := by rw [show ((c : Int) + (x : Int) + (y : Int)) = ((c + x + y : Nat) : Int) by omega]; exact w64 hT
                have g1 : ((c : Int) + (x : Int) + (y : Int)) % 4294967296 = (lo : Int) := by unfold BB at hlo; omega
                have g2 : ((c : Int) + (x : Int) + (y : Int)) / 4294967296 = (up : Int) := by unfold BB at hup; omega
                have qb := hZ.set (k + i) lo
                have ql := limbs_set hZL (k := k + i) hmB
                have bs := hOut.set (p := ⟨g, k + i, none⟩) (fun _ => rfl) (.int .u32 (lo : Int))
                clear hzl hlo hup hT HS hol
                go_wp2
                refine ⟨⟨i + 1, up, Z.set (k + i) lo, by omega, by go_num, rfl, hdB, qb, Lib.hid (by simpa using hZl.out), ql, Lib.hid ?_, HS2, bs⟩, by simp [intOf] <;> omega⟩
                intro j hj
                rw [getD_set_far (by omega)]
                exact hZ0.out j (by omega)
              · have hy0 : V.getD i 0 = 0 := by simp [show V.length ≤ i by omega]
                rw [hy0] at HS
                have him' : decide (i < m) = false := by simpa using him
                generalize Z.getD (k + i) 0 = x at *
                have f1 := w64 (BB_sq x hx)
                have f3 : IntKind.u64.wrap ((c : Int) + (x : Int)) = ((c + x : Nat) : Int) := by rw [← Int.natCast_add]; exact w64 (by unfold BB at *; omega)
                have HS2 := Lib.hid (HS.out (c + x) rfl)
                have hT : c + x < BB * BB := by unfold BB at *; omega
                have hdB : (c + x) / BB < BB := Nat.div_lt_of_lt_mul hT
                have hmB : (c + x) % BB < BB := Nat.mod_lt _ BB_pos
                obtain ⟨lo, hlo⟩ : ∃ lo, lo = (c + x) % BB := ⟨_, rfl⟩
                obtain ⟨up, hup⟩ : ∃ up, up = (c + x) / BB := ⟨_, rfl⟩
                rw [← hlo] at HS2 hmB
                rw [← hup] at HS2 hdB
                have g0 : IntKind.u64.wrap ((c : Int) + (x : Int)) = (c : Int) + (x : Int) := by rw [show ((c : Int) + (x : Int)) = ((c + x : Nat) : Int) by omega]; exact w64 hT
                have g1 : ((c : Int) + (x : Int)) % 4294967296 = (lo : Int) := by unfold BB at hlo; omega
                have g2 : ((c : Int) + (x : Int)) / 4294967296 = (up : Int) := by unfold BB at hup; omega
                have qb := hZ.set (k + i) lo
                have ql := limbs_set hZL (k := k + i) hmB
                have bs := hOut.set (p := ⟨g, k + i, none⟩) (fun _ => rfl) (.int .u32 (lo : Int))
                clear hzl hlo hup hT HS hol
                go_wp2
                refine ⟨⟨i + 1, up, Z.set (k + i) lo, by omega, by go_num, rfl, hdB, qb, Lib.hid (by simpa using hZl.out), ql, Lib.hid ?_, HS2, bs⟩, by simp [intOf] <;> omega⟩
                intro j hj
                rw [getD_set_far (by omega)]
                exact hZ0.out j (by omega)
            · obtain rfl : i = L := by omega
              have HR := Lib.hid (show win Z k i = N % D by
                have h := hZW.out
                rw [List.take_of_length_le (by have := HEN.out; omega), eD, HD.out.2] at h
                refine kn_back (P := BB ^ i) (Nat.lt_of_lt_of_le (Nat.mod_lt _ (digSet_pos HSet.out)) ?_) (win_lt hZL k i) h
                rw [← eD]
                refine Nat.le_of_lt (Nat.lt_of_lt_of_le (val_lt hVL) (Nat.pow_le_pow_right BB_pos (by have := HEN.out; omega))))
              have HZ0 := Lib.hid (show ∀ j, j < k ∨ k + i ≤ j → Z.getD j 0 = U.getD j 0 from fun j hj => (hZ0.out j hj).trans (HO0.out j hj))
              clear hzl hol
              go_wp2
              rw [Exit.noGoto_ret]
              go_ret
              exact ⟨⟨Z, by rw [← HND.out]; rfl, hZ, hZl.out, hZL, HZ0.out, HR.out⟩, hOut⟩

theorem digit_c (g k n cu bv ov cv : Nat) (U V : List Nat) (w : World) (hU : Rw32 w g U) (hUL : Limbs U) (hk : k + (n + 3) ≤ U.length) (hcu : n + 3 ≤ cu) (hkm : U.length ≤ 1099511627776) (hV : At32 w bv ov V) (hVL : Limbs V) (hVn : V.length = n + 2) (hcv : n + 2 ≤ cv) (hg : bv ≠ g)
    (hv1 : 2147483648 ≤ V.getD (n + 1) 0) (hND : win U k (n + 3) < val V * BB) :
    Calls Tryd.prog 125 #[.slice (some ⟨g, k, none⟩) (n + 3) cu, .slice (some ⟨bv, ov, none⟩) (n + 2) cv] w fun e w' => (∃ (O : List Nat), e = .returned (.int .u32 ((win U k (n + 3) / val V : Nat) : Int)) ∧ Rw32 w' g O ∧ O.length = U.length ∧ Limbs O ∧ (∀ j, j < k ∨ k + (n + 3) ≤ j → O.getD j 0 = U.getD j 0) ∧ win O k (n + 3) = win U k (n + 3) % val V) ∧ Out (· = g) w w' := by
  have hvv := top_two hVn
  have huu := win_top (U := U) (k := k) (n := n) (by omega)
  have hset : DigSet (win U k (n + 3)) (val V) (V.getD (n + 1) 0) (V.getD n 0) (val (V.take n)) (U.getD (k + (n + 2)) 0 * BB + U.getD (k + (n + 1)) 0) (U.getD (k + n) 0) (win U k n) (BB ^ n) := by
    refine ⟨Nat.pow_pos BB_pos, ?_, ?_, ?_, win_lt hUL _ _, hv1, limb_get hVL _, limb_get hVL _, limb_get hUL _, hND⟩
    · rw [hvv, Nat.pow_succ, Nat.mul_comm (BB ^ n)]
    · rw [huu, Nat.pow_succ, Nat.mul_comm (BB ^ n)]
    · refine Nat.lt_of_lt_of_le (val_lt fun x hx => hVL x (List.mem_of_mem_take hx)) (Nat.pow_le_pow_right BB_pos ?_)
      simp; omega
  exact digit_core g k n (n + 1) (n + 2) (n + 3) cu bv ov cv U V _ _ _ _ _ _ _ _ _ _ w rfl rfl rfl (by omega) hU hV hg hk hVn hUL hVL rfl rfl hset (hU.cell _ (by omega)) (hU.cell _ (by omega)) (hU.cell _ (by omega)) (hV _ (by omega)) (hV _ (by omega)) (limb_get hUL _) (limb_get hUL _) hcu hcv hkm
end Go.Proofs.YtannhpadoooedaaDoor
