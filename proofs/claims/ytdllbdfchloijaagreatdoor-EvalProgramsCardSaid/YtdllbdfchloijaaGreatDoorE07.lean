/- Texts of this seat, laid together: LimbJ, Det, Bar, Bel, Bed, Van, Poly, Lims, ScP. Each opens with its own remark, which says what it proves, and under which conditions. -/
import Derived.Test.YtdllbdfchloijaaGreatDoorE06
import Derived.Test.YtdllbdfchloijaaGreatDoorE04
import Derived.Test.YtdllbdfchloijaaGreatDoorE01
set_option linter.unusedVariables false
set_option linter.unusedSimpArgs false
/- limb: less (v, so many times, is taken from a part of u). -/
namespace Go.Proofs.YtdllbdfchloijaaGreatDoor
open Num
open Go.ChangeShapes Go.WideShapes Go.ChangeAt Go.RowKit
set_option linter.unusedVariables false
set_option linter.unusedSimpArgs false
/-- a block of limbs that may be written, whose first cells are l -/
def Rw32 (w : World) (g : Nat) (l : List Nat) : Prop := ∃ cur, w.heap[g]? = some (.cells cur 106 (0, 0)) ∧ cur.toList.take l.length = cel l
theorem Rw32.cell {w : World} {g : Nat} {l : List Nat} (h : Rw32 w g l) (k : Nat) (hk : k < l.length) : w.cell? ⟨g, k, none⟩ = some (.int .u32 (l.getD k 0 : Nat)) := by
  obtain ⟨cur, h1, h2⟩ := h
  have := cel_get l k hk
  rw [← h2, List.getElem?_take_of_lt hk] at this
  unfold World.cell?
  rw [show w.heap[(⟨g, k, none⟩ : Addr).block]? = _ from h1]
  simpa using this
theorem Rw32.frozen {w : World} {g : Nat} {l : List Nat} (h : Rw32 w g l) (k : Nat) : w.frozen? ⟨g, k, none⟩ = false := by
  obtain ⟨cur, h1, _⟩ := h
  unfold World.frozen?
  rw [show w.heap[(⟨g, k, none⟩ : Addr).block]? = _ from h1]
  simp
theorem Rw32.lt {w : World} {g : Nat} {l : List Nat} (h : Rw32 w g l) : g < w.heap.size := by obtain ⟨cur, h1, _⟩ := h; exact (Array.getElem?_eq_some_iff.1 h1).1
theorem Rw32.keep {w w' : World} {g : Nat} {l : List Nat} (h : Rw32 w g l) (hb : Below w.heap.size w w') : Rw32 w' g l := by
  have hl := h.lt
  obtain ⟨cur, h1, h2⟩ := h
  exact ⟨cur, (hb.block g hl).trans h1, h2⟩
theorem Rw32.set {w : World} {g : Nat} {l : List Nat} (h : Rw32 w g l) (k x : Nat) : Rw32 (w.setCell ⟨g, k, none⟩ (.int .u32 (x : Int))) g (l.set k x) := by
  obtain ⟨cur, h1, h2⟩ := h
  refine ⟨cur.setIfInBounds k (.int .u32 (x : Int)), ?_, ?_⟩
  · unfold World.setCell
    simp only [Array.getElem?_modify, if_true]
    rw [show w.heap[g]? = _ from h1]
    rfl
  · rw [Array.toList_setIfInBounds, List.length_set, List.take_set, h2]
    simp [cel, List.map_set]
theorem Rw32.out {X : Nat → Prop} {w w' : World} {g : Nat} {l : List Nat} (h : Rw32 w g l) (ho : Out X w w') (hx : ¬ X g) : Rw32 w' g l := by
  have hl := h.lt
  obtain ⟨cur, h1, h2⟩ := h
  exact ⟨cur, (ho.block g hl hx).trans h1, h2⟩
theorem Rw32.u32 {w : World} {g : Nat} {l : List Nat} (h : Rw32 w g l) (hl : Limbs l) {c : Nat} (hc : l.length ≤ c) (hm : c ≤ maxLen) : U32 w (some ⟨g, 0, none⟩) c l :=
  ⟨hc, hm, hl, .inr ⟨g, 0, rfl, fun k hk => by simpa using h.cell k hk, by obtain ⟨cur, h1, _⟩ := h; unfold typOf; rw [h1]⟩⟩
theorem Blk.rw {w : World} {g : Nat} {l : List Nat} (h : Blk w g l) : Rw32 w g l := ⟨_, h, by rw [show ((cel l).toArray).toList = cel l from rfl, List.take_of_length_le (by rw [cel_len]; omega)]⟩
namespace Num
theorem less_step {O U V : List Nat} {k i c b t x : Nat} (hO : k + i < O.length) (hU : k + i < U.length) (hx : x = U.getD (k + i) 0)
    (h : win O k i + val (V.take i) * t = win U k i + (c + b) * BB ^ i) :
    ∀ cc c1 m r b1, cc = c + V.getD i 0 * t → cc = c1 * BB + m → r + m + b = x + b1 * BB → win (O.set (k + i) r) k (i + 1) + val (V.take (i + 1)) * t = win U k (i + 1) + (c1 + b1) * BB ^ (i + 1) := by
  intro cc c1 m r b1 h1 h2 h3
  rw [win_set_succ hO, win_succ hU, take_any, ← hx, Nat.pow_succ, Nat.mul_comm (BB ^ i) BB]
  exact less_arith h (h1 ▸ h2) h3
end Num
set_option maxRecDepth 100000 in
set_option maxHeartbeats 4000000 in
theorem less_c (g k n cu bv ov cv t : Nat) (U V : List Nat) (w : World) (hU : Rw32 w g U) (hUL : Limbs U) (hk : k + (n + 1) ≤ U.length) (hcu : n + 1 ≤ cu) (hkm : U.length ≤ 1099511627776) (hV : At32 w bv ov V) (hVL : Limbs V) (hVn : V.length = n) (hcv : n ≤ cv) (hg : bv ≠ g) (ht : t < BB) :
    Calls Tryz.prog 164 #[.slice (some ⟨g, k, none⟩) (n + 1) cu, .slice (some ⟨bv, ov, none⟩) n cv, .int .u64 (t : Int)] w fun e w' => (∃ (O : List Nat) (z : Nat), e = .returned (.bool (decide (0 < z))) ∧ z ≤ 1 ∧ Rw32 w' g O ∧ O.length = U.length ∧ Limbs O ∧ (∀ j, j < k ∨ k + (n + 1) ≤ j → O.getD j 0 = U.getD j 0) ∧ win O k (n + 1) + val V * t = win U k (n + 1) + z * BB ^ (n + 1)) ∧ Out (· = g) w w' := by
  go_enter Tryz.func164, Tryz.ntmps164
  go_wp2
  go_loopw [7, 8, 13] (fun cx bx x wr => ∃ (i c b : Nat) (O : List Nat), i ≤ n + 1 ∧ x = .int .i64 i ∧ cx = .int .u64 c ∧ bx = .int .u64 b ∧ c < BB ∧ b ≤ 1 ∧ Rw32 wr g O ∧ Hid (O.length = U.length) ∧ Limbs O ∧ Hid (∀ j, j < k ∨ k + i ≤ j → O.getD j 0 = U.getD j 0) ∧ Hid (win O k i + val (V.take i) * t = win U k i + (c + b) * BB ^ i) ∧ Hid (i = n + 1 → c = 0) ∧ Out (· = g) w wr) (fun _ _ x _ => n + 1 - (intOf x).toNat)
  case atStart => exact ⟨0, 0, 0, U, by omega, rfl, rfl, rfl, BB_pos, by omega, hU, Lib.hid rfl, hUL, Lib.hid (fun _ _ => rfl), Lib.hid (by simp [win_zero, val]), Lib.hid (fun h => rfl), Out.refl _ _⟩
  case round =>
    obtain ⟨i, c, b, O, hi, rfl, rfl, rfl, hcB, hb1, hO, hOl, hOL, hO0, hW, hCz, hOut⟩ := hrel
    have hol := hOl.out
    by_cases hlt : i < n + 1
    · have hltz : (i : Int) < (n : Int) + 1 := by omega
      have q0 := hO.cell (k + i) (by omega)
      have qf := hO.frozen (k + i)
      have hx := limb_get hOL (k + i)
      have hxe := hO0.out (k + i) (.inr (Nat.le_refl _))
      have HS := Lib.hid (less_step (O := O) (U := U) (V := V) (k := k) (i := i) (c := c) (b := b) (t := t) (x := O.getD (k + i) 0) (by omega) (by omega) hxe hW.out)
      clear hxe
      by_cases hiv : i < n
      · have d0 := okeep hOut (hV i (by omega)) hg
        have hy := limb_get hVL i
        have hcc : c + V.getD i 0 * t < BB * BB := by
          have h1 : V.getD i 0 * t ≤ (BB - 1) * (BB - 1) := Nat.mul_le_mul (by omega) (by omega)
          have h2 : (BB - 1) * (BB - 1) + (BB - 1) + (BB - 1) + 1 = BB * BB := by unfold BB; rfl
          omega
        generalize hye : V.getD i 0 = y at *
        generalize O.getD (k + i) 0 = x at *
        have e1 := w64 (BB_sq x hx)
        have e2 := w64 (BB_sq y hy)
        have e3 : IntKind.u64.wrap ((y : Int) * (t : Int)) = ((y * t : Nat) : Int) := by rw [← Int.natCast_mul]; exact w64 (by omega)
        have e3' : IntKind.u64.wrap ((c : Int) + ((y * t : Nat) : Int)) = ((c + y * t : Nat) : Int) := by rw [← Int.natCast_add]; exact w64 hcc
        obtain ⟨cc, hce⟩ : ∃ cc, cc = c + y * t := ⟨_, rfl⟩
        rw [← hce] at hcc e3'
        have HE := Lib.hid hce
        clear hce hye
        generalize y * t = yt at e3 e3' 
        obtain ⟨m, hm⟩ : ∃ m, m = cc % BB := ⟨_, rfl⟩
        obtain ⟨c1, h1⟩ : ∃ c1, c1 = cc / BB := ⟨_, rfl⟩
        have HZ := Lib.hid (show i + 1 = n + 1 → c1 = 0 from fun h => by omega)
        have hmB : m < BB := by rw [hm]; exact Nat.mod_lt _ BB_pos
        have h1B : c1 < BB := by rw [h1]; exact Nat.div_lt_of_lt_mul hcc
        have eand : bits .and .u64 (cc : Int) 4294967295 = (m : Int) := by
          rw [show (4294967295 : Int) = ((4294967295 : Nat) : Int) from rfl, bits_and_u64_nat cc 4294967295 (by unfold BB at hcc; omega) (by omega), show (4294967295 : Nat) = 2 ^ 32 - 1 from rfl, Nat.and_two_pow_sub_one_eq_mod, hm]; rfl
        have eshr : (cc : Int) / 4294967296 = (c1 : Int) := by unfold BB at h1; omega
        have HC := Lib.hid (show cc = c1 * BB + m by rw [h1, hm, Nat.mul_comm]; exact (Nat.div_add_mod cc BB).symm)
        clear hm h1
        by_cases hlow : m + b ≤ x
        · have e4 : IntKind.u64.wrap ((x : Int) - (m : Int)) = ((x - m : Nat) : Int) := by rw [show (x : Int) - (m : Int) = ((x - m : Nat) : Int) by omega]; exact w64 (by unfold BB at *; omega)
          have e5 : IntKind.u64.wrap (((x - m : Nat) : Int) - (b : Int)) = ((x - m - b : Nat) : Int) := by rw [show ((x - m : Nat) : Int) - (b : Int) = ((x - m - b : Nat) : Int) by omega]; exact w64 (by unfold BB at *; omega)
          have hr1 : x - m - b < BB := by omega
          have HR := Lib.hid (HS.out cc c1 m (x - m - b) 0 HE.out HC.out (by omega))
          generalize x - m - b = r at *
          generalize x - m = xm at *
          have e6 : (r : Int) / 4294967296 = 0 := by unfold BB at hr1; omega
          have e7 : (r : Int) % 4294967296 = (r : Int) := by unfold BB at hr1; omega
          have b0 : bits .and .u64 0 1 = 0 := by rfl
          have qb := hO.set (k + i) r
          have ql := limbs_set hOL (k := k + i) hr1
          have bs := hOut.set (p := ⟨g, k + i, none⟩) (fun _ => rfl) (.int .u32 (r : Int))
          have hrr := hr1
          clear hol HE hcc
          go_wp2
          refine ⟨⟨i + 1, c1, 0, O.set (k + i) r, by omega, by go_num, rfl, by first | rfl | simp, by omega, by omega, qb, Lib.hid (by simpa using hOl.out), ql, Lib.hid ?_, HR, HZ, bs⟩, by simp [intOf] <;> omega⟩
          intro j hj
          rw [getD_set_far (by omega)]
          exact hO0.out j (by omega)
        · have hD : 18446744073709551616 - (m + b - x) < 18446744073709551616 := by omega
          have hr1 : BB + x - m - b < BB := by omega
          have HR := Lib.hid (HS.out cc c1 m (BB + x - m - b) 1 HE.out HC.out (by omega))
          have e45 : ∃ X : Nat, IntKind.u64.wrap ((x : Int) - (m : Int)) = (X : Int) ∧ IntKind.u64.wrap ((X : Int) - (b : Int)) = ((18446744073709551616 - (m + b - x) : Nat) : Int) := by
            by_cases hxm : m ≤ x
            · refine ⟨x - m, ?_, ?_⟩
              · rw [show (x : Int) - (m : Int) = ((x - m : Nat) : Int) by omega]; exact w64 (by unfold BB at *; omega)
              · simp only [IntKind.wrap, IntKind.bits, IntKind.signed]
                simp
                unfold BB at *
                omega
            · refine ⟨18446744073709551616 - (m - x), ?_, ?_⟩
              · simp only [IntKind.wrap, IntKind.bits, IntKind.signed]
                simp
                unfold BB at *
                omega
              · simp only [IntKind.wrap, IntKind.bits, IntKind.signed]
                simp
                unfold BB at *
                omega
          obtain ⟨xm, e4, e5⟩ := e45
          have e7 : ((18446744073709551616 - (m + b - x) : Nat) : Int) % 4294967296 = ((BB + x - m - b : Nat) : Int) := by unfold BB at *; omega
          have e6 : ((18446744073709551616 - (m + b - x) : Nat) : Int) / 4294967296 = 4294967295 := by unfold BB at *; omega
          generalize 18446744073709551616 - (m + b - x) = D at e5 e6 e7 hD
          generalize BB + x - m - b = r at *
          have b0 : bits .and .u64 4294967295 1 = 1 := by rfl
          have qb := hO.set (k + i) r
          have ql := limbs_set hOL (k := k + i) hr1
          have bs := hOut.set (p := ⟨g, k + i, none⟩) (fun _ => rfl) (.int .u32 (r : Int))
          clear hol HE hcc
          go_wp2
          refine ⟨⟨i + 1, c1, 1, O.set (k + i) r, by omega, by go_num, rfl, by first | rfl | simp, by omega, by omega, qb, Lib.hid (by simpa using hOl.out), ql, Lib.hid ?_, HR, HZ, bs⟩, by simp [intOf] <;> omega⟩
          intro j hj
          rw [getD_set_far (by omega)]
          exact hO0.out j (by omega)
      · obtain rfl : i = n := by omega
        have hy0 : V.getD i 0 = 0 := by simp [hVn]
        rw [hy0] at HS
        have hcc : c < BB * BB := BB_sq c hcB
        generalize O.getD (k + i) 0 = x at *
        have e1 := w64 (BB_sq x hx)
        obtain ⟨cc, hce⟩ : ∃ cc, cc = c := ⟨_, rfl⟩
        have HE := Lib.hid (show cc = c + 0 * t by omega)
        subst hce
        clear hy0
        obtain ⟨m, hm⟩ : ∃ m, m = cc % BB := ⟨_, rfl⟩
        obtain ⟨c1, h1⟩ : ∃ c1, c1 = cc / BB := ⟨_, rfl⟩
        have HZ := Lib.hid (show i + 1 = i + 1 → c1 = 0 from fun _ => by rw [h1]; exact Nat.div_eq_of_lt hcB)
        have hmB : m < BB := by rw [hm]; exact Nat.mod_lt _ BB_pos
        have h1B : c1 < BB := by rw [h1]; exact Nat.div_lt_of_lt_mul hcc
        have eand : bits .and .u64 (cc : Int) 4294967295 = (m : Int) := by
          rw [show (4294967295 : Int) = ((4294967295 : Nat) : Int) from rfl, bits_and_u64_nat cc 4294967295 (by unfold BB at hcc; omega) (by omega), show (4294967295 : Nat) = 2 ^ 32 - 1 from rfl, Nat.and_two_pow_sub_one_eq_mod, hm]; rfl
        have eshr : (cc : Int) / 4294967296 = (c1 : Int) := by unfold BB at h1; omega
        have HC := Lib.hid (show cc = c1 * BB + m by rw [h1, hm, Nat.mul_comm]; exact (Nat.div_add_mod cc BB).symm)
        clear hm h1
        by_cases hlow : m + b ≤ x
        · have e4 : IntKind.u64.wrap ((x : Int) - (m : Int)) = ((x - m : Nat) : Int) := by rw [show (x : Int) - (m : Int) = ((x - m : Nat) : Int) by omega]; exact w64 (by unfold BB at *; omega)
          have e5 : IntKind.u64.wrap (((x - m : Nat) : Int) - (b : Int)) = ((x - m - b : Nat) : Int) := by rw [show ((x - m : Nat) : Int) - (b : Int) = ((x - m - b : Nat) : Int) by omega]; exact w64 (by unfold BB at *; omega)
          have hr1 : x - m - b < BB := by omega
          have HR := Lib.hid (HS.out cc c1 m (x - m - b) 0 HE.out HC.out (by omega))
          generalize x - m - b = r at *
          generalize x - m = xm at *
          have e6 : (r : Int) / 4294967296 = 0 := by unfold BB at hr1; omega
          have e7 : (r : Int) % 4294967296 = (r : Int) := by unfold BB at hr1; omega
          have b0 : bits .and .u64 0 1 = 0 := by rfl
          have qb := hO.set (k + i) r
          have ql := limbs_set hOL (k := k + i) hr1
          have bs := hOut.set (p := ⟨g, k + i, none⟩) (fun _ => rfl) (.int .u32 (r : Int))
          have hrr := hr1
          clear hol HE hcc
          go_wp2
          refine ⟨⟨i + 1, c1, 0, O.set (k + i) r, by omega, by go_num, rfl, by first | rfl | simp, by omega, by omega, qb, Lib.hid (by simpa using hOl.out), ql, Lib.hid ?_, HR, HZ, bs⟩, by simp [intOf] <;> omega⟩
          intro j hj
          rw [getD_set_far (by omega)]
          exact hO0.out j (by omega)
        · have hD : 18446744073709551616 - (m + b - x) < 18446744073709551616 := by omega
          have hr1 : BB + x - m - b < BB := by omega
          have HR := Lib.hid (HS.out cc c1 m (BB + x - m - b) 1 HE.out HC.out (by omega))
          have e45 : ∃ X : Nat, IntKind.u64.wrap ((x : Int) - (m : Int)) = (X : Int) ∧ IntKind.u64.wrap ((X : Int) - (b : Int)) = ((18446744073709551616 - (m + b - x) : Nat) : Int) := by
            by_cases hxm : m ≤ x
            · refine ⟨x - m, ?_, ?_⟩
              · rw [show (x : Int) - (m : Int) = ((x - m : Nat) : Int) by omega]; exact w64 (by unfold BB at *; omega)
              · simp only [IntKind.wrap, IntKind.bits, IntKind.signed]
                simp
                unfold BB at *
                omega
            · refine ⟨18446744073709551616 - (m - x), ?_, ?_⟩
              · simp only [IntKind.wrap, IntKind.bits, IntKind.signed]
                simp
                unfold BB at *
                omega
              · simp only [IntKind.wrap, IntKind.bits, IntKind.signed]
                simp
                unfold BB at *
                omega
          obtain ⟨xm, e4, e5⟩ := e45
          have e7 : ((18446744073709551616 - (m + b - x) : Nat) : Int) % 4294967296 = ((BB + x - m - b : Nat) : Int) := by unfold BB at *; omega
          have e6 : ((18446744073709551616 - (m + b - x) : Nat) : Int) / 4294967296 = 4294967295 := by unfold BB at *; omega
          generalize 18446744073709551616 - (m + b - x) = D at e5 e6 e7 hD
          generalize BB + x - m - b = r at *
          have b0 : bits .and .u64 4294967295 1 = 1 := by rfl
          have qb := hO.set (k + i) r
          have ql := limbs_set hOL (k := k + i) hr1
          have bs := hOut.set (p := ⟨g, k + i, none⟩) (fun _ => rfl) (.int .u32 (r : Int))
          clear hol HE hcc
          go_wp2
          refine ⟨⟨i + 1, c1, 1, O.set (k + i) r, by omega, by go_num, rfl, by first | rfl | simp, by omega, by omega, qb, Lib.hid (by simpa using hOl.out), ql, Lib.hid ?_, HR, HZ, bs⟩, by simp [intOf] <;> omega⟩
          intro j hj
          rw [getD_set_far (by omega)]
          exact hO0.out j (by omega)
    · obtain rfl : i = n + 1 := by omega
      have HW := Lib.hid (show c = 0 ∧ win O k (n + 1) + val V * t = win U k (n + 1) + b * BB ^ (n + 1) by
        have h := hW.out
        rw [List.take_of_length_le (by omega)] at h
        have h0 : c = 0 := hCz.out rfl
        subst h0
        exact ⟨rfl, by simpa using h⟩)
      clear hol
      go_wp2
      go_ret
      exact ⟨⟨O, b, by simp, hb1, hO, hOl.out, hOL, hO0.out, HW.out.2⟩, hOut⟩
end Go.Proofs.YtdllbdfchloijaaGreatDoor

/- Determinants, in plain Lean (over Rat): what is linear in each row and nought where two are alike is the determinant times a number; products, what is turned; by any column; the adjugate. -/
set_option linter.unusedVariables false
set_option linter.unusedSimpArgs false
namespace Det
abbrev M := Nat → Nat → Rat
/-- the sum of the first n -/
def sum (n : Nat) (f : Nat → Rat) : Rat := match n with
  | 0 => 0
  | n + 1 => sum n f + f n
/-- the sign of a place -/
def sg (i : Nat) : Rat := if i % 2 = 0 then 1 else -1
/-- without a row, and without the first column -/
def skip (i k : Nat) : Nat := if k < i then k else k + 1
def minor (m : M) (i : Nat) : M := fun r c => m (skip i r) (c + 1)
/-- the determinant of the first n rows and columns -/
def det : Nat → M → Rat
  | 0, _ => 1
  | n + 1, m => sum (n + 1) fun i => sg i * m i 0 * det n (minor m i)
theorem sum_congr {n : Nat} {f g : Nat → Rat} (h : ∀ i, i < n → f i = g i) : sum n f = sum n g := by
  induction n with
  | zero => rfl
  | succ n ih => simp only [sum]; rw [ih fun i hi => h i (by omega), h n (by omega)]
theorem sum_zero {n : Nat} {f : Nat → Rat} (h : ∀ i, i < n → f i = 0) : sum n f = 0 := by
  induction n with
  | zero => rfl
  | succ n ih => simp only [sum]; rw [ih fun i hi => h i (by omega), h n (by omega)]; grind
theorem sum_add (n : Nat) (f g : Nat → Rat) : sum n (fun i => f i + g i) = sum n f + sum n g := by
  induction n with
  | zero => simp only [sum]; grind
  | succ n ih => simp only [sum]; rw [ih]; grind
theorem sum_mul (n : Nat) (f : Nat → Rat) (c : Rat) : sum n (fun i => c * f i) = c * sum n f := by
  induction n with
  | zero => simp [sum]
  | succ n ih => simp only [sum]; rw [ih]; grind
/-- two terms alone -/
theorem sum_two {n i j : Nat} {f : Nat → Rat} (hi : i < n) (hj : j < n) (hij : i ≠ j) (h : ∀ k, k < n → k ≠ i → k ≠ j → f k = 0) : sum n f = f i + f j := by
  induction n with
  | zero => omega
  | succ n ih =>
    simp only [sum]
    by_cases e1 : i = n
    · subst e1
      have : sum i f = f j := by
        clear ih
        have key : ∀ m, j < m → m ≤ i → sum m f = f j := by
          intro m
          induction m with
          | zero => intro h1; omega
          | succ m ih2 =>
            intro h1 h2
            simp only [sum]
            by_cases e : j = m
            · subst e
              rw [sum_zero fun k hk => h k (by omega) (by omega) (by omega)]; grind
            · rw [ih2 (by omega) (by omega), h m (by omega) (by omega) (by omega)]; grind
        exact key i (by omega) (Nat.le_refl _)
      rw [this]; grind
    · by_cases e2 : j = n
      · subst e2
        have key : ∀ m, i < m → m ≤ j → sum m f = f i := by
          intro m
          induction m with
          | zero => intro h1; omega
          | succ m ih2 =>
            intro h1 h2
            simp only [sum]
            by_cases e : i = m
            · subst e
              rw [sum_zero fun k hk => h k (by omega) (by omega) (by omega)]; grind
            · rw [ih2 (by omega) (by omega), h m (by omega) (by omega) (by omega)]; grind
        rw [key j (by omega) (Nat.le_refl _)]
      · rw [ih (by omega) (by omega) fun k hk => h k (by omega), h n (by omega) (by omega) (by omega)]; grind
theorem det_congr {n : Nat} : ∀ {a b : M}, (∀ i j, i < n → j < n → a i j = b i j) → det n a = det n b := by
  induction n with
  | zero => intro a b _; rfl
  | succ n ih =>
    intro a b h
    refine sum_congr fun i hi => ?_
    rw [h i 0 hi (by omega), ih (a := minor a i) (b := minor b i) fun r c hr hc => ?_]
    unfold minor
    refine h _ _ ?_ (by omega)
    unfold skip; split <;> omega
/-- row r is replaced -/
def upd (m : M) (r : Nat) (f : Nat → Rat) : M := fun i j => if i = r then f j else m i j
/-- the row of a minor that was row r -/
def down (i r : Nat) : Nat := if r < i then r else r - 1
theorem minor_upd {m : M} {r i : Nat} {f : Nat → Rat} (h : i ≠ r) : minor (upd m r f) i = upd (minor m i) (down i r) (fun j => f (j + 1)) := by
  funext x y
  simp only [minor, upd, skip, down]
  grind
theorem minor_upd_same {m : M} {r : Nat} {f : Nat → Rat} : minor (upd m r f) r = minor m r := by
  funext x y
  unfold minor upd skip
  split <;> rw [if_neg (by omega)]
/-- linear in each row -/
theorem det_lin {n : Nat} : ∀ {m : M} {r : Nat} {f g : Nat → Rat} {a b : Rat}, r < n → det n (upd m r fun j => a * f j + b * g j) = a * det n (upd m r f) + b * det n (upd m r g) := by
  induction n with
  | zero => intro m r f g a b h; omega
  | succ n ih =>
    intro m r f g a b h
    simp only [det]
    rw [← sum_mul, ← sum_mul, ← sum_add]
    refine sum_congr fun i hi => ?_
    by_cases e : i = r
    · subst e
      rw [minor_upd_same, minor_upd_same, minor_upd_same]
      simp only [upd, if_true]; grind
    · rw [minor_upd e, minor_upd e, minor_upd e, ih (by unfold down; split <;> omega)]
      simp only [upd, if_neg e]; grind
/-- nought, where two rows, one behind the other, are alike -/
theorem det_adj {n : Nat} : ∀ {m : M} {r : Nat}, r + 1 < n → (∀ j, m r j = m (r + 1) j) → det n m = 0 := by
  induction n with
  | zero => intro m r h; omega
  | succ n ih =>
    intro m r h he
    simp only [det]
    rw [sum_two (i := r) (j := r + 1) (by omega) h (by omega) fun k hk h1 h2 => ?_]
    · have : minor m r = minor m (r + 1) := by
        funext x y
        unfold minor skip
        by_cases e1 : x < r
        · rw [if_pos e1, if_pos (by omega)]
        · rw [if_neg e1]
          by_cases e2 : x < r + 1
          · rw [if_pos e2]
            obtain rfl : x = r := by omega
            exact (he (y + 1)).symm
          · rw [if_neg e2]
      rw [this, he 0]
      have : sg (r + 1) = - sg r := by unfold sg; split <;> split <;> first | omega | grind
      rw [this]; grind
    · have : det n (minor m k) = 0 := by
        refine ih (r := down k r) (by unfold down; split <;> omega) fun j => ?_
        unfold minor skip down
        by_cases e : r < k
        · rw [if_pos e, if_pos e, if_pos (by omega)]; exact he (j + 1)
        · rw [if_neg e, if_neg (by omega), if_neg (by omega), show r - 1 + 1 = r by omega]; exact he (j + 1)
      rw [this]; grind
/-- what is linear in each of n rows, and nought where two of them are alike -/
structure Alt (n : Nat) (f : M → Rat) : Prop where
  congr : ∀ a b : M, (∀ i j, i < n → j < n → a i j = b i j) → f a = f b
  lin : ∀ (m : M) (r : Nat) (g h : Nat → Rat) (a b : Rat), r < n → f (upd m r fun j => a * g j + b * h j) = a * f (upd m r g) + b * f (upd m r h)
  adj : ∀ (m : M) (r : Nat), r + 1 < n → (∀ j, m r j = m (r + 1) j) → f m = 0
theorem det_alt (n : Nat) : Alt n (det n) := ⟨fun _ _ h => det_congr h, fun _ _ _ _ _ _ h => det_lin h, fun _ _ h he => det_adj h he⟩
theorem upd_self (m : M) (r : Nat) : upd m r (m r) = m := by funext i j; unfold upd; split <;> simp_all
theorem upd_comm (m : M) (r s : Nat) (f g : Nat → Rat) (h : r ≠ s) : upd (upd m r f) s g = upd (upd m s g) r f := by funext i j; unfold upd; grind
/-- two rows change places -/
def swap (m : M) (r s : Nat) : M := upd (upd m r (m s)) s (m r)
section
variable {n : Nat} {f : M → Rat}
theorem Alt.add (h : Alt n f) (m : M) (r : Nat) (u v : Nat → Rat) (hr : r < n) : f (upd m r fun j => u j + v j) = f (upd m r u) + f (upd m r v) := by
  have := h.lin m r u v 1 1 hr
  simp only [Rat.one_mul] at this
  exact this
theorem Alt.mul (h : Alt n f) (m : M) (r : Nat) (u : Nat → Rat) (c : Rat) (hr : r < n) : f (upd m r fun j => c * u j) = c * f (upd m r u) := by
  have := h.lin m r u u c 0 hr
  have e : (fun j => c * u j + 0 * u j) = fun j => c * u j := by funext j; grind
  rw [e] at this
  grind
theorem Alt.zero (h : Alt n f) (m : M) (r : Nat) (hr : r < n) (hz : ∀ j, j < n → m r j = 0) : f m = 0 := by
  have h1 : f m = f (upd m r fun j => 0 * m r j) := h.congr _ _ fun i j hi hj => by
    unfold upd
    split
    · rename_i e; subst e; rw [hz j hj]; grind
    · rfl
  rw [h1, h.mul m r (m r) 0 hr]; grind
theorem Alt.pair (h : Alt n f) (m : M) (r : Nat) (u v : Nat → Rat) (hr : r + 1 < n) : f (upd (upd m r v) (r + 1) u) = - f (upd (upd m r u) (r + 1) v) := by
  have X : ∀ a b c : Nat → Rat, f (upd (upd m r fun j => a j + b j) (r + 1) c) = f (upd (upd m r a) (r + 1) c) + f (upd (upd m r b) (r + 1) c) := fun a b c => by
    rw [upd_comm _ _ _ _ _ (by omega), upd_comm _ _ _ a _ (by omega), upd_comm _ _ _ b _ (by omega)]
    exact h.add _ _ _ _ (by omega)
  have Z : ∀ a : Nat → Rat, f (upd (upd m r a) (r + 1) a) = 0 := fun a => h.adj _ r hr fun j => by unfold upd; grind
  have h1 := Z fun j => u j + v j
  rw [X, h.add _ _ _ _ hr, h.add _ _ _ _ hr, Z, Z] at h1
  grind
theorem Alt.swap_adj (h : Alt n f) (m : M) (r : Nat) (hr : r + 1 < n) : f (swap m r (r + 1)) = - f m := by
  have := h.pair m r (m r) (m (r + 1)) hr
  unfold swap
  rw [this, upd_self]
  congr 2
  funext i j
  unfold upd
  grind
/-- nought, where any two rows are alike -/
theorem Alt.eq (h : Alt n f) : ∀ (d : Nat) (m : M) (r : Nat), r + d + 1 < n → (∀ j, m r j = m (r + d + 1) j) → f m = 0 := by
  intro d
  induction d with
  | zero => intro m r hr he; exact h.adj m r hr he
  | succ d ih =>
    intro m r hr he
    have h1 := h.swap_adj m (r + d + 1) (by omega)
    have h2 : f (swap m (r + d + 1) (r + d + 1 + 1)) = 0 := ih _ r (by omega) fun j => by
      unfold swap upd
      have := he j
      grind
    grind
theorem Alt.same (h : Alt n f) (m : M) (r s : Nat) (hr : r < n) (hs : s < n) (hne : r ≠ s) (he : ∀ j, m r j = m s j) : f m = 0 := by
  rcases Nat.lt_or_gt_of_ne hne with h1 | h1
  · obtain ⟨d, rfl⟩ : ∃ d, s = r + d + 1 := ⟨s - r - 1, by omega⟩
    exact h.eq d m r hs he
  · obtain ⟨d, rfl⟩ : ∃ d, r = s + d + 1 := ⟨r - s - 1, by omega⟩
    exact h.eq d m s hr fun j => (he j).symm
/-- a multiple of one row, added to another -/
theorem Alt.addmul (h : Alt n f) (m : M) (r s : Nat) (c : Rat) (hr : r < n) (hs : s < n) (hne : r ≠ s) : f (upd m r fun j => m r j + c * m s j) = f m := by
  rw [h.add m r (m r) (fun j => c * m s j) hr, h.mul m r (m s) c hr, upd_self, h.same (upd m r (m s)) r s hr hs hne (fun j => by unfold upd; grind)]
  grind
/-- two rows change places -/
theorem Alt.swapped (h : Alt n f) (m : M) (r s : Nat) (hr : r < n) (hs : s < n) (hne : r ≠ s) : f (swap m r s) = - f m := by
  have X : ∀ a b c : Nat → Rat, f (upd (upd m r fun j => a j + b j) s c) = f (upd (upd m r a) s c) + f (upd (upd m r b) s c) := fun a b c => by
    rw [upd_comm _ _ _ _ _ hne, upd_comm _ _ _ a _ hne, upd_comm _ _ _ b _ hne]
    exact h.add _ _ _ _ hr
  have Z : ∀ a : Nat → Rat, f (upd (upd m r a) s a) = 0 := fun a => h.same _ r s hr hs hne fun j => by unfold upd; grind
  have h1 := Z fun j => m r j + m s j
  rw [X, h.add _ _ _ _ hs, h.add _ _ _ _ hs, Z, Z] at h1
  have h2 : upd (upd m r (m r)) s (m s) = m := by rw [upd_self, upd_self]
  unfold swap
  rw [h2] at h1
  grind
/-- multiples of row k, added to the other rows (below t) -/
def cl (m : M) (k : Nat) (g : Nat → Rat) (t : Nat) : M := fun i j => if i < t ∧ i ≠ k then m i j + g i * m k j else m i j
theorem Alt.clear (h : Alt n f) (m : M) (k : Nat) (g : Nat → Rat) (hk : k < n) : ∀ t, t ≤ n → f (cl m k g t) = f m := by
  intro t
  induction t with
  | zero =>
    intro _
    have : cl m k g 0 = m := by funext i j; unfold cl; rw [if_neg (by omega)]
    rw [this]
  | succ t ih =>
    intro ht
    by_cases e : t = k
    · rw [← ih (by omega)]
      congr 1
      funext i j
      unfold cl
      grind
    · rw [← ih (by omega), ← h.addmul (cl m k g t) t k (g t) (by omega) hk e]
      congr 1
      funext i j
      unfold upd cl
      grind
/-- nought, where the rows from k on have noughts alone in more than k columns -/
theorem Alt.flat (h : Alt n f) : ∀ (d : Nat) (m : M) (k c : Nat), c + d = n → k + 1 ≤ c → k < n → (∀ i j, k ≤ i → i < n → j < c → m i j = 0) → f m = 0 := by
  intro d
  induction d with
  | zero =>
    intro m k c hc hk hkn hz
    exact h.zero m k hkn fun j hj => hz k j (Nat.le_refl _) hkn (by omega)
  | succ d ih =>
    intro m k c hc hk hkn hz
    by_cases hex : ∃ i, k ≤ i ∧ i < n ∧ m i c ≠ 0
    · obtain ⟨i, h1, h2, h3⟩ := hex
      have key : ∀ m1 : M, m1 k c ≠ 0 → (∀ i j, k ≤ i → i < n → j < c → m1 i j = 0) → f m1 = 0 := fun m1 hp hz1 => by
        rw [← h.clear m1 k (fun r => if k < r then - (m1 r c / m1 k c) else 0) hkn n (Nat.le_refl _)]
        refine ih _ (k + 1) (c + 1) (by omega) (by omega) (by omega) fun i j hi hin hj => ?_
        unfold cl
        rw [if_pos ⟨hin, by omega⟩]
        dsimp only
        rw [if_pos (by omega)]
        by_cases e : j = c
        · subst e; grind
        · rw [hz1 i j (by omega) hin (by omega), hz1 k j (Nat.le_refl _) hkn (by omega)]; grind
      by_cases e : i = k
      · subst e; exact key m h3 hz
      · have := h.swapped m k i hkn h2 (fun h => e h.symm)
        have h0 := key (swap m k i) (by unfold swap upd; grind) fun a b ha han hb => by
          have q1 := hz k b (Nat.le_refl _) hkn hb
          have q2 := hz i b h1 h2 hb
          have q3 := hz a b ha han hb
          unfold swap upd; grind
        grind
    · refine ih m k (c + 1) (by omega) (by omega) hkn fun i j hi hin hj => ?_
      by_cases e : j = c
      · subst e
        exact Classical.byContradiction fun hne => hex ⟨i, hi, hin, hne⟩
      · exact hz i j hi hin (by omega)
end
/-- ones where row and column are the same -/
def I : M := fun i j => if i = j then 1 else 0
theorem det_I (n : Nat) : det n I = 1 := by
  induction n with
  | zero => rfl
  | succ n ih =>
    have h1 : ∀ i, i < n + 1 → sg i * I i 0 * det n (minor I i) = if i = 0 then 1 else 0 := fun i hi => by
      by_cases e : i = 0
      · subst e
        have : minor I 0 = I := by funext a b; simp only [minor, skip, I]; grind
        rw [this, ih]
        simp [sg, I]
      · rw [if_neg e]
        have : I i 0 = 0 := by unfold I; rw [if_neg e]
        rw [this]; grind
    have h2 : ∀ m, sum (m + 1) (fun i => if i = 0 then (1 : Rat) else 0) = 1 := by
      intro m
      induction m with
      | zero => simp [sum]; grind
      | succ m ih2 => rw [sum, ih2]; simp; grind
    rw [det, sum_congr h1, h2]
/-- what is linear in each row, and nought where two are alike, is the determinant times a number -/
theorem Alt.uniq {n : Nat} {f : M → Rat} (h : Alt n f) : ∀ (d : Nat) (m : M) (k : Nat), k + d = n → (∀ i j, i < n → j < k → m i j = I i j) → f m = f I * det n m := by
  intro d
  induction d with
  | zero =>
    intro m k hk he
    obtain rfl : k = n := by omega
    rw [h.congr m I he, det_congr he, det_I]; grind
  | succ d ih =>
    intro m k hk he
    have hkn : k < n := by omega
    by_cases hex : ∃ i, k ≤ i ∧ i < n ∧ m i k ≠ 0
    · obtain ⟨i, h1, h2, h3⟩ := hex
      have key : ∀ m1 : M, m1 k k ≠ 0 → (∀ i j, i < n → j < k → m1 i j = I i j) → f m1 = f I * det n m1 := fun m1 hp he1 => by
        have sc : ∀ F : M → Rat, Alt n F → F m1 = m1 k k * F (cl (upd m1 k fun j => (m1 k k)⁻¹ * m1 k j) k (fun r => - m1 r k) n) := fun F hF => by
          rw [hF.clear _ k _ hkn n (Nat.le_refl _), hF.mul m1 k (m1 k) _ hkn, upd_self]
          grind
        rw [sc f h, sc (det n) (det_alt n), ih _ (k + 1) (by omega) fun i j hi hj => ?_]
        · grind
        · have q1 := he1 i j hi
          have q2 := he1 k j hkn
          unfold cl upd I at *
          by_cases e : j = k
          · subst e; grind
          · have q1 := q1 (by omega)
            have q2 := q2 (by omega)
            grind
      by_cases e : i = k
      · subst e; exact key m h3 he
      · have s1 := h.swapped m k i hkn h2 (fun h => e h.symm)
        have s2 := (det_alt n).swapped m k i hkn h2 (fun h => e h.symm)
        have h0 := key (swap m k i) (by unfold swap upd; grind) fun a b ha hb => by
          have q1 := he k b hkn hb
          have q2 := he i b h2 hb
          have q3 := he a b ha hb
          unfold swap upd I at *; grind
        grind
    · have hz : ∀ i j, k ≤ i → i < n → j < k + 1 → m i j = 0 := fun i j hi hin hj => by
        by_cases e : j = k
        · subst e; exact Classical.byContradiction fun hne => hex ⟨i, hi, hin, hne⟩
        · rw [he i j hin (by omega)]; unfold I; rw [if_neg (by omega)]
      rw [h.flat d m k (k + 1) (by omega) (Nat.le_refl _) hkn hz, (det_alt n).flat d m k (k + 1) (by omega) (Nat.le_refl _) hkn hz]; grind
theorem Alt.det {n : Nat} {f : M → Rat} (h : Alt n f) (m : M) : f m = f I * Det.det n m := h.uniq n m 0 (by omega) fun i j _ hj => by omega
/-- the product -/
def mul (n : Nat) (a b : M) : M := fun i j => sum n fun k => a i k * b k j
/-- without row a, and without column b -/
def min2 (m : M) (a b : Nat) : M := fun r c => m (skip a r) (skip b c)
/-- the adjugate of n + 1 rows and columns -/
def adj (n : Nat) (m : M) : M := fun i j => sg (i + j) * det n (min2 m j i)
end Det

/- Elimination without fractions, in plain Lean: minors, what is left behind k rows (Sylvester's identity). -/
set_option linter.unusedVariables false
set_option linter.unusedSimpArgs false
namespace Det
def nc (k : Nat) (t : M) : M := fun i j => t i (if j = k then k + 1 else j)
end Det

/- Elimination without fractions, in plain Lean: the mirror of the program's, and what its numbers are: minors. -/
set_option linter.unusedVariables false
set_option linter.unusedSimpArgs false
namespace Det
/-- the first of d rows from i on that has something in the column j -/
def fr (g : Nat → Nat → Int) (j : Nat) : Nat → Nat → Nat
  | 0, i => i
  | d + 1, i => if g i j = 0 then fr g j d (i + 1) else i
def q2 (q : Nat → Nat) (i k : Nat) : Nat → Nat := fun r => if r = i then q k else if r = k then q i else q r
end Det

/- Elimination without fractions, in plain Lean: the determinant, the rank, of what is turned too. -/
set_option linter.unusedVariables false
set_option linter.unusedSimpArgs false
namespace Det
/-- sums of whole numbers -/
def isum (n : Nat) (f : Nat → Int) : Int := match n with
  | 0 => 0
  | n + 1 => isum n f + f n
theorem isum_congr {n : Nat} {f g : Nat → Int} (h : ∀ i, i < n → f i = g i) : isum n f = isum n g := by
  induction n with
  | zero => rfl
  | succ n ih => simp only [isum]; rw [ih fun i hi => h i (by omega), h n (by omega)]
end Det

/- The determinant of powers of points (two coordinates each), in plain Lean. -/
set_option linter.unusedVariables false
set_option linter.unusedSimpArgs false
namespace Det
/-- powers of points: row i has the powers i of the first coordinates -/
def pw (a b : Nat → Rat) (n : Nat) : M := fun i j => a j ^ i * b j ^ (n - 1 - i)
theorem pow_succ' (x : Rat) (k : Nat) : x ^ (k + 1) = x * x ^ k := by rw [Rat.pow_succ]; grind
/-- the product of the first n whole numbers -/
def iprod (n : Nat) (f : Nat → Int) : Int := match n with
  | 0 => 1
  | n + 1 => iprod n f * f n
/-- how far each of the points is from those ahead of it, multiplied -/
def far (a b : Nat → Int) : Nat → Int
  | 0 => 1
  | n + 1 => far a b n * iprod n fun j => a n * b j - a j * b n
theorem iprod_ne {n : Nat} {f : Nat → Int} (h : ∀ i, i < n → f i ≠ 0) : iprod n f ≠ 0 := by
  induction n with
  | zero => rw [iprod]; omega
  | succ n ih => rw [iprod]; exact Int.mul_ne_zero (ih fun i hi => h i (by omega)) (h n (by omega))
/-- points that are not one make a matrix that is not flat -/
theorem far_ne {a b : Nat → Int} : ∀ {n : Nat}, (∀ j i, j < n → i < j → a j * b i - a i * b j ≠ 0) → far a b n ≠ 0
  | 0, _ => by rw [far]; omega
  | n + 1, h => by rw [far]; exact Int.mul_ne_zero (far_ne fun j i hj hi => h j i (by omega) hi) (iprod_ne fun i hi => h n i (by omega) hi)
end Det

/- Values of coefficients at points, in plain Lean: of a product, of what is turned, of a point times a number. -/
set_option linter.unusedVariables false
set_option linter.unusedSimpArgs false
namespace Det
theorem is_zero {n : Nat} {f : Nat → Int} (h : ∀ i, i < n → f i = 0) : isum n f = 0 := by
  induction n with
  | zero => rfl
  | succ n ih => rw [isum, ih fun i hi => h i (by omega), h n (by omega)]; rfl
theorem is_mulL (n : Nat) (c : Int) (f : Nat → Int) : isum n (fun i => c * f i) = c * isum n f := by
  induction n with
  | zero => rw [isum, isum, Int.mul_zero]
  | succ n ih => rw [isum, isum, ih, Int.mul_add]
theorem is_mulR (n : Nat) (c : Int) (f : Nat → Int) : isum n (fun i => f i * c) = isum n f * c := by
  rw [Int.mul_comm, ← is_mulL]; exact isum_congr fun i _ => Int.mul_comm _ _
theorem is_one {n j : Nat} {f : Nat → Int} (hj : j < n) (h : ∀ k, k < n → k ≠ j → f k = 0) : isum n f = f j := by
  induction n with
  | zero => omega
  | succ n ih =>
    rw [isum]
    by_cases e : j = n
    · subst e
      rw [is_zero fun k hk => h k (by omega) (by omega)]; omega
    · rw [ih (by omega) fun k hk => h k (by omega), h n (by omega) (by omega)]; omega
theorem is_head (n : Nat) (f : Nat → Int) : isum (n + 1) f = f 0 + isum n fun i => f (i + 1) := by
  induction n with
  | zero => simp [isum]
  | succ n ih => rw [isum, ih, isum]; omega
theorem is_rev : ∀ (n : Nat) (f : Nat → Int), isum n f = isum n fun i => f (n - 1 - i)
  | 0, _ => rfl
  | n + 1, f => by
    rw [is_head n fun i => f (n + 1 - 1 - i)]
    show isum n f + f n = f n + _
    rw [is_rev n f, Int.add_comm]
    congr 1
    exact isum_congr fun i hi => by rw [show n + 1 - 1 - (i + 1) = n - 1 - i by omega]
/-- the powers of a point -/
def pf (a b : Int) (n i : Nat) : Int := a ^ i * b ^ (n - 1 - i)
/-- the value of n coefficients -/
def hv (n : Nat) (c : Nat → Int) (a b : Int) : Int := isum n fun m => c m * pf a b n m
end Det

/- 'Lim w w'': no limb has turned. -/
namespace Go.Proofs.YtdllbdfchloijaaGreatDoor
open Num
open Go.ChangeShapes Go.WideShapes Go.ChangeAt Go.RowKit
set_option linter.unusedVariables false
set_option linter.unusedSimpArgs false
/-- every limb of w is there still -/
def Lim (w w' : World) : Prop := ∀ (b : Nat), typOf w b = some 106 → typOf w' b = some 106 ∧ ∀ (o : Nat) (n : Int), w.cell? ⟨b, o, none⟩ = some (.int .u32 n) → w'.cell? ⟨b, o, none⟩ = some (.int .u32 n)
section
variable {a b c w w' : World}
theorem Lim.refl (w : World) : Lim w w := fun _ h => ⟨h, fun _ _ h => h⟩
theorem Lim.trans (h : Lim a b) (k : Lim b c) : Lim a c := fun q ht => ⟨(k q (h q ht).1).1, fun o n hc => (k q (h q ht).1).2 o n ((h q ht).2 o n hc)⟩
theorem Lim.of_below (h : Below a.heap.size a b) : Lim a b := fun _ ht => ⟨typ_keep ht h, fun _ _ hc => bkeep h hc⟩
theorem Lim.below (h : Lim a b) (k : Below b.heap.size b c) : Lim a c := h.trans (.of_below k)
theorem Lim.alloc (h : Lim a b) (o : Obj) : Lim a (b.alloc o) := h.below (bal (Below.refl _ _) o)
theorem Lim.drew (h : Lim a b) : Lim a b.drew := h
theorem Lim.drewN (h : Lim a b) (n : Nat) : Lim a (b.drewN n) := h
/-- what is written is a row of another type -/
theorem Lim.grown {row : Option Nat} (h : Lim a b) (hg : b.grownBy c row) (hr : ∀ g, row = some g → typOf b g ≠ some 106) : Lim a c := h.trans fun q ht => by
  have e : c.heap[q]? = b.heap[q]? := hg.block q (typ_lt ht) fun e => hr q e.symm ht
  exact ⟨by rw [typ_of_block e]; exact ht, fun o n hc => by rw [World.cell?_of_block (w := b) e]; exact hc⟩
/-- a store into a cell that holds no limb -/
theorem Lim.put (h : Lim a b) {p : Addr} {v : Value} (hp : b.cell? p = some v) (hv : ∀ n, v ≠ .int .u32 n) (u : Value) : Lim a (b.setCell p u) := fun q ht => by
  refine ⟨by rw [typ_set]; exact (h q ht).1, fun o n hc => cell_far ((h q ht).2 o n hc) ?_ u⟩
  intro e
  rw [e, (h q ht).2 o n hc] at hp
  exact hv _ (Option.some.inj hp).symm
theorem Lim.bool (h : Lim a b) {p : Addr} {x : Bool} (hp : b.cell? p = some (.bool x)) (u : Value) : Lim a (b.setCell p u) := h.put hp (fun _ e => by cases e) u
theorem Lim.slice (h : Lim a b) {p : Addr} {x : Option Addr} {n m : Nat} (hp : b.cell? p = some (.slice x n m)) (u : Value) : Lim a (b.setCell p u) := h.put hp (fun _ e => by cases e) u
theorem C32.lim {o : Option Addr} {l : List Nat} (h : C32 a o l) (k : Lim a b) : C32 b o l := by
  rcases h with h | ⟨q, off, h1, h2⟩
  · exact .inl h
  · exact .inr ⟨q, off, h1, fun i hi => (k q h2.ty).2 _ _ (h2 i hi), (k q h2.ty).1⟩
theorem U32.lim {o : Option Addr} {cap : Nat} {l : List Nat} (h : U32 a o cap l) (k : Lim a b) : U32 b o cap l := ⟨h.1, h.2.1, h.2.2.1, h.2.2.2.lim k⟩
theorem IsInt.lim {v : Value} {z : Int} (h : IsInt a v z) (k : Lim a b) : IsInt b v z := by
  obtain ⟨neg, o, cap, l, h1, h2, h3⟩ := h
  exact ⟨neg, o, cap, l, h1, h2.lim k, h3⟩
theorem IsRef.lim {v : Value} {z : Int} (h : IsRef a v z) (k : Lim a b) : IsRef b v z := by
  obtain ⟨neg, o, cap, l, h1, h2, h3⟩ := h
  exact ⟨neg, o, cap, l, h1, h2.lim k, h3⟩
end
/-- what stays as long as no limb turns -/
def Lims (R : World → Value → Int → Prop) : Prop := ∀ w w' v z, R w v z → Lim w w' → R w' v z
theorem lims_int : Lims IsInt := fun _ _ _ _ h k => h.lim k
theorem lims_ref : Lims IsRef := fun _ _ _ _ h k => h.lim k
theorem own_typ {E : TypeId} {size n : Nat} {w0 wr : World} {v : Value} {xs : List Value} (h : OwnE E size w0 wr v n xs) {g : Nat} (hg : v.ownBlock = some g) : typOf wr g = some E := by
  rcases h.1.2 with ⟨rfl, _⟩ | ⟨g', c, cur, rfl, _, hh, _⟩
  · simp [Value.ownBlock] at hg
  · simp [Value.ownBlock] at hg
    subst hg
    unfold typOf; rw [hh]
end Go.Proofs.YtdllbdfchloijaaGreatDoor

/- Schemes, plain: which counts and points make one; points times a number. -/
namespace Go.Proofs.YtdllbdfchloijaaGreatDoor
open Pt
set_option linter.unusedVariables false
set_option linter.unusedSimpArgs false
def Cnt (k1 k2 : Int) : Prop := 1 ≤ k1 ∧ k1 ≤ 8 ∧ 1 ≤ k2 ∧ k2 ≤ 8
def AllIn (n : Nat) (f : Nat → Int × Int) : Prop := ∀ i, i < n → inB (f i).1 (f i).2 = true
def NoNone (n : Nat) (f : Nat → Int × Int) : Prop := ∀ i, i < n → nn (f i).1 (f i).2 = false
/-- counts and points that make a scheme -/
structure Sch (k1 k2 : Int) (n : Nat) (f : Nat → Int × Int) : Prop where
  cnt : Cnt k1 k2
  all : AllIn n f
  len : (n : Int) = k1 + k2 - 1
  nn : NoNone n f
  tw : NoTw f n
/-- the error's number -/
def Wrg (k1 k2 : Int) (n : Nat) (f : Nat → Int × Int) (e : Int) : Prop :=
  (¬ (Cnt k1 k2 ∧ AllIn n f) ∧ e = 70) ∨ (Cnt k1 k2 ∧ AllIn n f ∧ ¬ Sch k1 k2 n f ∧ e = 71) ∨ (Sch k1 k2 n f ∧ e = 0)
theorem Wrg.congr {k1 k2 : Int} {n : Nat} {f g : Nat → Int × Int} {e : Int} (h : Wrg k1 k2 n f e) (h1 : AllIn n f ↔ AllIn n g) (h2 : Sch k1 k2 n f ↔ Sch k1 k2 n g) : Wrg k1 k2 n g e := by
  unfold Wrg at *
  rw [← h1, ← h2]; exact h
/-- how far two points are apart -/
def dist (p q : Int × Int) : Int := p.1 * q.2 - q.1 * p.2
theorem twin_iff {p q : Int × Int} (h1 : inB p.1 p.2 = true) (h2 : inB q.1 q.2 = true) (h3 : nn p.1 p.2 = false) (h4 : nn q.1 q.2 = false) : twin p q = false ↔ dist q p ≠ 0 := by
  have e3 : ¬ (p.1 = 0 ∧ p.2 = 0) := of_decide_eq_false h3
  have e4 : ¬ (q.1 = 0 ∧ q.2 = 0) := of_decide_eq_false h4
  unfold twin one dist
  rw [h1, h2, if_neg (fun h => h.elim e3 e4), Bool.true_and, Bool.true_and, beq_eq_false_iff_ne]
  constructor <;> (intro h k; apply h; omega)
theorem Sch.dist {k1 k2 : Int} {n : Nat} {f : Nat → Int × Int} (h : Sch k1 k2 n f) {j i : Nat} (hj : j < n) (hi : i < j) : dist (f j) (f i) ≠ 0 :=
  (twin_iff (h.all i (by omega)) (h.all j hj) (h.nn i (by omega)) (h.nn j hj)).1 (h.tw j hj i hi)
/-- a scheme's matrix is not flat -/
theorem Sch.far {k1 k2 : Int} {n : Nat} {f : Nat → Int × Int} (h : Sch k1 k2 n f) : Det.far (fun i => (f i).1) (fun i => (f i).2) n ≠ 0 := Det.far_ne fun j i hj hi => h.dist hj hi
end Go.Proofs.YtdllbdfchloijaaGreatDoor

