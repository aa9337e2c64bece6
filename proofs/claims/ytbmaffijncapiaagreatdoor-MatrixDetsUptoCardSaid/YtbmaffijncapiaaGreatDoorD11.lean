/- Texts of this seat, laid together: RefG, RefH, RefI, VmF, VmG, VmH. Each opens with its own remark, which says what it proves, and under which conditions. -/
import Derived.Test.YtbmaffijncapiaaGreatDoorD04
import Derived.Test.YtbmaffijncapiaaGreatDoorD08
import Derived.Test.YtbmaffijncapiaaGreatDoorD07
import Derived.Test.YtbmaffijncapiaaGreatDoorD10
import Derived.Deep.DrawnRows
import Derived.Deep.RegionLaw
import Derived.Deep.Cut
import Derived.Deep.DeepCutAuto
import Derived.Deep.LoopGhost
set_option linter.unusedVariables false
set_option linter.unusedSimpArgs false
/- The reference's numbers: plus, minus. -/
namespace Go.Proofs.YtbmaffijncapiaaGreatDoor
open Num
open Go.ChangeShapes Go.WideShapes Go.ChangeAt Go.RowKit
set_option linter.unusedVariables false
set_option linter.unusedSimpArgs false

set_option maxRecDepth 100000 in
set_option maxHeartbeats 4000000 in
theorem rplus_c (a b : Option Addr) (ca cb : Nat) (A B : List Nat) (w : World) (ha : U32 w a ca A) (hb : U32 w b cb B) (hA : NumR.Limbs A) (hB : NumR.Limbs B) (h1 : A.length ≤ 2147483650) (h2 : B.length ≤ 2147483650) :
    Calls Tryz.prog 272 #[.slice a A.length ca, .slice b B.length cb] w fun e w' => (∃ v, e = .returned v ∧ ∃ O, Own32 w w' v O ∧ NumR.Limbs O ∧ O.length ≤ max A.length B.length + 1 ∧ NumR.val O = NumR.val A + NumR.val B) := by
  have hmx : max A.length B.length ≤ 2147483650 := Nat.max_le.2 ⟨h1, h2⟩
  have hmA : A.length ≤ max A.length B.length := Nat.le_max_left _ _
  have hmB' : B.length ≤ max A.length B.length := Nat.le_max_right _ _
  go_enter Tryz.func272, Tryz.ntmps272
  go_wp2
  go_loopw [5, 6, 7] (fun d cx x wr => ∃ (i c : Nat) (O : List Nat), i ≤ max A.length B.length + 1 ∧ x = .int .i64 i ∧ cx = .int .u32 c ∧ c ≤ 1 ∧ Own32 w wr d O ∧ NumR.Limbs O ∧ Hid (O.length = i) ∧ Hid (NumR.val O + c * NumR.BB ^ i = NumR.val (A.take i) + NumR.val (B.take i)) ∧ Hid (i = max A.length B.length + 1 → c = 0)) (fun _ _ x _ => max A.length B.length + 1 - (intOf x).toNat)
  case atStart => exact ⟨0, 0, [], by omega, rfl, rfl, by omega, Own32.nil (Below.refl _ _), (fun _ h => by cases h), Lib.hid rfl, Lib.hid (by simp [NumR.val]), Lib.hid (fun h => rfl)⟩
  case round =>
    obtain ⟨i, c, O, hi, rfl, rfl, hc1, hO, hOL, hOl, hV, hZ0⟩ := hrel
    have HS := Lib.hid (fun t ht => NumR.plus_step (O := O) (A := A) (B := B) (i := i) (c := c) (t := t) hOl.out ht hV.out)
    by_cases hia : i < A.length
    · have hiaz : (i : Int) < (A.length : Int) := by omega
      rcases ha.2.2.2 with hn | ⟨ba, oa, rfl, hca⟩
      · subst hn; simp at hia
      have c0 := bkeep hO.2 (hca i hia)
      have hx := NumR.limb_get hA i
      by_cases hib : i < B.length
      · have hibz : (i : Int) < (B.length : Int) := by omega
        rcases hb.2.2.2 with hn | ⟨bb, ob, rfl, hcb⟩
        · subst hn; simp at hib
        have d0 := bkeep hO.2 (hcb i hib)
        have hy := NumR.limb_get hB i
        have HZ := Lib.hid (show i = max A.length B.length → c + A.getD i 0 + B.getD i 0 < NumR.BB from fun h => by omega)
        generalize A.getD i 0 = x at *
        generalize B.getD i 0 = y at *
        have e1 : IntKind.u32.wrap ((c : Int) + (x : Int)) = (c : Int) + (x : Int) := by rw [← Int.natCast_add]; exact w32 (by unfold NumR.BB at *; unfold BB; omega)
        have e2 : IntKind.u32.wrap ((c : Int) + (x : Int) + (y : Int)) = (c : Int) + (x : Int) + (y : Int) := by rw [← Int.natCast_add, ← Int.natCast_add]; exact w32 (by unfold NumR.BB at *; unfold BB; omega)
        have HS2 := Lib.hid (HS.out (c + x + y) rfl)
        have hmB : (c + x + y) % NumR.BB < NumR.BB := Nat.mod_lt _ NumR.BB_pos
        have hdB : (c + x + y) / NumR.BB ≤ 1 := by unfold NumR.BB at *; omega
        obtain ⟨lo, hlo⟩ : ∃ lo, lo = (c + x + y) % NumR.BB := ⟨_, rfl⟩
        obtain ⟨up, hup⟩ : ∃ up, up = (c + x + y) / NumR.BB := ⟨_, rfl⟩
        have HZ2 := Lib.hid (show i + 1 = max A.length B.length + 1 → up = 0 from fun h => by
          have := HZ.out
          rw [hup]; exact Nat.div_eq_of_lt (this (by omega)))
        rw [← hlo] at HS2 hmB
        rw [← hup] at HS2 hdB
        have g1 : ((c : Int) + (x : Int) + (y : Int)) % 65536 = (lo : Int) := by unfold NumR.BB at hlo; omega
        have g2 : ((c : Int) + (x : Int) + (y : Int)) / 65536 = (up : Int) := by unfold NumR.BB at hup; omega
        have g3 : ((c : Int) + (x : Int) + (y : Int)).tmod 65536 = (lo : Int) := by rw [Int.tmod_eq_emod_of_nonneg (by omega)]; exact g1
        have g4 : ((c : Int) + (x : Int) + (y : Int)).tdiv 65536 = (up : Int) := by rw [Int.tdiv_eq_ediv_of_nonneg (by omega)]; exact g2
        have hOm : O.length ≤ 2147483652 := by have := hOl.out; omega
        clear hlo hup HS HZ
        go_wp2_with (at_builtin; refine app32 (X := [lo]) rfl rfl hO rfl rfl ?_ ?_; (simp; omega); intro v' w1 hO1; clear hO)
        refine ⟨⟨i + 1, up, O ++ [lo], by omega, by go_num, rfl, hdB, hO1, NumR.limbs_snoc hOL hmB, Lib.hid (by simpa using hOl.out), HS2, HZ2⟩, by simp [intOf] <;> omega⟩
      · have hibd : decide (i < B.length) = false := by simpa using hib
        have hy0 : B.getD i 0 = 0 := by simp [show B.length ≤ i by omega]
        rw [hy0] at HS
        have HZ := Lib.hid (show i = max A.length B.length → c + A.getD i 0 < NumR.BB from fun h => by omega)
        generalize A.getD i 0 = x at *
        have e1 : IntKind.u32.wrap ((c : Int) + (x : Int)) = (c : Int) + (x : Int) := by rw [← Int.natCast_add]; exact w32 (by unfold NumR.BB at *; unfold BB; omega)
        have HS2 := Lib.hid (HS.out (c + x) rfl)
        have hmB : (c + x) % NumR.BB < NumR.BB := Nat.mod_lt _ NumR.BB_pos
        have hdB : (c + x) / NumR.BB ≤ 1 := by unfold NumR.BB at *; omega
        obtain ⟨lo, hlo⟩ : ∃ lo, lo = (c + x) % NumR.BB := ⟨_, rfl⟩
        obtain ⟨up, hup⟩ : ∃ up, up = (c + x) / NumR.BB := ⟨_, rfl⟩
        have HZ2 := Lib.hid (show i + 1 = max A.length B.length + 1 → up = 0 from fun h => by
          have := HZ.out
          rw [hup]; exact Nat.div_eq_of_lt (this (by omega)))
        rw [← hlo] at HS2 hmB
        rw [← hup] at HS2 hdB
        have g1 : ((c : Int) + (x : Int)) % 65536 = (lo : Int) := by unfold NumR.BB at hlo; omega
        have g2 : ((c : Int) + (x : Int)) / 65536 = (up : Int) := by unfold NumR.BB at hup; omega
        have g3 : ((c : Int) + (x : Int)).tmod 65536 = (lo : Int) := by rw [Int.tmod_eq_emod_of_nonneg (by omega)]; exact g1
        have g4 : ((c : Int) + (x : Int)).tdiv 65536 = (up : Int) := by rw [Int.tdiv_eq_ediv_of_nonneg (by omega)]; exact g2
        have hOm : O.length ≤ 2147483652 := by have := hOl.out; omega
        clear hlo hup HS HZ
        go_wp2_with (at_builtin; refine app32 (X := [lo]) rfl rfl hO rfl rfl ?_ ?_; (simp; omega); intro v' w1 hO1; clear hO)
        refine ⟨⟨i + 1, up, O ++ [lo], by omega, by go_num, rfl, hdB, hO1, NumR.limbs_snoc hOL hmB, Lib.hid (by simpa using hOl.out), HS2, HZ2⟩, by simp [intOf] <;> omega⟩
    · have hiad : decide (i < A.length) = false := by simpa using hia
      have hx0 : A.getD i 0 = 0 := by simp [show A.length ≤ i by omega]
      rw [hx0] at HS
      by_cases hib : i < B.length
      · have hibz : (i : Int) < (B.length : Int) := by omega
        rcases hb.2.2.2 with hn | ⟨bb, ob, rfl, hcb⟩
        · subst hn; simp at hib
        have d0 := bkeep hO.2 (hcb i hib)
        have hy := NumR.limb_get hB i
        rw [Nat.add_zero] at HS
        have HZ := Lib.hid (show i = max A.length B.length → c + B.getD i 0 < NumR.BB from fun h => by omega)
        generalize B.getD i 0 = y at *
        have e1 : IntKind.u32.wrap ((c : Int) + (y : Int)) = (c : Int) + (y : Int) := by rw [← Int.natCast_add]; exact w32 (by unfold NumR.BB at *; unfold BB; omega)
        have HS2 := Lib.hid (HS.out (c + y) rfl)
        have hmB : (c + y) % NumR.BB < NumR.BB := Nat.mod_lt _ NumR.BB_pos
        have hdB : (c + y) / NumR.BB ≤ 1 := by unfold NumR.BB at *; omega
        obtain ⟨lo, hlo⟩ : ∃ lo, lo = (c + y) % NumR.BB := ⟨_, rfl⟩
        obtain ⟨up, hup⟩ : ∃ up, up = (c + y) / NumR.BB := ⟨_, rfl⟩
        have HZ2 := Lib.hid (show i + 1 = max A.length B.length + 1 → up = 0 from fun h => by
          have := HZ.out
          rw [hup]; exact Nat.div_eq_of_lt (this (by omega)))
        rw [← hlo] at HS2 hmB
        rw [← hup] at HS2 hdB
        have g1 : ((c : Int) + (y : Int)) % 65536 = (lo : Int) := by unfold NumR.BB at hlo; omega
        have g2 : ((c : Int) + (y : Int)) / 65536 = (up : Int) := by unfold NumR.BB at hup; omega
        have g3 : ((c : Int) + (y : Int)).tmod 65536 = (lo : Int) := by rw [Int.tmod_eq_emod_of_nonneg (by omega)]; exact g1
        have g4 : ((c : Int) + (y : Int)).tdiv 65536 = (up : Int) := by rw [Int.tdiv_eq_ediv_of_nonneg (by omega)]; exact g2
        have hOm : O.length ≤ 2147483652 := by have := hOl.out; omega
        clear hlo hup HS HZ
        go_wp2_with (at_builtin; refine app32 (X := [lo]) rfl rfl hO rfl rfl ?_ ?_; (simp; omega); intro v' w1 hO1; clear hO)
        refine ⟨⟨i + 1, up, O ++ [lo], by omega, by go_num, rfl, hdB, hO1, NumR.limbs_snoc hOL hmB, Lib.hid (by simpa using hOl.out), HS2, HZ2⟩, by simp [intOf] <;> omega⟩
      · have hibd : decide (i < B.length) = false := by simpa using hib
        have hy0 : B.getD i 0 = 0 := by simp [show B.length ≤ i by omega]
        rw [hy0, Nat.add_zero, Nat.add_zero] at HS
        by_cases hc0 : 0 < c
        · have hlast : i ≤ max A.length B.length := by
            apply Nat.le_of_not_lt; intro h
            have := hZ0.out (by omega)
            omega
          have HZ := Lib.hid (show i = max A.length B.length → c < NumR.BB from fun h => by unfold NumR.BB; omega)
          have hcz : (0 : Int) < (c : Int) := by omega
          have HS2 := Lib.hid (HS.out (c) rfl)
          have hmB : (c) % NumR.BB < NumR.BB := Nat.mod_lt _ NumR.BB_pos
          have hdB : (c) / NumR.BB ≤ 1 := by unfold NumR.BB at *; omega
          obtain ⟨lo, hlo⟩ : ∃ lo, lo = (c) % NumR.BB := ⟨_, rfl⟩
          obtain ⟨up, hup⟩ : ∃ up, up = (c) / NumR.BB := ⟨_, rfl⟩
          have HZ2 := Lib.hid (show i + 1 = max A.length B.length + 1 → up = 0 from fun h => by
            have := HZ.out
            rw [hup]; exact Nat.div_eq_of_lt (this (by omega)))
          rw [← hlo] at HS2 hmB
          rw [← hup] at HS2 hdB
          have g1 : ((c : Int)) % 65536 = (lo : Int) := by unfold NumR.BB at hlo; omega
          have g2 : ((c : Int)) / 65536 = (up : Int) := by unfold NumR.BB at hup; omega
          have g3 : ((c : Int)).tmod 65536 = (lo : Int) := by rw [Int.tmod_eq_emod_of_nonneg (by omega)]; exact g1
          have g4 : ((c : Int)).tdiv 65536 = (up : Int) := by rw [Int.tdiv_eq_ediv_of_nonneg (by omega)]; exact g2
          have hOm : O.length ≤ 2147483652 := by have := hOl.out; omega
          clear hlo hup HS HZ
          go_wp2_with (at_builtin; refine app32 (X := [lo]) rfl rfl hO rfl rfl ?_ ?_; (simp; omega); intro v' w1 hO1; clear hO)
          refine ⟨⟨i + 1, up, O ++ [lo], by omega, by go_num, rfl, hdB, hO1, NumR.limbs_snoc hOL hmB, Lib.hid (by simpa using hOl.out), HS2, HZ2⟩, by simp [intOf] <;> omega⟩
        · obtain rfl : c = 0 := by omega
          have HV := Lib.hid (show NumR.val O = NumR.val A + NumR.val B by
            have := hV.out
            rw [List.take_of_length_le (by omega), List.take_of_length_le (by omega)] at this
            simpa using this)
          go_wp2
          go_ret
          exact ⟨_, rfl, O, hO, hOL, by rw [hOl.out]; exact hi, HV.out⟩


set_option maxRecDepth 100000 in
set_option maxHeartbeats 4000000 in
theorem rminus_c (a b : Option Addr) (ca cb : Nat) (A B : List Nat) (w : World) (ha : U32 w a ca A) (hb : U32 w b cb B) (hA : NumR.Limbs A) (hB : NumR.Limbs B) (h1 : A.length ≤ 2147483650) (h2 : B.length ≤ A.length) (hle : NumR.val B ≤ NumR.val A) :
    Calls Tryz.prog 207 #[.slice a A.length ca, .slice b B.length cb] w fun e w' => (∃ v, e = .returned v ∧ ∃ O, Own32 w w' v O ∧ NumR.Limbs O ∧ O.length = A.length ∧ NumR.val O + NumR.val B = NumR.val A) := by
  have HLE := Lib.hid (And.intro hle h2)
  clear hle
  go_enter Tryz.func207, Tryz.ntmps207
  go_wp2
  go_loopw [5, 6, 7] (fun d cx x wr => ∃ (i c : Nat) (O : List Nat), i ≤ A.length ∧ x = .int .i64 i ∧ cx = .int .u32 c ∧ c ≤ 1 ∧ Own32 w wr d O ∧ NumR.Limbs O ∧ Hid (O.length = i) ∧ Hid (NumR.val O + NumR.val (B.take i) = NumR.val (A.take i) + c * NumR.BB ^ i)) (fun _ _ x _ => A.length - (intOf x).toNat)
  case atStart => exact ⟨0, 0, [], by omega, rfl, rfl, by omega, Own32.nil (Below.refl _ _), (fun _ h => by cases h), Lib.hid rfl, Lib.hid (by simp [NumR.val])⟩
  case round =>
    obtain ⟨i, c, O, hi, rfl, rfl, hc1, hO, hOL, hOl, hV⟩ := hrel
    have HS := Lib.hid (fun r c' hr => NumR.minus_step (O := O) (A := A) (B := B) (i := i) (c := c) (r := r) (c' := c') hOl.out hr hV.out)
    by_cases hia : i < A.length
    · have hiaz : (i : Int) < (A.length : Int) := by omega
      rcases ha.2.2.2 with hn | ⟨ba, oa, rfl, hca⟩
      · subst hn; simp at hia
      have c0 := bkeep hO.2 (hca i hia)
      have hx := NumR.limb_get hA i
      by_cases hib : i < B.length
      · have hibz : (i : Int) < (B.length : Int) := by omega
        rcases hb.2.2.2 with hn | ⟨bb, ob, rfl, hcb⟩
        · subst hn; simp at hib
        have d0 := bkeep hO.2 (hcb i hib)
        have hy := NumR.limb_get hB i
        generalize A.getD i 0 = x at *
        generalize B.getD i 0 = y at *
        have e1 : IntKind.u32.wrap ((c : Int) + (y : Int)) = (c : Int) + (y : Int) := by rw [← Int.natCast_add]; exact w32 (by unfold NumR.BB at *; unfold BB; omega)
        have hy' : y < 65536 := hy
        have hx' : x < 65536 := hx
        by_cases hlow : x < c + y
        · have HS2 := Lib.hid (HS.out (x + NumR.BB - (c + y)) 1 (by unfold NumR.BB at *; omega))
          have e3 : IntKind.u32.wrap ((x : Int) + 65536) = (x : Int) + 65536 := by rw [show (x : Int) + 65536 = ((x + 65536 : Nat) : Int) by omega]; exact w32 (by unfold NumR.BB at *; unfold BB; omega)
          have e4 : IntKind.u32.wrap ((x : Int) + 65536 - ((c : Int) + (y : Int))) = ((x + NumR.BB - (c + y) : Nat) : Int) := by rw [show (x : Int) + 65536 - ((c : Int) + (y : Int)) = ((x + NumR.BB - (c + y) : Nat) : Int) by unfold NumR.BB; omega]; exact w32 (by unfold NumR.BB at *; unfold BB; omega)
          have e5 : (x : Int) + 65536 - ((c : Int) + (y : Int)) = ((x + NumR.BB - (c + y) : Nat) : Int) := by unfold NumR.BB; omega
          have hlz : (x : Int) < (c : Int) + (y : Int) := by omega
          have hrB : x + NumR.BB - (c + y) < NumR.BB := by unfold NumR.BB at *; omega
          have hOm : O.length ≤ 2147483652 := by have := hOl.out; omega
          generalize x + NumR.BB - (c + y) = r at *
          have hr' : r < 65536 := hrB
          have e7 : (r : Int) % 4294967296 = (r : Int) := by omega
          clear HS
          go_wp2_with (at_builtin; refine app32 (X := [r]) rfl rfl hO rfl rfl ?_ ?_; (simp; omega); intro v' w1 hO1; clear hO)
          refine ⟨⟨i + 1, 1, O ++ [r], by omega, by go_num, rfl, by omega, hO1, NumR.limbs_snoc hOL hrB, Lib.hid (by simpa using hOl.out), HS2⟩, by simp [intOf] <;> omega⟩
        · have HS2 := Lib.hid (HS.out (x - (c + y)) 0 (by omega))
          have e4 : IntKind.u32.wrap ((x : Int) - ((c : Int) + (y : Int))) = ((x - (c + y) : Nat) : Int) := by rw [show (x : Int) - ((c : Int) + (y : Int)) = ((x - (c + y) : Nat) : Int) by omega]; exact w32 (by unfold NumR.BB at *; unfold BB; omega)
          have e5 : (x : Int) - ((c : Int) + (y : Int)) = ((x - (c + y) : Nat) : Int) := by omega
          have hlz : ¬ (x : Int) < (c : Int) + (y : Int) := by omega
          have hrB : x - (c + y) < NumR.BB := by unfold NumR.BB at *; omega
          have hOm : O.length ≤ 2147483652 := by have := hOl.out; omega
          generalize x - (c + y) = r at *
          have hr' : r < 65536 := hrB
          have e7 : (r : Int) % 4294967296 = (r : Int) := by omega
          clear HS
          go_wp2_with (at_builtin; refine app32 (X := [r]) rfl rfl hO rfl rfl ?_ ?_; (simp; omega); intro v' w1 hO1; clear hO)
          refine ⟨⟨i + 1, 0, O ++ [r], by omega, by go_num, rfl, by omega, hO1, NumR.limbs_snoc hOL hrB, Lib.hid (by simpa using hOl.out), HS2⟩, by simp [intOf] <;> omega⟩
      · have hibd : decide (i < B.length) = false := by simpa using hib
        have hy0 : B.getD i 0 = 0 := by simp [show B.length ≤ i by omega]
        rw [hy0, Nat.add_zero] at HS
        generalize A.getD i 0 = x at *
        have hx' : x < 65536 := hx
        by_cases hlow : x < c
        · have HS2 := Lib.hid (HS.out (x + NumR.BB - (c)) 1 (by unfold NumR.BB at *; omega))
          have e3 : IntKind.u32.wrap ((x : Int) + 65536) = (x : Int) + 65536 := by rw [show (x : Int) + 65536 = ((x + 65536 : Nat) : Int) by omega]; exact w32 (by unfold NumR.BB at *; unfold BB; omega)
          have e4 : IntKind.u32.wrap ((x : Int) + 65536 - ((c : Int))) = ((x + NumR.BB - (c) : Nat) : Int) := by rw [show (x : Int) + 65536 - ((c : Int)) = ((x + NumR.BB - (c) : Nat) : Int) by unfold NumR.BB; omega]; exact w32 (by unfold NumR.BB at *; unfold BB; omega)
          have e5 : (x : Int) + 65536 - ((c : Int)) = ((x + NumR.BB - (c) : Nat) : Int) := by unfold NumR.BB; omega
          have hlz : (x : Int) < (c : Int) := by omega
          have hrB : x + NumR.BB - (c) < NumR.BB := by unfold NumR.BB at *; omega
          have hOm : O.length ≤ 2147483652 := by have := hOl.out; omega
          generalize x + NumR.BB - (c) = r at *
          have hr' : r < 65536 := hrB
          have e7 : (r : Int) % 4294967296 = (r : Int) := by omega
          clear HS
          go_wp2_with (at_builtin; refine app32 (X := [r]) rfl rfl hO rfl rfl ?_ ?_; (simp; omega); intro v' w1 hO1; clear hO)
          refine ⟨⟨i + 1, 1, O ++ [r], by omega, by go_num, rfl, by omega, hO1, NumR.limbs_snoc hOL hrB, Lib.hid (by simpa using hOl.out), HS2⟩, by simp [intOf] <;> omega⟩
        · have HS2 := Lib.hid (HS.out (x - (c)) 0 (by omega))
          have e4 : IntKind.u32.wrap ((x : Int) - ((c : Int))) = ((x - (c) : Nat) : Int) := by rw [show (x : Int) - ((c : Int)) = ((x - (c) : Nat) : Int) by omega]; exact w32 (by unfold NumR.BB at *; unfold BB; omega)
          have e5 : (x : Int) - ((c : Int)) = ((x - (c) : Nat) : Int) := by omega
          have hlz : ¬ (x : Int) < (c : Int) := by omega
          have hrB : x - (c) < NumR.BB := by unfold NumR.BB at *; omega
          have hOm : O.length ≤ 2147483652 := by have := hOl.out; omega
          generalize x - (c) = r at *
          have hr' : r < 65536 := hrB
          have e7 : (r : Int) % 4294967296 = (r : Int) := by omega
          clear HS
          go_wp2_with (at_builtin; refine app32 (X := [r]) rfl rfl hO rfl rfl ?_ ?_; (simp; omega); intro v' w1 hO1; clear hO)
          refine ⟨⟨i + 1, 0, O ++ [r], by omega, by go_num, rfl, by omega, hO1, NumR.limbs_snoc hOL hrB, Lib.hid (by simpa using hOl.out), HS2⟩, by simp [intOf] <;> omega⟩
    · obtain rfl : i = A.length := by omega
      have HV := Lib.hid (NumR.minus_end hA HLE.out.1 HLE.out.2 hV.out (by have := NumR.val_lt hOL; rwa [hOl.out] at this))
      go_wp2
      go_ret
      exact ⟨_, rfl, O, hO, hOL, hOl.out, HV.out⟩
end Go.Proofs.YtbmaffijncapiaaGreatDoor

/- The reference's numbers: Neg, Abs, Add, Sub. -/
namespace Go.Proofs.YtbmaffijncapiaaGreatDoor
open Num
open Go.ChangeShapes Go.WideShapes Go.ChangeAt Go.RowKit
set_option linter.unusedVariables false
set_option linter.unusedSimpArgs false


set_option maxRecDepth 100000 in
set_option maxHeartbeats 1000000 in
theorem rneg_c (vx : Value) (x : Int) (w : World) (hx : IsRef w vx x) :
    Calls Tryz.prog 132 #[vx] w fun e w' => (∃ v, e = .returned v ∧ IsRef w' v (-x)) ∧ Below w.heap.size w w' := by
  obtain ⟨n1, a1, c1, l1, rfl, u1, q1, g1, s1, rfl⟩ := hx
  rw [← sg_not]
  clear s1 g1
  have mc := fun w h => rnorm_c (!n1) a1 c1 l1 w h q1
  unfold iv
  have hB0 := Below.refl w.heap.size w
  go_enter Tryz.func132, Tryz.ntmps132
  go_wp2_with fail
  refine (mc _ (u1.keep (by repeat (first|exact bzR _ _|exact hB0|refine bzD ?_|refine bzN ?_|refine bzS ?_|refine bzA ?_)))).mono ?_
  rintro e w1 ⟨⟨v, rfl, hi⟩, hb1⟩
  have x0 : w1.cell? ⟨w.heap.size, 0, none⟩ = some (.bool n1) := bkc hb1
  have zx0 := cell_lt x0
  have x1 : w1.cell? ⟨w.heap.size, 1, none⟩ = some (.slice a1 l1.length c1) := bkc hb1
  have r0 : w1.cell? ⟨w.heap.size + 1, 0, none⟩ = some (.bool false) := bkc hb1
  have zr0 := cell_lt r0
  have r0f : w1.frozen? ⟨w.heap.size + 1, 0, none⟩ = false := bkcf (v := .bool false) hb1
  have r1 : w1.cell? ⟨w.heap.size + 1, 1, none⟩ = some (.slice none 0 0) := bkc hb1
  have r1f : w1.frozen? ⟨w.heap.size + 1, 1, none⟩ = false := bkcf (v := .slice none 0 0) hb1
  have hB : Below w.heap.size w w1 := bthen (by repeat (first|exact bzR _ _|exact hB|refine bzD ?_|refine bzN ?_|refine bzS ?_|refine bzA ?_)) hb1
  have hz : w.heap.size ≤ w1.heap.size := hB.size
  have HI2 := Lib.hid (hi.put2 r0 r1)
  obtain ⟨n4, a4, c4, l4, rfl, _, _, _, _⟩ := hi
  unfold iv at *
  go_wp2
  refine bodyPost_ret (v := .agg #[.bool n4, .slice a4 l4.length c4]) (by simp [results, Tryz.results132, go_sem, *]) rfl ⟨⟨_, rfl, HI2.out _ _⟩, ?_⟩
  repeat (first|exact bzR _ _|exact hB|refine bzD ?_|refine bzN ?_|refine bzS ?_|refine bzA ?_)
set_option maxRecDepth 100000 in
set_option maxHeartbeats 1000000 in
theorem rabs_c (vx : Value) (x : Int) (w : World) (hx : IsRef w vx x) :
    Calls Tryz.prog 201 #[vx] w fun e w' => (∃ v, e = .returned v ∧ IsRef w' v (x.natAbs : Int)) ∧ Below w.heap.size w w' := by
  obtain ⟨n1, a1, c1, l1, rfl, u1, q1, g1, s1, rfl⟩ := hx
  rw [sg_abs, show ((NumR.val l1 : Nat) : Int) = sg false (NumR.val l1) from rfl]
  clear s1 g1
  have mc := fun w h => rnorm_c (false) a1 c1 l1 w h q1
  unfold iv
  have hB0 := Below.refl w.heap.size w
  go_enter Tryz.func201, Tryz.ntmps201
  go_wp2_with fail
  refine (mc _ (u1.keep (by repeat (first|exact bzR _ _|exact hB0|refine bzD ?_|refine bzN ?_|refine bzS ?_|refine bzA ?_)))).mono ?_
  rintro e w1 ⟨⟨v, rfl, hi⟩, hb1⟩
  have x0 : w1.cell? ⟨w.heap.size, 0, none⟩ = some (.bool n1) := bkc hb1
  have zx0 := cell_lt x0
  have x1 : w1.cell? ⟨w.heap.size, 1, none⟩ = some (.slice a1 l1.length c1) := bkc hb1
  have r0 : w1.cell? ⟨w.heap.size + 1, 0, none⟩ = some (.bool false) := bkc hb1
  have zr0 := cell_lt r0
  have r0f : w1.frozen? ⟨w.heap.size + 1, 0, none⟩ = false := bkcf (v := .bool false) hb1
  have r1 : w1.cell? ⟨w.heap.size + 1, 1, none⟩ = some (.slice none 0 0) := bkc hb1
  have r1f : w1.frozen? ⟨w.heap.size + 1, 1, none⟩ = false := bkcf (v := .slice none 0 0) hb1
  have hB : Below w.heap.size w w1 := bthen (by repeat (first|exact bzR _ _|exact hB|refine bzD ?_|refine bzN ?_|refine bzS ?_|refine bzA ?_)) hb1
  have hz : w.heap.size ≤ w1.heap.size := hB.size
  have HI2 := Lib.hid (hi.put2 r0 r1)
  obtain ⟨n4, a4, c4, l4, rfl, _, _, _, _⟩ := hi
  unfold iv at *
  go_wp2
  refine bodyPost_ret (v := .agg #[.bool n4, .slice a4 l4.length c4]) (by simp [results, Tryz.results201, go_sem, *]) rfl ⟨⟨_, rfl, HI2.out _ _⟩, ?_⟩
  repeat (first|exact bzR _ _|exact hB|refine bzD ?_|refine bzN ?_|refine bzS ?_|refine bzA ?_)

def NewR (w' : World) (u : Value) (v : Nat) : Prop := ∃ a c L, u = .slice a (List.length L) c ∧ U32 w' a c L ∧ NumR.Limbs L ∧ NumR.val L = v
theorem rplusU (a b : Option Addr) (ca cb : Nat) (A B : List Nat) (w : World) (ha : U32 w a ca A) (hb : U32 w b cb B) (hA : NumR.Limbs A) (hB : NumR.Limbs B) (h1 : A.length ≤ 2147483650) (h2 : B.length ≤ 2147483650) :
    Calls Tryz.prog 272 #[.slice a A.length ca, .slice b B.length cb] w fun e w' => (∃ u, e = .returned u ∧ NewR w' u (NumR.val A + NumR.val B)) ∧ Below w.heap.size w w' :=
  (rplus_c a b ca cb A B w ha hb hA hB h1 h2).mono fun e w' ⟨v, he, O, hO, hL, hl, hv⟩ => by
    obtain ⟨a', c', e2, hu⟩ := hO.u32 (limbs_of_r hL)
    exact ⟨⟨v, he, a', c', O, e2, hu, hL, hv⟩, hO.2⟩
theorem rminusU (a b : Option Addr) (ca cb : Nat) (A B : List Nat) (w : World) (ha : U32 w a ca A) (hb : U32 w b cb B) (hA : NumR.Limbs A) (hB : NumR.Limbs B) (nb : Nrm B) (h1 : A.length ≤ 2147483650) (hle : NumR.val B ≤ NumR.val A) :
    Calls Tryz.prog 207 #[.slice a A.length ca, .slice b B.length cb] w fun e w' => (∃ u, e = .returned u ∧ NewR w' u (NumR.val A - NumR.val B)) ∧ Below w.heap.size w w' := by
  have h2 : B.length ≤ A.length := by
    apply Nat.le_of_not_lt; intro h
    have := NumR.val_lt_of_len hA nb h
    omega
  refine (rminus_c a b ca cb A B w ha hb hA hB h1 h2 hle).mono fun e w' ⟨v, he, O, hO, hL, hl, hv⟩ => ?_
  obtain ⟨a', c', e2, hu⟩ := hO.u32 (limbs_of_r hL)
  exact ⟨⟨v, he, a', c', O, e2, hu, hL, by omega⟩, hO.2⟩


set_option maxRecDepth 100000 in
set_option maxHeartbeats 4000000 in
theorem raddV_c (n1 n2 : Bool) (a1 a2 : Option Addr) (c1 c2 : Nat) (l1 l2 : List Nat) (w : World) (u1 : U32 w a1 c1 l1) (u2 : U32 w a2 c2 l2) (q1 : NumR.Limbs l1) (q2 : NumR.Limbs l2) (g1 : Nrm l1) (g2 : Nrm l2) (k1 : l1.length ≤ 2147483650) (k2 : l2.length ≤ 2147483650) :
    Calls Tryz.prog 257 #[.agg #[.bool n1, .slice a1 l1.length c1], .agg #[.bool n2, .slice a2 l2.length c2]] w fun e w' => (∃ v, e = .returned v ∧ IsRef w' v (sg n1 (NumR.val l1) + sg n2 (NumR.val l2))) ∧ Below w.heap.size w w' := by
  have hB := Below.refl w.heap.size w
  by_cases hn : n1 = n2
  · have he : ∀ w', (binOp .eql 4 (.bool n1) (.bool n2)).run Tryz.prog w' = .ok (.bool true) w' := fun w' => by subst hn; cases n1 <;> rfl
    have HS := Lib.hid (show sg n1 (NumR.val l1 + NumR.val l2) = sg n1 (NumR.val l1) + sg n2 (NumR.val l2) by subst hn; exact sg_add _ _ _)
    have pc := fun w h1 h2 => rplusU a1 a2 c1 c2 l1 l2 w h1 h2 q1 q2 k1 k2
    clear hn
    go_enter Tryz.func257, Tryz.ntmps257
    go_wp2
    refine wp_name fun w0 hW0 => ?_
    have x0 : w0.cell? ⟨w.heap.size, 0, none⟩ = some (.bool n1) := by rw [hW0]; exact (by first | assumption | exact cell_new (by with_reducible first | rfl | (simp; done) | (simp; omega)) rfl | (repeat (first | assumption | exact cell_new (by with_reducible first | rfl | (simp; done) | (simp; omega)) rfl | refine cell_alloc ?_ _ | refine cell_drew ?_ | refine cell_drewN ?_ _ | refine cell_far ?_ (by simp) _ | (refine cell_far ?_ (by simp <;> omega) _))) | simp [go_sem, *])
    have zx0 := cell_lt x0
    have x1 : w0.cell? ⟨w.heap.size, 1, none⟩ = some (.slice a1 l1.length c1) := by rw [hW0]; exact (by first | assumption | exact cell_new (by with_reducible first | rfl | (simp; done) | (simp; omega)) rfl | (repeat (first | assumption | exact cell_new (by with_reducible first | rfl | (simp; done) | (simp; omega)) rfl | refine cell_alloc ?_ _ | refine cell_drew ?_ | refine cell_drewN ?_ _ | refine cell_far ?_ (by simp) _ | (refine cell_far ?_ (by simp <;> omega) _))) | simp [go_sem, *])
    have y0 : w0.cell? ⟨w.heap.size + 1, 0, none⟩ = some (.bool n2) := by rw [hW0]; exact (by first | assumption | exact cell_new (by with_reducible first | rfl | (simp; done) | (simp; omega)) rfl | (repeat (first | assumption | exact cell_new (by with_reducible first | rfl | (simp; done) | (simp; omega)) rfl | refine cell_alloc ?_ _ | refine cell_drew ?_ | refine cell_drewN ?_ _ | refine cell_far ?_ (by simp) _ | (refine cell_far ?_ (by simp <;> omega) _))) | simp [go_sem, *])
    have zy0 := cell_lt y0
    have y1 : w0.cell? ⟨w.heap.size + 1, 1, none⟩ = some (.slice a2 l2.length c2) := by rw [hW0]; exact (by first | assumption | exact cell_new (by with_reducible first | rfl | (simp; done) | (simp; omega)) rfl | (repeat (first | assumption | exact cell_new (by with_reducible first | rfl | (simp; done) | (simp; omega)) rfl | refine cell_alloc ?_ _ | refine cell_drew ?_ | refine cell_drewN ?_ _ | refine cell_far ?_ (by simp) _ | (refine cell_far ?_ (by simp <;> omega) _))) | simp [go_sem, *])
    have r0f : w0.frozen? ⟨w.heap.size + 2, 0, none⟩ = false := by rw [hW0]; simp [go_sem, *]
    have r0 : w0.cell? ⟨w.heap.size + 2, 0, none⟩ = some (.bool false) := by rw [hW0]; exact (by first | assumption | exact cell_new (by with_reducible first | rfl | (simp; done) | (simp; omega)) rfl | (repeat (first | assumption | exact cell_new (by with_reducible first | rfl | (simp; done) | (simp; omega)) rfl | refine cell_alloc ?_ _ | refine cell_drew ?_ | refine cell_drewN ?_ _ | refine cell_far ?_ (by simp) _ | (refine cell_far ?_ (by simp <;> omega) _))) | simp [go_sem, *])
    have zr0 := cell_lt r0
    have r1f : w0.frozen? ⟨w.heap.size + 2, 1, none⟩ = false := by rw [hW0]; simp [go_sem, *]
    have r1 : w0.cell? ⟨w.heap.size + 2, 1, none⟩ = some (.slice none 0 0) := by rw [hW0]; exact (by first | assumption | exact cell_new (by with_reducible first | rfl | (simp; done) | (simp; omega)) rfl | (repeat (first | assumption | exact cell_new (by with_reducible first | rfl | (simp; done) | (simp; omega)) rfl | refine cell_alloc ?_ _ | refine cell_drew ?_ | refine cell_drewN ?_ _ | refine cell_far ?_ (by simp) _ | (refine cell_far ?_ (by simp <;> omega) _))) | simp [go_sem, *])
    have hB : Below w.heap.size w w0 := by rw [hW0]; repeat (first|exact bzR _ _|exact hB|refine bzD ?_|refine bzN ?_|refine bzS ?_|refine bzA ?_)
    have hz : w.heap.size ≤ w0.heap.size := hB.size
    clear hW0
    have hBc : Below w0.heap.size w0 w0.drew := (Below.refl _ _).drew
    have HB0 := Lib.hid hB
    go_region_held3 (fun w' => w'.cell? ⟨w.heap.size, 0, none⟩ = some (.bool n1) ∧ w'.cell? ⟨w.heap.size, 1, none⟩ = some (.slice a1 l1.length c1) ∧ w'.cell? ⟨w.heap.size + 1, 0, none⟩ = some (.bool n2) ∧ w'.cell? ⟨w.heap.size + 1, 1, none⟩ = some (.slice a2 l2.length c2))
      (first | exact ⟨x0, x1, y0, y1⟩ | exact ⟨bkeep hBc x0, bkeep hBc x1, bkeep hBc y0, bkeep hBc y1⟩ | exact ⟨cell_far (cell_far (bkeep hBc x0) (addr_ne (by omega)) _) (addr_ne (by omega)) _, cell_far (cell_far (bkeep hBc x1) (addr_ne (by omega)) _) (addr_ne (by omega)) _, cell_far (cell_far (bkeep hBc y0) (addr_ne (by omega)) _) (addr_ne (by omega)) _, cell_far (cell_far (bkeep hBc y1) (addr_ne (by omega)) _) (addr_ne (by omega)) _⟩)
      (first
        | (go_at_call 272; refine (pc _ (u1.keep (bthen HB0.out hBc)) (u2.keep (bthen HB0.out hBc))).mono ?_; rintro e w3 ⟨⟨u3, rfl, a3, k3, L, rfl, hu, hr, hv⟩, hb3⟩; (replace hBc := bthen hBc hb3))
        | (go_at_call 117; refine (rnorm_c n1 _ _ _ _ hu hr).mono ?_; rintro e w4 ⟨⟨v, rfl, hi⟩, hb4⟩; (replace hBc := bthen hBc hb4); (replace r0f := bkeepf hBc r0 r0f); (replace r1f := bkeepf hBc r1 r1f); (replace r0 := bkeep hBc r0); (replace r1 := bkeep hBc r1); (rw [hv, HS.out] at hi); (have HI2 := Lib.hid (hi.put2 r0 r1)); (obtain ⟨n4, a4, c4, l4, rfl, _, _, _, _⟩ := hi); unfold iv at *))
    have hB9 := bthen HB0.out hBc
    clear x0 x1 y0 y1
    go_wp2
    refine bodyPost_ret (v := .agg #[.bool n4, .slice a4 l4.length c4]) (by simp [results, Tryz.results257, go_sem, *]) rfl ⟨⟨_, rfl, HI2.out _ _⟩, ?_⟩
    repeat (first|exact bzR _ _|exact hB9|refine bzD ?_|refine bzN ?_|refine bzS ?_|refine bzA ?_)
  · have he : ∀ w', (binOp .eql 4 (.bool n1) (.bool n2)).run Tryz.prog w' = .ok (.bool false) w' := fun w' => by cases n1 <;> cases n2 <;> first | exact absurd rfl hn | rfl
    have hnn : n2 = !n1 := by cases n1 <;> cases n2 <;> first | exact absurd rfl hn | rfl
    have zc := fun w h1 h2 => rsize_c a1 a2 c1 c2 l1 l2 w h1 h2 q1 q2 g1 g2
    by_cases hlt : NumR.val l1 < NumR.val l2
    · have hz : ¬ (0 : Int) ≤ cmpN (NumR.val l1) (NumR.val l2) := by have := (cmpN_neg (x := NumR.val l1) (y := NumR.val l2)); rw [decide_eq_true hlt] at this; have := of_decide_eq_true this; omega
      have HS := Lib.hid (show sg n2 (NumR.val l2 - NumR.val l1) = sg n1 (NumR.val l1) + sg n2 (NumR.val l2) by rw [hnn]; exact sg_sub_lt _ _ _ (Nat.le_of_lt hlt))
      have pc := fun w h1 h2 => rminusU a2 a1 c2 c1 l2 l1 w h1 h2 q2 q1 g1 k2 (Nat.le_of_lt hlt)
      generalize cmpN (NumR.val l1) (NumR.val l2) = z at *
      clear hn hnn hlt
      go_enter Tryz.func257, Tryz.ntmps257
      go_wp2_with fail
      refine (zc _ (u1.keep (by repeat (first|exact bzR _ _|exact hB|refine bzD ?_|refine bzN ?_|refine bzS ?_|refine bzA ?_))) (u2.keep (by repeat (first|exact bzR _ _|exact hB|refine bzD ?_|refine bzN ?_|refine bzS ?_|refine bzA ?_)))).mono ?_
      rintro e w1 ⟨rfl, hb1⟩
      have x0 : w1.cell? ⟨w.heap.size, 0, none⟩ = some (.bool n1) := bkc hb1
      have zx0 := cell_lt x0
      have x1 : w1.cell? ⟨w.heap.size, 1, none⟩ = some (.slice a1 l1.length c1) := bkc hb1
      have y0 : w1.cell? ⟨w.heap.size + 1, 0, none⟩ = some (.bool n2) := bkc hb1
      have zy0 := cell_lt y0
      have y1 : w1.cell? ⟨w.heap.size + 1, 1, none⟩ = some (.slice a2 l2.length c2) := bkc hb1
      have r0 : w1.cell? ⟨w.heap.size + 2, 0, none⟩ = some (.bool false) := bkc hb1
      have zr0 := cell_lt r0
      have r0f : w1.frozen? ⟨w.heap.size + 2, 0, none⟩ = false := bkcf (v := .bool false) hb1
      have r1 : w1.cell? ⟨w.heap.size + 2, 1, none⟩ = some (.slice none 0 0) := bkc hb1
      have r1f : w1.frozen? ⟨w.heap.size + 2, 1, none⟩ = false := bkcf (v := .slice none 0 0) hb1
      have hB : Below w.heap.size w w1 := bthen (by repeat (first|exact bzR _ _|exact hB|refine bzD ?_|refine bzN ?_|refine bzS ?_|refine bzA ?_)) hb1
      have hz : w.heap.size ≤ w1.heap.size := hB.size
      clear zc
      go_wp2
      have hBc : Below w1.heap.size w1 w1.drew := (Below.refl _ _).drew
      have HB0 := Lib.hid hB
      go_region_held3 (fun w' => w'.cell? ⟨w.heap.size, 0, none⟩ = some (.bool n1) ∧ w'.cell? ⟨w.heap.size, 1, none⟩ = some (.slice a1 l1.length c1) ∧ w'.cell? ⟨w.heap.size + 1, 0, none⟩ = some (.bool n2) ∧ w'.cell? ⟨w.heap.size + 1, 1, none⟩ = some (.slice a2 l2.length c2))
        (first | exact ⟨x0, x1, y0, y1⟩ | exact ⟨bkeep hBc x0, bkeep hBc x1, bkeep hBc y0, bkeep hBc y1⟩ | exact ⟨cell_far (cell_far (bkeep hBc x0) (addr_ne (by omega)) _) (addr_ne (by omega)) _, cell_far (cell_far (bkeep hBc x1) (addr_ne (by omega)) _) (addr_ne (by omega)) _, cell_far (cell_far (bkeep hBc y0) (addr_ne (by omega)) _) (addr_ne (by omega)) _, cell_far (cell_far (bkeep hBc y1) (addr_ne (by omega)) _) (addr_ne (by omega)) _⟩)
        (first
          | (go_at_call 207; refine (pc _ (u2.keep (bthen HB0.out hBc)) (u1.keep (bthen HB0.out hBc))).mono ?_; rintro e w3 ⟨⟨u3, rfl, a3, k3, L, rfl, hu, hr, hv⟩, hb3⟩; (replace hBc := bthen hBc hb3))
          | (go_at_call 117; refine (rnorm_c n2 _ _ _ _ hu hr).mono ?_; rintro e w4 ⟨⟨v, rfl, hi⟩, hb4⟩; (replace hBc := bthen hBc hb4); (replace r0f := bkeepf hBc r0 r0f); (replace r1f := bkeepf hBc r1 r1f); (replace r0 := bkeep hBc r0); (replace r1 := bkeep hBc r1); (rw [hv, HS.out] at hi); (have HI2 := Lib.hid (hi.put2 r0 r1)); (obtain ⟨n4, a4, c4, l4, rfl, _, _, _, _⟩ := hi); unfold iv at *))
      have hB9 := bthen HB0.out hBc
      clear x0 x1 y0 y1
      go_wp2
      refine bodyPost_ret (v := .agg #[.bool n4, .slice a4 l4.length c4]) (by simp [results, Tryz.results257, go_sem, *]) rfl ⟨⟨_, rfl, HI2.out _ _⟩, ?_⟩
      repeat (first|exact bzR _ _|exact hB9|refine bzD ?_|refine bzN ?_|refine bzS ?_|refine bzA ?_)
    · have hz : (0 : Int) ≤ cmpN (NumR.val l1) (NumR.val l2) := by have := (cmpN_neg (x := NumR.val l1) (y := NumR.val l2)); rw [decide_eq_false hlt] at this; have := of_decide_eq_false this; omega
      have HS := Lib.hid (show sg n1 (NumR.val l1 - NumR.val l2) = sg n1 (NumR.val l1) + sg n2 (NumR.val l2) by rw [hnn]; exact sg_sub_ge _ _ _ (by omega))
      have pc := fun w h1 h2 => rminusU a1 a2 c1 c2 l1 l2 w h1 h2 q1 q2 g2 k1 (by omega)
      generalize cmpN (NumR.val l1) (NumR.val l2) = z at *
      clear hn hnn hlt
      go_enter Tryz.func257, Tryz.ntmps257
      go_wp2_with fail
      refine (zc _ (u1.keep (by repeat (first|exact bzR _ _|exact hB|refine bzD ?_|refine bzN ?_|refine bzS ?_|refine bzA ?_))) (u2.keep (by repeat (first|exact bzR _ _|exact hB|refine bzD ?_|refine bzN ?_|refine bzS ?_|refine bzA ?_)))).mono ?_
      rintro e w1 ⟨rfl, hb1⟩
      have x0 : w1.cell? ⟨w.heap.size, 0, none⟩ = some (.bool n1) := bkc hb1
      have zx0 := cell_lt x0
      have x1 : w1.cell? ⟨w.heap.size, 1, none⟩ = some (.slice a1 l1.length c1) := bkc hb1
      have y0 : w1.cell? ⟨w.heap.size + 1, 0, none⟩ = some (.bool n2) := bkc hb1
      have zy0 := cell_lt y0
      have y1 : w1.cell? ⟨w.heap.size + 1, 1, none⟩ = some (.slice a2 l2.length c2) := bkc hb1
      have r0 : w1.cell? ⟨w.heap.size + 2, 0, none⟩ = some (.bool false) := bkc hb1
      have zr0 := cell_lt r0
      have r0f : w1.frozen? ⟨w.heap.size + 2, 0, none⟩ = false := bkcf (v := .bool false) hb1
      have r1 : w1.cell? ⟨w.heap.size + 2, 1, none⟩ = some (.slice none 0 0) := bkc hb1
      have r1f : w1.frozen? ⟨w.heap.size + 2, 1, none⟩ = false := bkcf (v := .slice none 0 0) hb1
      have hB : Below w.heap.size w w1 := bthen (by repeat (first|exact bzR _ _|exact hB|refine bzD ?_|refine bzN ?_|refine bzS ?_|refine bzA ?_)) hb1
      have hz : w.heap.size ≤ w1.heap.size := hB.size
      clear zc
      go_wp2
      have hBc : Below w1.heap.size w1 w1.drew := (Below.refl _ _).drew
      have HB0 := Lib.hid hB
      go_region_held3 (fun w' => w'.cell? ⟨w.heap.size, 0, none⟩ = some (.bool n1) ∧ w'.cell? ⟨w.heap.size, 1, none⟩ = some (.slice a1 l1.length c1) ∧ w'.cell? ⟨w.heap.size + 1, 0, none⟩ = some (.bool n2) ∧ w'.cell? ⟨w.heap.size + 1, 1, none⟩ = some (.slice a2 l2.length c2))
        (first | exact ⟨x0, x1, y0, y1⟩ | exact ⟨bkeep hBc x0, bkeep hBc x1, bkeep hBc y0, bkeep hBc y1⟩ | exact ⟨cell_far (cell_far (bkeep hBc x0) (addr_ne (by omega)) _) (addr_ne (by omega)) _, cell_far (cell_far (bkeep hBc x1) (addr_ne (by omega)) _) (addr_ne (by omega)) _, cell_far (cell_far (bkeep hBc y0) (addr_ne (by omega)) _) (addr_ne (by omega)) _, cell_far (cell_far (bkeep hBc y1) (addr_ne (by omega)) _) (addr_ne (by omega)) _⟩)
        (first
          | (go_at_call 207; refine (pc _ (u1.keep (bthen HB0.out hBc)) (u2.keep (bthen HB0.out hBc))).mono ?_; rintro e w3 ⟨⟨u3, rfl, a3, k3, L, rfl, hu, hr, hv⟩, hb3⟩; (replace hBc := bthen hBc hb3))
          | (go_at_call 117; refine (rnorm_c n1 _ _ _ _ hu hr).mono ?_; rintro e w4 ⟨⟨v, rfl, hi⟩, hb4⟩; (replace hBc := bthen hBc hb4); (replace r0f := bkeepf hBc r0 r0f); (replace r1f := bkeepf hBc r1 r1f); (replace r0 := bkeep hBc r0); (replace r1 := bkeep hBc r1); (rw [hv, HS.out] at hi); (have HI2 := Lib.hid (hi.put2 r0 r1)); (obtain ⟨n4, a4, c4, l4, rfl, _, _, _, _⟩ := hi); unfold iv at *))
      have hB9 := bthen HB0.out hBc
      clear x0 x1 y0 y1
      go_wp2
      refine bodyPost_ret (v := .agg #[.bool n4, .slice a4 l4.length c4]) (by simp [results, Tryz.results257, go_sem, *]) rfl ⟨⟨_, rfl, HI2.out _ _⟩, ?_⟩
      repeat (first|exact bzR _ _|exact hB9|refine bzD ?_|refine bzN ?_|refine bzS ?_|refine bzA ?_)
theorem radd_c (vx vy : Value) (x y : Int) (k : Nat) (w : World) (hx : IsRef w vx x) (hy : IsRef w vy y) (bx : Bd k x) (by' : Bd k y) (hk : k ≤ 17179869184) :
    Calls Tryz.prog 257 #[vx, vy] w fun e w' => (∃ v, e = .returned v ∧ IsRef w' v (x + y)) ∧ Below w.heap.size w w' := by
  obtain ⟨n1, a1, c1, l1, rfl, u1, q1, g1, s1, rfl⟩ := hx
  obtain ⟨n2, a2, c2, l2, rfl, u2, q2, g2, s2, rfl⟩ := hy
  exact raddV_c n1 n2 a1 a2 c1 c2 l1 l2 w u1 u2 q1 q2 g1 g2 (Nat.le_trans (rbd_len g1 (rsg_bd bx) hk) (by omega)) (Nat.le_trans (rbd_len g2 (rsg_bd by') hk) (by omega))
end Go.Proofs.YtbmaffijncapiaaGreatDoor

/- The reference's numbers: bits, bit. -/
namespace Go.Proofs.YtbmaffijncapiaaGreatDoor
open Num
open Go.ChangeShapes Go.WideShapes Go.ChangeAt Go.RowKit
set_option linter.unusedVariables false
set_option linter.unusedSimpArgs false

set_option maxRecDepth 100000 in
set_option maxHeartbeats 1000000 in
theorem rbits_c (a : Option Addr) (ca : Nat) (l : List Nat) (w : World) (ha : U32 w a ca l) (hl : NumR.Limbs l) (hn : Nrm l) (h1 : l.length ≤ 2147483650) :
    Calls Tryz.prog 204 #[.slice a l.length ca] w fun e w' => e = .returned (.int .i64 (bitN (NumR.val l))) ∧ w = w' := by
  cases hk : l.length with
  | zero =>
    obtain rfl : l = [] := List.length_eq_zero_iff.1 hk
    go_enter Tryz.func204, Tryz.ntmps204
    go_wp2
    go_ret
    exact ⟨rfl, rfl⟩
  | succ k =>
    rcases ha.2.2.2 with h0 | ⟨ba, oa, rfl, hca⟩
    · subst h0; simp at hk
    have c0 := hca k (by omega)
    have hv := NumR.bitN_nrm hl hn hk
    have hx := NumR.limb_get hl k
    have HV := Lib.hid hv
    clear hv
    generalize l.getD k 0 = x at *
    have hkz : (((k + 1 : Nat) : Int) == 0) = false := by rw [beq_eq_false_iff_ne]; omega
    have hx' : x < 65536 := hx
    have hbx : bitN x ≤ 16 := NumR.bitN_le (n := 16) hx
    go_enter Tryz.func204, Tryz.ntmps204
    go_wp2
    go_loop [3, 4] (fun n t => ∃ j y : Nat, n = .int .i64 (16 * (k : Int) + (j : Int)) ∧ t = .int .u32 y ∧ y ≤ x ∧ Hid (j + bitN y = bitN x)) (fun _ t => (intOf t).toNat)
    case atStart => exact ⟨0, x, by simp, rfl, Nat.le_refl _, Lib.hid (by omega)⟩
    case round =>
      obtain ⟨j, y, rfl, rfl, hy, hj⟩ := hrel
      have hj16 : j ≤ 16 := by have := hj.out; omega
      by_cases hy0 : 0 < y
      · have HH := Lib.hid (show j + 1 + bitN (y / 2) = bitN x by have := bitN_half (Nat.ne_of_gt hy0); have := hj.out; omega)
        obtain ⟨z, hz⟩ : ∃ z, z = y / 2 := ⟨_, rfl⟩
        rw [← hz] at HH
        have e1 : (y : Int) / 2 = (z : Int) := by omega
        have e2 : (y : Int).tdiv 2 = (z : Int) := by rw [Int.tdiv_eq_ediv_of_nonneg (by omega)]; exact e1
        have hzy : z < y := by omega
        clear hz
        go_wp2
        exact ⟨⟨j + 1, z, by first | rfl | (congr 1; omega) | (congr 1), rfl, by omega, HH⟩, by simp [intOf] <;> omega⟩
      · obtain rfl : y = 0 := by omega
        have HE := Lib.hid (show 16 * (k : Int) + (j : Int) = (bitN (NumR.val l) : Int) by have := hj.out; have := HV.out; rw [show bitN 0 = 0 from rfl] at *; omega)
        go_wp2
        go_ret
        exact ⟨ret_int HE.out, rfl⟩

set_option maxRecDepth 100000 in
set_option maxHeartbeats 1000000 in
theorem rbit_c (a : Option Addr) (ca : Nat) (l : List Nat) (k : Nat) (w : World) (ha : U32 w a ca l) (hl : NumR.Limbs l) (hk : k / 16 < l.length) (h1 : l.length ≤ 2147483650) :
    Calls Tryz.prog 205 #[.slice a l.length ca, .int .i64 (k : Int)] w fun e w' => e = .returned (.int .u32 ((NumR.val l / 2 ^ k % 2 : Nat) : Int)) ∧ w = w' := by
  rcases ha.2.2.2 with h0 | ⟨ba, oa, rfl, hca⟩
  · subst h0; simp at hk
  have c0 := hca (k / 16) hk
  have hx := NumR.limb_get hl (k / 16)
  have HV := Lib.hid (NumR.bit_val hl k)
  have hkb : k ≤ 34359738416 := by omega
  generalize l.getD (k / 16) 0 = x at *
  obtain ⟨q, hq⟩ : ∃ q, q = k / 16 := ⟨_, rfl⟩
  obtain ⟨m, hm⟩ : ∃ m, m = k % 16 := ⟨_, rfl⟩
  rw [← hq] at c0 hk
  rw [← hm] at HV
  have e1 : (k : Int) / 16 = (q : Int) := by omega
  have e1' : (k : Int).tdiv 16 = (q : Int) := by rw [Int.tdiv_eq_ediv_of_nonneg (by omega)]; exact e1
  have e2 : (k : Int) % 16 = (m : Int) := by omega
  have e2' : (k : Int).tmod 16 = (m : Int) := by rw [Int.tmod_eq_emod_of_nonneg (by omega)]; exact e2
  have hm16 : m < 16 := by omega
  have hqz : (q : Int) < (l.length : Int) := by omega
  have hx' : x < 65536 := hx
  obtain ⟨y, hy⟩ : ∃ y, y = x / 2 ^ m := ⟨_, rfl⟩
  rw [← hy] at HV
  have hyx : y ≤ x := by rw [hy]; exact Nat.div_le_self _ _
  have e3 : (x : Int) / 2 ^ m = (y : Int) := by rw [hy, Int.natCast_ediv, Int.natCast_pow]; rfl
  have e4 : bits .and .u32 (y : Int) 1 = ((y % 2 : Nat) : Int) := by
    have := bits_and_u32_nat y 1 (by omega) (by omega)
    rw [Nat.and_one_is_mod] at this
    exact this
  obtain ⟨r, hr⟩ : ∃ r, r = y % 2 := ⟨_, rfl⟩
  rw [← hr] at e4 HV
  clear hq hm hy hr ha hca
  go_enter Tryz.func205, Tryz.ntmps205
  go_wp2
  go_ret
  exact ⟨by rw [← HV.out]; rfl, rfl⟩
end Go.Proofs.YtbmaffijncapiaaGreatDoor

/- vm: New. -/
namespace Go.Proofs.YtbmaffijncapiaaGreatDoor
open Num
open Go.ChangeShapes Go.WideShapes Go.ChangeAt Go.RowKit
set_option linter.unusedVariables false
set_option linter.unusedSimpArgs false
attribute [local go_sem ↓] Go.wp_at_zero Go.wp_at_succ
end Go.Proofs.YtbmaffijncapiaaGreatDoor

/- vm: Next, Done, Outs. -/
namespace Go.Proofs.YtbmaffijncapiaaGreatDoor
open Num
open Go.ChangeShapes Go.WideShapes Go.ChangeAt Go.RowKit
set_option linter.unusedVariables false
set_option linter.unusedSimpArgs false
attribute [local go_sem ↓] Go.wp_at_zero Go.wp_at_succ
section
variable {base b rb rc : Nat} {ins regs : Int} {code : List Ins} {outs : List Int} {g : Grid} {n : Nat}
end
end Go.Proofs.YtbmaffijncapiaaGreatDoor

/- vm: Run. -/
namespace Go.Proofs.YtbmaffijncapiaaGreatDoor
open Num
open Go.ChangeShapes Go.WideShapes Go.ChangeAt Go.RowKit
set_option linter.unusedVariables false
set_option linter.unusedSimpArgs false
end Go.Proofs.YtbmaffijncapiaaGreatDoor

