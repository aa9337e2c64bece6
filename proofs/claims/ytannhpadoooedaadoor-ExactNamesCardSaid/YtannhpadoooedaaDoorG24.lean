/- Texts of this seat, laid together: RefG, RefH. Each opens with its own remark, which says what it proves, and under which conditions. -/
import Derived.Test.YtannhpadoooedaaDoorG09
import Derived.Test.YtannhpadoooedaaDoorG23
import Derived.Test.YtannhpadoooedaaDoorG10
import Derived.Test.YtannhpadoooedaaDoorG18
/- The reference's numbers: plus, minus. -/
namespace Go.Proofs.YtannhpadoooedaaDoor
open Num
open Go.ChangeShapes Go.WideShapes Go.ChangeAt Go.RowKit
set_option linter.unusedVariables false
set_option linter.unusedSimpArgs false

set_option maxRecDepth 100000 in
set_option maxHeartbeats 4000000 in
theorem rminus_c (a b : Option Addr) (ca cb : Nat) (A B : List Nat) (w : World) (ha : U32 w a ca A) (hb : U32 w b cb B) (hA : NumR.Limbs A) (hB : NumR.Limbs B) (h1 : A.length ≤ 2147483650) (h2 : B.length ≤ A.length) (hle : NumR.val B ≤ NumR.val A) :
    Calls Tryd.prog 114 #[.slice a A.length ca, .slice b B.length cb] w fun e w' => (∃ v, e = .returned v ∧ ∃ O, Own32 w w' v O ∧ NumR.Limbs O ∧ O.length = A.length ∧ NumR.val O + NumR.val B = NumR.val A) := by
  have HLE := Lib.hid (And.intro hle h2)
  clear hle
  go_enter Tryd.func114, Tryd.ntmps114
  go_wp2
  go_loopw [5, 6, 7] (fun d cx x wr => ∃ (i c : Nat) (O : List Nat), i ≤ A.length ∧ x = .int .i64 i ∧ cx = .int .u32 c ∧ c ≤ 1 ∧ Own32 w wr d O ∧ NumR.Limbs O ∧ Hid (O.length = i) ∧ Hid (NumR.val O + NumR.val (B.take i) = NumR.val (A.take i) + c * NumR.BB ^ i)) (fun _ _ x _ => A.length - (intOf x).toNat)
  case atStart => exact ⟨0, 0, [], by omega, rfl, rfl, by omega, Own32.nil (Below.refl _ _), (fun _ h => by cases h), Lib.hid rfl, Lib.hid (by simp [NumR.val])⟩
  case round =>
    obtain ⟨i, c, O, hi, rfl, rfl, hc1, hO, hOL, hOl, hV⟩ := hrel
    have HS := Lib.hid (fun r c' hr => NumR.minus_step (O := O) (A := A) (B := B) (i := i) (c := c) (r := r) (c' := c') hOl.out hr hV.out)
    by_cases hia : i < A.length
    · have hiaz : (i : Int) < (A.length : Int) := by omega
      rcases ha.2.2.2 with hn | ⟨ba, oa, rfl, hca⟩
      · subst hn; simp at hia
      have c0 := bkeep hO.2 (hca i hia)
      have hx := NumR.limb_get hA i
      by_cases hib : i < B.length
      · have hibz : (i : Int) < (B.length : Int) := by omega
        rcases hb.2.2.2 with hn | ⟨bb, ob, rfl, hcb⟩
        · subst hn; simp at hib
        have d0 := bkeep hO.2 (hcb i hib)
        have hy := NumR.limb_get hB i
        generalize A.getD i 0 = x at *
        generalize B.getD i 0 = y at *
        have e1 : IntKind.u32.wrap ((c : Int) + (y : Int)) = (c : Int) + (y : Int) := by rw [← Int.natCast_add]; exact w32 (by unfold NumR.BB at *; unfold BB; omega)
        have hy' : y < 65536 := hy
        have hx' : x < 65536 := hx
        by_cases hlow : x < c + y
        · have HS2 := Lib.hid (HS.out (x + NumR.BB - (c + y)) 1 (by unfold NumR.BB at *; omega))
          have e3 : IntKind.u32.wrap ((x : Int) + 65536) = (x : Int) + 65536 := by rw [show (x : Int) + 65536 = ((x + 65536 : Nat) : Int) by omega]; exact w32 (by unfold NumR.BB at *; unfold BB; omega)
          have e4 : IntKind.u32.wrap ((x : Int) + 65536 - ((c : Int) + (y : Int))) = ((x + NumR.BB - (c + y) : Nat) : Int) := by rw [show (x : Int) + 65536 - ((c : Int) + (y : Int)) = ((x + NumR.BB - (c + y) : Nat) : Int) by unfold NumR.BB; omega]; exact w32 (by unfold NumR.BB at *; unfold BB; omega)
          have e5 : (x : Int) + 65536 - ((c : Int) + (y : Int)) = ((x + NumR.BB - (c + y) : Nat) : Int) := by unfold NumR.BB; omega
          have hlz : (x : Int) < (c : Int) + (y : Int) := by omega
          have hrB : x + NumR.BB - (c + y) < NumR.BB := by unfold NumR.BB at *; omega
          have hOm : O.length ≤ 2147483652 := by have := hOl.out; omega
          generalize x + NumR.BB - (c + y) = r at *
          have hr' : r < 65536 := hrB
          have e7 : (r : Int) % 4294967296 = (r : Int) := by omega
          clear HS
          go_wp2_with (at_builtin; refine app32 (X := [r]) rfl rfl hO rfl rfl ?_ ?_; (simp; omega); intro v' w1 hO1; clear hO)
          refine ⟨⟨i + 1, 1, O ++ [r], by omega, by go_num, rfl, by omega, hO1, NumR.limbs_snoc hOL hrB, Lib.hid (by simpa using hOl.out), HS2⟩, by simp [intOf] <;> omega⟩
        · have HS2 := Lib.hid (HS.out (x - (c + y)) 0 (by omega))
          have e4 : IntKind.u32.wrap ((x : Int) - ((c : Int) + (y : Int))) = ((x - (c + y) : Nat) : Int) := by rw [show (x : Int) - ((c : Int) + (y : Int)) = ((x - (c + y) : Nat) : Int) by omega]; exact w32 (by unfold NumR.BB at *; unfold BB; omega)
          have e5 : (x : Int) - ((c : Int) + (y : Int)) = ((x - (c + y) : Nat) : Int) := by omega
          have hlz : ¬ (x : Int) < (c : Int) + (y : Int) := by omega
          have hrB : x - (c + y) < NumR.BB := by unfold NumR.BB at *; omega
          have hOm : O.length ≤ 2147483652 := by have := hOl.out; omega
          generalize x - (c + y) = r at *
          have hr' : r < 65536 := hrB
          have e7 : (r : Int) % 4294967296 = (r : Int) := by omega
          clear HS
          go_wp2_with (at_builtin; refine app32 (X := [r]) rfl rfl hO rfl rfl ?_ ?_; (simp; omega); intro v' w1 hO1; clear hO)
          refine ⟨⟨i + 1, 0, O ++ [r], by omega, by go_num, rfl, by omega, hO1, NumR.limbs_snoc hOL hrB, Lib.hid (by simpa using hOl.out), HS2⟩, by simp [intOf] <;> omega⟩
      · have hibd : decide (i < B.length) = false := by simpa using hib
        have hy0 : B.getD i 0 = 0 := by simp [show B.length ≤ i by omega]
        rw [hy0, Nat.add_zero] at HS
        generalize A.getD i 0 = x at *
        have hx' : x < 65536 := hx
        by_cases hlow : x < c
        · have HS2 := Lib.hid (HS.out (x + NumR.BB - (c)) 1 (by unfold NumR.BB at *; omega))
          have e3 : IntKind.u32.wrap ((x : Int) + 65536) = (x : Int) + 65536 := by rw [show (x : Int) + 65536 = ((x + 65536 : Nat) : Int) by omega]; exact w32 (by unfold NumR.BB at *; unfold BB; omega)
          have e4 : IntKind.u32.wrap ((x : Int) + 65536 - ((c : Int))) = ((x + NumR.BB - (c) : Nat) : Int) := by rw [show (x : Int) + 65536 - ((c : Int)) = ((x + NumR.BB - (c) : Nat) : Int) by unfold NumR.BB; omega]; exact w32 (by unfold NumR.BB at *; unfold BB; omega)
          have e5 : (x : Int) + 65536 - ((c : Int)) = ((x + NumR.BB - (c) : Nat) : Int) := by unfold NumR.BB; omega
          have hlz : (x : Int) < (c : Int) := by omega
          have hrB : x + NumR.BB - (c) < NumR.BB := by unfold NumR.BB at *; omega
          have hOm : O.length ≤ 2147483652 := by have := hOl.out; omega
          generalize x + NumR.BB - (c) = r at *
          have hr' : r < 65536 := hrB
          have e7 : (r : Int) % 4294967296 = (r : Int) := by omega
          clear HS
          go_wp2_with (at_builtin; refine app32 (X := [r]) rfl rfl hO rfl rfl ?_ ?_; (simp; omega); intro v' w1 hO1; clear hO)
          refine ⟨⟨i + 1, 1, O ++ [r], by omega, by go_num, rfl, by omega, hO1, NumR.limbs_snoc hOL hrB, Lib.hid (by simpa using hOl.out), HS2⟩, by simp [intOf] <;> omega⟩
        · have HS2 := Lib.hid (HS.out (x - (c)) 0 (by omega))
          have e4 : IntKind.u32.wrap ((x : Int) - ((c : Int))) = ((x - (c) : Nat) : Int) := by rw [show (x : Int) - ((c : Int)) = ((x - (c) : Nat) : Int) by omega]; exact w32 (by unfold NumR.BB at *; unfold BB; omega)
          have e5 : (x : Int) - ((c : Int)) = ((x - (c) : Nat) : Int) := by omega
          have hlz : ¬ (x : Int) < (c : Int) := by omega
          have hrB : x - (c) < NumR.BB := by unfold NumR.BB at *; omega
          have hOm : O.length ≤ 2147483652 := by have := hOl.out; omega
          generalize x - (c) = r at *
          have hr' : r < 65536 := hrB
          have e7 : (r : Int) % 4294967296 = (r : Int) := by omega
          clear HS
          go_wp2_with (at_builtin; refine app32 (X := [r]) rfl rfl hO rfl rfl ?_ ?_; (simp; omega); intro v' w1 hO1; clear hO)
          refine ⟨⟨i + 1, 0, O ++ [r], by omega, by go_num, rfl, by omega, hO1, NumR.limbs_snoc hOL hrB, Lib.hid (by simpa using hOl.out), HS2⟩, by simp [intOf] <;> omega⟩
    · obtain rfl : i = A.length := by omega
      have HV := Lib.hid (NumR.minus_end hA HLE.out.1 HLE.out.2 hV.out (by have := NumR.val_lt hOL; rwa [hOl.out] at this))
      go_wp2
      go_ret
      exact ⟨_, rfl, O, hO, hOL, hOl.out, HV.out⟩
end Go.Proofs.YtannhpadoooedaaDoor
/- The reference's numbers: Neg, Abs, Add, Sub. -/
namespace Go.Proofs.YtannhpadoooedaaDoor
open Num
open Go.ChangeShapes Go.WideShapes Go.ChangeAt Go.RowKit
set_option linter.unusedVariables false
set_option linter.unusedSimpArgs false


/-- plus, minus: what is answered, as a list of digits -/
def NewR (w' : World) (u : Value) (v : Nat) : Prop := ∃ a c L, u = .slice a (List.length L) c ∧ U32 w' a c L ∧ NumR.Limbs L ∧ NumR.val L = v
theorem rminusU (a b : Option Addr) (ca cb : Nat) (A B : List Nat) (w : World) (ha : U32 w a ca A) (hb : U32 w b cb B) (hA : NumR.Limbs A) (hB : NumR.Limbs B) (nb : Nrm B) (h1 : A.length ≤ 2147483650) (hle : NumR.val B ≤ NumR.val A) :
    Calls Tryd.prog 114 #[.slice a A.length ca, .slice b B.length cb] w fun e w' => (∃ u, e = .returned u ∧ NewR w' u (NumR.val A - NumR.val B)) ∧ Below w.heap.size w w' := by
  have h2 : B.length ≤ A.length := by
    apply Nat.le_of_not_lt; intro h
    have := NumR.val_lt_of_len hA nb h
    omega
  refine (rminus_c a b ca cb A B w ha hb hA hB h1 h2 hle).mono fun e w' ⟨v, he, O, hO, hL, hl, hv⟩ => ?_
  obtain ⟨a', c', e2, hu⟩ := hO.u32 (limbs_of_r hL)
  exact ⟨⟨v, he, a', c', O, e2, hu, hL, by omega⟩, hO.2⟩


end Go.Proofs.YtannhpadoooedaaDoor
