/- Texts of this seat, laid together (what the earlier ones leave out): ScM, ScN. Each opens with its own remark, which says what it proves, and under which conditions. -/
import Derived.Test.YtkejdmdldhlkgaaGreatDoorP01
import Derived.Test.YtkejdmdldhlkgaaGreatDoorP02
import Derived.Test.YtkejdmdldhlkgaaGreatDoorP03
import Derived.Test.YtkejdmdldhlkgaaGreatDoorP04
import Derived.Test.YtkejdmdldhlkgaaGreatDoorP05
import Derived.Test.YtkejdmdldhlkgaaGreatDoorP06
import Derived.Test.YtkejdmdldhlkgaaGreatDoorP07
import Derived.Test.YtkejdmdldhlkgaaGreatDoorP08
import Derived.Test.YtkejdmdldhlkgaaGreatDoorP09
import Derived.Test.YtkejdmdldhlkgaaGreatDoorP10
import Derived.Test.YtkejdmdldhlkgaaGreatDoorP11
import Derived.Test.YtkejdmdldhlkgaaGreatDoorP12
import Derived.Test.YtkejdmdldhlkgaaGreatDoorP13
import Derived.Test.YtkejdmdldhlkgaaGreatDoorP14
import Derived.Test.YtkejdmdldhlkgaaGreatDoorP15
import Derived.Test.YtkejdmdldhlkgaaGreatDoorP16
import Derived.Test.YtkejdmdldhlkgaaGreatDoorP17
import Derived.Test.YtkejdmdldhlkgaaGreatDoorP18
import Derived.Test.YtkejdmdldhlkgaaGreatDoorP19
import Derived.Test.YtkejdmdldhlkgaaGreatDoorP20
import Derived.Test.YtkejdmdldhlkgaaGreatDoorP21
import Derived.Test.YtkejdmdldhlkgaaGreatDoorP22
import Derived.Test.YtkejdmdldhlkgaaGreatDoorP23
import Derived.Test.YtkejdmdldhlkgaaGreatDoorP24
import Derived.Test.YtkejdmdldhlkgaaGreatDoorP25
import Derived.Test.YtkejdmdldhlkgaaGreatDoorP26
import Derived.Test.YtkejdmdldhlkgaaGreatDoorP27
import Derived.Test.YtkejdmdldhlkgaaGreatDoorP28
import Derived.Test.YtkejdmdldhlkgaaGreatDoorP29
import Derived.Test.YtkejdmdldhlkgaaGreatDoorP30
import Derived.Test.YtkejdmdldhlkgaaGreatDoorU01
import Derived.WalkKit
import Derived.ProofKit
import Derived.OpenShut
import Derived.Deep.QuietTactic
import Derived.BigQuiet
import Derived.Outline
import Derived.Lib.Hide
import Derived.WalkSmall
import Derived.WalkSpells
import Derived.WalkLawsBesides
import Derived.Deep.RegionWith
import Derived.Deep.RegionHeld3
import Derived.Laws.CopyOwn
import Derived.Shelf.Small.Bits
import Derived.Laws.AppendOwn
import Derived.Deep.AppendLies
import Derived.Deep.DrawnRows
import Derived.StillTail
import Derived.Deep.Quiet
import Derived.OneCell
import Derived.Laws.BitsAllLaws
import Derived.Shelf.Spec.TrailingZeros
import Derived.Shelf.Strings.Builder1
import Derived.Shelf.Strings.Trim
import Derived.Deep.Cut
import Derived.Deep.DeepCutAuto
import Derived.ArgAppend
import Derived.Deep.DeepFit
import Derived.Shelf.Abstract
import Derived.Laws.EntriesVeiled
import Derived.RegionTactic
import Derived.ChangeAlike
import Derived.Laws.OwnMore
import Derived.Deep.Onto
import Derived.Deep.RegionLaw
import Derived.Deep.LoopGhost
import Derived.RangeFuncNested
import Derived.RangeFuncBound
import Derived.RangeFuncCalls
import Derived.RangeFuncLeaves
import Derived.Shelf.RegionOpen
import Derived.OwnWalkIn
import Derived.TacticsInMore
import Derived.LoopNIn
import Derived.LoopIn
import Derived.Laws.CopyRow
import Derived.Laws.Rows
import Derived.Laws.Tables
import Derived.StillTailTactics
import Derived.Lib.AppendZeros
import Derived.Laws.IdiomStrings
import Derived.Laws.BytesArg
import Derived.Laws.RangeString
import Derived.Lib.OthersKept
import Derived.Maps.AppendAt
import Derived.Shelf.Strings.OnBuilder
import Derived.Lib.SmallJoins
import Derived.Deep.Slices
import Derived.Deep.Matrix
import Derived.Deep.Fields
import Derived.ChangeSame
import Derived.DataShut
import Derived.SizedLaws
set_option linter.unusedVariables false
set_option linter.unusedSimpArgs false
/- scheme's laws: product. -/
namespace Go.Proofs.YtkejdmdldhlkgaaGreatDoor
open Pt
open Num
open Go.ChangeShapes Go.WideShapes Go.ChangeAt Go.RowKit
attribute [local go_sem ↓] Go.wp_at_zero Go.wp_at_succ
set_option maxRecDepth 100000 in
set_option maxHeartbeats 8000000 in
theorem product7_c (va vb : Value) (x y : List Int) (w : World) (hx : PRow 0 w va x) (hy : PRow 0 w vb y) (hp : 1 ≤ x.length) (hq : 1 ≤ y.length) (lx : x.length ≤ 8) (ly : y.length ≤ 8) (bx : ∀ t, Bd 64 (x.getD t 0)) (by' : ∀ t, Bd 64 (y.getD t 0)) :
    Calls Tryz.prog 23 #[va, vb] w fun e w' => (∃ v', e = .returned v' ∧ PRow 0 w' v' (pcL x y)) ∧ Below w.heap.size w w' := by
  obtain ⟨xa, xc, rfl, -, vx⟩ := hx.view
  obtain ⟨ya, yc, rfl, -, vy⟩ := hy.view
  have HPL := Lib.hid (And.intro (pcL_len x y) (fun m (h : m < x.length + y.length - 1) => pcL_at h))
  obtain ⟨L, hL⟩ : ∃ L, pcL x y = L := ⟨_, rfl⟩
  rw [hL] at HPL ⊢
  obtain ⟨P, hP⟩ : ∃ P, x.length = P := ⟨_, rfl⟩
  obtain ⟨Q, hQ⟩ : ∃ Q, y.length = Q := ⟨_, rfl⟩
  obtain ⟨f, hf⟩ : ∃ f : Nat → Int, (fun i => x.getD i 0) = f := ⟨_, rfl⟩
  obtain ⟨h, hh⟩ : ∃ h : Nat → Int, (fun i => y.getD i 0) = h := ⟨_, rfl⟩
  have bx2 : ∀ t, Bd 64 (f t) := fun t => by rw [← hf]; exact bx t
  have by2 : ∀ t, Bd 64 (h t) := fun t => by rw [← hh]; exact by' t
  have HX := Lib.hid (show ∀ j, j < P → ∃ b off nb ad len cp, xa = some ⟨b, off, none⟩ ∧ w.cell? ⟨b, off + j * 2, none⟩ = some (.bool nb) ∧ w.cell? ⟨b, off + j * 2 + 1, none⟩ = some (.slice ad len cp) ∧ IsInt w (.agg #[.bool nb, .slice ad len cp]) (f j) from fun j hj => by rw [← hf]; exact vx j (by rw [hP]; exact hj))
  have HY := Lib.hid (show ∀ j, j < Q → ∃ b off nb ad len cp, ya = some ⟨b, off, none⟩ ∧ w.cell? ⟨b, off + j * 2, none⟩ = some (.bool nb) ∧ w.cell? ⟨b, off + j * 2 + 1, none⟩ = some (.slice ad len cp) ∧ IsInt w (.agg #[.bool nb, .slice ad len cp]) (h j) from fun j hj => by rw [← hh]; exact vy j (by rw [hQ]; exact hj))
  obtain ⟨ab, ao, -, -, -, -, rfl, -, -, -⟩ := HX.out 0 (by omega)
  obtain ⟨bb, bo, -, -, -, -, rfl, -, -, -⟩ := HY.out 0 (by omega)
  have HBD := Lib.hid (And.intro bx2 by2)
  rw [hP, hQ] at HPL
  rw [hf, hh] at HPL
  rw [hP] at hp lx ⊢
  rw [hQ] at hq ly ⊢
  obtain ⟨N, hN⟩ : ∃ N, P + Q - 1 = N := ⟨_, rfl⟩
  rw [hN] at HPL
  have hw1 : wrap64 ((P : Int) + (Q : Int)) = (P : Int) + (Q : Int) := by unfold wrap64; omega
  have hw2 : wrap64 ((P : Int) + (Q : Int) - 1) = (P : Int) + (Q : Int) - 1 := by unfold wrap64; omega
  have hmk : ∀ w, (Instr.makeSlice 54 (.int .i64 ((P : Int) + (Q : Int) - 1)) (.int .i64 ((P : Int) + (Q : Int) - 1))).run Tryz.prog w = .ok (.slice (some ⟨w.heap.size, 0, none⟩) N N) (w.alloc (.cells (zcel N) 41)) := by
    rw [show (P : Int) + (Q : Int) - 1 = (N : Int) by omega]
    exact mkInts N (by omega)
  have HN := Lib.hid hN
  have hB := Below.refl w.heap.size w
  clear hL hP hQ hf hh vx vy hx hy bx by' bx2 by2 hN
  go_enter Tryz.func23, Tryz.ntmps23
  go_wp2
  refine wp_name fun w1 hW1 => ?_
  have hB1 : Below w.heap.size w w1 := by rw [hW1]; repeat (first | exact Below.refl _ _ | exact hB | refine Below.drew ?_ | refine below_drewN ?_ _ | refine bset ?_ (by simp <;> omega) _ | refine bal ?_ _)
  have HG := Lib.hid (show IntsF IsInt w1 w.heap.size 0 N (Det.pcS f h Q 0 0) from by
    rw [hW1]
    first | exact (zcel_ints isInt_zero w N 41 rfl).congr (fun k _ => rfl) | exact ((zcel_ints isInt_zero w N 41 rfl).keep lims_int (Below.refl _ _).drew).congr (fun k _ => rfl))
  have HF := Lib.hid (show FreeI w1 w.heap.size from by rw [hW1]; first | exact FreeI.new rfl | exact (FreeI.new rfl).keep (Below.refl _ _).drew)
  clear hW1 hmk hw1 hw2
  go_loopw [19] (fun x wr => ∃ i : Nat, i ≤ P ∧ x = .int .i64 i ∧ Below w.heap.size w wr ∧ Hid (IntsF IsInt wr w.heap.size 0 N (Det.pcS f h Q i 0)) ∧ Hid (FreeI wr w.heap.size)) (fun x _ => P - (intOf x).toNat)
  case atStart => exact ⟨0, Nat.zero_le _, rfl, hB1, HG, HF⟩
  case round =>
    obtain ⟨i, hi, rfl, hBr, hG, hF⟩ := hrel
    by_cases hlt : i < P
    · have hltI : (i : Int) < (P : Int) := by omega
      have HLT := Lib.hid hlt
      obtain ⟨_, _, xn, xd, xl, xk, e, d0, d1, hxi⟩ := HX.out i hlt
      cases e
      replace d0 := bkeep hBr d0
      replace d1 := bkeep hBr d1
      have zd := cell_lt d0
      have hxi2 := hxi.keep hBr
      have zg := hF.out.lt
      have hBw := Below.refl wr.heap.size wr
      clear hxi hlt
      go_wp2
      refine wp_name fun w3 hW3 => ?_
      have hk3 : Below wr.heap.size wr w3 := by rw [hW3]; repeat (first | exact Below.refl _ _ | exact hBw | refine Below.drew ?_ | refine below_drewN ?_ _ | refine bset ?_ (by simp <;> omega) _ | refine bal ?_ _)
      have VX := Lib.hid (show VarI wr.heap.size (f i) w3 from by rw [hW3]; exact ⟨typ_fresh rfl, xn, xd, xl, xk, by simp [go_sem], by simp [go_sem], by simp [go_sem], by simp [go_sem], hxi2.keep (bal (Below.refl _ _) _)⟩)
      have HNE := Lib.hid (show ¬ wr.heap.size = w.heap.size by omega)
      have hB3 := bthen hBr hk3
      have G3 := Lib.hid (hG.out.keep lims_int hk3)
      have F3 := Lib.hid (hF.out.keep hk3)
      clear hW3 hG hF hk3 hxi2 hBw d0 d1 zd zg hBr
      go_loopw [26] (fun x wq => ∃ j : Nat, j ≤ Q ∧ x = .int .i64 j ∧ Below w.heap.size w wq ∧ Hid (VarI wr.heap.size (f i) wq) ∧ Hid (IntsF IsInt wq w.heap.size 0 N (Det.pcS f h Q i j)) ∧ Hid (FreeI wq w.heap.size)) (fun x _ => Q - (intOf x).toNat)
      case atStart => exact ⟨0, Nat.zero_le _, rfl, hB3, VX, G3, F3⟩
      case round =>
        obtain ⟨j, hj, rfl, hBq, hV, hG, hF⟩ := hrel
        rename World => wq
        by_cases hjt : j < Q
        · have hltJ : (j : Int) < (Q : Int) := by omega
          have HJT := Lib.hid hjt
          obtain ⟨_, _, yn, yd, yl, yk, e, d0, d1, hyj⟩ := HY.out j hjt
          cases e
          replace d0 := bkeep hBq d0
          replace d1 := bkeep hBq d1
          have zd := cell_lt d0
          have hyj2 := hyj.keep hBq
          have hBw := Below.refl wq.heap.size wq
          have zv := typ_lt hV.out.1
          have zg := hF.out.lt
          clear hyj hjt
          go_wp2
          refine wp_name fun w4 hW4 => ?_
          have hk4 : Below wq.heap.size wq w4 := by rw [hW4]; repeat (first | exact Below.refl _ _ | exact hBw | refine Below.drew ?_ | refine below_drewN ?_ _ | refine bset ?_ (by simp <;> omega) _ | refine bal ?_ _)
          have y0 : w4.cell? ⟨wq.heap.size, 0, none⟩ = some (.bool yn) := by rw [hW4]; simp [go_sem]
          have y1 : w4.cell? ⟨wq.heap.size, 1, none⟩ = some (.slice yd yl yk) := by rw [hW4]; simp [go_sem]
          have HYI := Lib.hid (show IsInt w4 (.agg #[.bool yn, .slice yd yl yk]) (h j) from hyj2.keep hk4)
          have hB4 := bthen hBq hk4
          have V4 := Lib.hid (hV.out.keep hk4)
          have G4 := Lib.hid (hG.out.keep lims_int hk4)
          have F4 := Lib.hid (hF.out.keep hk4)
          clear hW4 hV hG hF hk4 hyj2 hBw d0 d1 zd hBq
          obtain ⟨k, hk⟩ : ∃ k, i + j = k := ⟨_, rfl⟩
          have hkN : k < N := by have := HN.out; have := HLT.out; have := HJT.out; omega
          have hwk : IntKind.i64.wrap ((i : Int) + (j : Int)) = (k : Int) := by rw [IntWalk.i64_left]; unfold wrap64; omega
          have hkI : (k : Int) < (N : Int) := by omega
          obtain ⟨cn, cd, cl, ck, c0, c1, hc⟩ := G4.out.at0 hkN
          have hcf := F4.out.fz
          have c0f := hcf (k * 2)
          have c1f := hcf (k * 2 + 1)
          obtain ⟨-, xn', xd', xl', xk', x0, x1, -, -, hxv⟩ := V4.out
          have bs := pcS_bd (i := i) (j := j) (m := k) (k := Q) HBD.out.1 HBD.out.2 ly (by have := HLT.out; omega) (by have := HJT.out; omega)
          have HSTP := Lib.hid (show ∀ m, Det.pcS f h Q i (j + 1) m = if m = k then Det.pcS f h Q i j k + f i * h j else Det.pcS f h Q i j m from fun m => by
            rw [Det.pcS_step, hk]
            by_cases e : m = k
            · subst e; rw [if_pos rfl, if_pos rfl]
            · rw [if_neg e, if_neg (fun e2 => e e2.symm), Int.add_zero])
          obtain ⟨z, hz⟩ : ∃ z, Det.pcS f h Q i j k = z := ⟨_, rfl⟩
          rw [hz] at hc bs HSTP
          have HCI := Lib.hid hc
          have HXI := Lib.hid hxv
          have MC := Lib.hid (fun W (q : Below w4.heap.size w4 W) => mul_c _ _ (f i) (h j) 64 64 W (HXI.out.keep q) (HYI.out.keep q) (HBD.out.1 i) (HBD.out.2 j) (by decide) (by decide))
          have AC := Lib.hid (fun u W (q : Below w4.heap.size w4 W) (hu : IsInt W u (f i * h j)) => addI_c (.agg #[.bool cn, .slice cd cl ck]) u z (f i * h j) 168 W (HCI.out.keep q) hu bs (((HBD.out.1 i).mul (HBD.out.2 j)).mono (by decide)) (by decide))
          have HC := Lib.hid (show ∀ V, Below w4.heap.size w4 V → V.cell? ⟨w.heap.size, k * 2, none⟩ = some (.bool cn) ∧ V.cell? ⟨w.heap.size, k * 2 + 1, none⟩ = some (.slice cd cl ck) ∧ V.cell? ⟨wr.heap.size, 0, none⟩ = some (.bool xn') ∧ V.cell? ⟨wr.heap.size, 1, none⟩ = some (.slice xd' xl' xk') ∧ V.cell? ⟨wq.heap.size, 0, none⟩ = some (.bool yn) ∧ V.cell? ⟨wq.heap.size, 1, none⟩ = some (.slice yd yl yk) ∧ V.frozen? ⟨w.heap.size, k * 2, none⟩ = false ∧ V.frozen? ⟨w.heap.size, k * 2 + 1, none⟩ = false from fun V q => ⟨bkeep q c0, bkeep q c1, bkeep q x0, bkeep q x1, bkeep q y0, bkeep q y1, bkeepf q c0 c0f, bkeepf q c1 c1f⟩)
          clear hcf hc hxv bs hk hz
          have zc := cell_lt c0
          have zx := cell_lt x0
          have zy := cell_lt y0
          have hBw := Below.refl w4.heap.size w4
          go_region_law (go_simp; go_wp2_with (first
            | (go_at_call 24; (with_reducible refine (MC.out _ ?_).mono ?_); (repeat (first | exact Below.refl _ _ | exact hBw | refine Below.drew ?_ | refine below_drewN ?_ _ | refine bset ?_ (by simp <;> omega) _ | refine bal ?_ _)); rintro e w5 ⟨⟨u5, rfl, hu⟩, hb5⟩; (have hBd : Below w4.heap.size w4 w5 := bthen belA hb5; clear hBw; have hBw := hBd; clear hBd); obtain ⟨c0, c1, x0, x1, y0, y1, c0f, c1f⟩ := HC.out w5 hBw; have HU5 := Lib.hid hu; have hy5 := Below.refl w5.heap.size w5; have zc5 := cell_lt c0; obtain ⟨n5, a5, l5, k5, rfl⟩ := hu.lit; clear hu)
            | (go_at_call 71; (with_reducible refine (AC.out _ _ ?_ (HU5.out.keep ?_)).mono ?_); (repeat (first | exact Below.refl _ _ | exact hBw | refine Below.drew ?_ | refine below_drewN ?_ _ | refine bset ?_ (by simp <;> omega) _ | refine bal ?_ _)); (repeat (first | exact Below.refl _ _ | exact hy5 | refine Below.drew ?_ | refine below_drewN ?_ _ | refine bset ?_ (by simp <;> omega) _ | refine bal ?_ _)); rintro e w6 ⟨⟨u6, rfl, hu⟩, hb6⟩; (have hBd : Below w4.heap.size w4 w6 := bthen belA hb6; clear hBw; have hBw := hBd; clear hBd); obtain ⟨c0, c1, x0, x1, y0, y1, c0f, c1f⟩ := HC.out w6 hBw; have HU6 := Lib.hid hu; have zc6 := cell_lt c0; obtain ⟨n6, a6, l6, k6, rfl⟩ := hu.lit; clear hu)
            | fail))
          all_goals
            have HG6 := Lib.hid (((G4.out.keep lims_int hBw).store0 lims_int hkN HU6.out).congr (f' := Det.pcS f h Q i (j + 1)) (fun m _ => (HSTP.out m).symm))
            have HL := Lim.set2 c0 c1 (.bool n6) (.slice a6 l6 k6)
            have HV6 := Lib.hid ((V4.out.keep hBw).out (X := fun q => q = w.heap.size) ((Out.refl (fun q => q = w.heap.size) w6).set2 (g := w.heap.size) (o := k * 2) (fun _ => rfl) (.bool n6) (.slice a6 l6 k6)) HNE.out HL)
            have HF6 := Lib.hid (((F4.out.keep hBw).set ⟨w.heap.size, k * 2, none⟩ (.bool n6)).set ⟨w.heap.size, k * 2 + 1, none⟩ (.slice a6 l6 k6))
            have hB6 := bset (bset (bthen hB4 hBw) (p := ⟨w.heap.size, k * 2, none⟩) (Nat.le_refl _) (.bool n6)) (p := ⟨w.heap.size, k * 2 + 1, none⟩) (Nat.le_refl _) (.slice a6 l6 k6)
            have hlJ := HJT.out
            clear MC AC HC HL G4 V4 F4 HU5 HU6 HSTP c0 c1 x0 x1 y0 y1 c0f c1f zc zx zy hBw hB4
            go_wp2
            exact ⟨⟨j + 1, hlJ, by go_num, hB6, HV6, HG6, HF6⟩, meas hlJ (by go_num) rfl⟩
        · obtain rfl : Q = j := by omega
          have hltJ : ¬ (Q : Int) < (Q : Int) := by omega
          have GE := Lib.hid (hG.out.congr (f' := Det.pcS f h Q (i + 1) 0) (fun m _ => Det.pcS_row f h Q i m))
          have FE := Lib.hid hF.out
          have hlI := HLT.out
          clear hG hF hV
          go_wp2
          exact ⟨⟨i + 1, hlI, by go_num, hBq, GE, FE⟩, meas hlI (by go_num) rfl⟩
    · obtain rfl : P = i := by omega
      have hltI : ¬ (P : Int) < (P : Int) := by omega
      have HR := Lib.hid (show PRow 0 wr (.slice (some ⟨w.heap.size, 0, none⟩) N N) L from prow_of hG.out hF.out.ty (by unfold maxLen; have := HN.out; omega) (by rw [HPL.out.1]) (fun m hm => (HPL.out.2 m hm).symm))
      clear hG hF
      go_wp2
      go_ret
      exact ⟨⟨_, rfl, HR.out⟩, hBr⟩
end Go.Proofs.YtkejdmdldhlkgaaGreatDoor

/- schemes, plain: what is evaluated is multiplied one by one, and led back; list and product once more. -/
namespace Go.Proofs.YtkejdmdldhlkgaaGreatDoor
open Pt
open Num
open Go.ChangeShapes Go.WideShapes Go.ChangeAt Go.RowKit
theorem pw_hv {n k i : Nat} {f : Nat → Int × Int} {x : List Int} (hi : i < n) (hx : x.length = k) : (applyG (pwG n k f) x).getD i 0 = Det.hv k (fun t => x.getD t 0) (f i).1 (f i).2 := by
  rw [app_at (g := pwG n k f) (m := k) (tab_rect n k _) hx (by rw [pwG_len]; exact hi)]
  unfold Det.hv
  refine Det.isum_congr fun t ht => ?_
  rw [show gat (pwG n k f) i t = powF (f i).1 (f i).2 k t from tab_gat hi ht, Int.mul_comm]
  rfl
theorem prod_law {n p q : Nat} {f : Nat → Int × Int} {x y : List Int} (hx : x.length = p) (hy : y.length = q) (hp : 0 < p) (hq : 0 < q) (hn : p + q - 1 = n) {i : Nat} (hi : i < n) : (applyG (pwG n p f) x).getD i 0 * (applyG (pwG n q f) y).getD i 0 = (applyG (pwG n n f) (pcL x y)).getD i 0 := by
  rw [pw_hv hi hx, pw_hv hi hy, pw_hv hi (by rw [pcL_len, hx, hy, hn]), ← Det.hv_mul _ _ _ _ hp hq, hn]
  refine Det.hv_congr _ _ fun m hm => ?_
  rw [pcL_at (by rw [hx, hy, hn]; exact hm), hx, hy]
theorem inv_law {g : Grid} {l : List Int} (hs : g.length = cols g) (hp : 0 < g.length) (hr : Rct g (cols g)) (hd : Det.detE g.length (gat g) ≠ 0) (hl : l.length = g.length) {i : Nat} (hi : i < g.length) : (applyG (invG g) (applyG g l)).getD i 0 = l.getD i 0 * invD g := by
  have rI : Rct (invG g) (cols (invG g)) := by rw [inv_cols hp]; exact tab_rect _ _ _
  rw [app_times (by rw [inv_len]; exact hp) hp rI hr (by rw [inv_cols hp]) (by rw [hl, hs]), inv_mulG hs hp hd, scale_id]
  have hc : cols (tab g.length g.length fun i j => if i = j then invD g else 0) = g.length := tab_cols _ hp
  rw [app_at (m := g.length) (tab_rect _ _ _) hl (by rw [tab_len]; exact hi), Det.is_one (j := i) hi (fun t ht hne => by rw [tab_gat hi ht, if_neg (fun e => hne e.symm), Int.zero_mul]), tab_gat hi hi, if_pos rfl, Int.mul_comm]
theorem list7_x (ra : Option Addr) (rc : Nat) (l X : List Int) (m : Nat) (w : World) (hv : RowI w (.slice ra l.length rc) l) (hc : l.length ≤ rc) (hm : m ≤ l.length) (hl : m ≤ 1000) (hX : l.take m = X) :
    Calls Tryz.prog 21 #[.slice ra l.length rc, .int .i64 m] w fun e w' => (∃ xa xc, e = .returned (.slice xa m xc) ∧ PRow 0 w' (.slice xa m xc) X) ∧ Below w.heap.size w w' := by
  refine (list7_c ra rc l m w hv hc hm hl).mono ?_
  rintro e w' ⟨⟨v, rfl, h⟩, hb⟩
  have hr : PRow 0 w' v (l.take m) := h.row.rebase (Nat.zero_le _)
  obtain ⟨a, c, rfl⟩ := h.ex
  rw [show (l.take m).length = m by rw [List.length_take]; omega, hX] at *
  exact ⟨⟨a, c, rfl, hr⟩, hb⟩
theorem product7_x (va vb : Value) (x y : List Int) (p q n : Nat) (w : World) (hx : PRow 0 w va x) (hy : PRow 0 w vb y) (lx : x.length = p) (ly : y.length = q) (hp : 1 ≤ p) (hq : 1 ≤ q) (hp8 : p ≤ 8) (hq8 : q ≤ 8) (hn : p + q - 1 = n) (bx : ∀ t, Bd 64 (x.getD t 0)) (by' : ∀ t, Bd 64 (y.getD t 0)) :
    Calls Tryz.prog 23 #[va, vb] w fun e w' => (∃ ca cc, e = .returned (.slice ca n cc) ∧ PRow 0 w' (.slice ca n cc) (pcL x y)) ∧ Below w.heap.size w w' := by
  refine (product7_c va vb x y w hx hy (by omega) (by omega) (by omega) (by omega) bx by').mono ?_
  rintro e w' ⟨⟨v, rfl, h⟩, hb⟩
  obtain ⟨a, c, e, -⟩ := h.view
  rw [pcL_len, lx, ly, hn] at e
  subst e
  exact ⟨⟨a, c, rfl, h⟩, hb⟩
theorem take_bd {l : List Int} {K m : Nat} (h : ∀ j, Bd K (l.getD j 0)) : ∀ j, Bd K ((l.take m).getD j 0) := fun j => by
  by_cases hj : j < m
  · have e : (l.take m).getD j 0 = l.getD j 0 := by rw [List.getD_eq_getElem?_getD, List.getD_eq_getElem?_getD, List.getElem?_take_of_lt hj]
    rw [e]; exact h j
  · rw [List.getD_eq_getElem?_getD, List.getElem?_eq_none (by rw [List.length_take]; omega)]; exact bd_zero
theorem pcL_bd {x y : List Int} (lx : x.length ≤ 8) (ly : y.length ≤ 8) (bx : ∀ t, Bd 64 (x.getD t 0)) (by' : ∀ t, Bd 64 (y.getD t 0)) : ∀ j, Bd 168 ((pcL x y).getD j 0) := fun j => by
  by_cases hj : j < x.length + y.length - 1
  · rw [pcL_at hj]
    exact pcS_bd (x := fun i => x.getD i 0) (y := fun i => y.getD i 0) (K := 64) bx by' ly lx (Nat.zero_le 8)
  · rw [List.getD_eq_getElem?_getD, List.getElem?_eq_none (by rw [pcL_len]; omega)]; exact bd_zero
end Go.Proofs.YtkejdmdldhlkgaaGreatDoor

