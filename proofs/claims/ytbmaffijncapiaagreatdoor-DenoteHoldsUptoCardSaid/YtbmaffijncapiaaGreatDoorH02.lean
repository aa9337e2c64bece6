/- Texts of this seat, laid together: DnS, DwV, Vo, Vp. What each theorem proves, and under which conditions, its statement says. -/
import Derived.Test.YtbmaffijncapiaaGreatDoorH01
import Derived.Test.YtbmaffijncapiaaGreatDoorRows
import Derived.Lib.SmallJoins
import Derived.Deep.Slices
import Derived.Deep.Matrix
import Derived.Deep.Fields
import Derived.ChangeSame
import Derived.DataShut
set_option maxRecDepth 100000
set_option maxHeartbeats 32000000
set_option linter.unusedVariables false
set_option linter.unusedSimpArgs false
namespace Go.Proofs.YtbmaffijncapiaaGreatDoor
open Go.ChangeShapes Go.WideShapes Go.ChangeAt Go.RowKit
section
open Num
attribute [local go_sem ↓] Go.wp_at_zero Go.wp_at_succ
theorem atY_c (v : Value) (g : Grid) (i j : Nat) (w : World) (hv : IsM 0 w v g) (hr : Rct g (cols g)) (hi : i < g.length) (hj : j < cols g) : Calls Tryz.prog 30 #[v, .int .i64 (i : Nat), .int .i64 (j : Nat)] w fun e w' => (∃ n a l c, e = .returned (.tuple #[.agg #[.bool n, .slice a l c], .int .i64 0]) ∧ IsInt w' (.agg #[.bool n, .slice a l c]) (gat g i j)) ∧ Below w.heap.size w w' := by
 refine (at_c v g i j w hv hr).mono ?_
 rintro e w' ⟨h1 | ⟨h, -⟩, hb⟩
 · obtain ⟨-, -, -, -, u, rfl, hu⟩ := h1
   have hu2 := hu
   obtain ⟨n, a, l, c, rfl⟩ := IsInt.lit hu2
   exact ⟨⟨n, a, l, c, rfl, hu⟩, hb⟩
 · exact absurd ⟨by omega, by omega, by omega, by omega⟩ h
def AtEq (F : GridF) (g : Grid) (d : Int) (i j : Nat) : Prop := (F.getD i []).getD j 0 = Rat.divInt (gat g i j) d
theorem qdec (x y : Rat) : cmpI (x.num * (y.den : Int)) (y.num * (x.den : Int)) = 0 ↔ x = y := by
 rw [← q_cmp]
 unfold cmpI
 constructor
 · intro h; by_cases h1 : x.num * (y.den : Int) < y.num * (x.den : Int)
   · rw [if_pos h1] at h; omega
   · rw [if_neg h1] at h; by_cases h2 : x.num * (y.den : Int) = y.num * (x.den : Int)
     · exact h2
     · rw [if_neg h2] at h; omega
 · intro h; rw [if_neg (by omega), if_pos h]
def IsRes (ins regs : Int) (code : List Ins) (outs : List Int) (g : Grid) (d : Int) (b : Bool) (q : Int) : Prop :=
 (b = false ∧ ((d = 0 ∧ q = 2) ∨ (d ≠ 0 ∧ ¬ ProgOk ins regs code outs ∧ q = 80) ∨ (d ≠ 0 ∧ ProgOk ins regs code outs ∧ endF ins regs code = none ∧ q = 3))) ∨
 (d ≠ 0 ∧ ProgOk ins regs code outs ∧ ∃ h, endF ins regs code = some h ∧ q = 0 ∧ (b = true ↔ (ins = (cols g : Nat) ∧ outs.length = g.length ∧ ∀ i j, i < g.length → j < cols g → AtEq (outsF outs h) g d i j)))
def IsPost (ins regs : Int) (code : List Ins) (outs : List Int) (g : Grid) (d : Int) (w : World) (e : Ending) (w' : World) : Prop := (∃ b q, e = .returned (.tuple #[.bool b, .int .i64 q]) ∧ IsRes ins regs code outs g d b q) ∧ Below w.heap.size w w'
theorem is_cQ (ins regs : Int) (ca oa : Option Addr) (cc oc : Nat) (code : List Ins) (outs : List Int) (vm vd : Value) (g : Grid) (d : Int) (K : Nat) (w : World) (hc : InsV w ca cc code) (ho : IntsV w oa oc outs) (hm : Mt K g vm w) (hd : IsInt w vd d) (bd : Bd K d) (hK : K ≤ 1000000000) :
 Calls Tryz.prog 44 #[.agg #[.int .i64 ins, .int .i64 regs, .slice ca code.length cc, .slice oa outs.length oc], vm, vd] w (IsPost ins regs code outs g d w) := by
 have HC := hZ (And.intro hc ho)
 have HM := hZ hm
 have HD := hZ (And.intro hd bd)
 obtain ⟨ma, mc, rfl⟩ := hm.m.lit
 have SC := hZ (fun V (q : Below w.heap.size w V) => sign_c vd d V (hd.keep q))
 obtain ⟨dn, da, dl, dc, rfl⟩ := hd.lit
 clear hc ho hm hd bd
 have hB := Below.refl w.heap.size w
 by_cases hd0 : d = 0
 · have HR := hZ (show IsRes ins regs code outs g d false 2 from .inl ⟨rfl, .inl ⟨hd0, rfl⟩⟩)
   rw [hd0, Int.sign_zero] at SC
   clear hd0
   go_enter Tryz.func44, Tryz.ntmps44
   go_wp2_with fail
   (with_reducible refine (SC.out _ ?_).mono ?_); (repeat (first|exact bzR _ _|exact hB|refine bzD ?_|refine bzN ?_|refine bzS ?_|refine bzA ?_))
   rintro e w1 ⟨rfl, hb1⟩
   have hB1 : Below w.heap.size w w1 := bthen bZ hb1
   clear SC hb1
   go_wp2
   refine bodyPost_ret (v := .tuple #[.bool false, .int .i64 2]) (by simp [results, Tryz.results44, go_sem]) rfl ⟨⟨_, _, rfl, HR.out⟩, ?_⟩
   repeat exact bZ
 · obtain ⟨sg, hsg, hsgE⟩ : ∃ q : Int, q ≠ 0 ∧ d.sign = q := ⟨_, (fun e => hd0 (Int.sign_eq_zero_iff_zero.1 e)), rfl⟩
   rw [hsgE] at SC
   have hsb : (sg == 0) = false := by simpa using hsg
   have HD0 := hZ hd0
   clear hsgE hsg hd0
   by_cases hp : ProgOk ins regs code outs
   · cases he : endF ins regs code with
     | none =>
      have HR := hZ (show IsRes ins regs code outs g d false 3 from .inl ⟨rfl, .inr (.inr ⟨HD0.out, hp, he, rfl⟩)⟩)
      have RC := hZ (fun V (q : Below w.heap.size w V) => rows_wide (HC.out.1.keep q) (HC.out.2.keep q) hp he)
      clear hp he
      go_enter Tryz.func44, Tryz.ntmps44
      go_wp2_with fail
      (with_reducible refine (SC.out _ ?_).mono ?_); (repeat (first|exact bzR _ _|exact hB|refine bzD ?_|refine bzN ?_|refine bzS ?_|refine bzA ?_))
      rintro e w1 ⟨rfl, hb1⟩
      have p0 : w1.cell? ⟨w.heap.size, 0, none⟩ = some (.int .i64 ins) := bkc hb1
      have zp0 := cell_lt p0
      have p1 : w1.cell? ⟨w.heap.size, 1, none⟩ = some (.int .i64 regs) := bkc hb1
      have p2 : w1.cell? ⟨w.heap.size, 2, none⟩ = some (.slice ca code.length cc) := bkc hb1
      have p3 : w1.cell? ⟨w.heap.size, 3, none⟩ = some (.slice oa outs.length oc) := bkc hb1
      have m0 : w1.cell? ⟨w.heap.size + 1, 0, none⟩ = some (.slice ma g.length mc) := bkc hb1
      have zm0 := cell_lt m0
      have e0 : w1.cell? ⟨w.heap.size + 1 + 1, 0, none⟩ = some (.bool dn) := bkc hb1
      have ze0 := cell_lt e0
      have e1 : w1.cell? ⟨w.heap.size + 1 + 1, 1, none⟩ = some (.slice da dl dc) := bkc hb1
      have hB : Below w.heap.size w w1 := bthen bZ hb1
      have hz := hB.size
      clear SC
      go_wp2_with fail
      (with_reducible refine (RC.out _ ?_).mono ?_); (repeat (first|exact bzR _ _|exact hB|refine bzD ?_|refine bzN ?_|refine bzS ?_|refine bzA ?_))
      rintro e w2 ⟨rfl, hb2⟩
      have hB2 : Below w.heap.size w w2 := bthen bZ hb2
      clear RC hb2
      go_wp2
      refine bodyPost_ret (v := .tuple #[.bool false, .int .i64 3]) (by simp [results, Tryz.results44, go_sem]) rfl ⟨⟨_, _, rfl, HR.out⟩, ?_⟩
      repeat exact bZ
     | some h =>
      have RC := hZ (fun V (q : Below w.heap.size w V) => rows_yes (HC.out.1.keep q) (HC.out.2.keep q) hp he)
      have HF := hZ (endF_ok hp he)
      have HFL := hZ (outsF_len outs h)
      have HRR := hZ (fun (b : Bool) (hb : b = true ↔ (ins = (cols g : Nat) ∧ outs.length = g.length ∧ ∀ i j, i < g.length → j < cols g → AtEq (outsF outs h) g d i j)) => (show IsRes ins regs code outs g d b 0 from .inr ⟨HD0.out, hp, h, he, rfl, hb⟩))
      obtain ⟨F, hF⟩ : ∃ F, outsF outs h = F := ⟨_, rfl⟩
      rw [hF] at RC HF HFL HRR
      obtain ⟨O, hO⟩ : ∃ O, outs.length = O := ⟨_, rfl⟩
      have HO := hZ hO
      have hO1 := hp.o1
      have hO2 := hp.o2
      have hi1 := hp.i1
      have hi2 := hp.i2
      have hr1 := hp.r1
      rw [hO] at hO1 hO2 HRR
      have CC := hZ (fun V (q : Below w.heap.size w V) => (HM.out.keep q).colsC rfl)
      have RW := hZ (fun V => rowsM_c ma g.length mc V)
      obtain ⟨cg, hcg⟩ : ∃ x, cols g = x := ⟨_, rfl⟩
      obtain ⟨rg, hrg⟩ : ∃ x, g.length = x := ⟨_, rfl⟩
      have HCG := hZ (And.intro hcg hrg)
      rw [hcg, hrg] at HRR
      rw [hrg] at RW
      rw [hcg] at CC
      rw [hrg] at CC
      clear hp he hF hcg hO hrg
      go_enter Tryz.func44, Tryz.ntmps44
      go_wp2_with fail
      (with_reducible refine (SC.out _ ?_).mono ?_); (repeat (first|exact bzR _ _|exact hB|refine bzD ?_|refine bzN ?_|refine bzS ?_|refine bzA ?_))
      rintro e w1 ⟨rfl, hb1⟩
      have p0 : w1.cell? ⟨w.heap.size, 0, none⟩ = some (.int .i64 ins) := bkc hb1
      have zp0 := cell_lt p0
      have p1 : w1.cell? ⟨w.heap.size, 1, none⟩ = some (.int .i64 regs) := bkc hb1
      have p2 : w1.cell? ⟨w.heap.size, 2, none⟩ = some (.slice ca code.length cc) := bkc hb1
      have p3 : w1.cell? ⟨w.heap.size, 3, none⟩ = some (.slice oa outs.length oc) := bkc hb1
      have m0 : w1.cell? ⟨w.heap.size + 1, 0, none⟩ = some (.slice ma g.length mc) := bkc hb1
      have zm0 := cell_lt m0
      have e0 : w1.cell? ⟨w.heap.size + 1 + 1, 0, none⟩ = some (.bool dn) := bkc hb1
      have ze0 := cell_lt e0
      have e1 : w1.cell? ⟨w.heap.size + 1 + 1, 1, none⟩ = some (.slice da dl dc) := bkc hb1
      have hB : Below w.heap.size w w1 := bthen bZ hb1
      have hz := hB.size
      clear SC
      go_wp2_with fail
      (with_reducible refine (RC.out _ ?_).mono ?_); (repeat (first|exact bzR _ _|exact hB|refine bzD ?_|refine bzN ?_|refine bzS ?_|refine bzA ?_))
      rintro e w2 ⟨⟨v2, rfl, hv2⟩, hb2⟩
      have p0 : w2.cell? ⟨w.heap.size, 0, none⟩ = some (.int .i64 ins) := bkc hb2
      have zp0 := cell_lt p0
      have p1 : w2.cell? ⟨w.heap.size, 1, none⟩ = some (.int .i64 regs) := bkc hb2
      have p2 : w2.cell? ⟨w.heap.size, 2, none⟩ = some (.slice ca code.length cc) := bkc hb2
      have p3 : w2.cell? ⟨w.heap.size, 3, none⟩ = some (.slice oa outs.length oc) := bkc hb2
      have m0 : w2.cell? ⟨w.heap.size + 1, 0, none⟩ = some (.slice ma g.length mc) := bkc hb2
      have zm0 := cell_lt m0
      have e0 : w2.cell? ⟨w.heap.size + 1 + 1, 0, none⟩ = some (.bool dn) := bkc hb2
      have ze0 := cell_lt e0
      have e1 : w2.cell? ⟨w.heap.size + 1 + 1, 1, none⟩ = some (.slice da dl dc) := bkc hb2
      have hB : Below w.heap.size w w2 := bthen bZ hb2
      have hz := hB.size
      have HV2 := hZ (ownP_isL0 hv2)
      obtain ⟨a2, c2, rfl⟩ := hv2.ex
      rw [HFL.out, HO.out] at HV2 ⊢
      rw [HCG.out.2] at m0
      clear RC hv2 hb1 hb2
      have hBx := Below.refl w2.heap.size w2
      go_wp2
      refine wp_name fun w3 hW3 => ?_
      have p0 : w3.cell? ⟨w.heap.size, 0, none⟩ = some (.int .i64 ins) := bkn hW3
      have zp0 := cell_lt p0
      have m0 : w3.cell? ⟨w.heap.size + 1, 0, none⟩ = some (.slice ma rg mc) := bkn hW3
      have zm0 := cell_lt m0
      have e0 : w3.cell? ⟨w.heap.size + 1 + 1, 0, none⟩ = some (.bool dn) := bkn hW3
      have ze0 := cell_lt e0
      have e1 : w3.cell? ⟨w.heap.size + 1 + 1, 1, none⟩ = some (.slice da dl dc) := bkn hW3
      have hB : Below w.heap.size w w3 := by rw [hW3]; repeat (first|exact bzR _ _|exact hB|refine bzD ?_|refine bzN ?_|refine bzS ?_|refine bzA ?_)
      have hk3 : Below w2.heap.size w2 w3 := by rw [hW3]; repeat (first|exact bzR _ _|exact hBx|refine bzD ?_|refine bzN ?_|refine bzS ?_|refine bzA ?_)
      have hz := hB.size
      clear hW3
      by_cases hii : ins = (cg : Nat)
      · have d1 : (ins != ((cg : Nat) : Int)) = false := by simpa using hii
        by_cases hoo : O = rg
        · have d2 : (((O : Nat) : Int) != ((rg : Nat) : Int)) = false := by simp [hoo]
          have HRY := hZ (fun (b : Bool) (hb : b = true ↔ ∀ i j, i < rg → j < cg → AtEq F g d i j) => HRR.out b (hb.trans ⟨fun h => ⟨hii, hoo, h⟩, fun h => h.2.2⟩))
          have HGL := hZ (And.intro hii hoo)
          have hcg16 : cg ≤ 16 := by have h1 := HM.out.sz.2.2.2; rw [HCG.out.1] at h1; exact h1
          clear hii hoo
          refine wp_region_grow (w := w3) (by kernel_rfl) (by kernel_rfl) ?_
          have p0g : ∀ gs, (grow w3 gs).cell? ⟨w.heap.size, 0, none⟩ = some (.int .i64 ins) := fun gs => bkeep gs.below p0
          have m0g : ∀ gs, (grow w3 gs).cell? ⟨w.heap.size + 1, 0, none⟩ = some (.slice ma rg mc) := fun gs => bkeep gs.below m0
          have e0g : ∀ gs, (grow w3 gs).cell? ⟨w.heap.size + 1 + 1, 0, none⟩ = some (.bool dn) := fun gs => bkeep gs.below e0
          have e1g : ∀ gs, (grow w3 gs).cell? ⟨w.heap.size + 1 + 1, 1, none⟩ = some (.slice da dl dc) := fun gs => bkeep gs.below e1
          repeat (go_big_quiet_step ((first | (go_at_call 27; with_reducible exact grow_of (CC.out _ (bthen hB (Grows.below _)))) | (go_at_call 24; with_reducible exact grow_of (RW.out _)) | fail)))
          refine wpQuiet_nil ?_
          intro w4 hb4
          clear p0g
          clear m0g
          clear e0g
          clear e1g
          have p0 : w4.cell? ⟨w.heap.size, 0, none⟩ = some (.int .i64 ins) := bkc hb4
          have zp0 := cell_lt p0
          have m0 : w4.cell? ⟨w.heap.size + 1, 0, none⟩ = some (.slice ma rg mc) := bkc hb4
          have zm0 := cell_lt m0
          have e0 : w4.cell? ⟨w.heap.size + 1 + 1, 0, none⟩ = some (.bool dn) := bkc hb4
          have ze0 := cell_lt e0
          have e1 : w4.cell? ⟨w.heap.size + 1 + 1, 1, none⟩ = some (.slice da dl dc) := bkc hb4
          have hB : Below w.heap.size w w4 := bthen bZ hb4
          have hz := hB.size
          have h24 : Below w2.heap.size w2 w4 := bthen hk3 hb4
          have HV4 := hZ (HV2.out.keep (prs_frow 0) h24)
          have HB4 := hZ hB
          have HS := hZ (show ∀ V, Below w4.heap.size w4 V → V.cell? ⟨w.heap.size + 1, 0, none⟩ = some (.slice ma rg mc) ∧ V.cell? ⟨w.heap.size + 1 + 1, 0, none⟩ = some (.bool dn) ∧ V.cell? ⟨w.heap.size + 1 + 1, 1, none⟩ = some (.slice da dl dc) from fun V q => ⟨bkeep q m0, bkeep q e0, bkeep q e1⟩)
          have hB4 := Below.refl w4.heap.size w4
          clear d1 d2 hb4 hk3 h24 HV2 hBx CC RW hB
          go_wp2
          go_loopw [43] (fun x wr => ∃ i : Nat, i ≤ O ∧ x = .int .i64 i ∧ Below w4.heap.size w4 wr ∧ Hid (∀ s t, s < i → t < cg → AtEq F g d s t)) (fun x _ => O - (intOf x).toNat)
          case atStart => exact ⟨0, Nat.zero_le _, rfl, hB4, hZ (fun s t h => absurd h (by omega))⟩
          case round =>
           obtain ⟨i, hi, rfl, hBr, hE⟩ := hrel
           by_cases hlt : i < O
           · have hltI : (i : Int) < (O : Int) := by omega
             have hiF : i < F.length := by rw [HFL.out, HO.out]; exact hlt
             obtain ⟨a', c', e', -, hv⟩ := (HV4.out.keep (prs_frow 0) hBr).view
             obtain ⟨rfl, -, rfl⟩ := Value.slice.inj e'
             obtain ⟨gb, go, u, rfl, hu, hrow⟩ := hv i hiF
             have hgi : F[i] = F.getD i [] := by simp [hiF]
             rw [hgi] at hrow
             have hrl : (F.getD i []).length = cg := by rw [HF.out.1 i hiF]; have := HGL.out.1; omega
             have HRL := hZ hrl
             have HROW := hZ hrow
             obtain ⟨ra, rc, rfl⟩ := FrRow.ex hrow
             rw [hrl] at HROW hu
             have zu := cell_lt hu
             clear hv hgi hrow hrl e'
             go_wp2
             go_loopw [50] (fun x wq => ∃ j : Nat, j ≤ cg ∧ x = .int .i64 j ∧ Below wr.heap.size wr wq ∧ Hid (∀ t, t < j → AtEq F g d i t)) (fun x _ => cg - (intOf x).toNat)
             case atStart => exact ⟨0, Nat.zero_le _, rfl, Below.refl _ _, hZ (fun t h => absurd h (by omega))⟩
             case round =>
              rename World => wq
              obtain ⟨j, hj, rfl, hBq, hE2⟩ := hrel
              by_cases hlt2 : j < cg
              · have hltJ : (j : Int) < (cg : Int) := by omega
                have hrq := HROW.out.keep hBq
                obtain ⟨b, off, rfl, -, g1, y1, s1, t1, g2, y2, s2, t2, q0, q1, q2, q3, qI⟩ := FrRow.at hrq hlt2
                have HQ := hZ qI
                have zb := cell_lt q0
                clear qI
                go_upto_region 14 with (fail)
                refine wp_name fun w5 hW5 => ?_
                have hBz := Below.refl wq.heap.size wq
                have h5 : Below wq.heap.size wq w5 := by rw [hW5]; repeat (first|exact bzR _ _|exact hBz|refine bzD ?_|refine bzN ?_|refine bzS ?_|refine bzA ?_)
                have X0 : w5.cell? ⟨wq.heap.size, 0, none⟩ = some (.bool g1) ∧ w5.cell? ⟨wq.heap.size, 1, none⟩ = some (.slice y1 s1 t1) ∧ w5.cell? ⟨wq.heap.size, 2, none⟩ = some (.bool g2) ∧ w5.cell? ⟨wq.heap.size, 3, none⟩ = some (.slice y2 s2 t2) := by rw [hW5]; simp [go_sem]
                obtain ⟨x0, x1, x2, x3⟩ := X0
                have zx := cell_lt x0
                have HQ5 := hZ (HQ.out.keep h5)
                have h45 : Below w4.heap.size w4 w5 := bthen hBr (bthen hBq h5)
                have hBw5 : Below w.heap.size w w5 := bthen HB4.out h45
                have HX := hZ (show ∀ V, Below w5.heap.size w5 V → V.cell? ⟨wq.heap.size, 0, none⟩ = some (.bool g1) ∧ V.cell? ⟨wq.heap.size, 1, none⟩ = some (.slice y1 s1 t1) ∧ V.cell? ⟨wq.heap.size, 2, none⟩ = some (.bool g2) ∧ V.cell? ⟨wq.heap.size, 3, none⟩ = some (.slice y2 s2 t2) from fun V q => ⟨bkeep q x0, bkeep q x1, bkeep q x2, bkeep q x3⟩)
                obtain ⟨m0, e0, e1⟩ := HS.out w5 h45
                have zm := cell_lt m0
                have AT := hZ (fun V (q : Below w5.heap.size w5 V) => atY_c _ g i j V ((HM.out.keep (bthen hBw5 q)).m) HM.out.rc (by rw [HCG.out.2, ← HGL.out.2]; exact hlt) (by rw [HCG.out.1]; exact hlt2))
                rw [HCG.out.2] at AT
                have hB5 := Below.refl w5.heap.size w5
                have HBQ5 := hZ (bthen hBq h5)
                clear hW5 h5 hBq q0 q1 q2 q3 x0 x1 x2 x3
                go_wp2_with fail
                (with_reducible refine (AT.out _ ?_).mono ?_); (repeat (first|exact bzR _ _|exact hB5|refine bzD ?_|refine bzN ?_|refine bzS ?_|refine bzA ?_))
                rintro e w6 ⟨⟨n5, a5, l5, c5, rfl, hu5⟩, hb6⟩
                have h56 : Below w5.heap.size w5 w6 := bthen bZ hb6
                obtain ⟨m0, e0, e1⟩ := HS.out w6 (bthen h45 h56)
                have ze := cell_lt e0
                have HU5 := hZ hu5
                have MK := hZ (fun V (q : Below w6.heap.size w6 V) => pqMake_c _ _ (gat g i j) d K V (hu5.keep q) (HD.out.1.keep (bthen hBw5 (bthen h56 q))) (HM.out.bd i j) HD.out.2 (by omega) HD0.out)
                have hB6 := Below.refl w6.heap.size w6
                clear AT hb6 hu5 zm
                go_wp2_with fail
                (with_reducible refine (MK.out _ ?_).mono ?_); (repeat (first|exact bzR _ _|exact hB6|refine bzD ?_|refine bzN ?_|refine bzS ?_|refine bzA ?_))
                rintro e w7 ⟨⟨v7, rfl, hv7⟩, hb7⟩
                have h67 : Below w6.heap.size w6 w7 := bthen bZ hb7
                have h57 := bthen h56 h67
                obtain ⟨x0, x1, x2, x3⟩ := HX.out w7 h57
                have zx := cell_lt x0
                have CM := hZ (fun V (q : Below w7.heap.size w7 V) => pqCmp_c _ _ ((F.getD i []).getD j 0) (Rat.divInt (gat g i j) d) 65536 K V (HQ5.out.keep (bthen h57 q)) (hv7.keep q) (HF.out.2 i hiF j (by rw [HRL.out]; exact hlt2)) (dq_bd HD0.out (HM.out.bd i j) HD.out.2) (by omega))
                obtain ⟨m1, b1, p1', k1, m2, b2, p2', k2, rfl, -, -⟩ := hv7
                have hB7 := Below.refl w7.heap.size w7
                have hDQ := qdec ((F.getD i []).getD j 0) (Rat.divInt (gat g i j) d)
                obtain ⟨z, hz⟩ : ∃ z, cmpI (((F.getD i []).getD j 0).num * ((Rat.divInt (gat g i j) d).den : Int)) ((Rat.divInt (gat g i j) d).num * (((F.getD i []).getD j 0).den : Int)) = z := ⟨_, rfl⟩
                rw [hz] at CM hDQ
                clear MK hb7 m0 e0 e1 hz ze
                go_wp2_with fail
                (with_reducible refine (CM.out _ ?_).mono ?_); (repeat (first|exact bzR _ _|exact hB7|refine bzD ?_|refine bzN ?_|refine bzS ?_|refine bzA ?_))
                rintro e w8 ⟨rfl, hb8⟩
                have h78 : Below w7.heap.size w7 w8 := bthen bZ hb8
                have hB58 := bthen h57 h78
                clear CM hb8 x0 x1 x2 x3 zx
                by_cases hq : AtEq F g d i j
                · have hz0 : z = 0 := hDQ.2 hq
                  subst hz0
                  have HNX := hZ (show ∀ t, t < j + 1 → AtEq F g d i t from fun t ht => by
                   by_cases e : t = j
                   · rw [e]; exact hq
                   · exact hE2.out t (by omega))
                  clear hDQ hq
                  go_wp2
                  exact ⟨⟨j + 1, hlt2, by go_num, bthen HBQ5.out hB58, HNX⟩, meas hlt2 (by go_num) rfl⟩
                · have hzn : (z != 0) = true := by simpa using fun e => hq (hDQ.1 e)
                  have HR := hZ (HRY.out false ⟨fun h => (by cases h), fun h => absurd (h i j (by rw [← HGL.out.2]; exact hlt) hlt2) hq⟩)
                  have hBe := bthen hBw5 hB58
                  clear hDQ hq
                  go_wp2
                  refine bodyPost_ret (v := .tuple #[.bool false, .int .i64 0]) (by simp [results, Tryz.results44, go_sem]) rfl ⟨⟨_, _, rfl, HR.out⟩, hBe⟩
              · obtain rfl : j = cg := by omega
                have hltJ : ¬ (j : Int) < (j : Int) := by omega
                have HNX := hZ (show ∀ s t, s < i + 1 → t < j → AtEq F g d s t from fun s t hs ht => by
                 by_cases e : s = i
                 · rw [e]; exact hE2.out t ht
                 · exact hE.out s t (by omega) ht)
                have hBn := bthen hBr hBq
                go_wp2
                exact ⟨⟨i + 1, hlt, by go_num, hBn, HNX⟩, meas hlt (by go_num) rfl⟩
           · obtain rfl : i = O := by omega
             have hltI : ¬ (i : Int) < (i : Int) := by omega
             have HR := hZ (HRY.out true ⟨fun _ s t hs ht => hE.out s t (by rw [HGL.out.2]; exact hs) ht, fun _ => rfl⟩)
             have hBe := bthen HB4.out hBr
             go_wp2
             refine bodyPost_ret (v := .tuple #[.bool true, .int .i64 0]) (by simp [results, Tryz.results44, go_sem]) rfl ⟨⟨_, _, rfl, HR.out⟩, hBe⟩
        · have d2 : (((O : Nat) : Int) != ((rg : Nat) : Int)) = true := by simp; omega
          have HR := hZ (HRR.out false ⟨fun h => (by cases h), fun h => absurd h.2.1 hoo⟩)
          clear hii
          refine wp_region_grow (w := w3) (by kernel_rfl) (by kernel_rfl) ?_
          have p0g : ∀ gs, (grow w3 gs).cell? ⟨w.heap.size, 0, none⟩ = some (.int .i64 ins) := fun gs => bkeep gs.below p0
          have m0g : ∀ gs, (grow w3 gs).cell? ⟨w.heap.size + 1, 0, none⟩ = some (.slice ma rg mc) := fun gs => bkeep gs.below m0
          have e0g : ∀ gs, (grow w3 gs).cell? ⟨w.heap.size + 1 + 1, 0, none⟩ = some (.bool dn) := fun gs => bkeep gs.below e0
          have e1g : ∀ gs, (grow w3 gs).cell? ⟨w.heap.size + 1 + 1, 1, none⟩ = some (.slice da dl dc) := fun gs => bkeep gs.below e1
          repeat (go_big_quiet_step ((first | (go_at_call 27; with_reducible exact grow_of (CC.out _ (bthen hB (Grows.below _)))) | (go_at_call 24; with_reducible exact grow_of (RW.out _)) | fail)))
          refine wpQuiet_nil ?_
          intro w4 hb4
          clear p0g
          clear m0g
          clear e0g
          clear e1g
          have p0 : w4.cell? ⟨w.heap.size, 0, none⟩ = some (.int .i64 ins) := bkc hb4
          have zp0 := cell_lt p0
          have m0 : w4.cell? ⟨w.heap.size + 1, 0, none⟩ = some (.slice ma rg mc) := bkc hb4
          have zm0 := cell_lt m0
          have e0 : w4.cell? ⟨w.heap.size + 1 + 1, 0, none⟩ = some (.bool dn) := bkc hb4
          have ze0 := cell_lt e0
          have e1 : w4.cell? ⟨w.heap.size + 1 + 1, 1, none⟩ = some (.slice da dl dc) := bkc hb4
          have hB : Below w.heap.size w w4 := bthen bZ hb4
          have hz := hB.size
          go_wp2
          refine bodyPost_ret (v := .tuple #[.bool false, .int .i64 0]) (by simp [results, Tryz.results44, go_sem]) rfl ⟨⟨_, _, rfl, HR.out⟩, ?_⟩
          repeat exact bZ
      · have d1 : (ins != ((cg : Nat) : Int)) = true := by simpa using hii
        have HR := hZ (HRR.out false ⟨fun h => (by cases h), fun h => absurd h.1 hii⟩)
        clear hii
        refine wp_region_grow (w := w3) (by kernel_rfl) (by kernel_rfl) ?_
        have p0g : ∀ gs, (grow w3 gs).cell? ⟨w.heap.size, 0, none⟩ = some (.int .i64 ins) := fun gs => bkeep gs.below p0
        have m0g : ∀ gs, (grow w3 gs).cell? ⟨w.heap.size + 1, 0, none⟩ = some (.slice ma rg mc) := fun gs => bkeep gs.below m0
        have e0g : ∀ gs, (grow w3 gs).cell? ⟨w.heap.size + 1 + 1, 0, none⟩ = some (.bool dn) := fun gs => bkeep gs.below e0
        have e1g : ∀ gs, (grow w3 gs).cell? ⟨w.heap.size + 1 + 1, 1, none⟩ = some (.slice da dl dc) := fun gs => bkeep gs.below e1
        repeat (go_big_quiet_step ((first | (go_at_call 27; with_reducible exact grow_of (CC.out _ (bthen hB (Grows.below _)))) | (go_at_call 24; with_reducible exact grow_of (RW.out _)) | fail)))
        refine wpQuiet_nil ?_
        intro w4 hb4
        clear p0g
        clear m0g
        clear e0g
        clear e1g
        have p0 : w4.cell? ⟨w.heap.size, 0, none⟩ = some (.int .i64 ins) := bkc hb4
        have zp0 := cell_lt p0
        have m0 : w4.cell? ⟨w.heap.size + 1, 0, none⟩ = some (.slice ma rg mc) := bkc hb4
        have zm0 := cell_lt m0
        have e0 : w4.cell? ⟨w.heap.size + 1 + 1, 0, none⟩ = some (.bool dn) := bkc hb4
        have ze0 := cell_lt e0
        have e1 : w4.cell? ⟨w.heap.size + 1 + 1, 1, none⟩ = some (.slice da dl dc) := bkc hb4
        have hB : Below w.heap.size w w4 := bthen bZ hb4
        have hz := hB.size
        go_wp2
        refine bodyPost_ret (v := .tuple #[.bool false, .int .i64 0]) (by simp [results, Tryz.results44, go_sem]) rfl ⟨⟨_, _, rfl, HR.out⟩, ?_⟩
        repeat exact bZ
   · have HR := hZ (show IsRes ins regs code outs g d false 80 from .inl ⟨rfl, .inr (.inl ⟨HD0.out, hp, rfl⟩)⟩)
     have RC := hZ (fun V (q : Below w.heap.size w V) => rows_no (HC.out.1.keep q) (HC.out.2.keep q) hp)
     clear hp
     go_enter Tryz.func44, Tryz.ntmps44
     go_wp2_with fail
     (with_reducible refine (SC.out _ ?_).mono ?_); (repeat (first|exact bzR _ _|exact hB|refine bzD ?_|refine bzN ?_|refine bzS ?_|refine bzA ?_))
     rintro e w1 ⟨rfl, hb1⟩
     have p0 : w1.cell? ⟨w.heap.size, 0, none⟩ = some (.int .i64 ins) := bkc hb1
     have zp0 := cell_lt p0
     have p1 : w1.cell? ⟨w.heap.size, 1, none⟩ = some (.int .i64 regs) := bkc hb1
     have p2 : w1.cell? ⟨w.heap.size, 2, none⟩ = some (.slice ca code.length cc) := bkc hb1
     have p3 : w1.cell? ⟨w.heap.size, 3, none⟩ = some (.slice oa outs.length oc) := bkc hb1
     have m0 : w1.cell? ⟨w.heap.size + 1, 0, none⟩ = some (.slice ma g.length mc) := bkc hb1
     have zm0 := cell_lt m0
     have e0 : w1.cell? ⟨w.heap.size + 1 + 1, 0, none⟩ = some (.bool dn) := bkc hb1
     have ze0 := cell_lt e0
     have e1 : w1.cell? ⟨w.heap.size + 1 + 1, 1, none⟩ = some (.slice da dl dc) := bkc hb1
     have hB : Below w.heap.size w w1 := bthen bZ hb1
     have hz := hB.size
     clear SC
     go_wp2_with fail
     (with_reducible refine (RC.out _ ?_).mono ?_); (repeat (first|exact bzR _ _|exact hB|refine bzD ?_|refine bzN ?_|refine bzS ?_|refine bzA ?_))
     rintro e w2 ⟨rfl, hb2⟩
     have hB2 : Below w.heap.size w w2 := bthen bZ hb2
     clear RC hb2
     go_wp2
     refine bodyPost_ret (v := .tuple #[.bool false, .int .i64 80]) (by simp [results, Tryz.results44, go_sem]) rfl ⟨⟨_, _, rfl, HR.out⟩, ?_⟩
     repeat exact bZ
end
section
open Num
def AllEq (F : GridF) (g : Grid) (d : Int) (k : Nat) : Prop := ∀ i j, i < k → j < cols g → AtEq F g d i j
theorem AllEq.zero (F : GridF) (g : Grid) (d : Int) : AllEq F g d 0 := fun i j hi => absurd hi (by omega)
theorem AllEq.succ {F : GridF} {g : Grid} {d : Int} {k : Nat} (h : AllEq F g d k) (h1 : ∀ j, j < cols g → AtEq F g d k j) : AllEq F g d (k + 1) := fun i j hi hj => by
 by_cases e : i = k
 · subst e; exact h1 j hj
 · exact h i j (by omega) hj
theorem holds_det {ins regs : Int} {code : List Ins} {outs : List Int} {g : Grid} {d q q' : Int} {b : Bool} {base : Nat} {w' : World} {vs vo : Value} (hd : d ≠ 0) (h1 : IsRes ins regs code outs g d b q) (h2 : RowsRR ins regs code outs base w' vs vo q') :
 q = q' ∧ ((q' ≠ 0 ∧ b = false) ∨ (q' = 0 ∧ ∃ h, endF ins regs code = some h ∧ ProgOk ins regs code outs ∧ SetR base w' vo (outsF outs h) ∧ (b = true ↔ (ins = (cols g : Nat) ∧ outs.length = g.length ∧ AllEq (outsF outs h) g d g.length)))) := by
 rcases h2 with ⟨hp, rfl, -, -⟩ | ⟨hp, m, -, -, ⟨he, rfl, -⟩ | ⟨h, he, rfl, hs⟩⟩
 · rcases h1 with ⟨rfl, ⟨h0, -⟩ | ⟨-, -, rfl⟩ | ⟨-, h, -⟩⟩ | ⟨-, h, -⟩
   · exact absurd h0 hd
   · exact ⟨rfl, .inl ⟨by decide, rfl⟩⟩
   · exact absurd h hp
   · exact absurd h hp
 · rcases h1 with ⟨rfl, ⟨h0, -⟩ | ⟨-, h, -⟩ | ⟨-, -, -, rfl⟩⟩ | ⟨-, -, h, h', -⟩
   · exact absurd h0 hd
   · exact absurd hp h
   · exact ⟨rfl, .inl ⟨by decide, rfl⟩⟩
   · rw [he] at h'; cases h'
 · rcases h1 with ⟨-, ⟨h0, -⟩ | ⟨-, h, -⟩ | ⟨-, -, h', -⟩⟩ | ⟨-, -, h', e, rfl, hb⟩
   · exact absurd h0 hd
   · exact absurd hp h
   · rw [he] at h'; cases h'
   · rw [he] at e
     cases e
     exact ⟨rfl, .inr ⟨rfl, h, he, hp, hs, hb⟩⟩
theorem holds_zero {ins regs : Int} {code : List Ins} {outs : List Int} {g : Grid} {q : Int} {b : Bool} (h : IsRes ins regs code outs g 0 b q) : b = false ∧ q = 2 := by
 rcases h with ⟨rfl, ⟨-, rfl⟩ | ⟨h, -⟩ | ⟨h, -⟩⟩ | ⟨h, -⟩
 · exact ⟨rfl, rfl⟩
 · exact absurd rfl h
 · exact absurd rfl h
 · exact absurd rfl h
theorem fits_mt {g : Grid} {v : Value} {w : World} (h : fitsE g = 0) (hv : IsM 0 w v g) (hb : BdM 64 g) : Mt 64 g v w := by
 unfold fitsE at h
 split at h
 · exact absurd h (by decide)
 · split at h
   · exact absurd h (by decide)
   · split at h
     · rename_i h1 h2 h3
       exact ⟨hv, h3, ⟨by omega, by omega, by omega, by omega⟩, hb⟩
     · exact absurd h (by decide)
end
end Go.Proofs.YtbmaffijncapiaaGreatDoor
namespace Go.Proofs.YtbmaffijncapiaaGreatDoor
open Go.ChangeShapes Go.WideShapes Go.ChangeAt Go.RowKit Go.Joins Go.Deep
namespace bulks
theorem sum_le {H : Type} {α : Type} (f : α → DataW H) (n : α → Nat) : ∀ (l : List α), (∀ x ∈ l, n x + 1 ≤ Rows.uptoBulk (f x)) → (l.map n).sum + l.length ≤ Rows.uptoBulkAll (l.map f)
 | [], _ => by simp [Rows.uptoBulkAll]
 | x :: r, h => by
  have h1 := sum_le f n r (fun y hy => h y (List.mem_cons_of_mem _ hy))
  have h2 := h x (List.mem_cons_self ..)
  simp only [List.map_cons, List.sum_cons, List.length_cons, Rows.uptoBulkAll]; omega
end bulks
section
variable {H : Type} {enc : TypeId × Value → H} {P : Program} {w : World} {base : Nat} {spare : Nat → Bool} {held : Bool}
end
section
variable {H : Type} {enc : TypeId × Value → H} {W : World} {b0 : Nat} {r : Reach} {v : Value} {d : DataW H} {p : List MemPlace}
theorem open_i64rows (hv : Value.okWide Tryz.prog W r b0 85 v) (h : DataW.Trod enc Tryz.prog W 0 (fun _ => true) true 85 v d p) :
 ∃ g, GridI W v g ∧ sumG g + g.length ≤ Rows.uptoBulk d := by
 obtain ⟨a, n, cap, rfl⟩ := okWide_slice Tryz.underlying85 hv
 obtain ⟨fuel, hf⟩ := h
 rcases open_int_rows Tryz.underlying85 Tryz.underlying64 Tryz.underlying2 (by kernel_rfl) (by kernel_rfl) hf with ⟨hcs, hx⟩ | ⟨x, len, c, A, L, C, Z, hcs, _, hl, hm, hx, hr⟩
 · simp [Value.cells] at hcs
   obtain ⟨rfl, rfl, rfl⟩ := hcs
   exact ⟨[], ⟨_, _, rfl, fun k hk => absurd hk (by simp)⟩, by simp [sumG]⟩
 · simp [Value.cells] at hcs
   obtain ⟨rfl, rfl, rfl⟩ := hcs
   simp only [Prod.mk.injEq] at hx
   have hlen : ∀ r, r < n → ((Z r).take (L r)).length = L r := fun r hr' => by
    obtain ⟨_, h1, _, h2, _⟩ := hr r (by omega)
    rw [List.length_take]; omega
   refine ⟨(List.range n).map fun r => (Z r).take (L r), ⟨_, _, by rw [List.length_map, List.length_range], fun k hk => ?_⟩, ?_⟩
   · rw [List.length_map, List.length_range] at hk
     obtain ⟨h1, h2, h3, h4, h5, h6, h7⟩ := hr k (by omega)
     obtain ⟨b, o, rfl⟩ := plain_at (hr 0 (by omega)).1
     rw [add_plain] at h1
     refine ⟨b, o, _, rfl, h1, ?_⟩
     have e : ((List.range n).map fun r => (Z r).take (L r)).getD k [] = (Z k).take (L k) := by simp [hk]
     rw [e]
     refine ⟨A k, C k, by rw [hlen k hk], fun j hj => ?_⟩
     rw [hlen k hk] at hj
     cases hA : A k with
     | none => have := h6 hA; omega
     | some a' =>
      obtain ⟨_, h8⟩ := h7 a' hA
      have h9 := h8 j (by omega)
      obtain ⟨b', o', rfl⟩ := plain_at (h8 0 (by omega))
      rw [add_plain] at h9
      have e2 : ((Z k).take (L k)).getD j 0 = (Z k).getD j 0 := by
       rw [List.getD_eq_getElem?_getD, List.getD_eq_getElem?_getD, List.getElem?_take_of_lt hj]
      rw [e2]
      refine ⟨b', o', rfl, h9, ?_⟩
      refine i64_of (h5 _ ?_)
      rw [List.getD_eq_getElem?_getD, List.getElem?_eq_getElem (by omega)]
      exact List.getElem_mem _
   · rw [hx.1]
     have h0 : ∀ r ∈ List.range n, L r + 1 ≤ Rows.uptoBulk (intRow (H := H) .i64 (A r) (L r) (Z r)) := fun r hr' => by
      have hr2 : r < n := by simpa using hr'
      obtain ⟨h1, h2, h3, h4, h5, h6, h7⟩ := hr r (by omega)
      cases hA : A r with
      | none => have := h6 hA; simp [intRow, Rows.uptoBulk]; omega
      | some a' =>
       have := bulks.length_le (H := H) (lits .i64 ((Z r).take (L r)))
       simp only [lits, List.length_map, List.length_take] at this
       simp only [intRow, Rows.uptoBulk, lits]
       omega
     have h1 := bulks.sum_le (fun r => intRow (H := H) .i64 (A r) (L r) (Z r)) L (List.range n) h0
     have h2 : sumG ((List.range n).map fun r => (Z r).take (L r)) = ((List.range n).map L).sum := by
      unfold sumG
      rw [List.map_map]
      congr 1
      apply List.map_congr_left
      intro r hr'
      exact hlen r (by simpa using hr')
     simp only [Rows.uptoBulk]
     rw [h2, List.length_map, List.length_range]
     rw [List.length_range] at h1
     omega
end
end Go.Proofs.YtbmaffijncapiaaGreatDoor
namespace Go.Proofs.YtbmaffijncapiaaGreatDoor
open Go.ChangeShapes Go.WideShapes Go.ChangeAt Go.RowKit Go.Joins Go.Deep
section
variable {H : Type} {enc : TypeId × Value → H} {W : World} {b0 : Nat} {r : Reach} {v : Value} {d : DataW H} {p : List MemPlace}
end
theorem open_i64k {H : Type} {enc : TypeId × Value → H} {W : World} {base b0 : Nat} {r : Reach} {spare : Nat → Bool} {held : Bool} {v : Value} {d : DataW H} {p : List MemPlace}
 (hv : Value.okWide Tryz.prog W r b0 2 v) (h : DataW.Trod enc Tryz.prog W base spare held 2 v d p) :
 ∃ a : Int, v = .int .i64 a ∧ (Lit.int .i64 a).wf = true := by
 obtain ⟨x, rfl, rfl, rfl, wx⟩ := open_int Tryz.underlying2 hv h
 exact ⟨x, rfl, wx⟩
end Go.Proofs.YtbmaffijncapiaaGreatDoor
