/- Texts of this seat, laid together: RxE, RxF, Rnj, DnH, DnI, DwA, DwC. What each theorem proves, and under which conditions, its statement says. -/
import Derived.Test.YtbmaffijncapiaaGreatDoorS24
set_option maxRecDepth 100000
set_option maxHeartbeats 32000000
set_option linter.unusedVariables false
set_option linter.unusedSimpArgs false
namespace Go.Proofs.YtbmaffijncapiaaGreatDoor
open Go.ChangeShapes Go.WideShapes Go.ChangeAt Go.RowKit
section
open Num
attribute [local go_sem ↓] Go.wp_at_zero Go.wp_at_succ
theorem rows_ne {g h : GridF} {i : Nat} (e : g.getD i [] ≠ h.getD i []) : g ≠ h := fun k => e (by rw [k])
theorem rows_eq {g h : GridF} (hl : g.length = h.length) (e : ∀ i, i < g.length → g.getD i [] = h.getD i []) : g = h := by
 apply List.ext_getElem hl
 intro i h1 h2
 have := e i h1
 simpa [h1, h2] using this
theorem row_eqQ {a b : List Rat} (hl : a.length = b.length) (e : ∀ i, i < a.length → a.getD i 0 = b.getD i 0) : a = b := by
 apply List.ext_getElem hl
 intro i h1 h2
 have := e i h1
 simpa [h1, h2] using this
def AlikeP (g h : GridF) (w : World) (e : Ending) (w' : World) : Prop := (∃ b : Bool, e = .returned (.bool b) ∧ (b = true ↔ g = h)) ∧ Below w.heap.size w w'
theorem AlikeP.no {g h : GridF} {w w' : World} (hn : ¬ g = h) (hb : Below w.heap.size w w') : AlikeP g h w (.returned (.bool false)) w' := ⟨⟨false, rfl, by simp [hn]⟩, hb⟩
theorem AlikeP.yes {g h : GridF} {w w' : World} (hn : g = h) (hb : Below w.heap.size w w') : AlikeP g h w (.returned (.bool true)) w' := ⟨⟨true, rfl, by simp [hn]⟩, hb⟩
theorem rAlike_c (va vb : Value) (g h : GridF) (b1 b2 : Nat) (w : World) (ha : SetR b1 w va g) (hb : SetR b2 w vb h) (hl1 : g.length ≤ 1000000) (hw : ∀ i, i < g.length → (g.getD i []).length ≤ 1000000) :
 Calls Tryz.prog 121 #[va, vb] w (AlikeP g h w) := by
 obtain ⟨aa, ac, rfl⟩ := ha.ex
 obtain ⟨ba, bc, rfl⟩ := hb.ex
 have HA := hZ ha
 have HBB := hZ hb
 have HW := hZ hw
 have hB := Below.refl w.heap.size w
 clear ha hb hw
 by_cases hl : g.length = h.length
 rotate_left
 · have d0 : ((g.length : Int) != (h.length : Int)) = true := by simp; omega
   have HD := hZ (show ¬ g = h from fun e => hl (by rw [e]))
   clear hl
   go_enter Tryz.func121, Tryz.ntmps121
   go_wp2
   go_ret
   exact AlikeP.no HD.out hB
 have HL := hZ hl
 obtain ⟨n, hn⟩ : ∃ n, g.length = n := ⟨_, rfl⟩
 have HN := hZ hn
 rw [← hl, hn]
 rw [hn] at hl1
 have d0 : ((n : Int) != (n : Int)) = false := by simp
 clear hl hn
 go_enter Tryz.func121, Tryz.ntmps121
 go_wp2
 go_loopw [5] (fun x wr => ∃ i : Nat, i ≤ n ∧ x = .int .i64 i ∧ Below w.heap.size w wr ∧ Hid (∀ k, k < i → g.getD k [] = h.getD k [])) (fun x _ => n - (intOf x).toNat)
 case atStart => exact ⟨0, Nat.zero_le _, rfl, hB, hZ (fun k hk => absurd hk (by omega))⟩
 case round =>
  obtain ⟨i, hi, rfl, hBr, hE⟩ := hrel
  by_cases hlt : i < n
  · have hltI : (i : Int) < (n : Int) := by omega
    obtain ⟨ga, gac, e1, -, -, -, -, hca⟩ := (HA.out.keep hBr).view (by rw [HN.out]; omega)
    obtain ⟨gb, gbc, e2, -, -, -, -, hcb⟩ := (HBB.out.keep hBr).view (by rw [← HL.out, HN.out]; omega)
    obtain ⟨rfl, -, rfl⟩ := Value.slice.inj e1
    obtain ⟨rfl, -, rfl⟩ := Value.slice.inj e2
    obtain ⟨ua, xa, hra⟩ := hca i (by rw [HN.out]; exact hlt)
    obtain ⟨ub, xb, hrb⟩ := hcb i (by rw [← HL.out, HN.out]; exact hlt)
    have hwi := HW.out i (by rw [HN.out]; exact hlt)
    obtain ⟨ra, rac, rfl⟩ := FrRow.ex hra
    obtain ⟨rb, rbc, rfl⟩ := FrRow.ex hrb
    have HNE := hZ (fun e : g.getD i [] ≠ h.getD i [] => rows_ne e)
    have HEI := hZ (show g.getD i [] = h.getD i [] → ∀ k, k < i + 1 → g.getD k [] = h.getD k [] from fun e k hk => by
     by_cases e2 : k = i
     · subst e2; exact e
     · exact hE.out k (by omega))
    obtain ⟨A, hA⟩ : ∃ A, g.getD i [] = A := ⟨_, rfl⟩
    obtain ⟨B, hBq⟩ : ∃ B, h.getD i [] = B := ⟨_, rfl⟩
    rw [hA] at hra xa hwi HNE HEI
    rw [hBq] at hrb xb HNE HEI
    have HRA := hZ hra
    have HRB := hZ hrb
    have zxa := cell_lt xa
    have zxb := cell_lt xb
    clear hca hcb e1 e2 hra hrb hA hBq
    by_cases hlr : A.length = B.length
    rotate_left
    · have d1 : ((A.length : Int) != (B.length : Int)) = true := by simp; omega
      have HD := hZ (HNE.out fun e => hlr (by rw [e]))
      clear hlr
      go_wp2
      go_quiet (fail)
      go_wp2
      go_ret
      exact AlikeP.no HD.out bZ
    have HLR := hZ hlr
    obtain ⟨m, hm⟩ : ∃ m, A.length = m := ⟨_, rfl⟩
    have HM := hZ hm
    rw [hm] at xa HRA hwi
    rw [← hlr, hm] at xb HRB
    have d1 : ((m : Int) != (m : Int)) = false := by simp
    clear hlr hm
    have HXA := hZ (show ∀ V, Below wr.heap.size wr V → V.cell? ⟨ga, i, none⟩ = some (.slice ra m rac) ∧ V.cell? ⟨gb, i, none⟩ = some (.slice rb m rbc) from fun V q => ⟨bkeep q xa, bkeep q xb⟩)
    have hrr := Below.refl wr.heap.size wr
    go_wp2
    go_quiet (fail)
    go_wp2
    go_loopw [6] (fun x wq => ∃ j : Nat, j ≤ m ∧ x = .int .i64 j ∧ Below wr.heap.size wr wq ∧ Hid (∀ k, k < j → A.getD k 0 = B.getD k 0)) (fun x _ => m - (intOf x).toNat)
    case atStart => exact ⟨0, Nat.zero_le _, rfl, by repeat exact bZ, hZ (fun k hk => absurd hk (by omega))⟩
    case round =>
     rename World => w5
     obtain ⟨j, hj, rfl, hBj, hEj⟩ := hrel
     obtain ⟨xa, xb⟩ := HXA.out w5 hBj
     have zxa := cell_lt xa
     have zxb := cell_lt xb
     by_cases hlt2 : j < m
     · have hltJ : (j : Int) < (m : Int) := by omega
       obtain ⟨pa, po, rfl, -, g1, gy1, s1, t1, g2, gy2, s2, t2, x0, x1, x2, x3, xI⟩ := FrRow.at (HRA.out.keep hBj) hlt2
       obtain ⟨pb, qo, rfl, -, e1, ey1, es1, et1, e2, ey2, es2, et2, y0, y1, y2, y3, yI⟩ := FrRow.at (HRB.out.keep hBj) hlt2
       have HXI := hZ xI
       have HYI := hZ yI
       have HEN := hZ (show A.getD j 0 = B.getD j 0 → ∀ k, k < j + 1 → A.getD k 0 = B.getD k 0 from fun e k hk => by
        by_cases e2 : k = j
        · subst e2; exact e
        · exact hEj.out k (by omega))
       have HNJ := hZ (show A.getD j 0 ≠ B.getD j 0 → ¬ g = h from fun e => HNE.out fun k => e (by rw [k]))
       obtain ⟨x, hx⟩ : ∃ x, A.getD j 0 = x := ⟨_, rfl⟩
       obtain ⟨y, hy⟩ : ∃ y, B.getD j 0 = y := ⟨_, rfl⟩
       rw [hx] at HXI HEN HNJ
       rw [hy] at HYI HEN HNJ
       have SM := hZ (fun V (k : Below w5.heap.size w5 V) => rqSame_c (.agg #[.bool g1, .slice gy1 s1 t1, .bool g2, .slice gy2 s2 t2]) (.agg #[.bool e1, .slice ey1 es1 et1, .bool e2, .slice ey2 es2 et2]) x y V (HXI.out.keep k) (HYI.out.keep k))
       have hB := bthen hBr hBj
       have zx0 := cell_lt x0
       have zy0 := cell_lt y0
       clear xI yI hx hy
       by_cases hxy : x = y
       · rw [decide_eq_true hxy] at SM
         have HEN1 := hZ (HEN.out hxy)
         clear hxy
         go_wp2
         refine wp_region_grow (w := w5) (by kernel_rfl) (by kernel_rfl) ?_
         have xag : ∀ gs, (grow w5 gs).cell? ⟨ga, i, none⟩ = some (.slice (some ⟨pa, po, none⟩) m rac) := fun gs => bkeep gs.below xa
         have x0g : ∀ gs, (grow w5 gs).cell? ⟨pa, po + j * 4, none⟩ = some (.bool g1) := fun gs => bkeep gs.below x0
         have x1g : ∀ gs, (grow w5 gs).cell? ⟨pa, po + j * 4 + 1, none⟩ = some (.slice gy1 s1 t1) := fun gs => bkeep gs.below x1
         have x2g : ∀ gs, (grow w5 gs).cell? ⟨pa, po + j * 4 + 2, none⟩ = some (.bool g2) := fun gs => bkeep gs.below x2
         have x3g : ∀ gs, (grow w5 gs).cell? ⟨pa, po + j * 4 + 3, none⟩ = some (.slice gy2 s2 t2) := fun gs => bkeep gs.below x3
         have xbg : ∀ gs, (grow w5 gs).cell? ⟨gb, i, none⟩ = some (.slice (some ⟨pb, qo, none⟩) m rbc) := fun gs => bkeep gs.below xb
         have y0g : ∀ gs, (grow w5 gs).cell? ⟨pb, qo + j * 4, none⟩ = some (.bool e1) := fun gs => bkeep gs.below y0
         have y1g : ∀ gs, (grow w5 gs).cell? ⟨pb, qo + j * 4 + 1, none⟩ = some (.slice ey1 es1 et1) := fun gs => bkeep gs.below y1
         have y2g : ∀ gs, (grow w5 gs).cell? ⟨pb, qo + j * 4 + 2, none⟩ = some (.bool e2) := fun gs => bkeep gs.below y2
         have y3g : ∀ gs, (grow w5 gs).cell? ⟨pb, qo + j * 4 + 3, none⟩ = some (.slice ey2 es2 et2) := fun gs => bkeep gs.below y3
         repeat (go_big_quiet_step ((first | (go_at_call 47; with_reducible exact grow_of (SM.out _ (Grows.below _))) | fail)))
         refine wpQuiet_nil ?_
         intro w6 hb6
         clear xag
         clear x0g
         clear x1g
         clear x2g
         clear x3g
         clear xbg
         clear y0g
         clear y1g
         clear y2g
         clear y3g
         have xa : w6.cell? ⟨ga, i, none⟩ = some (.slice (some ⟨pa, po, none⟩) m rac) := bkc hb6
         have zxa := cell_lt xa
         have x0 : w6.cell? ⟨pa, po + j * 4, none⟩ = some (.bool g1) := bkc hb6
         have zx0 := cell_lt x0
         have x1 : w6.cell? ⟨pa, po + j * 4 + 1, none⟩ = some (.slice gy1 s1 t1) := bkc hb6
         have x2 : w6.cell? ⟨pa, po + j * 4 + 2, none⟩ = some (.bool g2) := bkc hb6
         have x3 : w6.cell? ⟨pa, po + j * 4 + 3, none⟩ = some (.slice gy2 s2 t2) := bkc hb6
         have xb : w6.cell? ⟨gb, i, none⟩ = some (.slice (some ⟨pb, qo, none⟩) m rbc) := bkc hb6
         have zxb := cell_lt xb
         have y0 : w6.cell? ⟨pb, qo + j * 4, none⟩ = some (.bool e1) := bkc hb6
         have zy0 := cell_lt y0
         have y1 : w6.cell? ⟨pb, qo + j * 4 + 1, none⟩ = some (.slice ey1 es1 et1) := bkc hb6
         have y2 : w6.cell? ⟨pb, qo + j * 4 + 2, none⟩ = some (.bool e2) := bkc hb6
         have y3 : w6.cell? ⟨pb, qo + j * 4 + 3, none⟩ = some (.slice ey2 es2 et2) := bkc hb6
         have hB : Below w.heap.size w w6 := bthen bZ hb6
         have hz := hB.size
         have hBn := bthen hBj hb6
         go_wp2
         exact ⟨⟨j + 1, hlt2, by go_num, hBn, HEN1⟩, meas hlt2 (by go_num) rfl⟩
       · rw [decide_eq_false hxy] at SM
         have HD := hZ (HNJ.out hxy)
         clear hxy
         go_wp2
         refine wp_region_grow (w := w5) (by kernel_rfl) (by kernel_rfl) ?_
         have xag : ∀ gs, (grow w5 gs).cell? ⟨ga, i, none⟩ = some (.slice (some ⟨pa, po, none⟩) m rac) := fun gs => bkeep gs.below xa
         have x0g : ∀ gs, (grow w5 gs).cell? ⟨pa, po + j * 4, none⟩ = some (.bool g1) := fun gs => bkeep gs.below x0
         have x1g : ∀ gs, (grow w5 gs).cell? ⟨pa, po + j * 4 + 1, none⟩ = some (.slice gy1 s1 t1) := fun gs => bkeep gs.below x1
         have x2g : ∀ gs, (grow w5 gs).cell? ⟨pa, po + j * 4 + 2, none⟩ = some (.bool g2) := fun gs => bkeep gs.below x2
         have x3g : ∀ gs, (grow w5 gs).cell? ⟨pa, po + j * 4 + 3, none⟩ = some (.slice gy2 s2 t2) := fun gs => bkeep gs.below x3
         have xbg : ∀ gs, (grow w5 gs).cell? ⟨gb, i, none⟩ = some (.slice (some ⟨pb, qo, none⟩) m rbc) := fun gs => bkeep gs.below xb
         have y0g : ∀ gs, (grow w5 gs).cell? ⟨pb, qo + j * 4, none⟩ = some (.bool e1) := fun gs => bkeep gs.below y0
         have y1g : ∀ gs, (grow w5 gs).cell? ⟨pb, qo + j * 4 + 1, none⟩ = some (.slice ey1 es1 et1) := fun gs => bkeep gs.below y1
         have y2g : ∀ gs, (grow w5 gs).cell? ⟨pb, qo + j * 4 + 2, none⟩ = some (.bool e2) := fun gs => bkeep gs.below y2
         have y3g : ∀ gs, (grow w5 gs).cell? ⟨pb, qo + j * 4 + 3, none⟩ = some (.slice ey2 es2 et2) := fun gs => bkeep gs.below y3
         repeat (go_big_quiet_step ((first | (go_at_call 47; with_reducible exact grow_of (SM.out _ (Grows.below _))) | fail)))
         refine wpQuiet_nil ?_
         intro w6 hb6
         clear xag
         clear x0g
         clear x1g
         clear x2g
         clear x3g
         clear xbg
         clear y0g
         clear y1g
         clear y2g
         clear y3g
         have xa : w6.cell? ⟨ga, i, none⟩ = some (.slice (some ⟨pa, po, none⟩) m rac) := bkc hb6
         have zxa := cell_lt xa
         have x0 : w6.cell? ⟨pa, po + j * 4, none⟩ = some (.bool g1) := bkc hb6
         have zx0 := cell_lt x0
         have x1 : w6.cell? ⟨pa, po + j * 4 + 1, none⟩ = some (.slice gy1 s1 t1) := bkc hb6
         have x2 : w6.cell? ⟨pa, po + j * 4 + 2, none⟩ = some (.bool g2) := bkc hb6
         have x3 : w6.cell? ⟨pa, po + j * 4 + 3, none⟩ = some (.slice gy2 s2 t2) := bkc hb6
         have xb : w6.cell? ⟨gb, i, none⟩ = some (.slice (some ⟨pb, qo, none⟩) m rbc) := bkc hb6
         have zxb := cell_lt xb
         have y0 : w6.cell? ⟨pb, qo + j * 4, none⟩ = some (.bool e1) := bkc hb6
         have zy0 := cell_lt y0
         have y1 : w6.cell? ⟨pb, qo + j * 4 + 1, none⟩ = some (.slice ey1 es1 et1) := bkc hb6
         have y2 : w6.cell? ⟨pb, qo + j * 4 + 2, none⟩ = some (.bool e2) := bkc hb6
         have y3 : w6.cell? ⟨pb, qo + j * 4 + 3, none⟩ = some (.slice ey2 es2 et2) := bkc hb6
         have hB : Below w.heap.size w w6 := bthen bZ hb6
         have hz := hB.size
         go_wp2
         go_ret
         exact AlikeP.no HD.out bZ
     · obtain rfl : j = m := by omega
       have hltJ : ¬ (j : Int) < (j : Int) := by omega
       have HEI1 := hZ (HEI.out (row_eqQ HLR.out (fun k hk => by rw [HM.out] at hk; exact hEj.out k hk)))
       have hBn := bthen hBr hBj
       go_wp2
       exact ⟨⟨i + 1, hlt, by go_num, hBn, HEI1⟩, meas hlt (by go_num) rfl⟩
  · obtain rfl : i = n := by omega
    have hltI : ¬ (i : Int) < (i : Int) := by omega
    have HD := hZ (rows_eq HL.out (fun k hk => by rw [HN.out] at hk; exact hE.out k hk))
    go_wp2
    go_ret
    exact AlikeP.yes HD.out bZ
end
section
open Num
attribute [local go_sem ↓] Go.wp_at_zero Go.wp_at_succ
theorem RowsRR.yes {ins regs : Int} {code : List Ins} {outs : List Int} {base : Nat} {w : World} {vs vo : Value} {q : Int} (hp : ProgOk ins regs code outs) (h : RowsRR ins regs code outs base w vs vo q) : (endF ins regs code = none ∧ q = 3 ∧ vo = .slice none 0 0) ∨ ∃ h, endF ins regs code = some h ∧ q = 0 ∧ SetR base w vo (outsF outs h) := by
 rcases h with ⟨h, -⟩ | ⟨-, m, -, -, h⟩
 · exact absurd hp h
 · exact h
theorem rSame_c (ins regs : Int) (ca oa : Option Addr) (cc oc : Nat) (code : List Ins) (outs : List Int) (ins' regs' : Int) (ca' oa' : Option Addr) (cc' oc' : Nat) (code' : List Ins) (outs' : List Int) (w : World) (hc : InsV w ca cc code) (ho : IntsV w oa oc outs) (hc' : InsV w ca' cc' code') (ho' : IntsV w oa' oc' outs') :
 Calls Tryz.prog 36 #[.agg #[.int .i64 ins, .int .i64 regs, .slice ca code.length cc, .slice oa outs.length oc], .agg #[.int .i64 ins', .int .i64 regs', .slice ca' code'.length cc', .slice oa' outs'.length oc']] w (SamePost ins regs code outs ins' regs' code' outs' w) := by
 have HC := hZ (And.intro hc ho)
 have HD := hZ (And.intro hc' ho')
 have hB := Below.refl w.heap.size w
 clear hc ho hc' ho'
 by_cases hp : ProgOk ins regs code outs
 rotate_left
 · have RP := hZ (fun V (q : Below w.heap.size w V) => right_noR (HC.out.1.keep q) (HC.out.2.keep q) hp)
   have HR := hZ (show SameRes ins regs code outs ins' regs' code' outs' false 80 from .inl ⟨fun h => hp h.1, rfl, rfl⟩)
   clear hp
   go_enter Tryz.func36, Tryz.ntmps36
   go_wp2_with fail
   (with_reducible refine (RP.out _ ?_).mono ?_); (repeat exact bZ)
   rintro e w1 ⟨rfl, hb1⟩
   have p0 : w1.cell? ⟨w.heap.size, 0, none⟩ = some (.int .i64 ins) := bkc hb1
   have zp0 := cell_lt p0
   have p1 : w1.cell? ⟨w.heap.size, 1, none⟩ = some (.int .i64 regs) := bkc hb1
   have p2 : w1.cell? ⟨w.heap.size, 2, none⟩ = some (.slice ca code.length cc) := bkc hb1
   have p3 : w1.cell? ⟨w.heap.size, 3, none⟩ = some (.slice oa outs.length oc) := bkc hb1
   have r0 : w1.cell? ⟨w.heap.size + 1, 0, none⟩ = some (.int .i64 ins') := bkc hb1
   have zr0 := cell_lt r0
   have r1 : w1.cell? ⟨w.heap.size + 1, 1, none⟩ = some (.int .i64 regs') := bkc hb1
   have r2 : w1.cell? ⟨w.heap.size + 1, 2, none⟩ = some (.slice ca' code'.length cc') := bkc hb1
   have r3 : w1.cell? ⟨w.heap.size + 1, 3, none⟩ = some (.slice oa' outs'.length oc') := bkc hb1
   have hB : Below w.heap.size w w1 := bthen bZ hb1
   have hz := hB.size
   clear RP hb1
   go_wp2
   refine bodyPost_ret (v := .tuple #[.bool false, .int .i64 80]) (by simp [results, Tryz.results36, go_sem]) rfl ⟨⟨_, _, rfl, HR.out⟩, ?_⟩
   repeat exact bZ
 have RP := hZ (fun V (q : Below w.heap.size w V) => right_yesR (HC.out.1.keep q) (HC.out.2.keep q) hp)
 by_cases hq : ProgOk ins' regs' code' outs'
 rotate_left
 · have RQ := hZ (fun V (q : Below w.heap.size w V) => right_noR (HD.out.1.keep q) (HD.out.2.keep q) hq)
   have HR := hZ (show SameRes ins regs code outs ins' regs' code' outs' false 80 from .inl ⟨fun h => hq h.2, rfl, rfl⟩)
   clear hp hq
   go_enter Tryz.func36, Tryz.ntmps36
   go_wp2_with fail
   (with_reducible refine (RP.out _ ?_).mono ?_); (repeat exact bZ)
   rintro e w1 ⟨rfl, hb1⟩
   have p0 : w1.cell? ⟨w.heap.size, 0, none⟩ = some (.int .i64 ins) := bkc hb1
   have zp0 := cell_lt p0
   have p1 : w1.cell? ⟨w.heap.size, 1, none⟩ = some (.int .i64 regs) := bkc hb1
   have p2 : w1.cell? ⟨w.heap.size, 2, none⟩ = some (.slice ca code.length cc) := bkc hb1
   have p3 : w1.cell? ⟨w.heap.size, 3, none⟩ = some (.slice oa outs.length oc) := bkc hb1
   have r0 : w1.cell? ⟨w.heap.size + 1, 0, none⟩ = some (.int .i64 ins') := bkc hb1
   have zr0 := cell_lt r0
   have r1 : w1.cell? ⟨w.heap.size + 1, 1, none⟩ = some (.int .i64 regs') := bkc hb1
   have r2 : w1.cell? ⟨w.heap.size + 1, 2, none⟩ = some (.slice ca' code'.length cc') := bkc hb1
   have r3 : w1.cell? ⟨w.heap.size + 1, 3, none⟩ = some (.slice oa' outs'.length oc') := bkc hb1
   have hB : Below w.heap.size w w1 := bthen bZ hb1
   have hz := hB.size
   clear RP hb1
   go_wp2_with fail
   (with_reducible refine (RQ.out _ ?_).mono ?_); (repeat exact bZ)
   rintro e w2 ⟨rfl, hb2⟩
   have p0 : w2.cell? ⟨w.heap.size, 0, none⟩ = some (.int .i64 ins) := bkc hb2
   have zp0 := cell_lt p0
   have p1 : w2.cell? ⟨w.heap.size, 1, none⟩ = some (.int .i64 regs) := bkc hb2
   have p2 : w2.cell? ⟨w.heap.size, 2, none⟩ = some (.slice ca code.length cc) := bkc hb2
   have p3 : w2.cell? ⟨w.heap.size, 3, none⟩ = some (.slice oa outs.length oc) := bkc hb2
   have r0 : w2.cell? ⟨w.heap.size + 1, 0, none⟩ = some (.int .i64 ins') := bkc hb2
   have zr0 := cell_lt r0
   have r1 : w2.cell? ⟨w.heap.size + 1, 1, none⟩ = some (.int .i64 regs') := bkc hb2
   have r2 : w2.cell? ⟨w.heap.size + 1, 2, none⟩ = some (.slice ca' code'.length cc') := bkc hb2
   have r3 : w2.cell? ⟨w.heap.size + 1, 3, none⟩ = some (.slice oa' outs'.length oc') := bkc hb2
   have hB : Below w.heap.size w w2 := bthen bZ hb2
   have hz := hB.size
   clear RQ hb2
   go_wp2
   refine bodyPost_ret (v := .tuple #[.bool false, .int .i64 80]) (by simp [results, Tryz.results36, go_sem]) rfl ⟨⟨_, _, rfl, HR.out⟩, ?_⟩
   repeat exact bZ
 have RQ := hZ (fun V (q : Below w.heap.size w V) => right_yesR (HD.out.1.keep q) (HD.out.2.keep q) hq)
 have R1 := hZ (fun V (q : Below w.heap.size w V) => rRows_c ins regs ca oa cc oc code outs V (HC.out.1.keep q) (HC.out.2.keep q))
 have R2 := hZ (fun V (q : Below w.heap.size w V) => rRows_c ins' regs' ca' oa' cc' oc' code' outs' V (HD.out.1.keep q) (HD.out.2.keep q))
 have HPQ := hZ (And.intro hp hq)
 clear hp hq
 go_enter Tryz.func36, Tryz.ntmps36
 go_wp2_with fail
 (with_reducible refine (RP.out _ ?_).mono ?_); (repeat exact bZ)
 rintro e w1 ⟨rfl, hb1⟩
 have p0 : w1.cell? ⟨w.heap.size, 0, none⟩ = some (.int .i64 ins) := bkc hb1
 have zp0 := cell_lt p0
 have p1 : w1.cell? ⟨w.heap.size, 1, none⟩ = some (.int .i64 regs) := bkc hb1
 have p2 : w1.cell? ⟨w.heap.size, 2, none⟩ = some (.slice ca code.length cc) := bkc hb1
 have p3 : w1.cell? ⟨w.heap.size, 3, none⟩ = some (.slice oa outs.length oc) := bkc hb1
 have r0 : w1.cell? ⟨w.heap.size + 1, 0, none⟩ = some (.int .i64 ins') := bkc hb1
 have zr0 := cell_lt r0
 have r1 : w1.cell? ⟨w.heap.size + 1, 1, none⟩ = some (.int .i64 regs') := bkc hb1
 have r2 : w1.cell? ⟨w.heap.size + 1, 2, none⟩ = some (.slice ca' code'.length cc') := bkc hb1
 have r3 : w1.cell? ⟨w.heap.size + 1, 3, none⟩ = some (.slice oa' outs'.length oc') := bkc hb1
 have hB : Below w.heap.size w w1 := bthen bZ hb1
 have hz := hB.size
 clear RP hb1
 go_wp2_with fail
 (with_reducible refine (RQ.out _ ?_).mono ?_); (repeat exact bZ)
 rintro e w2 ⟨rfl, hb2⟩
 have p0 : w2.cell? ⟨w.heap.size, 0, none⟩ = some (.int .i64 ins) := bkc hb2
 have zp0 := cell_lt p0
 have p1 : w2.cell? ⟨w.heap.size, 1, none⟩ = some (.int .i64 regs) := bkc hb2
 have p2 : w2.cell? ⟨w.heap.size, 2, none⟩ = some (.slice ca code.length cc) := bkc hb2
 have p3 : w2.cell? ⟨w.heap.size, 3, none⟩ = some (.slice oa outs.length oc) := bkc hb2
 have r0 : w2.cell? ⟨w.heap.size + 1, 0, none⟩ = some (.int .i64 ins') := bkc hb2
 have zr0 := cell_lt r0
 have r1 : w2.cell? ⟨w.heap.size + 1, 1, none⟩ = some (.int .i64 regs') := bkc hb2
 have r2 : w2.cell? ⟨w.heap.size + 1, 2, none⟩ = some (.slice ca' code'.length cc') := bkc hb2
 have r3 : w2.cell? ⟨w.heap.size + 1, 3, none⟩ = some (.slice oa' outs'.length oc') := bkc hb2
 have hB : Below w.heap.size w w2 := bthen bZ hb2
 have hz := hB.size
 clear RQ hb2
 go_wp2_with fail
 (with_reducible refine (R1.out _ ?_).mono ?_); (repeat exact bZ)
 rintro e w3 ⟨⟨vs3, vo3, q3, rfl, h3⟩, hb3⟩
 have p0 : w3.cell? ⟨w.heap.size, 0, none⟩ = some (.int .i64 ins) := bkc hb3
 have zp0 := cell_lt p0
 have p1 : w3.cell? ⟨w.heap.size, 1, none⟩ = some (.int .i64 regs) := bkc hb3
 have p2 : w3.cell? ⟨w.heap.size, 2, none⟩ = some (.slice ca code.length cc) := bkc hb3
 have p3 : w3.cell? ⟨w.heap.size, 3, none⟩ = some (.slice oa outs.length oc) := bkc hb3
 have r0 : w3.cell? ⟨w.heap.size + 1, 0, none⟩ = some (.int .i64 ins') := bkc hb3
 have zr0 := cell_lt r0
 have r1 : w3.cell? ⟨w.heap.size + 1, 1, none⟩ = some (.int .i64 regs') := bkc hb3
 have r2 : w3.cell? ⟨w.heap.size + 1, 2, none⟩ = some (.slice ca' code'.length cc') := bkc hb3
 have r3 : w3.cell? ⟨w.heap.size + 1, 3, none⟩ = some (.slice oa' outs'.length oc') := bkc hb3
 have hB : Below w.heap.size w w3 := bthen bZ hb3
 have hz := hB.size
 have H3 := hZ (RowsRR.yes HPQ.out.1 h3)
 clear R1 h3 hb3
 go_wp2_with fail
 (with_reducible refine (R2.out _ ?_).mono ?_); (repeat exact bZ)
 rintro e w4 ⟨⟨vs4, vo4, q4, rfl, h4⟩, hb4⟩
 have p0 : w4.cell? ⟨w.heap.size, 0, none⟩ = some (.int .i64 ins) := bkc hb4
 have zp0 := cell_lt p0
 have p1 : w4.cell? ⟨w.heap.size, 1, none⟩ = some (.int .i64 regs) := bkc hb4
 have p2 : w4.cell? ⟨w.heap.size, 2, none⟩ = some (.slice ca code.length cc) := bkc hb4
 have p3 : w4.cell? ⟨w.heap.size, 3, none⟩ = some (.slice oa outs.length oc) := bkc hb4
 have r0 : w4.cell? ⟨w.heap.size + 1, 0, none⟩ = some (.int .i64 ins') := bkc hb4
 have zr0 := cell_lt r0
 have r1 : w4.cell? ⟨w.heap.size + 1, 1, none⟩ = some (.int .i64 regs') := bkc hb4
 have r2 : w4.cell? ⟨w.heap.size + 1, 2, none⟩ = some (.slice ca' code'.length cc') := bkc hb4
 have r3 : w4.cell? ⟨w.heap.size + 1, 3, none⟩ = some (.slice oa' outs'.length oc') := bkc hb4
 have hB : Below w.heap.size w w4 := bthen bZ hb4
 have hz := hB.size
 have H4 := hZ (RowsRR.yes HPQ.out.2 h4)
 have HB4 := hZ hb4
 clear R2 h4 hb4
 rcases H3.out with ⟨e3, rfl, rfl⟩ | ⟨h, e3, rfl, s3⟩
 · have HR := hZ (show SameRes ins regs code outs ins' regs' code' outs' false 3 from .inr (.inl ⟨HPQ.out, .inl e3, rfl, rfl⟩))
   clear e3 H3 H4
   go_wp2
   refine bodyPost_ret (v := .tuple #[.bool false, .int .i64 3]) (by simp [results, Tryz.results36, go_sem]) rfl ⟨⟨_, _, rfl, HR.out⟩, ?_⟩
   repeat exact bZ
 rcases H4.out with ⟨e4, rfl, rfl⟩ | ⟨h', e4, rfl, s4⟩
 · have HR := hZ (show SameRes ins regs code outs ins' regs' code' outs' false 3 from .inr (.inl ⟨HPQ.out, .inr e4, rfl, rfl⟩))
   clear e3 e4 s3 H3 H4
   go_wp2
   refine bodyPost_ret (v := .tuple #[.bool false, .int .i64 3]) (by simp [results, Tryz.results36, go_sem]) rfl ⟨⟨_, _, rfl, HR.out⟩, ?_⟩
   repeat exact bZ
 have k3 := endF_ok HPQ.out.1 e3
 have o2 := HPQ.out.1.o2
 have i2 := HPQ.out.1.i2
 have r1' := HPQ.out.1.r1
 have HE := hZ (And.intro e3 e4)
 have AC := hZ (fun V (q : Below w4.heap.size w4 V) => rAlike_c vo3 vo4 (outsF outs h) (outsF outs' h') _ _ V ((s3.keep HB4.out).keep q) (s4.keep q) (by rw [outsF_len]; omega) (fun i hi => by rw [k3.1 i hi]; omega))
 obtain ⟨a3, c3, rfl⟩ := s3.ex
 obtain ⟨a4, c4, rfl⟩ := s4.ex
 obtain ⟨l3, hl3⟩ : ∃ l, (outsF outs h).length = l := ⟨_, rfl⟩
 obtain ⟨l4, hl4⟩ : ∃ l, (outsF outs' h').length = l := ⟨_, rfl⟩
 rw [hl3, hl4] at AC
 rw [hl3, hl4]
 clear s3 s4 hl3 hl4 e3 e4 k3 o2 i2 r1' H3 H4
 by_cases hi : ins = ins'
 rotate_left
 · have d1 : (ins == ins') = false := by simpa using hi
   have HR := hZ (show SameRes ins regs code outs ins' regs' code' outs' false 0 from .inr (.inr ⟨HPQ.out, h, h', HE.out.1, HE.out.2, rfl, by simp [hi]⟩))
   clear hi AC
   go_wp2
   refine bodyPost_ret (v := .tuple #[.bool false, .int .i64 0]) (by simp [results, Tryz.results36, go_sem]) rfl ⟨⟨_, _, rfl, HR.out⟩, ?_⟩
   repeat exact bZ
 have d1 : (ins == ins') = true := by simpa using hi
 have HI := hZ hi
 have hy4 := Below.refl w4.heap.size w4
 clear hi
 go_wp2_with fail
 (with_reducible refine (AC.out _ ?_).mono ?_); (repeat exact bZ)
 rintro e w5 ⟨⟨b5, rfl, hb5⟩, hbb5⟩
 have hB5 : Below w.heap.size w w5 := bthen hB (bthen bZ hbb5)
 have HR := hZ (show SameRes ins regs code outs ins' regs' code' outs' b5 0 from .inr (.inr ⟨HPQ.out, h, h', HE.out.1, HE.out.2, rfl, by rw [hb5]; exact ⟨fun k => ⟨HI.out, k⟩, fun k => k.2⟩⟩))
 clear AC hb5 hbb5 hB
 have hB := hB5
 go_wp2
 refine bodyPost_ret (v := .tuple #[.bool b5, .int .i64 0]) (by simp [results, Tryz.results36, go_sem]) rfl ⟨⟨_, _, rfl, HR.out⟩, ?_⟩
 repeat exact bZ
theorem same_det {ins regs ins' regs' : Int} {code code' : List Ins} {outs outs' : List Int} {b b' : Bool} {n n' : Int} (h : SameRes ins regs code outs ins' regs' code' outs' b n) (h' : SameRes ins regs code outs ins' regs' code' outs' b' n') : b = b' ∧ n = n' := by
 rcases h with ⟨h1, rfl, rfl⟩ | ⟨h1, h2, rfl, rfl⟩ | ⟨h1, g, g', e1, e2, rfl, h3⟩ <;> rcases h' with ⟨k1, rfl, rfl⟩ | ⟨k1, k2, rfl, rfl⟩ | ⟨k1, f, f', d1, d2, rfl, k3⟩
 · exact ⟨rfl, rfl⟩
 · exact absurd k1 h1
 · exact absurd k1 h1
 · exact absurd h1 k1
 · exact ⟨rfl, rfl⟩
 · rw [d1, d2] at h2; rcases h2 with h | h <;> cases h
 · exact absurd h1 k1
 · rw [e1, e2] at k2; rcases k2 with h | h <;> cases h
 · rw [e1] at d1; rw [e2] at d2
   cases d1; cases d2
   refine ⟨?_, rfl⟩
   rw [Bool.eq_iff_iff]
   exact h3.trans k3.symm
end

def GrewX (T S S' : Nat → Prop) (X : World) : Prop := ∀ q, S' q → S q ∨ T q ∨ X.heap.size ≤ q
theorem GrewX.same (T S : Nat → Prop) (X : World) : GrewX T S S X := fun _ h => .inl h
def IterX (P : Program) (gf : Nat) (lb : Array Value) (A : Nat → Array Value → World → Prop) (m : Nat) (Xs : Array Value → Nat → Prop) (n0 : Nat) (S0 : Nat → Prop) (G : World → Prop) : Prop :=
 ∀ (l : Nat) (J Jx : Nat → (Nat → Prop) → World → Prop) (W : World), G W → (∀ k S X Y, J k S X → Clo n0 S X Y → KeepsOthers X Y → J k S Y) → (∀ k S X Y, Jx k S X → Clo n0 S X Y → KeepsOthers X Y → Jx k S Y) →
  (∀ k S X, J k S X → Soil S X) →
  (∀ k args S X, k < m → J k S X → A k args X → (∀ q, Xs args q → ¬ S q) → YieldAt Fence.wide 7 P l args X fun e Y => (e = .returned (.bool true) ∧ ∃ S', GrewX (Xs args) S S' X ∧ J (k + 1) S' Y ∧ OutT (fun q => S q ∨ Xs args q) X Y) ∨ (e = .returned (.bool false) ∧ ∃ S', Jx (k + 1) S' Y)) →
  J 0 S0 W → CallsIn Fence.wide 8 P gf (#[.func (.yield l) #[] #[]] ++ lb) W fun e Y => (∃ v, e = .returned v) ∧ ((∃ S, J m S Y) ∨ ∃ k S, k ≤ m ∧ Jx k S Y)
def postX (X0 T S : Nat → Prop) (I : Nat → (Nat → Prop) → World → Prop) (Ix : Code → Nat → (Nat → Prop) → World → Prop) (k : Nat) (X : World) : Exit → Act → World → Prop
 | .normal, _, Y => OutT X0 X Y ∧ ∃ S', GrewX T S S' X ∧ I k S' Y
 | .ret, _, Y => OutT X0 X Y ∧ ∃ S', Ix .ret k S' Y
 | .exit id, _, Y => OutT X0 X Y ∧ ∃ S', Ix (.exit id) k S' Y
 | .goto t, _, Y => OutT X0 X Y ∧ ∃ S', Ix (.goto t) k S' Y
 | .panic _, _, _ => False
 | .outgrown, _, _ => False
theorem wp_rangeX {P : Program} {g : Operand} {ps : Array Tmp} {assign body : Code} {Q : Exit → Act → World → Prop} {a : Act} {w : World}
 {gf : Nat} {lb : Array Value} (hg : a.eval g = .func (.func gf) #[] lb) (eg : ∀ args w, (callFunc gf args).run P w = .ok (.enter gf args) w)
 {A : Nat → Array Value → World → Prop} {m n0 : Nat} {Xs : Array Value → Nat → Prop} {S0 : Nat → Prop} {G : World → Prop} (hseq : IterX P gf lb A m Xs n0 S0 G)
 (hn0 : n0 ≤ w.heap.size) (hG : ∀ W, Below w.heap.size w W → G W) (hps : ∀ k args X, A k args X → args.size = ps.size)
 (I : Nat → (Nat → Prop) → World → Prop) (Ix : Code → Nat → (Nat → Prop) → World → Prop) (hI : ∀ k S X Y, I k S X → Clo n0 S X Y → I k S Y) (hIx : ∀ c k S X Y, Ix c k S X → Clo n0 S X Y → Ix c k S Y)
 (hS : ∀ k S X, I k S X → Soil S X) (hSx : ∀ c k S X, Ix c k S X → Soil S X) (h0 : I 0 S0 w)
 (Ax : Array Value → Nat → Array Value → (Nat → Prop) → Act → World → Prop) (hAx : ∀ k args S a' (X : World) (l : Nat) (o o' : Obj), w.heap.size ≤ l → X.heap[l]? = some o → o.isCells = false → Ax a.tmps k args S a' X → Ax a.tmps k args S a' (X.putObj l o'))
 (hXs : ∀ k args X q, A k args X → Xs args q → ∃ o, X.heap[q]? = some o ∧ o.isCells = true)
 (hassign : ∀ (l k : Nat) (args : Array Value) (S : Nat → Prop) (X : World) (K : Act → World → Prop), k < m → I k S X → A k args X → (∀ q, Xs args q → ¬ S q) → (∀ a' Y, Below X.heap.size X Y → I k S Y → Ax a.tmps k args S a' Y → K a' Y) →
  assign.wpIn (Fence.wide.inRound l) 7 P (Exit.then K (fun _ _ _ => False)) { tmps := (ps.zip args).foldl (fun t (p, v) => t.setIfInBounds p v) a.tmps, defers := [] } X)
 (hbody : ∀ (l k : Nat) (args : Array Value) (S : Nat → Prop) (a' : Act) (X : World), k < m → I k S X → Ax a.tmps k args S a' X → body.wpIn (Fence.wide.inRound l) 7 P (postX (fun q => S q ∨ Xs args q) (Xs args) S I Ix (k + 1) X) a' X)
 (hdone : ∀ (D : Nat) (S : Nat → Prop) (Y : World), w.heap.size ≤ D → I m S Y → Y.heap[D]? = some (.deferred (some [])) → Q .normal { a with defers := { target := .collected D, args := #[] } :: a.defers } Y)
 (hstop : ∀ (D : Nat) (c : Code) (k : Nat) (S : Nat → Prop) (Y : World), w.heap.size ≤ D → k ≤ m → Ix c k S Y → Y.heap[D]? = some (.deferred (some [])) → c.wp P Q { a with defers := { target := .collected D, args := #[] } :: a.defers } Y) :
 (Code.rangeFunc g ps assign body).wp P Q a w := by
 refine (wpIn_wide (n := 9)).1 (wpIn_rangeFunc fun fn hfn => ?_)
 let R : LoopState → Option Code → Loop := fun st pe => { state := st, pending := pe, fn, tmps := a.tmps, params := ps, assign, body, defers := w.heap.size }
 generalize hl : w.heap.size + 1 = l
 have hlw : w.heap.size ≤ l := by omega
 let V : World := (w.alloc (.deferred (some []))).alloc (.loop (R .ready none))
 have rec0 : V.heap[l]? = some (.loop (R .ready none)) := by
  have h := World.alloc_heap_new (w.alloc (.deferred (some []))) (.loop (R .ready none))
  rw [World.size_alloc, hl] at h
  exact h
 have put0 : V.heap[w.heap.size]? = some (.deferred (some [])) := (Below.heap_alloc _ _ _ (by simp)).trans (World.alloc_heap_new w _)
 have bV : Below w.heap.size w V := bal (bal (Below.refl _ _) _) _
 -- the loop's record is set: nothing of the body's, no limbs
 have cP : ∀ (S : Nat → Prop) (X : World) (o o' : Obj), Soil S X → X.heap[l]? = some o → o.isCells = false → Clo n0 S X (X.putObj l o') := fun S X o o' hs ho hc => by
  refine ⟨rfl, rfl, rfl, by simp [World.putObj], fun q hq h => World.putObj_heap_other (fun e => ?_)⟩
  subst e
  have ht : ∀ t, typOf X q ≠ some t := fun t h => by rw [typ_none ho hc] at h; cases h
  rcases h with h | h | h
  · omega
  · obtain ⟨t, h1, _⟩ := hs q h
    exact ht t h1
  · exact ht _ h
 refine ⟨l, [{ target := .collected w.heap.size, args := #[] }], V, { target := .fn (.func gf) lb, args := #[.func (.yield l) #[] #[]] }, V, gf, #[.func (.yield l) #[] #[]] ++ lb, V, ?_, ?_, fun f' _ => trivial, ?_, fun _ => by omega, ?_⟩
 · have h := run_enterLoop_outer (P := P) (w := w) fn a.tmps ps assign body
   rw [hl] at h
   exact h
 · simp only [resolve, hg]
   simp [go_sem]
 · simp [invoke, go_sem, eg]
 let J : Nat → (Nat → Prop) → World → Prop := fun k S X => I k S X ∧ X.heap[l]? = some (.loop (R .ready none)) ∧ X.heap[w.heap.size]? = some (.deferred (some []))
 let Jx : Nat → (Nat → Prop) → World → Prop := fun k S X => ∃ c, Ix c k S X ∧ X.heap[l]? = some (.loop (R .done (some c))) ∧ X.heap[w.heap.size]? = some (.deferred (some []))
 refine (hseq l J Jx V (hG V bV) ?_ ?_ ?_ ?_ ⟨hI 0 S0 _ _ h0 (.of_below bV), rec0, put0⟩).mono ?_
 · rintro k S X Y ⟨h1, h2, h3⟩ hc hk
   exact ⟨hI k S X Y h1 hc, hk.same _ _ h2 rfl, hk.same _ _ h3 rfl⟩
 · rintro k S X Y ⟨c, h1, h2, h3⟩ hc hk
   exact ⟨c, hIx c k S X Y h1 hc, hk.same _ _ h2 rfl, hk.same _ _ h3 rfl⟩
 · rintro k S X ⟨h1, _⟩
   exact hS k S X h1
 · -- one round
   rintro k args S X hkm ⟨h1, h2, h3⟩ hA hxs
   have nX : ∀ q o, X.heap[q]? = some o → o.isCells = false → ¬ (S q ∨ Xs args q) := fun q o hq ho hx => by
    rcases hx with hx | hx
    · obtain ⟨t, ht, _⟩ := hS k S X h1 q hx
      rw [typ_none hq ho] at ht; cases ht
    · obtain ⟨o', ho', hc⟩ := hXs k args X q hA hx
      rw [hq] at ho'; cases ho'; rw [ho] at hc; cases hc
   have nl : ¬ (S l ∨ Xs args l) := nX _ _ h2 rfl
   have nd : ¬ (S w.heap.size ∨ Xs args w.heap.size) := nX _ _ h3 rfl
   have hy := run_yield (P := P) (args := args) h2 (hps k args X hA)
   refine ⟨fn, _, assign, body, hy, roundIn_of_wpIn hfn (hassign l k args S X _ hkm h1 hA hxs ?_)⟩
   intro a' X1 hb i1 ax
   have hlX : l < X.heap.size := (Array.getElem?_eq_some_iff.1 h2).1
   have l1 : X1.heap[l]? = some (.loop (R .ready none)) := (hb.block _ hlX).trans h2
   have d1 : X1.heap[w.heap.size]? = some (.deferred (some [])) := (hb.block _ (Array.getElem?_eq_some_iff.1 h3).1).trans h3
   have hl1 : l < X1.heap.size := (Array.getElem?_eq_some_iff.1 l1).1
   refine ⟨_, run_beginRound l1 rfl, ?_⟩
   have cb : Clo n0 S X1 (X1.putObj l (.loop { R .ready none with state := .busy })) := cP _ _ _ _ (hS _ _ _ i1) l1 rfl
   have l2 : (X1.putObj l (.loop { R .ready none with state := .busy })).heap[l]? = some (.loop { R .ready none with state := .busy }) := World.putObj_heap_same hl1
   have o2 : ∀ b, b ≠ l → (X1.putObj l (.loop { R .ready none with state := .busy })).heap[b]? = X1.heap[b]? := fun b hb => World.putObj_heap_other hb
   have s2 : (X1.putObj l (.loop { R .ready none with state := .busy })).heap.size = X1.heap.size := by simp [World.putObj]
   refine wpIn_mono (hbody l k args S a' _ hkm (hI k S _ _ i1 cb) (hAx k args S a' _ _ _ _ hlw l1 rfl ax)) ?_
   have fin : ∀ (jump : Option Code) (Y : World) (S' : Nat → Prop), OutT (fun q => S q ∨ Xs args q) (X1.putObj l (.loop { R .ready none with state := .busy })) Y → Soil S' Y →
    (Instr.endRound l jump).run P Y = .ok (.bool jump.isNone) (Y.putObj l (.loop (R (if jump.isNone then .ready else .done) jump))) ∧ Clo n0 S' Y (Y.putObj l (.loop (R (if jump.isNone then .ready else .done) jump))) ∧
    (Y.putObj l (.loop (R (if jump.isNone then .ready else .done) jump))).heap[l]? = some (.loop (R (if jump.isNone then .ready else .done) jump)) ∧ (Y.putObj l (.loop (R (if jump.isNone then .ready else .done) jump))).heap[w.heap.size]? = some (.deferred (some [])) := fun jump Y S' hoT hs => by
    have ho := hoT.1
    have lY : Y.heap[l]? = some (.loop { R .ready none with state := .busy }) := (ho.block _ (by rw [s2]; exact hl1) nl).trans l2
    refine ⟨run_endRound (P := P) jump lY, cP _ _ _ _ hs lY rfl, World.putObj_heap_same (Array.getElem?_eq_some_iff.1 lY).1, ?_⟩
    rw [World.putObj_heap_other (by omega), ho.block _ (by rw [s2]; exact (Array.getElem?_eq_some_iff.1 d1).1) nd, o2 _ (by omega), d1]
   rintro e a3 Y hp
   cases e with
   | normal =>
    obtain ⟨ho, S', hg', i3⟩ := hp
    obtain ⟨hr, hc, e1, e2⟩ := fin none Y S' ho (hS _ _ _ i3)
    obtain ⟨ho, ht⟩ := ho
    refine ⟨_, _, hr, .inl ⟨rfl, S', fun q hq => (hg' q hq).imp id fun h => h.imp id fun h => Nat.le_trans hb.size (by rw [s2] at h; exact h), ⟨hI _ _ _ _ i3 hc, e1, e2⟩, ⟨ho.os.trans hb.os, ho.tape.trans hb.tape, ho.output.trans hb.output, ?_, fun i hi hx => ?_⟩, fun q hq hqs => ?_⟩⟩
    · have := ho.size; have := hb.size; simp [World.putObj] at *; omega
    · by_cases e : i = l
      · subst e; exact e1.trans h2.symm
      · rw [World.putObj_heap_other e, ho.block _ (by rw [s2]; have := hb.size; omega) hx, o2 _ e, hb.block _ hi]
    · have e : q ≠ l := fun e => nl (e ▸ hq)
      have t1 : typOf (Y.putObj l (.loop (R (if (none : Option Code).isNone then .ready else .done) none))) q = typOf Y q := by unfold typOf; rw [World.putObj_heap_other e]
      have t2 := ht q hq (by rw [s2]; have := hb.size; omega)
      have t3 : typOf (X1.putObj l (.loop { R .ready none with state := .busy })) q = typOf X1 q := by unfold typOf; rw [o2 _ e]
      have t4 : typOf X1 q = typOf X q := by unfold typOf; rw [hb.block _ hqs]
      exact (t1.trans t2).trans (t3.trans t4)
   | ret =>
    obtain ⟨ho, S', i3⟩ := hp
    obtain ⟨hr, hc, e1, e2⟩ := fin (some .ret) Y S' ho (hSx _ _ _ _ i3)
    exact ⟨_, _, hr, .inr ⟨rfl, S', .ret, hIx _ _ _ _ _ i3 hc, e1, e2⟩⟩
   | exit id =>
    obtain ⟨ho, S', i3⟩ := hp
    obtain ⟨hr, hc, e1, e2⟩ := fin (some (.exit id)) Y S' ho (hSx _ _ _ _ i3)
    exact ⟨_, _, hr, .inr ⟨rfl, S', .exit id, hIx _ _ _ _ _ i3 hc, e1, e2⟩⟩
   | goto t =>
    obtain ⟨ho, S', i3⟩ := hp
    obtain ⟨hr, hc, e1, e2⟩ := fin (some (.goto t)) Y S' ho (hSx _ _ _ _ i3)
    exact ⟨_, _, hr, .inr ⟨rfl, S', .goto t, hIx _ _ _ _ _ i3 hc, e1, e2⟩⟩
   | panic ch => exact hp.elim
   | outgrown => exact hp.elim
 · -- behind it
   rintro e Y ⟨⟨v, rfl⟩, h⟩
   rcases h with ⟨S, i1, l1, d1⟩ | ⟨k, S, hk, c, i1, l1, d1⟩
   · refine ⟨none, _, run_endLoop (P := P) l1 (by simp [R]), hdone _ S _ (Nat.le_refl _) (hI _ _ _ _ i1 (cP _ _ _ _ (hS _ _ _ i1) l1 rfl)) ?_⟩
     rw [World.putObj_heap_other (by omega)]; exact d1
   · refine ⟨some c, _, run_endLoop (P := P) l1 (by simp [R]), wpIn_wide.2 (hstop _ c k S _ (Nat.le_refl _) hk (hIx _ _ _ _ _ i1 (cP _ _ _ _ (hSx _ _ _ _ i1) l1 rfl)) ?_)⟩
     rw [World.putObj_heap_other (by omega)]; exact d1
section
open Num
attribute [local go_sem ↓] Go.wp_at_zero Go.wp_at_succ
def AF (n0 : Nat) (T : Nat → List Rat) (k : Nat) (args : Array Value) (X : World) : Prop := ∃ v b base, args = #[.int .i64 (k : Int), v] ∧ n0 ≤ base ∧ PRp base X v (b, T k)
def XsF (args : Array Value) (q : Nat) : Prop := ∃ v, args[1]? = some v ∧ rowBlk v = some q
theorem prp_blk {base b q : Nat} {X : World} {v : Value} {L : List Rat} (h : PRp base X v (b, L)) (hq : rowBlk v = some q) : q = b ∧ base ≤ q ∧ typOf X q = some 79 := by
 obtain ⟨c, rfl, _, hb, hf⟩ := h
 simp [rowBlk] at hq
 subst hq
 exact ⟨rfl, hb, hf.ty⟩
theorem AF.cells {n0 : Nat} {T : Nat → List Rat} {k q : Nat} {args : Array Value} {X : World} (h : AF n0 T k args X) (hq : XsF args q) : ∃ o, X.heap[q]? = some o ∧ o.isCells = true := by
 obtain ⟨v, b, base, rfl, _, hr⟩ := h
 obtain ⟨v', e, hb⟩ := hq
 simp at e
 subst e
 exact typ_cells (prp_blk hr hb).2.2
def YieldsF (l m : Nat) (A : Nat → Array Value → World → Prop) (Xs : Array Value → Nat → Prop) (J Jx : Nat → (Nat → Prop) → World → Prop) : Prop :=
 ∀ k args S X, k < m → J k S X → A k args X → (∀ q, Xs args q → ¬ S q) → YieldAt Fence.wide 3 Tryz.prog l args X fun e Y => (∃ b, e = .returned (.bool b) ∧ ((b = true ∧ ∃ S', GrewX (Xs args) S S' X ∧ J (k + 1) S' Y ∧ OutT (fun q => S q ∨ Xs args q) X Y) ∨ (b = false ∧ ∃ S', Jx (k + 1) S' Y)))
theorem yieldAt_monoF {F : Fence} {m : Nat} {P : Program} {l : Nat} {args : Array Value} {W : World} {R R' : Ending → World → Prop} (h : YieldAt F m P l args W R) (hr : ∀ e w, R e w → R' e w) : YieldAt F m P l args W R' := by
 obtain ⟨fn, tmps, asg, body, hy, hR⟩ := h
 exact ⟨fn, tmps, asg, body, hy, hR.mono hr⟩
theorem OutT.baseF {S X : Nat → Prop} {a b c : World} (k : Below a.heap.size a b) (h : OutT (fun q => S q ∨ X q) b c) (hx : ∀ q, X q → a.heap.size ≤ q) (hS : ∀ q, S q → q < a.heap.size) : OutT S a c := by
 refine ⟨⟨h.1.os.trans k.os, h.1.tape.trans k.tape, h.1.output.trans k.output, Nat.le_trans k.size h.1.size, fun q hq hs => (h.1.block q (Nat.lt_of_lt_of_le hq k.size) fun e => ?_).trans (k.block q hq)⟩, fun q hq hl => ?_⟩
 · rcases e with e | e
   · exact hs e
   · have := hx q e; omega
 · rw [h.2 q (.inl hq) (Nat.lt_of_lt_of_le hl k.size)]
   unfold typOf; rw [k.block q hl]
theorem stepsFq_c (y yb M : Nat) (T : Nat → List Rat) (J Jx : Nat → (Nat → Prop) → World → Prop) (C : World → Prop) (n0 : Nat) (hJ : ∀ k S X Y, J k S X → Clo n0 S X Y → KeepsOthers X Y → J k S Y) (hJS : ∀ k S X, J k S X → Soil S X) (hT : ∀ k, k < M → 0 < (T k).length ∧ (T k).length ≤ 1099511627776)
 (hC : ∀ W, C W → W.cell? ⟨yb, 0, none⟩ = some (.func (.yield y) #[] #[])) (hCn : ∀ W, C W → n0 ≤ W.heap.size) (hY : YieldsF y M (AF n0 T) XsF J Jx) : FnTQ 104 #[.pointer (some ⟨yb, 0, none⟩)] T M J Jx C := by
 intro k S W v hk hj hc hv
 show Calls Tryz.prog 104 #[.int .i64 (k : Int), v, .pointer (some ⟨yb, 0, none⟩)] W _
 have HJ := hZ hJ
 have HJK := hZ hj
 have HS := hZ (hJS k S W hj)
 have HYY := hZ hY
 obtain ⟨hl0, hl⟩ := hT k hk
 have y0 := hC W hc
 have hnW := hCn W hc
 have zy := cell_lt y0
 have kcl := fun W1 (h : Below W.heap.size W W1) => (cloneQ_c v (T k) W1 (hv.1.keep h) hl).mono (R' := fun e w' => ∃ v' b, e = .returned v' ∧ PRp W.heap.size w' v' (b, T k) ∧ Below W.heap.size W1 w') fun e w' ⟨⟨v', h1, h2⟩, h3⟩ => by
  obtain ⟨b, hb⟩ := h2.prp hl0
  exact ⟨v', b, h1, hb.rebase h.size, h3.mono h.size⟩
 obtain ⟨va, vc, rfl, -⟩ := hv.1
 clear hJ hj hJS hY hT hC hc hCn
 have hB := Below.refl W.heap.size W
 go_enter Tryz.func104, Tryz.ntmps104
 go_wp2
 have hmx : (Tryz.prog).follows .mixedOrders = true := by kernel_rfl
 refine (wpIn_wide (n := 4)).1 ?_
 gi_region_with_o (first
  | (refine ⟨trivial, ?_⟩; refine CallsIn.mono (callsIn_wide.2 (kcl _ ?_)) ?_; (repeat exact bZ); rintro e w5 ⟨v5, b5, rfl, hr5', hb5⟩; have hB5 : Below W.heap.size W w5 := Below.trans bZ hb5; have y5 := bkeep hB5 y0; obtain ⟨fn, tmps, asg, body, hy, hRd⟩ := HYY.out k _ S w5 hk (HJ.out _ _ _ _ HJK.out (.of_below hB5) (out_others (Out.of_below (fun _ => False) hB5) fun _ h => h.elim)) ⟨v5, b5, _, rfl, hnW, hr5'⟩ (fun q hq hs => by obtain ⟨v', e, hb⟩ := hq; simp at e; subst e; have h1 := (prp_blk hr5' hb).2.1; have h2 := HS.out.lt hs; omega); have HR5 := hZ hr5'; obtain ⟨c5, rfl, -⟩ := hr5')
  | (refine hRd.mono ?_; rintro e w6 ⟨bb, rfl, hres⟩; have HRES := hZ hres; clear hres)
  | fail)
 all_goals
  gi_wp2
  go_wp2
  go_ret
  refine ⟨bb, rfl, ?_⟩
  rcases HRES.out with ⟨h1, S', hg, hj', ho⟩ | ⟨h1, S', hx⟩
  · exact .inl ⟨h1, S', fun q hq => (by
     rcases hg q hq with h | h | h
     · exact .inl h
     · obtain ⟨v', e, hb⟩ := h; simp at e; subst e; exact .inr (prp_blk HR5.out hb).2.1
     · exact .inr (Nat.le_trans hB5.size h)), hj', OutT.baseF hB5 ho (fun q hq => by obtain ⟨v', e, hb⟩ := hq; simp at e; subst e; exact (prp_blk HR5.out hb).2.1) fun q hq => HS.out.lt hq⟩
  · exact .inr ⟨h1, S', hx⟩
end
section
open Num
attribute [local go_sem ↓] Go.wp_at_zero Go.wp_at_succ
theorem toldQ_len {code : List Ins} {g : GridF} {m M k : Nat} (hr : RectF m g) (hs : SlimG g) (hc : ∀ n, n < code.length → 0 ≤ (code.getD n default).a ∧ (code.getD n default).a < g.length) (t : ToldF code g M) (hk : k < M) : (toldQ code g k).length = m := by
 obtain ⟨s, e⟩ := t.has
 have hl := t.le
 cases e1 : afterF code g k with
 | none => rw [afterF_mono e1 (show k ≤ M by omega)] at e; cases e
 | some g1 =>
  obtain ⟨h1, h2⟩ := hc k (by omega)
  rw [toldQ_eq e1, rowF_len]
  exact (afterF_ok hr hs hc (show k ≤ code.length by omega) e1).1 _ (by rw [afterF_len e1]; omega)
theorem OwnL.regsFS {S : Nat → Prop} {base : Nat} {w0 w : World} {v : Value} {g : GridF} (h : OwnL 38 (FRow base) w0 w v g) (hg : 0 < g.length) (hS : ∀ q, S q → q < base) : ∃ rb rc, v = .slice (some ⟨rb, 0, none⟩) g.length rc ∧ w0.heap.size ≤ rb ∧ RegsF S w rb g := by
 obtain ⟨rb, rc, e, h1, h2, h3, h4, h5, h6⟩ := h.blk hg
 refine ⟨rb, rc, e, h1, h4, h5, fun k hk => ?_⟩
 obtain ⟨u, hu, hp⟩ := h6 k hk
 have : g[k] = g.getD k [] := by simp [hk]
 rw [this] at hp
 exact ⟨u, hu, FRowX.of hp hS⟩
theorem runF_end {code : List Ins} {g : GridF} {M rb R rc : Nat} {J Jx : Nat → (Nat → Prop) → World → Prop} {e : Ending} {w : World} (t : ToldF code g M) (h : RunF code g M rb R rc J Jx e w) : (∃ q, e = .returned q) ∧ ((∃ S, J M S w) ∨ ∃ k S, k ≤ M ∧ Jx k S w) := by
 rcases h with ⟨s, S, h1, h2, h3, _⟩ | ⟨h2, ⟨_, S, h3⟩ | ⟨k, S, h3, h4⟩⟩
 · obtain rfl : M = code.length := by
    rcases Nat.lt_or_ge M code.length with h | h
    · rw [afterF_mono (t.stop h) (show M + 1 ≤ code.length by omega)] at h1; cases h1
    · have := t.le; omega
   exact ⟨⟨_, h2⟩, .inl ⟨S, h3⟩⟩
 · exact ⟨⟨_, h2⟩, .inl ⟨S, h3⟩⟩
 · exact ⟨⟨_, h2⟩, .inr ⟨k, S, h3, h4⟩⟩
structure StepsInF (n0 : Nat) (S0 : Nat → Prop) (pb : Nat) (ins regs : Int) (ca oa : Option Addr) (cc oc : Nat) (code : List Ins) (outs : List Int) (W : World) : Prop where
 p0 : W.cell? ⟨pb, 0, none⟩ = some (.int .i64 ins)
 p1 : W.cell? ⟨pb, 1, none⟩ = some (.int .i64 regs)
 p2 : W.cell? ⟨pb, 2, none⟩ = some (.slice ca code.length cc)
 p3 : W.cell? ⟨pb, 3, none⟩ = some (.slice oa outs.length oc)
 hc : InsV W ca cc code
 ho : IntsV W oa oc outs
 lt : ∀ q, S0 q → q < n0
 le : n0 ≤ W.heap.size
 nc : ∀ b off, ca = some ⟨b, off, none⟩ → 0 < code.length → ¬ S0 b
section
variable {n0 : Nat} {S0 : Nat → Prop} {pb : Nat} {ins regs : Int} {ca oa : Option Addr} {cc oc : Nat} {code : List Ins} {outs : List Int} {W W' : World}
theorem StepsInF.keep (h : StepsInF n0 S0 pb ins regs ca oa cc oc code outs W) (k : Below W.heap.size W W') : StepsInF n0 S0 pb ins regs ca oa cc oc code outs W' :=
 ⟨bkeep k h.p0, bkeep k h.p1, bkeep k h.p2, bkeep k h.p3, h.hc.keep k, h.ho.keep k, h.lt, Nat.le_trans h.le k.size, h.nc⟩
theorem stepsF_yes {M : Nat} (hok : ProgOk ins regs code outs) (hM : ToldF code (unitsF ins.toNat regs.toNat) M) :
 IterX Tryz.prog 103 #[.pointer (some ⟨pb, 0, none⟩)] (AF n0 (toldQ code (unitsF ins.toNat regs.toNat))) M XsF n0 S0 (StepsInF n0 S0 pb ins regs ca oa cc oc code outs) := by
 intro y J Jx W hG hJ hJx hJS hY h0
 refine callsIn_wide.2 ?_
 show Calls Tryz.prog 103 #[.func (.yield y) #[] #[], .pointer (some ⟨pb, 0, none⟩)] W _
 have CK := hZ (fun V (h : Below W.heap.size W V) => check_c ins regs ca oa cc oc code outs V (hG.hc.keep h) (hG.ho.keep h))
 have HJ := hZ (fun V (h : Below W.heap.size W V) => hJ 0 S0 W V h0 (.of_below h) (others_of_below h))
 have HJJ := hZ hJ
 have HJS := hZ hJS
 have HY := hZ (show YieldsF y M (AF n0 (toldQ code (unitsF ins.toNat regs.toNat))) XsF J Jx from fun k args S X hk hj ha hx => yieldAt_monoF (yieldAt_wide (hY k args S X hk hj ha hx)) fun e w h => by
  rcases h with ⟨rfl, h⟩ | ⟨rfl, h⟩
  · exact ⟨true, rfl, .inl ⟨rfl, h⟩⟩
  · exact ⟨false, rfl, .inr ⟨rfl, h⟩⟩)
 have HG := hZ hG
 have HOK := hZ hok
 have HM := hZ hM
 have HIN0 := hZ (fun k (hk : k < code.length) => (show InsOk (code.getD k default) (unitsF ins.toNat regs.toNat).length from by rw [unitsF_len]; exact ins_ofF hok hk))
 obtain ⟨n, rfl⟩ : ∃ n : Nat, ins = n := ⟨ins.toNat, by have := hok.i1; omega⟩
 obtain ⟨R, rfl⟩ : ∃ R : Nat, regs = R := ⟨regs.toNat, by have := hok.i1; have := hok.i2; omega⟩
 have hn1 : 1 ≤ n := by have := hok.i1; omega
 have hnR : n ≤ R := by have := hok.i2; omega
 have hR128 : R ≤ 128 := by have := hok.r1; omega
 have hcl := hok.c1
 have p0 := hG.p0
 have p1 := hG.p1
 have p2 := hG.p2
 have p3 := hG.p3
 have hn0 := hG.le
 have zp0 := cell_lt p0
 have HNC := hZ (show ∀ b off, ca = some ⟨b, off, none⟩ → 0 < code.length → b < W.heap.size ∧ ¬ S0 b from fun b off e hl => ⟨by
  rcases hG.hc with h0 | ⟨b', off', h1, _, h3⟩
  · rw [h0] at hl; simp at hl
  · rw [e] at h1; cases h1
    exact cell_lt (h3 0 hl).c0, hG.nc b off e hl⟩)
 clear hG hJ hJx hJS hY h0 hok hM
 simp only [Int.toNat_natCast] at HY HM HIN0
 have UC := hZ (fun V => units_c n R ca oa code.length cc outs.length oc V hnR hn1 hR128)
 have HUL := hZ (unitsF_len n R)
 have HUR := hZ (And.intro (unitsF_rect n R) (unitsF_slim n R))
 obtain ⟨U, hU⟩ : ∃ U, unitsF n R = U := ⟨_, rfl⟩
 rw [hU] at UC HUL HUR HM HY HIN0
 clear hU
 have hB := Below.refl W.heap.size W
 have y0 : (W.alloc (.cells #[.func (.yield y) #[] #[]] 155)).cell? ⟨W.heap.size, 0, none⟩ = some (.func (.yield y) #[] #[]) := cell_new rfl rfl
 go_enter Tryz.func103, Tryz.ntmps103
 go_wp2_with fail
 (with_reducible refine (CK.out _ ?_).mono ?_); (repeat exact bZ)
 rintro e w1 ⟨r, s, rfl, (⟨hok, rfl, rfl⟩ | ⟨hok, rfl⟩), hb1⟩
 rotate_left
 · exact absurd HOK.out hok
 · have hB1 : Below W.heap.size W w1 := bthen bZ hb1
   have y1 : w1.cell? ⟨W.heap.size, 0, none⟩ = some (.func (.yield y) #[] #[]) := bkeep hb1 (by first | exact cell_new rfl rfl | exact cell_drew (cell_new rfl rfl))
   clear CK y0 hok
   have p0 := bkeep hB1 p0
   have p1 := bkeep hB1 p1
   have p2 := bkeep hB1 p2
   have p3 := bkeep hB1 p3
   have zp1 := cell_lt p0
   have zy1 := cell_lt y1
   have hsz : W.heap.size ≤ w1.heap.size := hB1.size
   have HP := hZ (show ∀ V, Below w1.heap.size w1 V → V.cell? ⟨pb, 0, none⟩ = some (.int .i64 (n : Int)) ∧ V.cell? ⟨pb, 1, none⟩ = some (.int .i64 (R : Int)) ∧ V.cell? ⟨pb, 2, none⟩ = some (.slice ca code.length cc) ∧ V.cell? ⟨pb, 3, none⟩ = some (.slice oa outs.length oc) from fun V h => ⟨bkeep h p0, bkeep h p1, bkeep h p2, bkeep h p3⟩)
   have RX := hZ (fun rb rc V (k : Below w1.heap.size w1 V) (hr : RegsF S0 V rb U) (hrb : w1.heap.size ≤ rb) => runQ_c n0 M S0 J Jx HJJ.out HJS.out HG.out.lt (n : Int) (R : Int) ca oa cc outs.length oc code U n rb rc 104 #[.pointer (some ⟨W.heap.size, 0, none⟩)] V (HG.out.hc.keep (bthen hB1 k)) HIN0.out (by omega) (by rw [HUL.out]; exact hR128) hr HUR.out.1 (by omega) HUR.out.2 HM.out
    (stepsFq_c y W.heap.size M (toldQ code U) J Jx _ n0 HJJ.out HJS.out (fun k hk => by
     have := toldQ_len HUR.out.1 HUR.out.2 (fun n hn => ⟨(HIN0.out n hn).a0, (HIN0.out n hn).a1⟩) HM.out hk
     omega) (fun V2 ho => okeep ho (bkeep k y1) (fun h => by
     rcases h with h | h
     · omega
     · have := HG.out.lt _ h; omega)) (fun V2 ho => Nat.le_trans HG.out.le (Nat.le_trans (Nat.le_trans hsz k.size) ho.size)) HY.out) (ensD Tryz.func104 (by kernel_rfl) rfl) (fun b off e hl => ⟨fun e2 => by
    have := (HNC.out b off e hl).1
    omega, (HNC.out b off e hl).2⟩) (by omega) (HJ.out V (bthen hB1 k)))
   rw [HUL.out] at RX
   have UD := hZ (fun V (h : Below w1.heap.size w1 V) => (UC.out V).mono (R' := fun e w' => ∃ rb rc, e = .returned (.slice (some ⟨rb, 0, none⟩) R rc) ∧ w1.heap.size ≤ rb ∧ RegsF S0 w' rb U ∧ Below w1.heap.size V w') fun e w' ⟨⟨v, h1, h2⟩, h3⟩ => by
    obtain ⟨rb, rc, hv, hlo, hr⟩ := h2.regsFS (S := S0) (by rw [HUL.out]; omega) (fun q hq => by have := HG.out.lt q hq; have := h.size; omega)
    rw [HUL.out] at hv
    exact ⟨rb, rc, by rw [h1, hv], Nat.le_trans h.size hlo, hr, h3.mono h.size⟩)
   clear p0 p1 p2 p3 y1 UC HNC
   obtain ⟨p0, p1, p2, p3⟩ := HP.out w1 (Below.refl _ _)
   have zp2 := cell_lt p0
   have hBc := Below.refl w1.heap.size w1
   go_wp2
   go_region_law (go_simp; go_wp2_with (first
    | (go_at_call 96; refine (UD.out _ ?_).mono ?_; (repeat exact bZ); rintro e w3 ⟨rb, rc, rfl, hrb, hrg, hb3⟩; (have hBd : Below w1.heap.size w1 w3 := Below.trans bZ hb3; clear hBc; have hBc := hBd; clear hBd); have HRG := hZ hrg; have hBu := Below.refl w3.heap.size w3; clear hrg hb3; obtain ⟨p0, p1, p2, p3⟩ := HP.out w3 hBc; have zp3 := cell_lt p0)
    | (go_at_call 95; refine (RX.out rb rc _ ?_ (HRG.out.keep ?_) hrb).mono ?_; (repeat exact bZ); (repeat exact bZ); rintro e w4 hres; have HRES := hZ (show (∃ q, e = .returned q) ∧ ((∃ S, J M S w4) ∨ ∃ k S, k ≤ M ∧ Jx k S w4) from runF_end HM.out hres); obtain ⟨⟨q, rfl⟩, -⟩ := HRES.out; clear hres)
    | fail))
   all_goals
    go_wp2
    refine bodyPost_end (results_none rfl _ _ _) rfl ?_
    exact ⟨⟨_, rfl⟩, HRES.out.2⟩
end
end
section
open Num
attribute [local go_sem ↓] Go.wp_at_zero Go.wp_at_succ
def dC : List Ins := [⟨4, 2, 0, 1, 0⟩, ⟨6, 2, 2, 0, 2⟩]
def dO : List Int := [2, 0]
theorem d_ok : ProgOk 2 3 dC dO := by
 refine ⟨by decide, by decide, by decide, by decide, by decide, by decide, fun k hk => ?_, fun k hk => ?_⟩
 · rcases (show k = 0 ∨ k = 1 by have : k < 2 := hk; omega) with rfl | rfl <;> decide
 · rcases (show k = 0 ∨ k = 1 by have : k < 2 := hk; omega) with rfl | rfl <;> decide
def dG : GridF := [[1, 0], [0, 1], [(Rat.divInt 1 2), (Rat.divInt (-1) 2)]]
theorem d_end : endF 2 3 dC = some dG := by kernel_rfl
theorem d_outs : outsF dO dG = [[(Rat.divInt 1 2), (Rat.divInt (-1) 2)], [1, 0]] := by kernel_rfl
theorem d_told : ToldF dC (unitsF (2 : Int).toNat (3 : Int).toNat) 2 := by
 obtain ⟨m, t⟩ := toldF_ex dC (unitsF (2 : Int).toNat (3 : Int).toNat)
 have h := d_end
 have hm : m = 2 := by
  by_cases e : m < 2
  · have h1 := t.stop e
    have h2 := afterF_mono h1 (show m + 1 ≤ 2 by omega)
    have h3 : afterF dC (unitsF (2 : Int).toNat (3 : Int).toNat) 2 = some dG := h
    rw [h3] at h2; cases h2
  · have := t.le
    have : m ≤ 2 := this
    omega
 rw [hm] at t; exact t
theorem txt_h : (qTxt (Rat.divInt 1 2)).toArray = #[49, 47, 50] := by kernel_rfl
theorem txt_mh : (qTxt (Rat.divInt (-1) 2)).toArray = #[45, 49, 47, 50] := by kernel_rfl
theorem txt_1 : (qTxt 1).toArray = #[49] := by kernel_rfl
theorem equalInF9 {P : Program} (w : World) (d : Nat) (t : TypeId) {ps rs : Array TypeId} {v : Bool} (f : Fn) (bs cs : Array Value) (h : P.underlying t = some (.func ps rs v)) : (Op.equalIn (d + 1) t (.func f bs cs) .nilFunc).run P w = .ok false w := by
 simp [Op.equalIn, run_underlying h]
theorem eqlF9 {P : Program} (w : World) (t : TypeId) {ps rs : Array TypeId} {v : Bool} (f : Fn) (bs cs : Array Value) (h : P.underlying t = some (.func ps rs v)) : (binOp .eql t (.func f bs cs) .nilFunc).run P w = .ok (.bool false) w := by
 simp only [binOp]
 simp [Op.equal, Op.maxDepth, equalInF9 w 9999 t f bs cs h]
theorem example9_c (w : World) : Calls Tryz.prog 52 #[] w fun e w' => (∃ a b, e = .returned (.agg #[.int .i64 2, .int .i64 3, .slice (some a) 2 2, .slice (some b) 2 2]) ∧ InsV w' (some a) 2 dC ∧ IntsV w' (some b) 2 dO) ∧ Below w.heap.size w w' := by
 have hB := Below.refl w.heap.size w
 go_enter Tryz.func52, Tryz.ntmps52
 go_wp2
 refine bodyPost_ret (v := .agg #[.int .i64 2, .int .i64 3, .slice (some ⟨w.heap.size + 1, 0, none⟩) 2 2, .slice (some ⟨w.heap.size + 1 + 1, 0, none⟩) 2 2]) (by simp [results, Tryz.results52, go_sem]) rfl ⟨⟨_, _, rfl, .inr ⟨w.heap.size + 1, 0, rfl, by decide, fun k hk => ?_⟩, .inr ⟨w.heap.size + 1 + 1, 0, rfl, by decide, fun k hk => ?_⟩⟩, by repeat exact bZ⟩
 · rcases (show k = 0 ∨ k = 1 by have : k < 2 := hk; omega) with rfl | rfl
   · constructor <;> simp [go_sem, dC]
   · constructor <;> simp [go_sem, dC]
 · rcases (show k = 0 ∨ k = 1 by have : k < 2 := hk; omega) with rfl | rfl <;> simp [go_sem, dO]
theorem steps9_c (ins regs : Int) (ca oa : Option Addr) (cl cc ol oc : Nat) (w : World) : Calls Tryz.prog 21 #[.agg #[.int .i64 ins, .int .i64 regs, .slice ca cl cc, .slice oa ol oc]] w fun e w' => (∃ pb, e = .returned (.func (.func 103) #[] #[.pointer (some ⟨pb, 0, none⟩)]) ∧ w'.cell? ⟨pb, 0, none⟩ = some (.int .i64 ins) ∧ w'.cell? ⟨pb, 1, none⟩ = some (.int .i64 regs) ∧ w'.cell? ⟨pb, 2, none⟩ = some (.slice ca cl cc) ∧ w'.cell? ⟨pb, 3, none⟩ = some (.slice oa ol oc)) ∧ Below w.heap.size w w' := by
 have hB := Below.refl w.heap.size w
 go_enter Tryz.func21, Tryz.ntmps21
 go_wp2
 go_ret
 refine ⟨⟨_, rfl, by simp [go_sem], by simp [go_sem], by simp [go_sem], by simp [go_sem]⟩, ?_⟩
 repeat exact bZ
end
section
open Num
attribute [local go_sem ↓] Go.wp_at_zero Go.wp_at_succ
def BoolAny (w : World) (e : Ending) (w' : World) : Prop := (∃ b, e = .returned (.bool b)) ∧ Below w.heap.size w w'
theorem long9_c (ins regs : Int) (ca oa : Option Addr) (cl cc ol oc : Nat) (w : World) : Calls Tryz.prog 15 #[.agg #[.int .i64 ins, .int .i64 regs, .slice ca cl cc, .slice oa ol oc]] w (BoolAny w) := by
 have hB := Below.refl w.heap.size w
 go_enter Tryz.func15, Tryz.ntmps15
 go_wp2
 all_goals go_ret
 all_goals exact ⟨⟨_, rfl⟩, by repeat exact bZ⟩
end
end Go.Proofs.YtbmaffijncapiaaGreatDoor
