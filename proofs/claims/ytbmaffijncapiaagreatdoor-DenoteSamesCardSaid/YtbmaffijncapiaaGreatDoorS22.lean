/- Texts of this seat, laid together: DnK, DnM, RpB. What each theorem proves, and under which conditions, its statement says. -/
import Derived.Test.YtbmaffijncapiaaGreatDoorS21
set_option maxRecDepth 100000
set_option maxHeartbeats 32000000
set_option linter.unusedVariables false
set_option linter.unusedSimpArgs false
namespace Go.Proofs.YtbmaffijncapiaaGreatDoor
open Go.ChangeShapes Go.WideShapes Go.ChangeAt Go.RowKit
section
open Num
attribute [local go_sem ↓] Go.wp_at_zero Go.wp_at_succ
def RelGrid (R : List Rat → List Rat → Prop) (A B : GridF) : Prop := A.length = B.length ∧ ∀ j, j < A.length → R (A.getD j []) (B.getD j [])
theorem relGrid_eq {A B : GridF} : RelGrid (· = ·) A B ↔ A = B := by
 constructor
 · rintro ⟨h1, h2⟩
   apply List.ext_getElem h1
   intro j ha hb
   have := h2 j ha
   simpa [ha, hb] using this
 · rintro rfl; exact ⟨rfl, fun _ _ => rfl⟩
def BdF (k : Nat) (g : GridF) : Prop := ∀ i, i < g.length → ∀ j, j < (g.getD i []).length → BdQ k ((g.getD i []).getD j 0)
def FitF (g : GridF) : Prop := ∀ i, i < g.length → (g.getD i []).length ≤ 1099511627776
theorem eqQs_c (va vb : Value) (A B : GridF) (k : Nat) (w : World) (hx : IsL 38 (FRow 0) 0 w va A) (hy : IsL 38 (FRow 0) 0 w vb B) (bA : BdF k A) (bB : BdF k B) (fA : FitF A) (hk : k ≤ 1000000000) (hl : A.length ≤ 8796093022208) :
 Calls Tryz.prog 119 #[va, vb, .func (.func 120) #[] #[]] w (BoolPost (RelGrid Eq A B) w) := by
 obtain ⟨a1, c1, rfl, -, v1⟩ := hx.view
 obtain ⟨a2, c2, rfl, -, v2⟩ := hy.view
 have HX := hZ v1
 have HY := hZ v2
 have HA := hZ (And.intro bA fA)
 have HB := hZ bB
 obtain ⟨n, hn⟩ : ∃ n, A.length = n := ⟨_, rfl⟩
 obtain ⟨m, hm⟩ : ∃ m, B.length = m := ⟨_, rfl⟩
 have HN := hZ hn
 have HM := hZ hm
 rw [hn] at hl ⊢
 rw [hm]
 clear hx hy bA bB fA hn hm v1 v2
 have hB := Below.refl w.heap.size w
 go_enter Tryz.func119, Tryz.ntmps119
 by_cases hnm : n = m
 · subst hnm
   have hq : ((n : Int) != (n : Int)) = false := by simp
   go_wp2
   go_loopw [17] (fun x wr => ∃ j : Nat, j ≤ n ∧ x = .int .i64 j ∧ Below w.heap.size w wr ∧ Hid (∀ t, t < j → Eq (A.getD t []) (B.getD t []))) (fun x _ => n - (intOf x).toNat)
   case atStart => exact ⟨0, Nat.zero_le _, rfl, hB, hZ (fun t ht => by omega)⟩
   case round =>
    obtain ⟨j, hj, rfl, hBr, hE⟩ := hrel
    by_cases hlt : j < n
    · have hltI : (j : Int) < (n : Int) := by omega
      obtain ⟨b, off, u, rfl, q0, qI⟩ := HX.out j (by rw [HN.out]; exact hlt)
      obtain ⟨b', off', u', rfl, r0, rI⟩ := HY.out j (by rw [HM.out]; exact hlt)
      rw [show A[j]'(by rw [HN.out]; exact hlt) = A.getD j [] by simp [HN.out, hlt]] at qI
      rw [show B[j]'(by rw [HM.out]; exact hlt) = B.getD j [] by simp [HM.out, hlt]] at rI
      have q0' := bkeep hBr q0
      have r0' := bkeep hBr r0
      have zb := cell_lt q0'
      have zr := cell_lt r0'
      have WC := hZ (fun V (h : Below wr.heap.size wr V) => alikeQ_c _ _ (A.getD j []) (B.getD j []) k V (FRow.keep qI (bthen hBr h)) (FRow.keep rI (bthen hBr h)) (HA.out.1 j (by rw [HN.out]; exact hlt)) (HB.out j (by rw [HM.out]; exact hlt)) hk (HA.out.2 j (by rw [HN.out]; exact hlt)))
      obtain ⟨ua, uc, rfl⟩ := FrRow.ex qI
      obtain ⟨ub, ud, rfl⟩ := FrRow.ex rI
      have HE2 := hZ (show Eq (A.getD j []) (B.getD j []) → ∀ t, t < j + 1 → Eq (A.getD t []) (B.getD t []) from fun hs t ht => by
       by_cases e : t = j
       · subst e; exact hs
       · exact hE.out t (by omega))
      have HNS := hZ (show ¬ Eq (A.getD j []) (B.getD j []) → ¬ RelGrid Eq A B from fun hs h => hs (h.2 j (by rw [HN.out]; exact hlt)))
      obtain ⟨X, hX⟩ : ∃ X, A.getD j [] = X := ⟨_, rfl⟩
      obtain ⟨Y, hY⟩ : ∃ Y, B.getD j [] = Y := ⟨_, rfl⟩
      rw [hX] at WC q0 q0' HE2 HNS
      rw [hY] at WC r0 r0' HE2 HNS
      have hBw := Below.refl wr.heap.size wr
      clear qI rI q0 r0 hX hY
      go_wp2_with fail
      (with_reducible refine (WC.out _ ?_).mono ?_); (repeat exact bZ)
      rintro e w5 ⟨⟨bb, rfl, hbb⟩, hb5⟩
      have hB5 := bthen hBr (bthen (show Below wr.heap.size wr _ by repeat exact bZ) hb5)
      clear WC hb5
      cases bb with
      | true =>
       have HE3 := hZ (HE2.out (hbb.1 rfl))
       clear hbb HE2 HNS
       go_wp2
       exact ⟨⟨j + 1, hlt, by go_num, hB5, HE3⟩, meas hlt (by go_num) rfl⟩
      | false =>
       have HNN := hZ (HNS.out (fun h => by have := hbb.2 h; cases this))
       clear hbb HE2 HNS
       go_wp2
       go_ret
       exact BoolPost.no HNN.out hB5
    · obtain rfl : j = n := by omega
      have hltI : ¬ (j : Int) < (j : Int) := by omega
      have HS := hZ (show RelGrid Eq A B from ⟨by rw [HN.out, HM.out], fun t ht => hE.out t (by rw [HN.out] at ht; exact ht)⟩)
      go_wp2
      go_ret
      exact BoolPost.yes HS.out hBr
 · have hq : ((n : Int) != (m : Int)) = true := by simp; omega
   have HS := hZ (show ¬ RelGrid Eq A B from fun h => hnm (by have := h.1; rw [HN.out, HM.out] at this; exact this))
   clear hnm
   go_wp2
   go_ret
   exact BoolPost.no HS.out hB
theorem outsF_len (outs : List Int) (h : GridF) : (outsF outs h).length = outs.length := by simp [outsF]
theorem outsF_get {outs : List Int} {h : GridF} {i : Nat} (hi : i < outs.length) : (outsF outs h).getD i [] = h.getD (outs.getD i 0).toNat [] := by simp [outsF, hi]
theorem endF_ok {ins regs : Int} {code : List Ins} {outs : List Int} {h : GridF} (hok : ProgOk ins regs code outs) (e : endF ins regs code = some h) : RectF ins.toNat (outsF outs h) ∧ SlimG (outsF outs h) := by
 have hl := afterF_len e
 rw [unitsF_len] at hl
 obtain ⟨h1, h2⟩ := afterF_ok (unitsF_rect ins.toNat regs.toNat) (unitsF_slim _ _) (fun n hn => by rw [unitsF_len]; exact ⟨(ins_ofF hok hn).a0, (ins_ofF hok hn).a1⟩) (Nat.le_refl _) e
 have key : ∀ i, i < outs.length → (outs.getD i 0).toNat < h.length := fun i hi => by
  obtain ⟨q1, q2⟩ := hok.os i hi
  rw [hl]; omega
 constructor
 · intro i hi
   rw [outsF_len] at hi
   rw [outsF_get hi]; exact h1 _ (key i hi)
 · intro i hi
   rw [outsF_len] at hi
   rw [outsF_get hi]; exact h2 _ (key i hi)
theorem slimG_bd {g : GridF} (h : SlimG g) : BdF 65536 g := fun i hi j hj => h i hi j hj
theorem ownP_isL0 {base : Nat} {w0 w : World} {v : Value} {g : GridF} (h : OwnP base w0 w v g) : IsL 38 (FRow 0) 0 w v g := (h.isL.rebase (Nat.zero_le _)).mono fun u x q => FrRow.rebase q (Nat.zero_le _)
def SameRes (ins regs : Int) (code : List Ins) (outs : List Int) (ins' regs' : Int) (code' : List Ins) (outs' : List Int) (b : Bool) (n : Int) : Prop :=
 (¬ (ProgOk ins regs code outs ∧ ProgOk ins' regs' code' outs') ∧ b = false ∧ n = 80) ∨
 ((ProgOk ins regs code outs ∧ ProgOk ins' regs' code' outs') ∧ (endF ins regs code = none ∨ endF ins' regs' code' = none) ∧ b = false ∧ n = 3) ∨
 ((ProgOk ins regs code outs ∧ ProgOk ins' regs' code' outs') ∧ ∃ h h', endF ins regs code = some h ∧ endF ins' regs' code' = some h' ∧ n = 0 ∧ (b = true ↔ ins = ins' ∧ outsF outs h = outsF outs' h'))
def SamePost (ins regs : Int) (code : List Ins) (outs : List Int) (ins' regs' : Int) (code' : List Ins) (outs' : List Int) (w : World) (e : Ending) (w' : World) : Prop := (∃ b n, e = .returned (.tuple #[.bool b, .int .i64 n]) ∧ SameRes ins regs code outs ins' regs' code' outs' b n) ∧ Below w.heap.size w w'
theorem check_yes {ins regs : Int} {ca oa : Option Addr} {cc oc : Nat} {code : List Ins} {outs : List Int} {w : World} (hc : InsV w ca cc code) (ho : IntsV w oa oc outs) (h : ProgOk ins regs code outs) : Calls Tryz.prog 94 #[.agg #[.int .i64 ins, .int .i64 regs, .slice ca code.length cc, .slice oa outs.length oc]] w fun e w' => (∃ r : Int, e = .returned (.tuple #[.int .i64 r, .int .i64 0])) ∧ Below w.heap.size w w' :=
 (check_c ins regs ca oa cc oc code outs w hc ho).mono fun e w' ⟨r, s, h1, h2, h3⟩ => by
  rcases h2 with ⟨_, rfl, rfl⟩ | ⟨h4, _⟩
  · exact ⟨⟨_, h1⟩, h3⟩
  · exact absurd h h4
theorem check_no {ins regs : Int} {ca oa : Option Addr} {cc oc : Nat} {code : List Ins} {outs : List Int} {w : World} (hc : InsV w ca cc code) (ho : IntsV w oa oc outs) (h : ¬ ProgOk ins regs code outs) : Calls Tryz.prog 94 #[.agg #[.int .i64 ins, .int .i64 regs, .slice ca code.length cc, .slice oa outs.length oc]] w fun e w' => (∃ r : Int, e = .returned (.tuple #[.int .i64 r, .int .i64 80])) ∧ Below w.heap.size w w' :=
 (check_c ins regs ca oa cc oc code outs w hc ho).mono fun e w' ⟨r, s, h1, h2, h3⟩ => by
  rcases h2 with ⟨h4, _⟩ | ⟨_, rfl⟩
  · exact absurd h4 h
  · exact ⟨⟨_, h1⟩, h3⟩
theorem rows_yes {ins regs : Int} {ca oa : Option Addr} {cc oc : Nat} {code : List Ins} {outs : List Int} {w : World} {h : GridF} (hc : InsV w ca cc code) (ho : IntsV w oa oc outs) (hok : ProgOk ins regs code outs) (he : endF ins regs code = some h) : Calls Tryz.prog 17 #[.agg #[.int .i64 ins, .int .i64 regs, .slice ca code.length cc, .slice oa outs.length oc]] w fun e w' => (∃ v, e = .returned (.tuple #[v, .int .i64 0]) ∧ OwnP w.heap.size w w' v (outsF outs h)) ∧ Below w.heap.size w w' :=
 (rows_c ins regs ca oa cc oc code outs w hc ho).mono fun e w' ⟨⟨v, q, h1, h2⟩, h3⟩ => by
  rcases h2 with ⟨h4, _⟩ | ⟨_, h4, _⟩ | ⟨_, h', h4, rfl, h5⟩
  · exact absurd hok h4
  · rw [he] at h4; cases h4
  · rw [he] at h4; cases h4; exact ⟨⟨v, h1, h5⟩, h3⟩
theorem rows_wide {ins regs : Int} {ca oa : Option Addr} {cc oc : Nat} {code : List Ins} {outs : List Int} {w : World} (hc : InsV w ca cc code) (ho : IntsV w oa oc outs) (hok : ProgOk ins regs code outs) (he : endF ins regs code = none) : Calls Tryz.prog 17 #[.agg #[.int .i64 ins, .int .i64 regs, .slice ca code.length cc, .slice oa outs.length oc]] w fun e w' => e = .returned (.tuple #[.slice none 0 0, .int .i64 3]) ∧ Below w.heap.size w w' :=
 (rows_c ins regs ca oa cc oc code outs w hc ho).mono fun e w' ⟨⟨v, q, h1, h2⟩, h3⟩ => by
  rcases h2 with ⟨h4, _⟩ | ⟨_, h4, rfl, rfl⟩ | ⟨_, h', h4, _⟩
  · exact absurd hok h4
  · exact ⟨h1, h3⟩
  · rw [he] at h4; cases h4
theorem rows_no {ins regs : Int} {ca oa : Option Addr} {cc oc : Nat} {code : List Ins} {outs : List Int} {w : World} (hc : InsV w ca cc code) (ho : IntsV w oa oc outs) (hok : ¬ ProgOk ins regs code outs) : Calls Tryz.prog 17 #[.agg #[.int .i64 ins, .int .i64 regs, .slice ca code.length cc, .slice oa outs.length oc]] w fun e w' => e = .returned (.tuple #[.slice none 0 0, .int .i64 80]) ∧ Below w.heap.size w w' :=
 (rows_c ins regs ca oa cc oc code outs w hc ho).mono fun e w' ⟨⟨v, q, h1, h2⟩, h3⟩ => by
  rcases h2 with ⟨_, rfl, rfl⟩ | ⟨h4, _⟩ | ⟨h4, _⟩
  · exact ⟨h1, h3⟩
  · exact absurd h4 hok
  · exact absurd h4 hok
theorem sameQ_c (ins regs : Int) (ca oa : Option Addr) (cc oc : Nat) (code : List Ins) (outs : List Int) (ins' regs' : Int) (ca' oa' : Option Addr) (cc' oc' : Nat) (code' : List Ins) (outs' : List Int) (w : World) (hc : InsV w ca cc code) (ho : IntsV w oa oc outs) (hc' : InsV w ca' cc' code') (ho' : IntsV w oa' oc' outs') :
 Calls Tryz.prog 35 #[.agg #[.int .i64 ins, .int .i64 regs, .slice ca code.length cc, .slice oa outs.length oc], .agg #[.int .i64 ins', .int .i64 regs', .slice ca' code'.length cc', .slice oa' outs'.length oc']] w (SamePost ins regs code outs ins' regs' code' outs' w) := by
 have hB := Below.refl w.heap.size w
 by_cases hp : ProgOk ins regs code outs
 · have CP := hZ (fun V (h : Below w.heap.size w V) => check_yes (hc.keep h) (ho.keep h) hp)
   by_cases hq : ProgOk ins' regs' code' outs'
   · have CQ := hZ (fun V (h : Below w.heap.size w V) => check_yes (hc'.keep h) (ho'.keep h) hq)
     have HC := hZ (And.intro (And.intro hc ho) (And.intro hc' ho'))
     have HPQ := hZ (And.intro hp hq)
     clear hc ho hc' ho' hp hq
     go_enter Tryz.func35, Tryz.ntmps35
     go_wp2_with fail
     (with_reducible refine (CP.out _ ?_).mono ?_); (repeat exact bZ)
     rintro e w1 ⟨⟨r1, rfl⟩, hb1⟩
     have hB1 : Below w.heap.size w w1 := bthen bZ hb1
     have p0 : w1.cell? ⟨w.heap.size, 0, none⟩ = some (.int .i64 ins) := bkc hb1
     have zp0 := cell_lt p0
     have p1 : w1.cell? ⟨w.heap.size, 1, none⟩ = some (.int .i64 regs) := bkc hb1
     have p2 : w1.cell? ⟨w.heap.size, 2, none⟩ = some (.slice ca code.length cc) := bkc hb1
     have p3 : w1.cell? ⟨w.heap.size, 3, none⟩ = some (.slice oa outs.length oc) := bkc hb1
     have r0 : w1.cell? ⟨w.heap.size + 1, 0, none⟩ = some (.int .i64 ins') := bkc hb1
     have zr0 := cell_lt r0
     have r1 : w1.cell? ⟨w.heap.size + 1, 1, none⟩ = some (.int .i64 regs') := bkc hb1
     have r2 : w1.cell? ⟨w.heap.size + 1, 2, none⟩ = some (.slice ca' code'.length cc') := bkc hb1
     have r3 : w1.cell? ⟨w.heap.size + 1, 3, none⟩ = some (.slice oa' outs'.length oc') := bkc hb1
     have hB : Below w.heap.size w w1 := bthen bZ hb1
     have hz := hB.size
     clear CP hb1
     go_wp2_with fail
     (with_reducible refine (CQ.out _ ?_).mono ?_); (repeat exact bZ)
     rintro e w2 ⟨⟨r2, rfl⟩, hb2⟩
     have hB2 : Below w.heap.size w w2 := bthen bZ hb2
     have p0 : w2.cell? ⟨w.heap.size, 0, none⟩ = some (.int .i64 ins) := bkc hb2
     have zp0 := cell_lt p0
     have p1 : w2.cell? ⟨w.heap.size, 1, none⟩ = some (.int .i64 regs) := bkc hb2
     have p2 : w2.cell? ⟨w.heap.size, 2, none⟩ = some (.slice ca code.length cc) := bkc hb2
     have p3 : w2.cell? ⟨w.heap.size, 3, none⟩ = some (.slice oa outs.length oc) := bkc hb2
     have r0 : w2.cell? ⟨w.heap.size + 1, 0, none⟩ = some (.int .i64 ins') := bkc hb2
     have zr0 := cell_lt r0
     have r1 : w2.cell? ⟨w.heap.size + 1, 1, none⟩ = some (.int .i64 regs') := bkc hb2
     have r2 : w2.cell? ⟨w.heap.size + 1, 2, none⟩ = some (.slice ca' code'.length cc') := bkc hb2
     have r3 : w2.cell? ⟨w.heap.size + 1, 3, none⟩ = some (.slice oa' outs'.length oc') := bkc hb2
     have hB : Below w.heap.size w w2 := bthen bZ hb2
     have hz := hB.size
     clear CQ hb2
     cases he : endF ins regs code with
     | none =>
      have HR := hZ (show SameRes ins regs code outs ins' regs' code' outs' false 3 from .inr (.inl ⟨HPQ.out, .inl he, rfl, rfl⟩))
      have RP := hZ (fun V (h : Below w.heap.size w V) => rows_wide (HC.out.1.1.keep h) (HC.out.1.2.keep h) HPQ.out.1 he)
      cases hf : endF ins' regs' code' with
      | none =>
       have RQ := hZ (fun V (h : Below w.heap.size w V) => rows_wide (HC.out.2.1.keep h) (HC.out.2.2.keep h) HPQ.out.2 hf)
       clear he hf
       go_wp2_with fail
       (with_reducible refine (RP.out _ ?_).mono ?_); (repeat exact bZ)
       rintro e w3 ⟨rfl, hb3⟩
       have hB3 : Below w.heap.size w w3 := bthen bZ hb3
       have p0 : w3.cell? ⟨w.heap.size, 0, none⟩ = some (.int .i64 ins) := bkc hb3
       have zp0 := cell_lt p0
       have p1 : w3.cell? ⟨w.heap.size, 1, none⟩ = some (.int .i64 regs) := bkc hb3
       have p2 : w3.cell? ⟨w.heap.size, 2, none⟩ = some (.slice ca code.length cc) := bkc hb3
       have p3 : w3.cell? ⟨w.heap.size, 3, none⟩ = some (.slice oa outs.length oc) := bkc hb3
       have r0 : w3.cell? ⟨w.heap.size + 1, 0, none⟩ = some (.int .i64 ins') := bkc hb3
       have zr0 := cell_lt r0
       have r1 : w3.cell? ⟨w.heap.size + 1, 1, none⟩ = some (.int .i64 regs') := bkc hb3
       have r2 : w3.cell? ⟨w.heap.size + 1, 2, none⟩ = some (.slice ca' code'.length cc') := bkc hb3
       have r3 : w3.cell? ⟨w.heap.size + 1, 3, none⟩ = some (.slice oa' outs'.length oc') := bkc hb3
       have hB : Below w.heap.size w w3 := bthen bZ hb3
       have hz := hB.size
       clear RP hb3
       go_wp2_with fail
       (with_reducible refine (RQ.out _ ?_).mono ?_); (repeat exact bZ)
       rintro e w4 ⟨rfl, hb4⟩
       have hB4 : Below w.heap.size w w4 := bthen bZ hb4
       have p0 : w4.cell? ⟨w.heap.size, 0, none⟩ = some (.int .i64 ins) := bkc hb4
       have zp0 := cell_lt p0
       have p1 : w4.cell? ⟨w.heap.size, 1, none⟩ = some (.int .i64 regs) := bkc hb4
       have p2 : w4.cell? ⟨w.heap.size, 2, none⟩ = some (.slice ca code.length cc) := bkc hb4
       have p3 : w4.cell? ⟨w.heap.size, 3, none⟩ = some (.slice oa outs.length oc) := bkc hb4
       have r0 : w4.cell? ⟨w.heap.size + 1, 0, none⟩ = some (.int .i64 ins') := bkc hb4
       have zr0 := cell_lt r0
       have r1 : w4.cell? ⟨w.heap.size + 1, 1, none⟩ = some (.int .i64 regs') := bkc hb4
       have r2 : w4.cell? ⟨w.heap.size + 1, 2, none⟩ = some (.slice ca' code'.length cc') := bkc hb4
       have r3 : w4.cell? ⟨w.heap.size + 1, 3, none⟩ = some (.slice oa' outs'.length oc') := bkc hb4
       have hB : Below w.heap.size w w4 := bthen bZ hb4
       have hz := hB.size
       clear RQ hb4
       go_wp2
       refine bodyPost_ret (v := .tuple #[.bool false, .int .i64 3]) (by simp [results, Tryz.results35, go_sem]) rfl ⟨⟨_, _, rfl, HR.out⟩, ?_⟩
       repeat exact bZ
      | some h' =>
       have RQ := hZ (fun V (h : Below w.heap.size w V) => rows_yes (HC.out.2.1.keep h) (HC.out.2.2.keep h) HPQ.out.2 hf)
       clear he hf
       go_wp2_with fail
       (with_reducible refine (RP.out _ ?_).mono ?_); (repeat exact bZ)
       rintro e w3 ⟨rfl, hb3⟩
       have hB3 : Below w.heap.size w w3 := bthen bZ hb3
       have p0 : w3.cell? ⟨w.heap.size, 0, none⟩ = some (.int .i64 ins) := bkc hb3
       have zp0 := cell_lt p0
       have p1 : w3.cell? ⟨w.heap.size, 1, none⟩ = some (.int .i64 regs) := bkc hb3
       have p2 : w3.cell? ⟨w.heap.size, 2, none⟩ = some (.slice ca code.length cc) := bkc hb3
       have p3 : w3.cell? ⟨w.heap.size, 3, none⟩ = some (.slice oa outs.length oc) := bkc hb3
       have r0 : w3.cell? ⟨w.heap.size + 1, 0, none⟩ = some (.int .i64 ins') := bkc hb3
       have zr0 := cell_lt r0
       have r1 : w3.cell? ⟨w.heap.size + 1, 1, none⟩ = some (.int .i64 regs') := bkc hb3
       have r2 : w3.cell? ⟨w.heap.size + 1, 2, none⟩ = some (.slice ca' code'.length cc') := bkc hb3
       have r3 : w3.cell? ⟨w.heap.size + 1, 3, none⟩ = some (.slice oa' outs'.length oc') := bkc hb3
       have hB : Below w.heap.size w w3 := bthen bZ hb3
       have hz := hB.size
       clear RP hb3
       go_wp2_with fail
       (with_reducible refine (RQ.out _ ?_).mono ?_); (repeat exact bZ)
       rintro e w4 ⟨⟨vb, rfl, hv4⟩, hb4⟩
       have hB4 : Below w.heap.size w w4 := bthen bZ hb4
       have p0 : w4.cell? ⟨w.heap.size, 0, none⟩ = some (.int .i64 ins) := bkc hb4
       have zp0 := cell_lt p0
       have p1 : w4.cell? ⟨w.heap.size, 1, none⟩ = some (.int .i64 regs) := bkc hb4
       have p2 : w4.cell? ⟨w.heap.size, 2, none⟩ = some (.slice ca code.length cc) := bkc hb4
       have p3 : w4.cell? ⟨w.heap.size, 3, none⟩ = some (.slice oa outs.length oc) := bkc hb4
       have r0 : w4.cell? ⟨w.heap.size + 1, 0, none⟩ = some (.int .i64 ins') := bkc hb4
       have zr0 := cell_lt r0
       have r1 : w4.cell? ⟨w.heap.size + 1, 1, none⟩ = some (.int .i64 regs') := bkc hb4
       have r2 : w4.cell? ⟨w.heap.size + 1, 2, none⟩ = some (.slice ca' code'.length cc') := bkc hb4
       have r3 : w4.cell? ⟨w.heap.size + 1, 3, none⟩ = some (.slice oa' outs'.length oc') := bkc hb4
       have hB : Below w.heap.size w w4 := bthen bZ hb4
       have hz := hB.size
       clear RQ hb4
       have HV4 := hZ hv4
       obtain ⟨a4, c4, rfl⟩ := hv4.ex
       clear hv4
       go_wp2
       refine bodyPost_ret (v := .tuple #[.bool false, .int .i64 3]) (by simp [results, Tryz.results35, go_sem]) rfl ⟨⟨_, _, rfl, HR.out⟩, ?_⟩
       repeat exact bZ
     | some h =>
      cases hf : endF ins' regs' code' with
      | none =>
       have HR := hZ (show SameRes ins regs code outs ins' regs' code' outs' false 3 from .inr (.inl ⟨HPQ.out, .inr hf, rfl, rfl⟩))
       have RP := hZ (fun V (h : Below w.heap.size w V) => rows_yes (HC.out.1.1.keep h) (HC.out.1.2.keep h) HPQ.out.1 he)
       have RQ := hZ (fun V (h : Below w.heap.size w V) => rows_wide (HC.out.2.1.keep h) (HC.out.2.2.keep h) HPQ.out.2 hf)
       clear he hf
       go_wp2_with fail
       (with_reducible refine (RP.out _ ?_).mono ?_); (repeat exact bZ)
       rintro e w3 ⟨⟨va, rfl, hv3⟩, hb3⟩
       have hB3 : Below w.heap.size w w3 := bthen bZ hb3
       have p0 : w3.cell? ⟨w.heap.size, 0, none⟩ = some (.int .i64 ins) := bkc hb3
       have zp0 := cell_lt p0
       have p1 : w3.cell? ⟨w.heap.size, 1, none⟩ = some (.int .i64 regs) := bkc hb3
       have p2 : w3.cell? ⟨w.heap.size, 2, none⟩ = some (.slice ca code.length cc) := bkc hb3
       have p3 : w3.cell? ⟨w.heap.size, 3, none⟩ = some (.slice oa outs.length oc) := bkc hb3
       have r0 : w3.cell? ⟨w.heap.size + 1, 0, none⟩ = some (.int .i64 ins') := bkc hb3
       have zr0 := cell_lt r0
       have r1 : w3.cell? ⟨w.heap.size + 1, 1, none⟩ = some (.int .i64 regs') := bkc hb3
       have r2 : w3.cell? ⟨w.heap.size + 1, 2, none⟩ = some (.slice ca' code'.length cc') := bkc hb3
       have r3 : w3.cell? ⟨w.heap.size + 1, 3, none⟩ = some (.slice oa' outs'.length oc') := bkc hb3
       have hB : Below w.heap.size w w3 := bthen bZ hb3
       have hz := hB.size
       clear RP hb3
       have HV3 := hZ hv3
       obtain ⟨a3, c3, rfl⟩ := hv3.ex
       clear hv3
       go_wp2_with fail
       (with_reducible refine (RQ.out _ ?_).mono ?_); (repeat exact bZ)
       rintro e w4 ⟨rfl, hb4⟩
       have hB4 : Below w.heap.size w w4 := bthen bZ hb4
       have p0 : w4.cell? ⟨w.heap.size, 0, none⟩ = some (.int .i64 ins) := bkc hb4
       have zp0 := cell_lt p0
       have p1 : w4.cell? ⟨w.heap.size, 1, none⟩ = some (.int .i64 regs) := bkc hb4
       have p2 : w4.cell? ⟨w.heap.size, 2, none⟩ = some (.slice ca code.length cc) := bkc hb4
       have p3 : w4.cell? ⟨w.heap.size, 3, none⟩ = some (.slice oa outs.length oc) := bkc hb4
       have r0 : w4.cell? ⟨w.heap.size + 1, 0, none⟩ = some (.int .i64 ins') := bkc hb4
       have zr0 := cell_lt r0
       have r1 : w4.cell? ⟨w.heap.size + 1, 1, none⟩ = some (.int .i64 regs') := bkc hb4
       have r2 : w4.cell? ⟨w.heap.size + 1, 2, none⟩ = some (.slice ca' code'.length cc') := bkc hb4
       have r3 : w4.cell? ⟨w.heap.size + 1, 3, none⟩ = some (.slice oa' outs'.length oc') := bkc hb4
       have hB : Below w.heap.size w w4 := bthen bZ hb4
       have hz := hB.size
       clear RQ hb4
       go_wp2
       refine bodyPost_ret (v := .tuple #[.bool false, .int .i64 3]) (by simp [results, Tryz.results35, go_sem]) rfl ⟨⟨_, _, rfl, HR.out⟩, ?_⟩
       repeat exact bZ
      | some h' =>
       have HE := hZ (And.intro he hf)
       have RP := hZ (fun V (h : Below w.heap.size w V) => rows_yes (HC.out.1.1.keep h) (HC.out.1.2.keep h) HPQ.out.1 he)
       have RQ := hZ (fun V (h : Below w.heap.size w V) => rows_yes (HC.out.2.1.keep h) (HC.out.2.2.keep h) HPQ.out.2 hf)
       have HO1 := hZ (endF_ok HPQ.out.1 he)
       have HO2 := hZ (endF_ok HPQ.out.2 hf)
       clear he hf
       go_wp2_with fail
       (with_reducible refine (RP.out _ ?_).mono ?_); (repeat exact bZ)
       rintro e w3 ⟨⟨va, rfl, hv3⟩, hb3⟩
       have hB3 : Below w.heap.size w w3 := bthen bZ hb3
       have p0 : w3.cell? ⟨w.heap.size, 0, none⟩ = some (.int .i64 ins) := bkc hb3
       have zp0 := cell_lt p0
       have p1 : w3.cell? ⟨w.heap.size, 1, none⟩ = some (.int .i64 regs) := bkc hb3
       have p2 : w3.cell? ⟨w.heap.size, 2, none⟩ = some (.slice ca code.length cc) := bkc hb3
       have p3 : w3.cell? ⟨w.heap.size, 3, none⟩ = some (.slice oa outs.length oc) := bkc hb3
       have r0 : w3.cell? ⟨w.heap.size + 1, 0, none⟩ = some (.int .i64 ins') := bkc hb3
       have zr0 := cell_lt r0
       have r1 : w3.cell? ⟨w.heap.size + 1, 1, none⟩ = some (.int .i64 regs') := bkc hb3
       have r2 : w3.cell? ⟨w.heap.size + 1, 2, none⟩ = some (.slice ca' code'.length cc') := bkc hb3
       have r3 : w3.cell? ⟨w.heap.size + 1, 3, none⟩ = some (.slice oa' outs'.length oc') := bkc hb3
       have hB : Below w.heap.size w w3 := bthen bZ hb3
       have hz := hB.size
       clear RP hb3
       have HV3 := hZ hv3
       obtain ⟨a3, c3, rfl⟩ := hv3.ex
       clear hv3
       have hBk := Below.refl w3.heap.size w3
       go_wp2_with fail
       (with_reducible refine (RQ.out _ ?_).mono ?_); (repeat exact bZ)
       rintro e w4 ⟨⟨vb, rfl, hv4⟩, hb4⟩
       have hb34 : Below w3.heap.size w3 w4 := bthen bZ hb4
       have hB4 : Below w.heap.size w w4 := bthen hB3 hb34
       have p0 : w4.cell? ⟨w.heap.size, 0, none⟩ = some (.int .i64 ins) := bkc hb4
       have zp0 := cell_lt p0
       have p1 : w4.cell? ⟨w.heap.size, 1, none⟩ = some (.int .i64 regs) := bkc hb4
       have p2 : w4.cell? ⟨w.heap.size, 2, none⟩ = some (.slice ca code.length cc) := bkc hb4
       have p3 : w4.cell? ⟨w.heap.size, 3, none⟩ = some (.slice oa outs.length oc) := bkc hb4
       have r0 : w4.cell? ⟨w.heap.size + 1, 0, none⟩ = some (.int .i64 ins') := bkc hb4
       have zr0 := cell_lt r0
       have r1 : w4.cell? ⟨w.heap.size + 1, 1, none⟩ = some (.int .i64 regs') := bkc hb4
       have r2 : w4.cell? ⟨w.heap.size + 1, 2, none⟩ = some (.slice ca' code'.length cc') := bkc hb4
       have r3 : w4.cell? ⟨w.heap.size + 1, 3, none⟩ = some (.slice oa' outs'.length oc') := bkc hb4
       have hB : Below w.heap.size w w4 := bthen bZ hb4
       have hz := hB.size
       clear RQ hb4
       have HV4 := hZ hv4
       obtain ⟨a4, c4, rfl⟩ := hv4.ex
       clear hv4
       obtain ⟨A, hA⟩ : ∃ A, outsF outs h = A := ⟨_, rfl⟩
       obtain ⟨B, hB'⟩ : ∃ B, outsF outs' h' = B := ⟨_, rfl⟩
       have HR := hZ (fun (b : Bool) (hb : b = true ↔ ins = ins' ∧ A = B) => (show SameRes ins regs code outs ins' regs' code' outs' b 0 from .inr (.inr ⟨HPQ.out, h, h', HE.out.1, HE.out.2, rfl, by rw [hA, hB']; exact hb⟩)))
       rw [hA] at HV3 HO1
       rw [hB'] at HV4 HO2
       have hAl : A.length ≤ 128 := by rw [← hA, outsF_len]; exact HPQ.out.1.o2
       have hI1 := HPQ.out.1.i2
       have hR1 := HPQ.out.1.r1
       have EC := hZ (fun V (h : Below w4.heap.size w4 V) => (eqQs_c _ _ A B 65536 V (ownP_isL0 (HV3.out.below (bthen hb34 h))) (ownP_isL0 (HV4.out.below h)) (slimG_bd HO1.out.2) (slimG_bd HO2.out.2) (fun i hi => by rw [HO1.out.1 i hi]; omega) (by omega) (by omega)).mono (R' := fun e w' => (∃ b, e = .returned (.bool b) ∧ (b = true ↔ A = B)) ∧ Below V.heap.size V w') fun e w' ⟨⟨b, h1, h2⟩, h3⟩ => ⟨⟨b, h1, h2.trans relGrid_eq⟩, h3⟩)
       by_cases hii : ins = ins'
       · have hee : (ins == ins') = true := by simpa using hii
         have hBw := Below.refl w4.heap.size w4
         go_wp2_with fail
         (with_reducible refine (EC.out _ ?_).mono ?_); (repeat exact bZ)
         rintro e w5 ⟨⟨b, rfl, hb⟩, hb5⟩
         have HF := hZ (HR.out b (hb.trans ⟨fun h => ⟨hii, h⟩, fun h => h.2⟩))
         have hB5 : Below w.heap.size w w5 := bthen hB4 (bthen bZ hb5)
         clear HR hii hb EC hb5
         go_wp2
         refine bodyPost_ret (v := .tuple #[.bool b, .int .i64 0]) (by simp [results, Tryz.results35, go_sem]) rfl ⟨⟨_, _, rfl, HF.out⟩, ?_⟩
         repeat exact bZ
       · have HF := hZ (HR.out false ⟨fun h => (by cases h), fun h => absurd h.1 hii⟩)
         have hne : (ins == ins') = false := by simpa using hii
         clear HR hii
         go_wp2
         refine bodyPost_ret (v := .tuple #[.bool false, .int .i64 0]) (by simp [results, Tryz.results35, go_sem]) rfl ⟨⟨_, _, rfl, HF.out⟩, ?_⟩
         repeat exact bZ
   · have CQ := hZ (fun V (h : Below w.heap.size w V) => check_no (hc'.keep h) (ho'.keep h) hq)
     have HR := hZ (show SameRes ins regs code outs ins' regs' code' outs' false 80 from .inl ⟨fun h => hq h.2, rfl, rfl⟩)
     clear hc ho hc' ho' hp hq
     go_enter Tryz.func35, Tryz.ntmps35
     go_wp2_with fail
     (with_reducible refine (CP.out _ ?_).mono ?_); (repeat exact bZ)
     rintro e w1 ⟨⟨r1, rfl⟩, hb1⟩
     have hB1 : Below w.heap.size w w1 := bthen bZ hb1
     have p0 : w1.cell? ⟨w.heap.size, 0, none⟩ = some (.int .i64 ins) := bkc hb1
     have zp0 := cell_lt p0
     have p1 : w1.cell? ⟨w.heap.size, 1, none⟩ = some (.int .i64 regs) := bkc hb1
     have p2 : w1.cell? ⟨w.heap.size, 2, none⟩ = some (.slice ca code.length cc) := bkc hb1
     have p3 : w1.cell? ⟨w.heap.size, 3, none⟩ = some (.slice oa outs.length oc) := bkc hb1
     have r0 : w1.cell? ⟨w.heap.size + 1, 0, none⟩ = some (.int .i64 ins') := bkc hb1
     have zr0 := cell_lt r0
     have r1 : w1.cell? ⟨w.heap.size + 1, 1, none⟩ = some (.int .i64 regs') := bkc hb1
     have r2 : w1.cell? ⟨w.heap.size + 1, 2, none⟩ = some (.slice ca' code'.length cc') := bkc hb1
     have r3 : w1.cell? ⟨w.heap.size + 1, 3, none⟩ = some (.slice oa' outs'.length oc') := bkc hb1
     have hB : Below w.heap.size w w1 := bthen bZ hb1
     have hz := hB.size
     clear CP hb1
     go_wp2_with fail
     (with_reducible refine (CQ.out _ ?_).mono ?_); (repeat exact bZ)
     rintro e w2 ⟨⟨r2, rfl⟩, hb2⟩
     have hB2 : Below w.heap.size w w2 := bthen bZ hb2
     have p0 : w2.cell? ⟨w.heap.size, 0, none⟩ = some (.int .i64 ins) := bkc hb2
     have zp0 := cell_lt p0
     have p1 : w2.cell? ⟨w.heap.size, 1, none⟩ = some (.int .i64 regs) := bkc hb2
     have p2 : w2.cell? ⟨w.heap.size, 2, none⟩ = some (.slice ca code.length cc) := bkc hb2
     have p3 : w2.cell? ⟨w.heap.size, 3, none⟩ = some (.slice oa outs.length oc) := bkc hb2
     have r0 : w2.cell? ⟨w.heap.size + 1, 0, none⟩ = some (.int .i64 ins') := bkc hb2
     have zr0 := cell_lt r0
     have r1 : w2.cell? ⟨w.heap.size + 1, 1, none⟩ = some (.int .i64 regs') := bkc hb2
     have r2 : w2.cell? ⟨w.heap.size + 1, 2, none⟩ = some (.slice ca' code'.length cc') := bkc hb2
     have r3 : w2.cell? ⟨w.heap.size + 1, 3, none⟩ = some (.slice oa' outs'.length oc') := bkc hb2
     have hB : Below w.heap.size w w2 := bthen bZ hb2
     have hz := hB.size
     clear CQ hb2
     go_wp2
     refine bodyPost_ret (v := .tuple #[.bool false, .int .i64 80]) (by simp [results, Tryz.results35, go_sem]) rfl ⟨⟨_, _, rfl, HR.out⟩, ?_⟩
     repeat exact bZ
 · have CP := hZ (fun V (h : Below w.heap.size w V) => check_no (hc.keep h) (ho.keep h) hp)
   have HR := hZ (show SameRes ins regs code outs ins' regs' code' outs' false 80 from .inl ⟨fun h => hp h.1, rfl, rfl⟩)
   by_cases hq : ProgOk ins' regs' code' outs'
   · have CQ := hZ (fun V (h : Below w.heap.size w V) => check_yes (hc'.keep h) (ho'.keep h) hq)
     clear hc ho hc' ho' hp hq
     go_enter Tryz.func35, Tryz.ntmps35
     go_wp2_with fail
     (with_reducible refine (CP.out _ ?_).mono ?_); (repeat exact bZ)
     rintro e w1 ⟨⟨r1, rfl⟩, hb1⟩
     have hB1 : Below w.heap.size w w1 := bthen bZ hb1
     have p0 : w1.cell? ⟨w.heap.size, 0, none⟩ = some (.int .i64 ins) := bkc hb1
     have zp0 := cell_lt p0
     have p1 : w1.cell? ⟨w.heap.size, 1, none⟩ = some (.int .i64 regs) := bkc hb1
     have p2 : w1.cell? ⟨w.heap.size, 2, none⟩ = some (.slice ca code.length cc) := bkc hb1
     have p3 : w1.cell? ⟨w.heap.size, 3, none⟩ = some (.slice oa outs.length oc) := bkc hb1
     have r0 : w1.cell? ⟨w.heap.size + 1, 0, none⟩ = some (.int .i64 ins') := bkc hb1
     have zr0 := cell_lt r0
     have r1 : w1.cell? ⟨w.heap.size + 1, 1, none⟩ = some (.int .i64 regs') := bkc hb1
     have r2 : w1.cell? ⟨w.heap.size + 1, 2, none⟩ = some (.slice ca' code'.length cc') := bkc hb1
     have r3 : w1.cell? ⟨w.heap.size + 1, 3, none⟩ = some (.slice oa' outs'.length oc') := bkc hb1
     have hB : Below w.heap.size w w1 := bthen bZ hb1
     have hz := hB.size
     clear CP hb1
     go_wp2_with fail
     (with_reducible refine (CQ.out _ ?_).mono ?_); (repeat exact bZ)
     rintro e w2 ⟨⟨r2, rfl⟩, hb2⟩
     have hB2 : Below w.heap.size w w2 := bthen bZ hb2
     have p0 : w2.cell? ⟨w.heap.size, 0, none⟩ = some (.int .i64 ins) := bkc hb2
     have zp0 := cell_lt p0
     have p1 : w2.cell? ⟨w.heap.size, 1, none⟩ = some (.int .i64 regs) := bkc hb2
     have p2 : w2.cell? ⟨w.heap.size, 2, none⟩ = some (.slice ca code.length cc) := bkc hb2
     have p3 : w2.cell? ⟨w.heap.size, 3, none⟩ = some (.slice oa outs.length oc) := bkc hb2
     have r0 : w2.cell? ⟨w.heap.size + 1, 0, none⟩ = some (.int .i64 ins') := bkc hb2
     have zr0 := cell_lt r0
     have r1 : w2.cell? ⟨w.heap.size + 1, 1, none⟩ = some (.int .i64 regs') := bkc hb2
     have r2 : w2.cell? ⟨w.heap.size + 1, 2, none⟩ = some (.slice ca' code'.length cc') := bkc hb2
     have r3 : w2.cell? ⟨w.heap.size + 1, 3, none⟩ = some (.slice oa' outs'.length oc') := bkc hb2
     have hB : Below w.heap.size w w2 := bthen bZ hb2
     have hz := hB.size
     clear CQ hb2
     go_wp2
     refine bodyPost_ret (v := .tuple #[.bool false, .int .i64 80]) (by simp [results, Tryz.results35, go_sem]) rfl ⟨⟨_, _, rfl, HR.out⟩, ?_⟩
     repeat exact bZ
   · have CQ := hZ (fun V (h : Below w.heap.size w V) => check_no (hc'.keep h) (ho'.keep h) hq)
     clear hc ho hc' ho' hp hq
     go_enter Tryz.func35, Tryz.ntmps35
     go_wp2_with fail
     (with_reducible refine (CP.out _ ?_).mono ?_); (repeat exact bZ)
     rintro e w1 ⟨⟨r1, rfl⟩, hb1⟩
     have hB1 : Below w.heap.size w w1 := bthen bZ hb1
     have p0 : w1.cell? ⟨w.heap.size, 0, none⟩ = some (.int .i64 ins) := bkc hb1
     have zp0 := cell_lt p0
     have p1 : w1.cell? ⟨w.heap.size, 1, none⟩ = some (.int .i64 regs) := bkc hb1
     have p2 : w1.cell? ⟨w.heap.size, 2, none⟩ = some (.slice ca code.length cc) := bkc hb1
     have p3 : w1.cell? ⟨w.heap.size, 3, none⟩ = some (.slice oa outs.length oc) := bkc hb1
     have r0 : w1.cell? ⟨w.heap.size + 1, 0, none⟩ = some (.int .i64 ins') := bkc hb1
     have zr0 := cell_lt r0
     have r1 : w1.cell? ⟨w.heap.size + 1, 1, none⟩ = some (.int .i64 regs') := bkc hb1
     have r2 : w1.cell? ⟨w.heap.size + 1, 2, none⟩ = some (.slice ca' code'.length cc') := bkc hb1
     have r3 : w1.cell? ⟨w.heap.size + 1, 3, none⟩ = some (.slice oa' outs'.length oc') := bkc hb1
     have hB : Below w.heap.size w w1 := bthen bZ hb1
     have hz := hB.size
     clear CP hb1
     go_wp2_with fail
     (with_reducible refine (CQ.out _ ?_).mono ?_); (repeat exact bZ)
     rintro e w2 ⟨⟨r2, rfl⟩, hb2⟩
     have hB2 : Below w.heap.size w w2 := bthen bZ hb2
     have p0 : w2.cell? ⟨w.heap.size, 0, none⟩ = some (.int .i64 ins) := bkc hb2
     have zp0 := cell_lt p0
     have p1 : w2.cell? ⟨w.heap.size, 1, none⟩ = some (.int .i64 regs) := bkc hb2
     have p2 : w2.cell? ⟨w.heap.size, 2, none⟩ = some (.slice ca code.length cc) := bkc hb2
     have p3 : w2.cell? ⟨w.heap.size, 3, none⟩ = some (.slice oa outs.length oc) := bkc hb2
     have r0 : w2.cell? ⟨w.heap.size + 1, 0, none⟩ = some (.int .i64 ins') := bkc hb2
     have zr0 := cell_lt r0
     have r1 : w2.cell? ⟨w.heap.size + 1, 1, none⟩ = some (.int .i64 regs') := bkc hb2
     have r2 : w2.cell? ⟨w.heap.size + 1, 2, none⟩ = some (.slice ca' code'.length cc') := bkc hb2
     have r3 : w2.cell? ⟨w.heap.size + 1, 3, none⟩ = some (.slice oa' outs'.length oc') := bkc hb2
     have hB : Below w.heap.size w w2 := bthen bZ hb2
     have hz := hB.size
     clear CQ hb2
     go_wp2
     refine bodyPost_ret (v := .tuple #[.bool false, .int .i64 80]) (by simp [results, Tryz.results35, go_sem]) rfl ⟨⟨_, _, rfl, HR.out⟩, ?_⟩
     repeat exact bZ
end
section
open Num
attribute [local go_sem ↓] Go.wp_at_zero Go.wp_at_succ
theorem appq_lt {L l : List Rat} {k : Nat} (h : k < L.length) : (L ++ l).getD k 0 = L.getD k 0 := by simp [List.getD_eq_getElem?_getD, List.getElem?_append, h]
theorem appq_ge {L l : List Rat} {k : Nat} (h : L.length ≤ k) : (L ++ l).getD k 0 = l.getD (k - L.length) 0 := by
 simp [List.getD_eq_getElem?_getD, List.getElem?_append_right h]
theorem app_catQ {ops : Array Oper} {rest : List Oper} {o : Oper} {a : Act} {Q : Exit → Act → World → Prop} {w0 wr : World} {v : Value} {L l : List Rat} {b off c : Nat} {s x : Operand} (hgd : o.guard = none)
 (ho : o.op = .call { callee := .builtin .append, args := #[s, x], argTypes := #[38, 38] })
 (hO : FrOwn IsQP 79 w0 wr v L) (hl : ∀ k, k < l.length → FrC IsQP wr b (off + k * 4) (l.getD k 0)) (hs : a.eval s = v) (hx : a.eval x = .slice (some ⟨b, off, none⟩) l.length c) (hn : L.length + l.length ≤ 1099511627776)
 (h : ∀ v' w', Hid (FrOwn IsQP 79 w0 w' v' (L ++ l)) → wpList Tryz.prog ops Q rest (a.put o.dst v') w') : wpList Tryz.prog ops Q (o :: rest) a wr := by
 obtain ⟨i0, z0, hi, hz0, hz1, hz2, hz3⟩ := elRat.info
 obtain ⟨xs, hO1, hO2⟩ := hO
 refine wpList_append_own _ hgd s x 38 ho w0.heap.size 79 i0 z0 4 64 Tryz.underlying38 hi hz0 hz1 hz2 hz3 (by decide) v L.length xs hs hO1.1 ⟨b, off, none⟩ l.length c (cellsAt wr b off (l.length * 4)) hx (cellsAt_len _ _ _ _)
  (cellsAt_at (Below.refl _ _) fun j hj => by obtain ⟨v, hv, _⟩ := frc_cells hl j hj; exact ⟨v, hv⟩) (cellsAt_all (frc_cells hl)) (by unfold maxLen; omega) (by omega) hO1.2.size ?_
 intro v' w' hown hg _
 have hbel := below_append (wr := wr) hO1.2 hO1.1 hg
 have hlim : Lim wr w' := (Lim.refl wr).grown hg fun g hg' ht => by
  rw [own_typ hO1 hg'] at ht
  exact absurd (Option.some.inj ht) (by decide)
 refine h v' w' (hZ ⟨_, ⟨by rw [List.length_append]; exact hown, hbel⟩, fun k hk => ?_⟩)
 have hxl : xs.length = L.length * 4 := hO1.1.1
 rw [List.length_append] at hk
 by_cases e : k < L.length
 · obtain ⟨n1, a1, l1, c1, n2, a2, l2, c2, e0, e1, e2, e3, e4⟩ := hO2 k e
   exact ⟨n1, a1, l1, c1, n2, a2, l2, c2, by rw [List.getElem?_append_left (by omega)]; exact e0, by rw [List.getElem?_append_left (by omega)]; exact e1, by rw [List.getElem?_append_left (by omega)]; exact e2, by rw [List.getElem?_append_left (by omega)]; exact e3, by rw [appq_lt e]; exact frk_prog.lim hlim e4⟩
 · obtain ⟨n1, a1, l1, c1, n2, a2, l2, c2, e0, e1, e2, e3, e4⟩ := hl (k - L.length) (by omega)
   refine ⟨n1, a1, l1, c1, n2, a2, l2, c2, ?_, ?_, ?_, ?_, by rw [appq_ge (by omega)]; exact frk_prog.lim hlim e4⟩
   · rw [List.getElem?_append_right (by omega), hxl, show k * 4 - L.length * 4 = (k - L.length) * 4 by omega]; exact cellsAt_get (by omega) e0
   · rw [List.getElem?_append_right (by omega), hxl, show k * 4 + 1 - L.length * 4 = (k - L.length) * 4 + 1 by omega]; exact cellsAt_get (by omega) e1
   · rw [List.getElem?_append_right (by omega), hxl, show k * 4 + 2 - L.length * 4 = (k - L.length) * 4 + 2 by omega]; exact cellsAt_get (by omega) e2
   · rw [List.getElem?_append_right (by omega), hxl, show k * 4 + 3 - L.length * 4 = (k - L.length) * 4 + 3 by omega]; exact cellsAt_get (by omega) e3
theorem growQ_c (n : Nat) (w : World) (h0 : 0 < n) (hn : n ≤ 1099511627776) :
 Calls Tryz.prog 197 #[.slice none 0 0, .int .i64 (n : Nat)] w fun e w' => (∃ v, e = .returned v ∧ ∀ base, base ≤ w.heap.size → w'.ownsRow base 79 4 v 0 []) ∧ Below w.heap.size w w' := by
 obtain ⟨i0, z0, hi, hz0, hz1, hz2, hz3⟩ := elRat.info
 have hB := Below.refl w.heap.size w
 have hr := fun ty => Lib.run_append_nil_zeros w 38 3 ty 79 i0 z0 .i64 .i64 Tryz.underlying38 Tryz.underlying3 hi hz0 n h0 (by omega) (by omega) (by rw [hz2]; omega)
 have h1 : ¬ ((n : Int) < 0) := by omega
 have h2 : (0 : Int) < (n : Int) := by omega
 have hcap : n ≤ grownCap w n 0 79 := grownCap_ge _ _ _ _
 have hcm : grownCap w n 0 79 ≤ maxLen := grownCap_le_maxLen _ _ _ _ (by unfold maxLen; omega)
 obtain ⟨G, hG⟩ : ∃ G, grownCap w n 0 79 = G := ⟨_, rfl⟩
 rw [hG] at hcap hcm hr
 have HO := hZ (show ∀ base, base ≤ w.heap.size → (w.drew.alloc (.cells (Builtin.zeroCells z0.cells n ++ Builtin.zeroCells z0.cells (G - n)) 79)).ownsRow base 79 4 (.slice (some ⟨w.heap.size, 0, none⟩) 0 G) 0 [] from fun base hb =>
  ⟨rfl, .inr ⟨w.heap.size, G, _, rfl, hb, (MapKept.heap_alloc w.drew _).1, Nat.zero_le _, hcm, by rw [Array.size_append, size_zeroCells, size_zeroCells, hz3, ← Nat.add_mul]; congr 1; omega, rfl⟩⟩)
 have hBa : Below w.heap.size w (w.drew.alloc (.cells (Builtin.zeroCells z0.cells n ++ Builtin.zeroCells z0.cells (G - n)) 79)) := bal (Below.refl _ _).drew _
 obtain ⟨wz, hwz⟩ : ∃ wz, (w.drew.alloc (.cells (Builtin.zeroCells z0.cells n ++ Builtin.zeroCells z0.cells (G - n)) 79)) = wz := ⟨_, rfl⟩
 rw [hwz] at HO hBa hr
 have hG0 : (0 : Int) ≤ (G : Int) := by omega
 have HR := hZ hr
 clear hr hwz hG hi hz0 hz1 hz2 hz3
 go_enter Tryz.func197, Tryz.ntmps197
 go_wp2_with (at_builtin; refine Lib.wpList_append_run _ (by rfl) _ _ 38 3 rfl _ _ rfl rfl _ _ (HR.out _) ?_)
 try go_wp2
 go_ret
 exact ⟨⟨_, rfl, HO.out⟩, hBa⟩
def PSq (w : World) (u : Value) (l : List Rat) : Prop := ∃ b off c, u = .slice (some ⟨b, off, none⟩) l.length c ∧ typOf w b = some 79 ∧ ∀ k, k < l.length → FrC IsQP w b (off + k * 4) (l.getD k 0)
theorem prs_psq : Prs (fun t => t = 177 ∨ t = 79) PSq where
 one := fun ⟨b, off, c, e, _⟩ => by rw [e]; rfl
 kp := fun {w w' u x} ⟨b, off, c, e, ht, hi⟩ k => ⟨b, off, c, e, k.typ ht (.inr rfl), fun j hj => (hi j hj).stay frk_prog (k _ _ ht (.inr rfl)) (k.lim (.inl rfl))⟩
theorem IsL.psq {w : World} {v : Value} {g : GridF} (h : IsL 38 PSq 0 w v g) {i : Nat} (hi : i < g.length) :
 ∃ c gb go rb ro rc, v = .slice (some ⟨gb, go, none⟩) g.length c ∧ w.cell? ⟨gb, go + i, none⟩ = some (.slice (some ⟨rb, ro, none⟩) (g.getD i []).length rc) ∧ ∀ k, k < (g.getD i []).length → FrC IsQP w rb (ro + k * 4) ((g.getD i []).getD k 0) := by
 obtain ⟨a, c, e, _, hv⟩ := h.view
 obtain ⟨gb, go, u, rfl, hu, hr⟩ := hv i hi
 have e2 : g[i] = g.getD i [] := by simp [hi]
 rw [e2] at hr
 obtain ⟨rb, ro, rc, rfl, _, h3⟩ := hr
 exact ⟨c, gb, go, rb, ro, rc, e, hu, h3⟩
theorem flatq_take {g : GridF} {i : Nat} (hi : i < g.length) : (g.take (i + 1)).flatten = (g.take i).flatten ++ g.getD i [] := by
 rw [take_getDF hi, List.flatten_append]; simp
theorem flatq_le (g : GridF) (i : Nat) : (g.take i).flatten.length ≤ g.flatten.length := by
 conv => rhs; rw [← List.take_append_drop i g, List.flatten_append, List.length_append]
 omega
theorem concatQ_c (v : Value) (g : GridF) (w : World) (hv : IsL 38 PSq 0 w v g) (h0 : 0 < g.flatten.length) (hn : g.flatten.length ≤ 1099511627776) (hg : g.length ≤ 1099511627776) :
 Calls Tryz.prog 109 #[v] w fun e w' => (∃ v', e = .returned v' ∧ FrOwn IsQP 79 w w' v' g.flatten) ∧ Below w.heap.size w w' := by
 have HV := hZ hv
 obtain ⟨va, vc, rfl, -⟩ : ∃ a c, v = .slice a g.length c ∧ True := by obtain ⟨a, c, e, _⟩ := hv.view; exact ⟨a, c, e, trivial⟩
 have HF := hZ (fun i => flatq_le g i)
 have hB := Below.refl w.heap.size w
 clear hv
 go_enter Tryz.func109, Tryz.ntmps109
 go_wp2
 go_loopw [3, 11] (fun s x wr => ∃ i : Nat, i ≤ g.length ∧ x = .int .i64 i ∧ s = .int .i64 ((g.take i).flatten.length : Nat) ∧ Below w.heap.size w wr) (fun _ x _ => g.length - (intOf x).toNat)
 case atStart => exact ⟨0, Nat.zero_le _, rfl, by simp, hB⟩
 case round =>
  obtain ⟨i, hi, rfl, rfl, hBr⟩ := hrel
  by_cases hlt : i < g.length
  · have hltI : (i : Int) < (g.length : Int) := by omega
    obtain ⟨c', gb, go, rb, ro, rc, e2, hu, -⟩ := (HV.out.keep prs_psq hBr).psq hlt
    obtain ⟨rfl, -, rfl⟩ := Value.slice.inj e2
    have HS := hZ (flatq_take hlt)
    have hS1 := HF.out (i + 1)
    rw [HS.out, List.length_append] at hS1
    obtain ⟨S, hSE⟩ : ∃ S, (g.take i).flatten.length = S := ⟨_, rfl⟩
    obtain ⟨m, hm⟩ : ∃ m, (g.getD i []).length = m := ⟨_, rfl⟩
    have HT := hZ (show (g.take (i + 1)).flatten.length = S + m by rw [HS.out, List.length_append, hSE, hm])
    rw [hSE, hm] at hS1
    rw [hSE]
    rw [hm] at hu
    have hw : wrap64 ((S : Int) + (m : Int)) = (S : Int) + (m : Int) := by unfold wrap64; omega
    have hnn : ¬ ((S : Int) + (m : Int) < 0) := by omega
    have zu := cell_lt hu
    clear hSE hm e2 HS
    go_wp2
    exact ⟨⟨i + 1, by omega, by go_num, by rw [HT.out]; go_num, hBr⟩, by simp [intOf]; omega⟩
  · obtain rfl : i = g.length := by omega
    have hltI : ¬ (g.length : Int) < (g.length : Int) := by omega
    rw [List.take_length]
    obtain ⟨N, hN⟩ : ∃ N, g.flatten.length = N := ⟨_, rfl⟩
    rw [hN] at h0 hn ⊢
    have HN := hZ hN
    have gc := fun W => growQ_c N W h0 hn
    clear hN
    have hBw := Below.refl wr.heap.size wr
    go_wp2_with fail
    refine (gc _).mono ?_
    rintro e w2 ⟨⟨v2, rfl, ho2⟩, hb2⟩
    have hb2' := bthen hBr (bthen bZ hb2)
    have HO2 := hZ (show FrOwn IsQP 79 w w2 v2 [] from ⟨[], ⟨ho2 _ hBr.size, hb2'⟩, fun k hk => absurd hk (by simp)⟩)
    clear ho2 gc hb2 hBw
    go_wp2
    go_loopw [6, 27] (fun v x wr => ∃ i : Nat, i ≤ g.length ∧ x = .int .i64 i ∧ Hid (FrOwn IsQP 79 w wr v (g.take i).flatten)) (fun _ x _ => g.length - (intOf x).toNat)
    case atStart => exact ⟨0, Nat.zero_le _, rfl, HO2⟩
    case round =>
     rename World => wq
     obtain ⟨i, hi, rfl, hO⟩ := hrel
     by_cases hlt : i < g.length
     · have hltI : (i : Int) < (g.length : Int) := by omega
       have hBq := hO.out.bel
       obtain ⟨c', gb, go, rb, ro, rc, e2, hu, hI⟩ := (HV.out.keep prs_psq hBq).psq hlt
       obtain ⟨rfl, -, rfl⟩ := Value.slice.inj e2
       have hS1 := HF.out (i + 1)
       have HS := hZ (flatq_take hlt)
       rw [HS.out, List.length_append, HN.out] at hS1
       obtain ⟨L, hL⟩ : ∃ L, (g.take i).flatten = L := ⟨_, rfl⟩
       obtain ⟨l, hl⟩ : ∃ l, g.getD i [] = l := ⟨_, rfl⟩
       rw [hL] at hO HS hS1
       rw [hl] at HS hS1 hu hI
       have HI := hZ hI
       have zu := cell_lt hu
       obtain ⟨oa, oc, hov⟩ := hO.out.ex
       subst hov
       clear hL hl e2 hI
       go_wp2_with (at_builtin; refine app_catQ (by rfl) (by rfl) hO.out HI.out (by rfl) (by rfl) (by omega) ?_)
       intro v' w8 HO8
       rw [← HS.out] at HO8
       go_wp2
       exact ⟨⟨i + 1, by omega, by go_num, HO8⟩, by simp [intOf]; omega⟩
     · obtain rfl : i = g.length := by omega
       rw [List.take_length] at hO
       have hBq := hO.out.bel
       obtain ⟨oa, oc, hov⟩ := hO.out.ex
       subst hov
       go_wp2
       go_ret
       exact ⟨⟨_, rfl, hO.out⟩, hBq⟩
end
def RCheckP (ins regs : Int) (code : List Ins) (outs : List Int) (w : World) (e : Ending) (w' : World) : Prop := ∃ (r : Int) (b : Bool), e = .returned (.tuple #[.int .i64 r, .bool b]) ∧ (b = false ↔ ProgOk ins regs code outs) ∧ Below w.heap.size w w'
def RightP (ins regs : Int) (code : List Ins) (outs : List Int) (w : World) (e : Ending) (w' : World) : Prop := ∃ b : Bool, e = .returned (.bool b) ∧ (b = true ↔ ProgOk ins regs code outs) ∧ Below w.heap.size w w'
theorem rck_no {ins regs r : Int} {code : List Ins} {outs : List Int} {w w' : World} (h : ¬ ProgOk ins regs code outs) (hb : Below w.heap.size w w') : RCheckP ins regs code outs w (.returned (.tuple #[.int .i64 r, .bool true])) w' := ⟨_, _, rfl, ⟨(fun k => by cases k), fun k => absurd k h⟩, hb⟩
theorem rck_yes {ins regs r : Int} {code : List Ins} {outs : List Int} {w w' : World} (h : ProgOk ins regs code outs) (hb : Below w.heap.size w w') : RCheckP ins regs code outs w (.returned (.tuple #[.int .i64 r, .bool false])) w' := ⟨_, _, rfl, ⟨fun _ => h, fun _ => rfl⟩, hb⟩
theorem rri_no {ins regs : Int} {code : List Ins} {outs : List Int} {w w' : World} (h : ¬ ProgOk ins regs code outs) (hb : Below w.heap.size w w') : RightP ins regs code outs w (.returned (.bool false)) w' := ⟨_, rfl, ⟨(fun k => by cases k), fun k => absurd k h⟩, hb⟩
theorem rri_yes {ins regs : Int} {code : List Ins} {outs : List Int} {w w' : World} (h : ProgOk ins regs code outs) (hb : Below w.heap.size w w') : RightP ins regs code outs w (.returned (.bool true)) w' := ⟨_, rfl, ⟨fun _ => h, fun _ => rfl⟩, hb⟩
theorem rcheck_c (ins regs : Int) (ca oa : Option Addr) (cc oc : Nat) (code : List Ins) (outs : List Int) (w : World) (hc : InsV w ca cc code) (ho : IntsV w oa oc outs) :
 Calls Tryz.prog 193 #[.agg #[.int .i64 ins, .int .i64 regs, .slice ca code.length cc, .slice oa outs.length oc]] w (RCheckP ins regs code outs w) := by
 have hB := Below.refl w.heap.size w
 by_cases h1 : ins < 1
 · have HM := hZ (show ¬ ProgOk ins regs code outs from fun k => by have := k.i1; omega)
   go_enter Tryz.func193, Tryz.ntmps193
   go_wp2
   go_ret2
   refine rck_no HM.out ?_
   repeat exact bZ
 by_cases h2 : regs < ins
 · have HM := hZ (show ¬ ProgOk ins regs code outs from fun k => by have := k.i2; omega)
   go_enter Tryz.func193, Tryz.ntmps193
   go_wp2
   go_ret2
   refine rck_no HM.out ?_
   repeat exact bZ
 by_cases h3 : 128 < regs
 · have HM := hZ (show ¬ ProgOk ins regs code outs from fun k => by have := k.r1; omega)
   go_enter Tryz.func193, Tryz.ntmps193
   go_wp2
   go_ret2
   refine rck_no HM.out ?_
   repeat exact bZ
 by_cases h4 : (16384 : Int) < (code.length : Int)
 · have HM := hZ (show ¬ ProgOk ins regs code outs from fun k => by have := k.c1; omega)
   go_enter Tryz.func193, Tryz.ntmps193
   go_wp2
   go_ret2
   refine rck_no HM.out ?_
   repeat exact bZ
 by_cases h5 : (outs.length : Int) < 1
 · have HM := hZ (show ¬ ProgOk ins regs code outs from fun k => by have := k.o1; omega)
   go_enter Tryz.func193, Tryz.ntmps193
   go_wp2
   go_ret2
   refine rck_no HM.out ?_
   repeat exact bZ
 by_cases h6 : (128 : Int) < (outs.length : Int)
 · have HM := hZ (show ¬ ProgOk ins regs code outs from fun k => by have := k.o2; omega)
   go_enter Tryz.func193, Tryz.ntmps193
   go_wp2
   go_ret2
   refine rck_no HM.out ?_
   repeat exact bZ
 have HH := hZ (And.intro (show 1 ≤ ins ∧ ins ≤ regs ∧ regs ≤ 128 by omega) (show code.length ≤ 16384 ∧ 1 ≤ outs.length ∧ outs.length ≤ 128 by omega))
 go_enter Tryz.func193, Tryz.ntmps193
 go_wp2
 refine wp_name fun w0 hW0 => ?_
 have p0 : w0.cell? ⟨w.heap.size, 0, none⟩ = some (.int .i64 ins) := bkn hW0
 have zp0 := cell_lt p0
 have p1 : w0.cell? ⟨w.heap.size, 1, none⟩ = some (.int .i64 regs) := bkn hW0
 have p2 : w0.cell? ⟨w.heap.size, 2, none⟩ = some (.slice ca code.length cc) := bkn hW0
 have p3 : w0.cell? ⟨w.heap.size, 3, none⟩ = some (.slice oa outs.length oc) := bkn hW0
 have hB : Below w.heap.size w w0 := by rw [hW0]; repeat exact bZ
 have hz := hB.size
 clear hW0
 clear h1 h2 h3 h4 h5 h6
 have HF := hZ (show ∀ W, Below w0.heap.size w0 W → W.cell? ⟨w.heap.size, 1, none⟩ = some (.int .i64 regs) ∧ W.cell? ⟨w.heap.size, 2, none⟩ = some (.slice ca code.length cc) ∧ W.cell? ⟨w.heap.size, 3, none⟩ = some (.slice oa outs.length oc) from fun W h => ⟨bkeep h p1, bkeep h p2, bkeep h p3⟩)
 clear p0 p1 p2 p3
 go_loopw [4] (fun x wr => ∃ k : Nat, k ≤ outs.length ∧ x = .int .i64 k ∧ Below w0.heap.size w0 wr ∧ Hid (∀ j, j < k → 0 ≤ outs.getD j 0 ∧ outs.getD j 0 < regs)) (fun x _ => outs.length - (intOf x).toNat)
 case atStart => exact ⟨0, Nat.zero_le _, rfl, Below.refl _ _, hZ (fun j hj => by omega)⟩
 case round =>
  obtain ⟨k, hk, rfl, hBr, hall⟩ := hrel
  have hk8 : outs.length ≤ 128 := HH.out.2.2.2
  obtain ⟨p1, p2, p3⟩ := HF.out wr hBr
  have zp := cell_lt p1
  have hBB := bthen hB hBr
  by_cases hlt : k < outs.length
  · have hltI : (k : Int) < (outs.length : Int) := by omega
    rcases ho.keep hBB with h0 | ⟨b, off, rfl, hcap, hcell⟩
    · rw [h0] at hlt; simp at hlt
    have q0 := hcell k hlt
    have HK := hZ (show ∀ v, v = outs.getD k 0 → ¬ (0 ≤ v ∧ v < regs) → ¬ ProgOk ins regs code outs from fun v hv h hp => h (by rw [hv]; exact hp.os k hlt))
    have HS := hZ (show ∀ v, v = outs.getD k 0 → (0 ≤ v ∧ v < regs) → ∀ j, j < k + 1 → 0 ≤ outs.getD j 0 ∧ outs.getD j 0 < regs from fun v hv h j hj => by
     by_cases e : j = k
     · subst e; rw [← hv]; exact h
     · exact hall.out j (by omega))
    obtain ⟨r, hr⟩ : ∃ r, r = outs.getD k 0 := ⟨_, rfl⟩
    rw [← hr] at q0
    have HR := hZ hr
    clear hr hcell
    by_cases r1 : r < 0
    · have HM := hZ (HK.out r HR.out (by omega))
      have hq1 : decide (r < 0) = true := by simp; omega
      go_wp2
      go_quiet (fail)
      go_wp2
      go_ret2
      refine rck_no HM.out ?_
      repeat exact bZ
    by_cases r2 : regs ≤ r
    · have HM := hZ (HK.out r HR.out (by omega))
      have hq1 : decide (r < 0) = false := by simp; omega
      have hq2 : decide (regs ≤ r) = true := by simp; omega
      go_wp2
      go_quiet (fail)
      go_wp2
      go_ret2
      refine rck_no HM.out ?_
      repeat exact bZ
    have hq1 : decide (r < 0) = false := by simp; omega
    have hq2 : decide (regs ≤ r) = false := by simp; omega
    go_wp2
    go_quiet (fail)
    go_wp2
    exact ⟨⟨k + 1, by omega, by go_num, by repeat exact bZ, hZ (HS.out r HR.out (by omega))⟩, by simp [intOf]; omega⟩
  · obtain rfl : k = outs.length := by omega
    have HO := hZ hall.out
    clear hall hlt hk
    have hBR := hBr
    go_wp2
    clear p1 p2 p3
    go_loopw [5] (fun x wi => ∃ k : Nat, k ≤ code.length ∧ x = .int .i64 k ∧ Below w0.heap.size w0 wi ∧ Hid (∀ j, j < k → mayB (code.getD j default).op (code.getD j default).to (code.getD j default).a (code.getD j default).b (code.getD j default).c regs = true)) (fun x _ => code.length - (intOf x).toNat)
    case atStart => exact ⟨0, Nat.zero_le _, rfl, hBR, hZ (fun j hj => by omega)⟩
    case round =>
     rename World => wi
     obtain ⟨k, hk, rfl, hBi, hall⟩ := hrel
     have hk9 : code.length ≤ 16384 := HH.out.2.1
     have hBB := bthen hB hBi
     obtain ⟨p1, p2, p3⟩ := HF.out wi hBi
     have zp := cell_lt p1
     by_cases hlt : k < code.length
     · have hltI : (k : Int) < (code.length : Int) := by omega
       rcases hc.keep hBB with h0 | ⟨b, off, rfl, hcap, hcell⟩
       · rw [h0] at hlt; simp at hlt
       obtain ⟨q0, q1, q2, q3, q4⟩ := hcell k hlt
       have HK := hZ (show ∀ i : Ins, i = code.getD k default → mayB i.op i.to i.a i.b i.c regs = false → ¬ ProgOk ins regs code outs from fun i hi h hp => by
        have := hp.cs k hlt
        rw [← hi, h] at this; cases this)
       have HS := hZ (show ∀ i : Ins, i = code.getD k default → mayB i.op i.to i.a i.b i.c regs = true → ∀ j, j < k + 1 → mayB (code.getD j default).op (code.getD j default).to (code.getD j default).a (code.getD j default).b (code.getD j default).c regs = true from fun i hi h j hj => by
        by_cases e : j = k
        · subst e; rw [← hi]; exact h
        · exact hall.out j (by omega))
       obtain ⟨i, hi⟩ : ∃ i, i = code.getD k default := ⟨_, rfl⟩
       rw [← hi] at q0 q1 q2 q3 q4
       have HI := hZ hi
       clear hi hcell
       obtain ⟨op, t, ia, ib, ic⟩ := i
       dsimp only at q0 q1 q2 q3 q4
       have hmc := fun W => rmay_c op t ia ib ic regs W
       have hBc := Below.refl wi.heap.size wi
       have HQ := hZ (show ∀ W, Below wi.heap.size wi W → W.cell? ⟨w.heap.size, 1, none⟩ = some (.int .i64 regs) ∧ W.cell? ⟨w.heap.size, 2, none⟩ = some (.slice (some ⟨b, off, none⟩) code.length cc) ∧ W.cell? ⟨b, off + k * 5, none⟩ = some (.int .i64 op) ∧ W.cell? ⟨b, off + k * 5 + 1, none⟩ = some (.int .i64 t) ∧ W.cell? ⟨b, off + k * 5 + 2, none⟩ = some (.int .i64 ia) ∧ W.cell? ⟨b, off + k * 5 + 3, none⟩ = some (.int .i64 ib) ∧ W.cell? ⟨b, off + k * 5 + 4, none⟩ = some (.int .i64 ic) from fun W h => ⟨bkeep h p1, bkeep h p2, bkeep h q0, bkeep h q1, bkeep h q2, bkeep h q3, bkeep h q4⟩)
       obtain ⟨mb, hmb⟩ : ∃ mb, mayB op t ia ib ic regs = mb := ⟨_, rfl⟩
       rw [hmb] at hmc
       have HMB := hZ hmb
       clear hmb
       go_wp2
       go_region_held3 (fun w' => w'.cell? ⟨w.heap.size, 1, none⟩ = some (.int .i64 regs) ∧ w'.cell? ⟨w.heap.size, 2, none⟩ = some (.slice (some ⟨b, off, none⟩) code.length cc) ∧ w'.cell? ⟨b, off + k * 5, none⟩ = some (.int .i64 op) ∧ w'.cell? ⟨b, off + k * 5 + 1, none⟩ = some (.int .i64 t) ∧ w'.cell? ⟨b, off + k * 5 + 2, none⟩ = some (.int .i64 ia) ∧ w'.cell? ⟨b, off + k * 5 + 3, none⟩ = some (.int .i64 ib) ∧ w'.cell? ⟨b, off + k * 5 + 4, none⟩ = some (.int .i64 ic))
        (first | (refine HQ.out _ ?_; (repeat exact bZ); done) | fail)
        (first
         | (go_at_call 253; refine (hmc _).mono ?_; rintro e w5 ⟨rfl, hb5⟩; have hB5 : Below wi.heap.size wi w5 := bthen bZ hb5; clear hBc; have hBc := hB5)
         | fail)
       cases mb with
       | true =>
        have HSM := hZ (HS.out _ HI.out HMB.out)
        go_wp2
        exact ⟨⟨k + 1, by omega, by go_num, bthen hBi hBc, HSM⟩, by simp [intOf]; omega⟩
       | false =>
        have HM := hZ (HK.out _ HI.out HMB.out)
        have hBz := bthen hBB hBc
        go_wp2
        go_ret2
        refine rck_no HM.out ?_
        repeat exact bZ
     · obtain rfl : k = code.length := by omega
       have HM := hZ (show ProgOk ins regs code outs from ⟨HH.out.1.1, HH.out.1.2.1, HH.out.1.2.2, HH.out.2.1, HH.out.2.2.1, HH.out.2.2.2, HO.out, hall.out⟩)
       go_wp2
       go_ret2
       exact rck_yes HM.out hBB
theorem rright_c (ins regs : Int) (ca oa : Option Addr) (cc oc : Nat) (code : List Ins) (outs : List Int) (w : World) (hc : InsV w ca cc code) (ho : IntsV w oa oc outs) :
 Calls Tryz.prog 99 #[.agg #[.int .i64 ins, .int .i64 regs, .slice ca code.length cc, .slice oa outs.length oc]] w (RightP ins regs code outs w) := by
 have kc := fun W (h : Below w.heap.size w W) => rcheck_c ins regs ca oa cc oc code outs W (hc.keep h) (ho.keep h)
 clear hc ho
 have hB := Below.refl w.heap.size w
 go_enter Tryz.func99, Tryz.ntmps99
 go_wp2_with fail
 refine (kc _ bZ).mono ?_
 rintro e w1 ⟨r, b, rfl, hb, hb1⟩
 have HBI := hZ hb
 have hB1 : Below w.heap.size w w1 := bthen bZ hb1
 clear kc hb
 cases b with
 | true =>
  have HM := hZ (show ¬ ProgOk ins regs code outs from fun h => by have := HBI.out.2 h; cases this)
  go_wp2
  go_ret
  exact rri_no HM.out hB1
 | false =>
  have HM := hZ (HBI.out.1 rfl)
  go_wp2
  go_ret
  exact rri_yes HM.out hB1
end Go.Proofs.YtbmaffijncapiaaGreatDoor
