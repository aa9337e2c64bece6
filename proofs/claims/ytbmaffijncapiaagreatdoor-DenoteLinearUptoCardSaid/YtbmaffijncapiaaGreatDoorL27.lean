/- denote: Same. -/
import Derived.Test.YtbmaffijncapiaaGreatDoorL26
set_option linter.unusedVariables false
set_option linter.unusedSimpArgs false
namespace Go.Proofs.YtbmaffijncapiaaGreatDoor
open Num
open Go.ChangeShapes Go.WideShapes Go.ChangeAt Go.RowKit
set_option linter.unusedVariables false
set_option linter.unusedSimpArgs false
attribute [local go_sem ↓] Go.wp_at_zero Go.wp_at_succ
def RelGrid (R : List Rat → List Rat → Prop) (A B : GridF) : Prop := A.length = B.length ∧ ∀ j, j < A.length → R (A.getD j []) (B.getD j [])
theorem relGrid_eq {A B : GridF} : RelGrid (· = ·) A B ↔ A = B := by
  constructor
  · rintro ⟨h1, h2⟩
    apply List.ext_getElem h1
    intro j ha hb
    have := h2 j ha
    simpa [ha, hb] using this
  · rintro rfl; exact ⟨rfl, fun _ _ => rfl⟩
def BdF (k : Nat) (g : GridF) : Prop := ∀ i, i < g.length → ∀ j, j < (g.getD i []).length → BdQ k ((g.getD i []).getD j 0)
def FitF (g : GridF) : Prop := ∀ i, i < g.length → (g.getD i []).length ≤ 1099511627776
set_option maxRecDepth 100000 in
set_option maxHeartbeats 8000000 in
theorem eqQs_c (va vb : Value) (A B : GridF) (k : Nat) (w : World) (hx : IsL 38 (FRow 0) 0 w va A) (hy : IsL 38 (FRow 0) 0 w vb B) (bA : BdF k A) (bB : BdF k B) (fA : FitF A) (hk : k ≤ 1000000000) (hl : A.length ≤ 8796093022208) :
    Calls Tryz.prog 119 #[va, vb, .func (.func 120) #[] #[]] w (BoolPost (RelGrid Eq A B) w) := by
  obtain ⟨a1, c1, rfl, -, v1⟩ := hx.view
  obtain ⟨a2, c2, rfl, -, v2⟩ := hy.view
  have HX := Lib.hid v1
  have HY := Lib.hid v2
  have HA := Lib.hid (And.intro bA fA)
  have HB := Lib.hid bB
  obtain ⟨n, hn⟩ : ∃ n, A.length = n := ⟨_, rfl⟩
  obtain ⟨m, hm⟩ : ∃ m, B.length = m := ⟨_, rfl⟩
  have HN := Lib.hid hn
  have HM := Lib.hid hm
  rw [hn] at hl ⊢
  rw [hm]
  clear hx hy bA bB fA hn hm v1 v2
  have hB := Below.refl w.heap.size w
  go_enter Tryz.func119, Tryz.ntmps119
  by_cases hnm : n = m
  · subst hnm
    have hq : ((n : Int) != (n : Int)) = false := by simp
    go_wp2
    go_loopw [17] (fun x wr => ∃ j : Nat, j ≤ n ∧ x = .int .i64 j ∧ Below w.heap.size w wr ∧ Hid (∀ t, t < j → Eq (A.getD t []) (B.getD t []))) (fun x _ => n - (intOf x).toNat)
    case atStart => exact ⟨0, Nat.zero_le _, rfl, hB, Lib.hid (fun t ht => by omega)⟩
    case round =>
      obtain ⟨j, hj, rfl, hBr, hE⟩ := hrel
      by_cases hlt : j < n
      · have hltI : (j : Int) < (n : Int) := by omega
        obtain ⟨b, off, u, rfl, q0, qI⟩ := HX.out j (by rw [HN.out]; exact hlt)
        obtain ⟨b', off', u', rfl, r0, rI⟩ := HY.out j (by rw [HM.out]; exact hlt)
        rw [show A[j]'(by rw [HN.out]; exact hlt) = A.getD j [] by simp [HN.out, hlt]] at qI
        rw [show B[j]'(by rw [HM.out]; exact hlt) = B.getD j [] by simp [HM.out, hlt]] at rI
        have q0' := bkeep hBr q0
        have r0' := bkeep hBr r0
        have zb := cell_lt q0'
        have zr := cell_lt r0'
        have WC := Lib.hid (fun V (h : Below wr.heap.size wr V) => alikeQ_c _ _ (A.getD j []) (B.getD j []) k V (FRow.keep qI (bthen hBr h)) (FRow.keep rI (bthen hBr h)) (HA.out.1 j (by rw [HN.out]; exact hlt)) (HB.out j (by rw [HM.out]; exact hlt)) hk (HA.out.2 j (by rw [HN.out]; exact hlt)))
        obtain ⟨ua, uc, rfl⟩ := FrRow.ex qI
        obtain ⟨ub, ud, rfl⟩ := FrRow.ex rI
        have HE2 := Lib.hid (show Eq (A.getD j []) (B.getD j []) → ∀ t, t < j + 1 → Eq (A.getD t []) (B.getD t []) from fun hs t ht => by
          by_cases e : t = j
          · subst e; exact hs
          · exact hE.out t (by omega))
        have HNS := Lib.hid (show ¬ Eq (A.getD j []) (B.getD j []) → ¬ RelGrid Eq A B from fun hs h => hs (h.2 j (by rw [HN.out]; exact hlt)))
        obtain ⟨X, hX⟩ : ∃ X, A.getD j [] = X := ⟨_, rfl⟩
        obtain ⟨Y, hY⟩ : ∃ Y, B.getD j [] = Y := ⟨_, rfl⟩
        rw [hX] at WC q0 q0' HE2 HNS
        rw [hY] at WC r0 r0' HE2 HNS
        have hBw := Below.refl wr.heap.size wr
        clear qI rI q0 r0 hX hY
        go_wp2_with fail
        (with_reducible refine (WC.out _ ?_).mono ?_); (repeat (first|exact bzR _ _|exact hBw|refine bzD ?_|refine bzN ?_|refine bzS ?_|refine bzA ?_))
        rintro e w5 ⟨⟨bb, rfl, hbb⟩, hb5⟩
        have hB5 := bthen hBr (bthen (show Below wr.heap.size wr _ by repeat (first|exact bzR _ _|exact hBw|refine bzD ?_|refine bzN ?_|refine bzS ?_|refine bzA ?_)) hb5)
        clear WC hb5
        cases bb with
        | true =>
          have HE3 := Lib.hid (HE2.out (hbb.1 rfl))
          clear hbb HE2 HNS
          go_wp2
          exact ⟨⟨j + 1, hlt, by go_num, hB5, HE3⟩, meas hlt (by go_num) rfl⟩
        | false =>
          have HNN := Lib.hid (HNS.out (fun h => by have := hbb.2 h; cases this))
          clear hbb HE2 HNS
          go_wp2
          go_ret
          exact BoolPost.no HNN.out hB5
      · obtain rfl : j = n := by omega
        have hltI : ¬ (j : Int) < (j : Int) := by omega
        have HS := Lib.hid (show RelGrid Eq A B from ⟨by rw [HN.out, HM.out], fun t ht => hE.out t (by rw [HN.out] at ht; exact ht)⟩)
        go_wp2
        go_ret
        exact BoolPost.yes HS.out hBr
  · have hq : ((n : Int) != (m : Int)) = true := by simp; omega
    have HS := Lib.hid (show ¬ RelGrid Eq A B from fun h => hnm (by have := h.1; rw [HN.out, HM.out] at this; exact this))
    clear hnm
    go_wp2
    go_ret
    exact BoolPost.no HS.out hB
theorem outsF_len (outs : List Int) (h : GridF) : (outsF outs h).length = outs.length := by simp [outsF]
theorem outsF_get {outs : List Int} {h : GridF} {i : Nat} (hi : i < outs.length) : (outsF outs h).getD i [] = h.getD (outs.getD i 0).toNat [] := by simp [outsF, hi]
theorem endF_ok {ins regs : Int} {code : List Ins} {outs : List Int} {h : GridF} (hok : ProgOk ins regs code outs) (e : endF ins regs code = some h) : RectF ins.toNat (outsF outs h) ∧ SlimG (outsF outs h) := by
  have hl := afterF_len e
  rw [unitsF_len] at hl
  obtain ⟨h1, h2⟩ := afterF_ok (unitsF_rect ins.toNat regs.toNat) (unitsF_slim _ _) (fun n hn => by rw [unitsF_len]; exact ⟨(ins_ofF hok hn).a0, (ins_ofF hok hn).a1⟩) (Nat.le_refl _) e
  have key : ∀ i, i < outs.length → (outs.getD i 0).toNat < h.length := fun i hi => by
    obtain ⟨q1, q2⟩ := hok.os i hi
    rw [hl]; omega
  constructor
  · intro i hi
    rw [outsF_len] at hi
    rw [outsF_get hi]; exact h1 _ (key i hi)
  · intro i hi
    rw [outsF_len] at hi
    rw [outsF_get hi]; exact h2 _ (key i hi)
theorem slimG_bd {g : GridF} (h : SlimG g) : BdF 65536 g := fun i hi j hj => h i hi j hj
theorem ownP_isL0 {base : Nat} {w0 w : World} {v : Value} {g : GridF} (h : OwnP base w0 w v g) : IsL 38 (FRow 0) 0 w v g := (h.isL.rebase (Nat.zero_le _)).mono fun u x q => FrRow.rebase q (Nat.zero_le _)
def SameRes (ins regs : Int) (code : List Ins) (outs : List Int) (ins' regs' : Int) (code' : List Ins) (outs' : List Int) (b : Bool) (n : Int) : Prop :=
  (¬ (ProgOk ins regs code outs ∧ ProgOk ins' regs' code' outs') ∧ b = false ∧ n = 80) ∨
  ((ProgOk ins regs code outs ∧ ProgOk ins' regs' code' outs') ∧ (endF ins regs code = none ∨ endF ins' regs' code' = none) ∧ b = false ∧ n = 3) ∨
  ((ProgOk ins regs code outs ∧ ProgOk ins' regs' code' outs') ∧ ∃ h h', endF ins regs code = some h ∧ endF ins' regs' code' = some h' ∧ n = 0 ∧ (b = true ↔ ins = ins' ∧ outsF outs h = outsF outs' h'))
def SamePost (ins regs : Int) (code : List Ins) (outs : List Int) (ins' regs' : Int) (code' : List Ins) (outs' : List Int) (w : World) (e : Ending) (w' : World) : Prop := (∃ b n, e = .returned (.tuple #[.bool b, .int .i64 n]) ∧ SameRes ins regs code outs ins' regs' code' outs' b n) ∧ Below w.heap.size w w'
theorem check_yes {ins regs : Int} {ca oa : Option Addr} {cc oc : Nat} {code : List Ins} {outs : List Int} {w : World} (hc : InsV w ca cc code) (ho : IntsV w oa oc outs) (h : ProgOk ins regs code outs) : Calls Tryz.prog 94 #[.agg #[.int .i64 ins, .int .i64 regs, .slice ca code.length cc, .slice oa outs.length oc]] w fun e w' => (∃ r : Int, e = .returned (.tuple #[.int .i64 r, .int .i64 0])) ∧ Below w.heap.size w w' :=
  (check_c ins regs ca oa cc oc code outs w hc ho).mono fun e w' ⟨r, s, h1, h2, h3⟩ => by
    rcases h2 with ⟨_, rfl, rfl⟩ | ⟨h4, _⟩
    · exact ⟨⟨_, h1⟩, h3⟩
    · exact absurd h h4
theorem check_no {ins regs : Int} {ca oa : Option Addr} {cc oc : Nat} {code : List Ins} {outs : List Int} {w : World} (hc : InsV w ca cc code) (ho : IntsV w oa oc outs) (h : ¬ ProgOk ins regs code outs) : Calls Tryz.prog 94 #[.agg #[.int .i64 ins, .int .i64 regs, .slice ca code.length cc, .slice oa outs.length oc]] w fun e w' => (∃ r : Int, e = .returned (.tuple #[.int .i64 r, .int .i64 80])) ∧ Below w.heap.size w w' :=
  (check_c ins regs ca oa cc oc code outs w hc ho).mono fun e w' ⟨r, s, h1, h2, h3⟩ => by
    rcases h2 with ⟨h4, _⟩ | ⟨_, rfl⟩
    · exact absurd h4 h
    · exact ⟨⟨_, h1⟩, h3⟩
theorem rows_yes {ins regs : Int} {ca oa : Option Addr} {cc oc : Nat} {code : List Ins} {outs : List Int} {w : World} {h : GridF} (hc : InsV w ca cc code) (ho : IntsV w oa oc outs) (hok : ProgOk ins regs code outs) (he : endF ins regs code = some h) : Calls Tryz.prog 17 #[.agg #[.int .i64 ins, .int .i64 regs, .slice ca code.length cc, .slice oa outs.length oc]] w fun e w' => (∃ v, e = .returned (.tuple #[v, .int .i64 0]) ∧ OwnP w.heap.size w w' v (outsF outs h)) ∧ Below w.heap.size w w' :=
  (rows_c ins regs ca oa cc oc code outs w hc ho).mono fun e w' ⟨⟨v, q, h1, h2⟩, h3⟩ => by
    rcases h2 with ⟨h4, _⟩ | ⟨_, h4, _⟩ | ⟨_, h', h4, rfl, h5⟩
    · exact absurd hok h4
    · rw [he] at h4; cases h4
    · rw [he] at h4; cases h4; exact ⟨⟨v, h1, h5⟩, h3⟩
theorem rows_wide {ins regs : Int} {ca oa : Option Addr} {cc oc : Nat} {code : List Ins} {outs : List Int} {w : World} (hc : InsV w ca cc code) (ho : IntsV w oa oc outs) (hok : ProgOk ins regs code outs) (he : endF ins regs code = none) : Calls Tryz.prog 17 #[.agg #[.int .i64 ins, .int .i64 regs, .slice ca code.length cc, .slice oa outs.length oc]] w fun e w' => e = .returned (.tuple #[.slice none 0 0, .int .i64 3]) ∧ Below w.heap.size w w' :=
  (rows_c ins regs ca oa cc oc code outs w hc ho).mono fun e w' ⟨⟨v, q, h1, h2⟩, h3⟩ => by
    rcases h2 with ⟨h4, _⟩ | ⟨_, h4, rfl, rfl⟩ | ⟨_, h', h4, _⟩
    · exact absurd hok h4
    · exact ⟨h1, h3⟩
    · rw [he] at h4; cases h4
theorem rows_no {ins regs : Int} {ca oa : Option Addr} {cc oc : Nat} {code : List Ins} {outs : List Int} {w : World} (hc : InsV w ca cc code) (ho : IntsV w oa oc outs) (hok : ¬ ProgOk ins regs code outs) : Calls Tryz.prog 17 #[.agg #[.int .i64 ins, .int .i64 regs, .slice ca code.length cc, .slice oa outs.length oc]] w fun e w' => e = .returned (.tuple #[.slice none 0 0, .int .i64 80]) ∧ Below w.heap.size w w' :=
  (rows_c ins regs ca oa cc oc code outs w hc ho).mono fun e w' ⟨⟨v, q, h1, h2⟩, h3⟩ => by
    rcases h2 with ⟨_, rfl, rfl⟩ | ⟨h4, _⟩ | ⟨h4, _⟩
    · exact ⟨h1, h3⟩
    · exact absurd h4 hok
    · exact absurd h4 hok
set_option maxRecDepth 100000 in
set_option maxHeartbeats 16000000 in
theorem sameQ_c (ins regs : Int) (ca oa : Option Addr) (cc oc : Nat) (code : List Ins) (outs : List Int) (ins' regs' : Int) (ca' oa' : Option Addr) (cc' oc' : Nat) (code' : List Ins) (outs' : List Int) (w : World) (hc : InsV w ca cc code) (ho : IntsV w oa oc outs) (hc' : InsV w ca' cc' code') (ho' : IntsV w oa' oc' outs') :
    Calls Tryz.prog 35 #[.agg #[.int .i64 ins, .int .i64 regs, .slice ca code.length cc, .slice oa outs.length oc], .agg #[.int .i64 ins', .int .i64 regs', .slice ca' code'.length cc', .slice oa' outs'.length oc']] w (SamePost ins regs code outs ins' regs' code' outs' w) := by
  have hB := Below.refl w.heap.size w
  by_cases hp : ProgOk ins regs code outs
  · have CP := Lib.hid (fun V (h : Below w.heap.size w V) => check_yes (hc.keep h) (ho.keep h) hp)
    by_cases hq : ProgOk ins' regs' code' outs'
    · have CQ := Lib.hid (fun V (h : Below w.heap.size w V) => check_yes (hc'.keep h) (ho'.keep h) hq)
      have HC := Lib.hid (And.intro (And.intro hc ho) (And.intro hc' ho'))
      have HPQ := Lib.hid (And.intro hp hq)
      clear hc ho hc' ho' hp hq
      go_enter Tryz.func35, Tryz.ntmps35
      go_wp2_with fail
      (with_reducible refine (CP.out _ ?_).mono ?_); (repeat (first|exact bzR _ _|exact hB|refine bzD ?_|refine bzN ?_|refine bzS ?_|refine bzA ?_))
      rintro e w1 ⟨⟨r1, rfl⟩, hb1⟩
      have hB1 : Below w.heap.size w w1 := bthen (by repeat (first|exact bzR _ _|exact hB|refine bzD ?_|refine bzN ?_|refine bzS ?_|refine bzA ?_)) hb1
      have p0 : w1.cell? ⟨w.heap.size, 0, none⟩ = some (.int .i64 ins) := bkc hb1
      have zp0 := cell_lt p0
      have p1 : w1.cell? ⟨w.heap.size, 1, none⟩ = some (.int .i64 regs) := bkc hb1
      have p2 : w1.cell? ⟨w.heap.size, 2, none⟩ = some (.slice ca code.length cc) := bkc hb1
      have p3 : w1.cell? ⟨w.heap.size, 3, none⟩ = some (.slice oa outs.length oc) := bkc hb1
      have r0 : w1.cell? ⟨w.heap.size + 1, 0, none⟩ = some (.int .i64 ins') := bkc hb1
      have zr0 := cell_lt r0
      have r1 : w1.cell? ⟨w.heap.size + 1, 1, none⟩ = some (.int .i64 regs') := bkc hb1
      have r2 : w1.cell? ⟨w.heap.size + 1, 2, none⟩ = some (.slice ca' code'.length cc') := bkc hb1
      have r3 : w1.cell? ⟨w.heap.size + 1, 3, none⟩ = some (.slice oa' outs'.length oc') := bkc hb1
      have hB : Below w.heap.size w w1 := bthen (by repeat (first|exact bzR _ _|exact hB|refine bzD ?_|refine bzN ?_|refine bzS ?_|refine bzA ?_)) hb1
      have hz : w.heap.size ≤ w1.heap.size := hB.size
      clear CP hb1
      go_wp2_with fail
      (with_reducible refine (CQ.out _ ?_).mono ?_); (repeat (first|exact bzR _ _|exact hB1|refine bzD ?_|refine bzN ?_|refine bzS ?_|refine bzA ?_))
      rintro e w2 ⟨⟨r2, rfl⟩, hb2⟩
      have hB2 : Below w.heap.size w w2 := bthen (by repeat (first|exact bzR _ _|exact hB1|refine bzD ?_|refine bzN ?_|refine bzS ?_|refine bzA ?_)) hb2
      have p0 : w2.cell? ⟨w.heap.size, 0, none⟩ = some (.int .i64 ins) := bkc hb2
      have zp0 := cell_lt p0
      have p1 : w2.cell? ⟨w.heap.size, 1, none⟩ = some (.int .i64 regs) := bkc hb2
      have p2 : w2.cell? ⟨w.heap.size, 2, none⟩ = some (.slice ca code.length cc) := bkc hb2
      have p3 : w2.cell? ⟨w.heap.size, 3, none⟩ = some (.slice oa outs.length oc) := bkc hb2
      have r0 : w2.cell? ⟨w.heap.size + 1, 0, none⟩ = some (.int .i64 ins') := bkc hb2
      have zr0 := cell_lt r0
      have r1 : w2.cell? ⟨w.heap.size + 1, 1, none⟩ = some (.int .i64 regs') := bkc hb2
      have r2 : w2.cell? ⟨w.heap.size + 1, 2, none⟩ = some (.slice ca' code'.length cc') := bkc hb2
      have r3 : w2.cell? ⟨w.heap.size + 1, 3, none⟩ = some (.slice oa' outs'.length oc') := bkc hb2
      have hB : Below w.heap.size w w2 := bthen (by repeat (first|exact bzR _ _|exact hB|refine bzD ?_|refine bzN ?_|refine bzS ?_|refine bzA ?_)) hb2
      have hz : w.heap.size ≤ w2.heap.size := hB.size
      clear CQ hb2
      cases he : endF ins regs code with
      | none =>
        have HR := Lib.hid (show SameRes ins regs code outs ins' regs' code' outs' false 3 from .inr (.inl ⟨HPQ.out, .inl he, rfl, rfl⟩))
        have RP := Lib.hid (fun V (h : Below w.heap.size w V) => rows_wide (HC.out.1.1.keep h) (HC.out.1.2.keep h) HPQ.out.1 he)
        cases hf : endF ins' regs' code' with
        | none =>
          have RQ := Lib.hid (fun V (h : Below w.heap.size w V) => rows_wide (HC.out.2.1.keep h) (HC.out.2.2.keep h) HPQ.out.2 hf)
          clear he hf
          go_wp2_with fail
          (with_reducible refine (RP.out _ ?_).mono ?_); (repeat (first|exact bzR _ _|exact hB2|refine bzD ?_|refine bzN ?_|refine bzS ?_|refine bzA ?_))
          rintro e w3 ⟨rfl, hb3⟩
          have hB3 : Below w.heap.size w w3 := bthen (by repeat (first|exact bzR _ _|exact hB2|refine bzD ?_|refine bzN ?_|refine bzS ?_|refine bzA ?_)) hb3
          have p0 : w3.cell? ⟨w.heap.size, 0, none⟩ = some (.int .i64 ins) := bkc hb3
          have zp0 := cell_lt p0
          have p1 : w3.cell? ⟨w.heap.size, 1, none⟩ = some (.int .i64 regs) := bkc hb3
          have p2 : w3.cell? ⟨w.heap.size, 2, none⟩ = some (.slice ca code.length cc) := bkc hb3
          have p3 : w3.cell? ⟨w.heap.size, 3, none⟩ = some (.slice oa outs.length oc) := bkc hb3
          have r0 : w3.cell? ⟨w.heap.size + 1, 0, none⟩ = some (.int .i64 ins') := bkc hb3
          have zr0 := cell_lt r0
          have r1 : w3.cell? ⟨w.heap.size + 1, 1, none⟩ = some (.int .i64 regs') := bkc hb3
          have r2 : w3.cell? ⟨w.heap.size + 1, 2, none⟩ = some (.slice ca' code'.length cc') := bkc hb3
          have r3 : w3.cell? ⟨w.heap.size + 1, 3, none⟩ = some (.slice oa' outs'.length oc') := bkc hb3
          have hB : Below w.heap.size w w3 := bthen (by repeat (first|exact bzR _ _|exact hB|refine bzD ?_|refine bzN ?_|refine bzS ?_|refine bzA ?_)) hb3
          have hz : w.heap.size ≤ w3.heap.size := hB.size
          clear RP hb3
          go_wp2_with fail
          (with_reducible refine (RQ.out _ ?_).mono ?_); (repeat (first|exact bzR _ _|exact hB3|refine bzD ?_|refine bzN ?_|refine bzS ?_|refine bzA ?_))
          rintro e w4 ⟨rfl, hb4⟩
          have hB4 : Below w.heap.size w w4 := bthen (by repeat (first|exact bzR _ _|exact hB3|refine bzD ?_|refine bzN ?_|refine bzS ?_|refine bzA ?_)) hb4
          have p0 : w4.cell? ⟨w.heap.size, 0, none⟩ = some (.int .i64 ins) := bkc hb4
          have zp0 := cell_lt p0
          have p1 : w4.cell? ⟨w.heap.size, 1, none⟩ = some (.int .i64 regs) := bkc hb4
          have p2 : w4.cell? ⟨w.heap.size, 2, none⟩ = some (.slice ca code.length cc) := bkc hb4
          have p3 : w4.cell? ⟨w.heap.size, 3, none⟩ = some (.slice oa outs.length oc) := bkc hb4
          have r0 : w4.cell? ⟨w.heap.size + 1, 0, none⟩ = some (.int .i64 ins') := bkc hb4
          have zr0 := cell_lt r0
          have r1 : w4.cell? ⟨w.heap.size + 1, 1, none⟩ = some (.int .i64 regs') := bkc hb4
          have r2 : w4.cell? ⟨w.heap.size + 1, 2, none⟩ = some (.slice ca' code'.length cc') := bkc hb4
          have r3 : w4.cell? ⟨w.heap.size + 1, 3, none⟩ = some (.slice oa' outs'.length oc') := bkc hb4
          have hB : Below w.heap.size w w4 := bthen (by repeat (first|exact bzR _ _|exact hB|refine bzD ?_|refine bzN ?_|refine bzS ?_|refine bzA ?_)) hb4
          have hz : w.heap.size ≤ w4.heap.size := hB.size
          clear RQ hb4
          go_wp2
          refine bodyPost_ret (v := .tuple #[.bool false, .int .i64 3]) (by simp [results, Tryz.results35, go_sem]) rfl ⟨⟨_, _, rfl, HR.out⟩, ?_⟩
          repeat (first|exact bzR _ _|exact hB4|refine bzD ?_|refine bzN ?_|refine bzS ?_|refine bzA ?_)
        | some h' =>
          have RQ := Lib.hid (fun V (h : Below w.heap.size w V) => rows_yes (HC.out.2.1.keep h) (HC.out.2.2.keep h) HPQ.out.2 hf)
          clear he hf
          go_wp2_with fail
          (with_reducible refine (RP.out _ ?_).mono ?_); (repeat (first|exact bzR _ _|exact hB2|refine bzD ?_|refine bzN ?_|refine bzS ?_|refine bzA ?_))
          rintro e w3 ⟨rfl, hb3⟩
          have hB3 : Below w.heap.size w w3 := bthen (by repeat (first|exact bzR _ _|exact hB2|refine bzD ?_|refine bzN ?_|refine bzS ?_|refine bzA ?_)) hb3
          have p0 : w3.cell? ⟨w.heap.size, 0, none⟩ = some (.int .i64 ins) := bkc hb3
          have zp0 := cell_lt p0
          have p1 : w3.cell? ⟨w.heap.size, 1, none⟩ = some (.int .i64 regs) := bkc hb3
          have p2 : w3.cell? ⟨w.heap.size, 2, none⟩ = some (.slice ca code.length cc) := bkc hb3
          have p3 : w3.cell? ⟨w.heap.size, 3, none⟩ = some (.slice oa outs.length oc) := bkc hb3
          have r0 : w3.cell? ⟨w.heap.size + 1, 0, none⟩ = some (.int .i64 ins') := bkc hb3
          have zr0 := cell_lt r0
          have r1 : w3.cell? ⟨w.heap.size + 1, 1, none⟩ = some (.int .i64 regs') := bkc hb3
          have r2 : w3.cell? ⟨w.heap.size + 1, 2, none⟩ = some (.slice ca' code'.length cc') := bkc hb3
          have r3 : w3.cell? ⟨w.heap.size + 1, 3, none⟩ = some (.slice oa' outs'.length oc') := bkc hb3
          have hB : Below w.heap.size w w3 := bthen (by repeat (first|exact bzR _ _|exact hB|refine bzD ?_|refine bzN ?_|refine bzS ?_|refine bzA ?_)) hb3
          have hz : w.heap.size ≤ w3.heap.size := hB.size
          clear RP hb3
          go_wp2_with fail
          (with_reducible refine (RQ.out _ ?_).mono ?_); (repeat (first|exact bzR _ _|exact hB3|refine bzD ?_|refine bzN ?_|refine bzS ?_|refine bzA ?_))
          rintro e w4 ⟨⟨vb, rfl, hv4⟩, hb4⟩
          have hB4 : Below w.heap.size w w4 := bthen (by repeat (first|exact bzR _ _|exact hB3|refine bzD ?_|refine bzN ?_|refine bzS ?_|refine bzA ?_)) hb4
          have p0 : w4.cell? ⟨w.heap.size, 0, none⟩ = some (.int .i64 ins) := bkc hb4
          have zp0 := cell_lt p0
          have p1 : w4.cell? ⟨w.heap.size, 1, none⟩ = some (.int .i64 regs) := bkc hb4
          have p2 : w4.cell? ⟨w.heap.size, 2, none⟩ = some (.slice ca code.length cc) := bkc hb4
          have p3 : w4.cell? ⟨w.heap.size, 3, none⟩ = some (.slice oa outs.length oc) := bkc hb4
          have r0 : w4.cell? ⟨w.heap.size + 1, 0, none⟩ = some (.int .i64 ins') := bkc hb4
          have zr0 := cell_lt r0
          have r1 : w4.cell? ⟨w.heap.size + 1, 1, none⟩ = some (.int .i64 regs') := bkc hb4
          have r2 : w4.cell? ⟨w.heap.size + 1, 2, none⟩ = some (.slice ca' code'.length cc') := bkc hb4
          have r3 : w4.cell? ⟨w.heap.size + 1, 3, none⟩ = some (.slice oa' outs'.length oc') := bkc hb4
          have hB : Below w.heap.size w w4 := bthen (by repeat (first|exact bzR _ _|exact hB|refine bzD ?_|refine bzN ?_|refine bzS ?_|refine bzA ?_)) hb4
          have hz : w.heap.size ≤ w4.heap.size := hB.size
          clear RQ hb4
          have HV4 := Lib.hid hv4
          obtain ⟨a4, c4, rfl⟩ := hv4.ex
          clear hv4
          go_wp2
          refine bodyPost_ret (v := .tuple #[.bool false, .int .i64 3]) (by simp [results, Tryz.results35, go_sem]) rfl ⟨⟨_, _, rfl, HR.out⟩, ?_⟩
          repeat (first|exact bzR _ _|exact hB4|refine bzD ?_|refine bzN ?_|refine bzS ?_|refine bzA ?_)
      | some h =>
        cases hf : endF ins' regs' code' with
        | none =>
          have HR := Lib.hid (show SameRes ins regs code outs ins' regs' code' outs' false 3 from .inr (.inl ⟨HPQ.out, .inr hf, rfl, rfl⟩))
          have RP := Lib.hid (fun V (h : Below w.heap.size w V) => rows_yes (HC.out.1.1.keep h) (HC.out.1.2.keep h) HPQ.out.1 he)
          have RQ := Lib.hid (fun V (h : Below w.heap.size w V) => rows_wide (HC.out.2.1.keep h) (HC.out.2.2.keep h) HPQ.out.2 hf)
          clear he hf
          go_wp2_with fail
          (with_reducible refine (RP.out _ ?_).mono ?_); (repeat (first|exact bzR _ _|exact hB2|refine bzD ?_|refine bzN ?_|refine bzS ?_|refine bzA ?_))
          rintro e w3 ⟨⟨va, rfl, hv3⟩, hb3⟩
          have hB3 : Below w.heap.size w w3 := bthen (by repeat (first|exact bzR _ _|exact hB2|refine bzD ?_|refine bzN ?_|refine bzS ?_|refine bzA ?_)) hb3
          have p0 : w3.cell? ⟨w.heap.size, 0, none⟩ = some (.int .i64 ins) := bkc hb3
          have zp0 := cell_lt p0
          have p1 : w3.cell? ⟨w.heap.size, 1, none⟩ = some (.int .i64 regs) := bkc hb3
          have p2 : w3.cell? ⟨w.heap.size, 2, none⟩ = some (.slice ca code.length cc) := bkc hb3
          have p3 : w3.cell? ⟨w.heap.size, 3, none⟩ = some (.slice oa outs.length oc) := bkc hb3
          have r0 : w3.cell? ⟨w.heap.size + 1, 0, none⟩ = some (.int .i64 ins') := bkc hb3
          have zr0 := cell_lt r0
          have r1 : w3.cell? ⟨w.heap.size + 1, 1, none⟩ = some (.int .i64 regs') := bkc hb3
          have r2 : w3.cell? ⟨w.heap.size + 1, 2, none⟩ = some (.slice ca' code'.length cc') := bkc hb3
          have r3 : w3.cell? ⟨w.heap.size + 1, 3, none⟩ = some (.slice oa' outs'.length oc') := bkc hb3
          have hB : Below w.heap.size w w3 := bthen (by repeat (first|exact bzR _ _|exact hB|refine bzD ?_|refine bzN ?_|refine bzS ?_|refine bzA ?_)) hb3
          have hz : w.heap.size ≤ w3.heap.size := hB.size
          clear RP hb3
          have HV3 := Lib.hid hv3
          obtain ⟨a3, c3, rfl⟩ := hv3.ex
          clear hv3
          go_wp2_with fail
          (with_reducible refine (RQ.out _ ?_).mono ?_); (repeat (first|exact bzR _ _|exact hB3|refine bzD ?_|refine bzN ?_|refine bzS ?_|refine bzA ?_))
          rintro e w4 ⟨rfl, hb4⟩
          have hB4 : Below w.heap.size w w4 := bthen (by repeat (first|exact bzR _ _|exact hB3|refine bzD ?_|refine bzN ?_|refine bzS ?_|refine bzA ?_)) hb4
          have p0 : w4.cell? ⟨w.heap.size, 0, none⟩ = some (.int .i64 ins) := bkc hb4
          have zp0 := cell_lt p0
          have p1 : w4.cell? ⟨w.heap.size, 1, none⟩ = some (.int .i64 regs) := bkc hb4
          have p2 : w4.cell? ⟨w.heap.size, 2, none⟩ = some (.slice ca code.length cc) := bkc hb4
          have p3 : w4.cell? ⟨w.heap.size, 3, none⟩ = some (.slice oa outs.length oc) := bkc hb4
          have r0 : w4.cell? ⟨w.heap.size + 1, 0, none⟩ = some (.int .i64 ins') := bkc hb4
          have zr0 := cell_lt r0
          have r1 : w4.cell? ⟨w.heap.size + 1, 1, none⟩ = some (.int .i64 regs') := bkc hb4
          have r2 : w4.cell? ⟨w.heap.size + 1, 2, none⟩ = some (.slice ca' code'.length cc') := bkc hb4
          have r3 : w4.cell? ⟨w.heap.size + 1, 3, none⟩ = some (.slice oa' outs'.length oc') := bkc hb4
          have hB : Below w.heap.size w w4 := bthen (by repeat (first|exact bzR _ _|exact hB|refine bzD ?_|refine bzN ?_|refine bzS ?_|refine bzA ?_)) hb4
          have hz : w.heap.size ≤ w4.heap.size := hB.size
          clear RQ hb4
          go_wp2
          refine bodyPost_ret (v := .tuple #[.bool false, .int .i64 3]) (by simp [results, Tryz.results35, go_sem]) rfl ⟨⟨_, _, rfl, HR.out⟩, ?_⟩
          repeat (first|exact bzR _ _|exact hB4|refine bzD ?_|refine bzN ?_|refine bzS ?_|refine bzA ?_)
        | some h' =>
          have HE := Lib.hid (And.intro he hf)
          have RP := Lib.hid (fun V (h : Below w.heap.size w V) => rows_yes (HC.out.1.1.keep h) (HC.out.1.2.keep h) HPQ.out.1 he)
          have RQ := Lib.hid (fun V (h : Below w.heap.size w V) => rows_yes (HC.out.2.1.keep h) (HC.out.2.2.keep h) HPQ.out.2 hf)
          have HO1 := Lib.hid (endF_ok HPQ.out.1 he)
          have HO2 := Lib.hid (endF_ok HPQ.out.2 hf)
          clear he hf
          go_wp2_with fail
          (with_reducible refine (RP.out _ ?_).mono ?_); (repeat (first|exact bzR _ _|exact hB2|refine bzD ?_|refine bzN ?_|refine bzS ?_|refine bzA ?_))
          rintro e w3 ⟨⟨va, rfl, hv3⟩, hb3⟩
          have hB3 : Below w.heap.size w w3 := bthen (by repeat (first|exact bzR _ _|exact hB2|refine bzD ?_|refine bzN ?_|refine bzS ?_|refine bzA ?_)) hb3
          have p0 : w3.cell? ⟨w.heap.size, 0, none⟩ = some (.int .i64 ins) := bkc hb3
          have zp0 := cell_lt p0
          have p1 : w3.cell? ⟨w.heap.size, 1, none⟩ = some (.int .i64 regs) := bkc hb3
          have p2 : w3.cell? ⟨w.heap.size, 2, none⟩ = some (.slice ca code.length cc) := bkc hb3
          have p3 : w3.cell? ⟨w.heap.size, 3, none⟩ = some (.slice oa outs.length oc) := bkc hb3
          have r0 : w3.cell? ⟨w.heap.size + 1, 0, none⟩ = some (.int .i64 ins') := bkc hb3
          have zr0 := cell_lt r0
          have r1 : w3.cell? ⟨w.heap.size + 1, 1, none⟩ = some (.int .i64 regs') := bkc hb3
          have r2 : w3.cell? ⟨w.heap.size + 1, 2, none⟩ = some (.slice ca' code'.length cc') := bkc hb3
          have r3 : w3.cell? ⟨w.heap.size + 1, 3, none⟩ = some (.slice oa' outs'.length oc') := bkc hb3
          have hB : Below w.heap.size w w3 := bthen (by repeat (first|exact bzR _ _|exact hB|refine bzD ?_|refine bzN ?_|refine bzS ?_|refine bzA ?_)) hb3
          have hz : w.heap.size ≤ w3.heap.size := hB.size
          clear RP hb3
          have HV3 := Lib.hid hv3
          obtain ⟨a3, c3, rfl⟩ := hv3.ex
          clear hv3
          have hBk := Below.refl w3.heap.size w3
          go_wp2_with fail
          (with_reducible refine (RQ.out _ ?_).mono ?_); (repeat (first|exact bzR _ _|exact hB3|refine bzD ?_|refine bzN ?_|refine bzS ?_|refine bzA ?_))
          rintro e w4 ⟨⟨vb, rfl, hv4⟩, hb4⟩
          have hb34 : Below w3.heap.size w3 w4 := bthen (by repeat (first|exact bzR _ _|exact hBk|refine bzD ?_|refine bzN ?_|refine bzS ?_|refine bzA ?_)) hb4
          have hB4 : Below w.heap.size w w4 := bthen hB3 hb34
          have p0 : w4.cell? ⟨w.heap.size, 0, none⟩ = some (.int .i64 ins) := bkc hb4
          have zp0 := cell_lt p0
          have p1 : w4.cell? ⟨w.heap.size, 1, none⟩ = some (.int .i64 regs) := bkc hb4
          have p2 : w4.cell? ⟨w.heap.size, 2, none⟩ = some (.slice ca code.length cc) := bkc hb4
          have p3 : w4.cell? ⟨w.heap.size, 3, none⟩ = some (.slice oa outs.length oc) := bkc hb4
          have r0 : w4.cell? ⟨w.heap.size + 1, 0, none⟩ = some (.int .i64 ins') := bkc hb4
          have zr0 := cell_lt r0
          have r1 : w4.cell? ⟨w.heap.size + 1, 1, none⟩ = some (.int .i64 regs') := bkc hb4
          have r2 : w4.cell? ⟨w.heap.size + 1, 2, none⟩ = some (.slice ca' code'.length cc') := bkc hb4
          have r3 : w4.cell? ⟨w.heap.size + 1, 3, none⟩ = some (.slice oa' outs'.length oc') := bkc hb4
          have hB : Below w.heap.size w w4 := bthen (by repeat (first|exact bzR _ _|exact hB|refine bzD ?_|refine bzN ?_|refine bzS ?_|refine bzA ?_)) hb4
          have hz : w.heap.size ≤ w4.heap.size := hB.size
          clear RQ hb4
          have HV4 := Lib.hid hv4
          obtain ⟨a4, c4, rfl⟩ := hv4.ex
          clear hv4
          obtain ⟨A, hA⟩ : ∃ A, outsF outs h = A := ⟨_, rfl⟩
          obtain ⟨B, hB'⟩ : ∃ B, outsF outs' h' = B := ⟨_, rfl⟩
          have HR := Lib.hid (fun (b : Bool) (hb : b = true ↔ ins = ins' ∧ A = B) => (show SameRes ins regs code outs ins' regs' code' outs' b 0 from .inr (.inr ⟨HPQ.out, h, h', HE.out.1, HE.out.2, rfl, by rw [hA, hB']; exact hb⟩)))
          rw [hA] at HV3 HO1
          rw [hB'] at HV4 HO2
          have hAl : A.length ≤ 128 := by rw [← hA, outsF_len]; exact HPQ.out.1.o2
          have hI1 := HPQ.out.1.i2
          have hR1 := HPQ.out.1.r1
          have EC := Lib.hid (fun V (h : Below w4.heap.size w4 V) => (eqQs_c _ _ A B 65536 V (ownP_isL0 (HV3.out.below (bthen hb34 h))) (ownP_isL0 (HV4.out.below h)) (slimG_bd HO1.out.2) (slimG_bd HO2.out.2) (fun i hi => by rw [HO1.out.1 i hi]; omega) (by omega) (by omega)).mono (R' := fun e w' => (∃ b, e = .returned (.bool b) ∧ (b = true ↔ A = B)) ∧ Below V.heap.size V w') fun e w' ⟨⟨b, h1, h2⟩, h3⟩ => ⟨⟨b, h1, h2.trans relGrid_eq⟩, h3⟩)
          by_cases hii : ins = ins'
          · have hee : (ins == ins') = true := by simpa using hii
            have hBw := Below.refl w4.heap.size w4
            go_wp2_with fail
            (with_reducible refine (EC.out _ ?_).mono ?_); (repeat (first|exact bzR _ _|exact hBw|refine bzD ?_|refine bzN ?_|refine bzS ?_|refine bzA ?_))
            rintro e w5 ⟨⟨b, rfl, hb⟩, hb5⟩
            have HF := Lib.hid (HR.out b (hb.trans ⟨fun h => ⟨hii, h⟩, fun h => h.2⟩))
            have hB5 : Below w.heap.size w w5 := bthen hB4 (bthen (by repeat (first|exact bzR _ _|exact hBw|refine bzD ?_|refine bzN ?_|refine bzS ?_|refine bzA ?_)) hb5)
            clear HR hii hb EC hb5
            go_wp2
            refine bodyPost_ret (v := .tuple #[.bool b, .int .i64 0]) (by simp [results, Tryz.results35, go_sem]) rfl ⟨⟨_, _, rfl, HF.out⟩, ?_⟩
            repeat (first|exact bzR _ _|exact hB5|refine bzD ?_|refine bzN ?_|refine bzS ?_|refine bzA ?_)
          · have HF := Lib.hid (HR.out false ⟨fun h => (by cases h), fun h => absurd h.1 hii⟩)
            have hne : (ins == ins') = false := by simpa using hii
            clear HR hii
            go_wp2
            refine bodyPost_ret (v := .tuple #[.bool false, .int .i64 0]) (by simp [results, Tryz.results35, go_sem]) rfl ⟨⟨_, _, rfl, HF.out⟩, ?_⟩
            repeat (first|exact bzR _ _|exact hB4|refine bzD ?_|refine bzN ?_|refine bzS ?_|refine bzA ?_)
    · have CQ := Lib.hid (fun V (h : Below w.heap.size w V) => check_no (hc'.keep h) (ho'.keep h) hq)
      have HR := Lib.hid (show SameRes ins regs code outs ins' regs' code' outs' false 80 from .inl ⟨fun h => hq h.2, rfl, rfl⟩)
      clear hc ho hc' ho' hp hq
      go_enter Tryz.func35, Tryz.ntmps35
      go_wp2_with fail
      (with_reducible refine (CP.out _ ?_).mono ?_); (repeat (first|exact bzR _ _|exact hB|refine bzD ?_|refine bzN ?_|refine bzS ?_|refine bzA ?_))
      rintro e w1 ⟨⟨r1, rfl⟩, hb1⟩
      have hB1 : Below w.heap.size w w1 := bthen (by repeat (first|exact bzR _ _|exact hB|refine bzD ?_|refine bzN ?_|refine bzS ?_|refine bzA ?_)) hb1
      have p0 : w1.cell? ⟨w.heap.size, 0, none⟩ = some (.int .i64 ins) := bkc hb1
      have zp0 := cell_lt p0
      have p1 : w1.cell? ⟨w.heap.size, 1, none⟩ = some (.int .i64 regs) := bkc hb1
      have p2 : w1.cell? ⟨w.heap.size, 2, none⟩ = some (.slice ca code.length cc) := bkc hb1
      have p3 : w1.cell? ⟨w.heap.size, 3, none⟩ = some (.slice oa outs.length oc) := bkc hb1
      have r0 : w1.cell? ⟨w.heap.size + 1, 0, none⟩ = some (.int .i64 ins') := bkc hb1
      have zr0 := cell_lt r0
      have r1 : w1.cell? ⟨w.heap.size + 1, 1, none⟩ = some (.int .i64 regs') := bkc hb1
      have r2 : w1.cell? ⟨w.heap.size + 1, 2, none⟩ = some (.slice ca' code'.length cc') := bkc hb1
      have r3 : w1.cell? ⟨w.heap.size + 1, 3, none⟩ = some (.slice oa' outs'.length oc') := bkc hb1
      have hB : Below w.heap.size w w1 := bthen (by repeat (first|exact bzR _ _|exact hB|refine bzD ?_|refine bzN ?_|refine bzS ?_|refine bzA ?_)) hb1
      have hz : w.heap.size ≤ w1.heap.size := hB.size
      clear CP hb1
      go_wp2_with fail
      (with_reducible refine (CQ.out _ ?_).mono ?_); (repeat (first|exact bzR _ _|exact hB1|refine bzD ?_|refine bzN ?_|refine bzS ?_|refine bzA ?_))
      rintro e w2 ⟨⟨r2, rfl⟩, hb2⟩
      have hB2 : Below w.heap.size w w2 := bthen (by repeat (first|exact bzR _ _|exact hB1|refine bzD ?_|refine bzN ?_|refine bzS ?_|refine bzA ?_)) hb2
      have p0 : w2.cell? ⟨w.heap.size, 0, none⟩ = some (.int .i64 ins) := bkc hb2
      have zp0 := cell_lt p0
      have p1 : w2.cell? ⟨w.heap.size, 1, none⟩ = some (.int .i64 regs) := bkc hb2
      have p2 : w2.cell? ⟨w.heap.size, 2, none⟩ = some (.slice ca code.length cc) := bkc hb2
      have p3 : w2.cell? ⟨w.heap.size, 3, none⟩ = some (.slice oa outs.length oc) := bkc hb2
      have r0 : w2.cell? ⟨w.heap.size + 1, 0, none⟩ = some (.int .i64 ins') := bkc hb2
      have zr0 := cell_lt r0
      have r1 : w2.cell? ⟨w.heap.size + 1, 1, none⟩ = some (.int .i64 regs') := bkc hb2
      have r2 : w2.cell? ⟨w.heap.size + 1, 2, none⟩ = some (.slice ca' code'.length cc') := bkc hb2
      have r3 : w2.cell? ⟨w.heap.size + 1, 3, none⟩ = some (.slice oa' outs'.length oc') := bkc hb2
      have hB : Below w.heap.size w w2 := bthen (by repeat (first|exact bzR _ _|exact hB|refine bzD ?_|refine bzN ?_|refine bzS ?_|refine bzA ?_)) hb2
      have hz : w.heap.size ≤ w2.heap.size := hB.size
      clear CQ hb2
      go_wp2
      refine bodyPost_ret (v := .tuple #[.bool false, .int .i64 80]) (by simp [results, Tryz.results35, go_sem]) rfl ⟨⟨_, _, rfl, HR.out⟩, ?_⟩
      repeat (first|exact bzR _ _|exact hB2|refine bzD ?_|refine bzN ?_|refine bzS ?_|refine bzA ?_)
  · have CP := Lib.hid (fun V (h : Below w.heap.size w V) => check_no (hc.keep h) (ho.keep h) hp)
    have HR := Lib.hid (show SameRes ins regs code outs ins' regs' code' outs' false 80 from .inl ⟨fun h => hp h.1, rfl, rfl⟩)
    by_cases hq : ProgOk ins' regs' code' outs'
    · have CQ := Lib.hid (fun V (h : Below w.heap.size w V) => check_yes (hc'.keep h) (ho'.keep h) hq)
      clear hc ho hc' ho' hp hq
      go_enter Tryz.func35, Tryz.ntmps35
      go_wp2_with fail
      (with_reducible refine (CP.out _ ?_).mono ?_); (repeat (first|exact bzR _ _|exact hB|refine bzD ?_|refine bzN ?_|refine bzS ?_|refine bzA ?_))
      rintro e w1 ⟨⟨r1, rfl⟩, hb1⟩
      have hB1 : Below w.heap.size w w1 := bthen (by repeat (first|exact bzR _ _|exact hB|refine bzD ?_|refine bzN ?_|refine bzS ?_|refine bzA ?_)) hb1
      have p0 : w1.cell? ⟨w.heap.size, 0, none⟩ = some (.int .i64 ins) := bkc hb1
      have zp0 := cell_lt p0
      have p1 : w1.cell? ⟨w.heap.size, 1, none⟩ = some (.int .i64 regs) := bkc hb1
      have p2 : w1.cell? ⟨w.heap.size, 2, none⟩ = some (.slice ca code.length cc) := bkc hb1
      have p3 : w1.cell? ⟨w.heap.size, 3, none⟩ = some (.slice oa outs.length oc) := bkc hb1
      have r0 : w1.cell? ⟨w.heap.size + 1, 0, none⟩ = some (.int .i64 ins') := bkc hb1
      have zr0 := cell_lt r0
      have r1 : w1.cell? ⟨w.heap.size + 1, 1, none⟩ = some (.int .i64 regs') := bkc hb1
      have r2 : w1.cell? ⟨w.heap.size + 1, 2, none⟩ = some (.slice ca' code'.length cc') := bkc hb1
      have r3 : w1.cell? ⟨w.heap.size + 1, 3, none⟩ = some (.slice oa' outs'.length oc') := bkc hb1
      have hB : Below w.heap.size w w1 := bthen (by repeat (first|exact bzR _ _|exact hB|refine bzD ?_|refine bzN ?_|refine bzS ?_|refine bzA ?_)) hb1
      have hz : w.heap.size ≤ w1.heap.size := hB.size
      clear CP hb1
      go_wp2_with fail
      (with_reducible refine (CQ.out _ ?_).mono ?_); (repeat (first|exact bzR _ _|exact hB1|refine bzD ?_|refine bzN ?_|refine bzS ?_|refine bzA ?_))
      rintro e w2 ⟨⟨r2, rfl⟩, hb2⟩
      have hB2 : Below w.heap.size w w2 := bthen (by repeat (first|exact bzR _ _|exact hB1|refine bzD ?_|refine bzN ?_|refine bzS ?_|refine bzA ?_)) hb2
      have p0 : w2.cell? ⟨w.heap.size, 0, none⟩ = some (.int .i64 ins) := bkc hb2
      have zp0 := cell_lt p0
      have p1 : w2.cell? ⟨w.heap.size, 1, none⟩ = some (.int .i64 regs) := bkc hb2
      have p2 : w2.cell? ⟨w.heap.size, 2, none⟩ = some (.slice ca code.length cc) := bkc hb2
      have p3 : w2.cell? ⟨w.heap.size, 3, none⟩ = some (.slice oa outs.length oc) := bkc hb2
      have r0 : w2.cell? ⟨w.heap.size + 1, 0, none⟩ = some (.int .i64 ins') := bkc hb2
      have zr0 := cell_lt r0
      have r1 : w2.cell? ⟨w.heap.size + 1, 1, none⟩ = some (.int .i64 regs') := bkc hb2
      have r2 : w2.cell? ⟨w.heap.size + 1, 2, none⟩ = some (.slice ca' code'.length cc') := bkc hb2
      have r3 : w2.cell? ⟨w.heap.size + 1, 3, none⟩ = some (.slice oa' outs'.length oc') := bkc hb2
      have hB : Below w.heap.size w w2 := bthen (by repeat (first|exact bzR _ _|exact hB|refine bzD ?_|refine bzN ?_|refine bzS ?_|refine bzA ?_)) hb2
      have hz : w.heap.size ≤ w2.heap.size := hB.size
      clear CQ hb2
      go_wp2
      refine bodyPost_ret (v := .tuple #[.bool false, .int .i64 80]) (by simp [results, Tryz.results35, go_sem]) rfl ⟨⟨_, _, rfl, HR.out⟩, ?_⟩
      repeat (first|exact bzR _ _|exact hB2|refine bzD ?_|refine bzN ?_|refine bzS ?_|refine bzA ?_)
    · have CQ := Lib.hid (fun V (h : Below w.heap.size w V) => check_no (hc'.keep h) (ho'.keep h) hq)
      clear hc ho hc' ho' hp hq
      go_enter Tryz.func35, Tryz.ntmps35
      go_wp2_with fail
      (with_reducible refine (CP.out _ ?_).mono ?_); (repeat (first|exact bzR _ _|exact hB|refine bzD ?_|refine bzN ?_|refine bzS ?_|refine bzA ?_))
      rintro e w1 ⟨⟨r1, rfl⟩, hb1⟩
      have hB1 : Below w.heap.size w w1 := bthen (by repeat (first|exact bzR _ _|exact hB|refine bzD ?_|refine bzN ?_|refine bzS ?_|refine bzA ?_)) hb1
      have p0 : w1.cell? ⟨w.heap.size, 0, none⟩ = some (.int .i64 ins) := bkc hb1
      have zp0 := cell_lt p0
      have p1 : w1.cell? ⟨w.heap.size, 1, none⟩ = some (.int .i64 regs) := bkc hb1
      have p2 : w1.cell? ⟨w.heap.size, 2, none⟩ = some (.slice ca code.length cc) := bkc hb1
      have p3 : w1.cell? ⟨w.heap.size, 3, none⟩ = some (.slice oa outs.length oc) := bkc hb1
      have r0 : w1.cell? ⟨w.heap.size + 1, 0, none⟩ = some (.int .i64 ins') := bkc hb1
      have zr0 := cell_lt r0
      have r1 : w1.cell? ⟨w.heap.size + 1, 1, none⟩ = some (.int .i64 regs') := bkc hb1
      have r2 : w1.cell? ⟨w.heap.size + 1, 2, none⟩ = some (.slice ca' code'.length cc') := bkc hb1
      have r3 : w1.cell? ⟨w.heap.size + 1, 3, none⟩ = some (.slice oa' outs'.length oc') := bkc hb1
      have hB : Below w.heap.size w w1 := bthen (by repeat (first|exact bzR _ _|exact hB|refine bzD ?_|refine bzN ?_|refine bzS ?_|refine bzA ?_)) hb1
      have hz : w.heap.size ≤ w1.heap.size := hB.size
      clear CP hb1
      go_wp2_with fail
      (with_reducible refine (CQ.out _ ?_).mono ?_); (repeat (first|exact bzR _ _|exact hB1|refine bzD ?_|refine bzN ?_|refine bzS ?_|refine bzA ?_))
      rintro e w2 ⟨⟨r2, rfl⟩, hb2⟩
      have hB2 : Below w.heap.size w w2 := bthen (by repeat (first|exact bzR _ _|exact hB1|refine bzD ?_|refine bzN ?_|refine bzS ?_|refine bzA ?_)) hb2
      have p0 : w2.cell? ⟨w.heap.size, 0, none⟩ = some (.int .i64 ins) := bkc hb2
      have zp0 := cell_lt p0
      have p1 : w2.cell? ⟨w.heap.size, 1, none⟩ = some (.int .i64 regs) := bkc hb2
      have p2 : w2.cell? ⟨w.heap.size, 2, none⟩ = some (.slice ca code.length cc) := bkc hb2
      have p3 : w2.cell? ⟨w.heap.size, 3, none⟩ = some (.slice oa outs.length oc) := bkc hb2
      have r0 : w2.cell? ⟨w.heap.size + 1, 0, none⟩ = some (.int .i64 ins') := bkc hb2
      have zr0 := cell_lt r0
      have r1 : w2.cell? ⟨w.heap.size + 1, 1, none⟩ = some (.int .i64 regs') := bkc hb2
      have r2 : w2.cell? ⟨w.heap.size + 1, 2, none⟩ = some (.slice ca' code'.length cc') := bkc hb2
      have r3 : w2.cell? ⟨w.heap.size + 1, 3, none⟩ = some (.slice oa' outs'.length oc') := bkc hb2
      have hB : Below w.heap.size w w2 := bthen (by repeat (first|exact bzR _ _|exact hB|refine bzD ?_|refine bzN ?_|refine bzS ?_|refine bzA ?_)) hb2
      have hz : w.heap.size ≤ w2.heap.size := hB.size
      clear CQ hb2
      go_wp2
      refine bodyPost_ret (v := .tuple #[.bool false, .int .i64 80]) (by simp [results, Tryz.results35, go_sem]) rfl ⟨⟨_, _, rfl, HR.out⟩, ?_⟩
      repeat (first|exact bzR _ _|exact hB2|refine bzD ?_|refine bzN ?_|refine bzS ?_|refine bzA ?_)
end Go.Proofs.YtbmaffijncapiaaGreatDoor

