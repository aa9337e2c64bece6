/- DenoteLast: the law answers true. -/
import Derived.Test.YtbmaffijncapiaaGreatDoorL33
import Derived.Test.YtbmaffijncapiaaGreatDoorL22
import Derived.StillTailTactics
import Derived.BigQuiet
set_option linter.unusedVariables false
set_option linter.unusedSimpArgs false
namespace Go.Proofs.YtbmaffijncapiaaGreatDoor
open Num
open Go.ChangeShapes Go.WideShapes Go.ChangeAt Go.RowKit
set_option linter.unusedVariables false
set_option linter.unusedSimpArgs false
attribute [local go_sem ↓] Go.wp_at_zero Go.wp_at_succ
attribute [local go_sem] Oper.semAt_some
section
variable {ins regs : Int} {ca oa : Option Addr} {cc oc : Nat} {code : List Ins} {outs : List Int} {w : World}
theorem same9_no (hc : InsV w ca cc code) (ho : IntsV w oa oc outs) (hp : ¬ ProgOk ins regs code outs) : Calls Tryz.prog 35 #[.agg #[.int .i64 ins, .int .i64 regs, .slice ca code.length cc, .slice oa outs.length oc], .agg #[.int .i64 ins, .int .i64 regs, .slice ca code.length cc, .slice oa outs.length oc]] w fun e w' => e = .returned (.tuple #[.bool false, .int .i64 80]) ∧ Below w.heap.size w w' :=
  (sameQ_c ins regs ca oa cc oc code outs ins regs ca oa cc oc code outs w hc ho hc ho).mono fun e w' ⟨⟨b, n, h1, h2⟩, h3⟩ => by
    rcases h2 with ⟨_, rfl, rfl⟩ | ⟨h4, _⟩ | ⟨h4, _⟩
    · exact ⟨h1, h3⟩
    · exact absurd h4.1 hp
    · exact absurd h4.1 hp
theorem same9_wide (hc : InsV w ca cc code) (ho : IntsV w oa oc outs) (hp : ProgOk ins regs code outs) (he : endF ins regs code = none) : Calls Tryz.prog 35 #[.agg #[.int .i64 ins, .int .i64 regs, .slice ca code.length cc, .slice oa outs.length oc], .agg #[.int .i64 ins, .int .i64 regs, .slice ca code.length cc, .slice oa outs.length oc]] w fun e w' => e = .returned (.tuple #[.bool false, .int .i64 3]) ∧ Below w.heap.size w w' :=
  (sameQ_c ins regs ca oa cc oc code outs ins regs ca oa cc oc code outs w hc ho hc ho).mono fun e w' ⟨⟨b, n, h1, h2⟩, h3⟩ => by
    rcases h2 with ⟨h4, _⟩ | ⟨_, _, rfl, rfl⟩ | ⟨_, h, _, h4, _⟩
    · exact absurd ⟨hp, hp⟩ h4
    · exact ⟨h1, h3⟩
    · rw [he] at h4; cases h4
theorem same9_yes {h : GridF} (hc : InsV w ca cc code) (ho : IntsV w oa oc outs) (hp : ProgOk ins regs code outs) (he : endF ins regs code = some h) : Calls Tryz.prog 35 #[.agg #[.int .i64 ins, .int .i64 regs, .slice ca code.length cc, .slice oa outs.length oc], .agg #[.int .i64 ins, .int .i64 regs, .slice ca code.length cc, .slice oa outs.length oc]] w fun e w' => e = .returned (.tuple #[.bool true, .int .i64 0]) ∧ Below w.heap.size w w' :=
  (sameQ_c ins regs ca oa cc oc code outs ins regs ca oa cc oc code outs w hc ho hc ho).mono fun e w' ⟨⟨b, n, h1, h2⟩, h3⟩ => by
    rcases h2 with ⟨h4, _⟩ | ⟨_, h4, _⟩ | ⟨_, h', h'', h4, h5, rfl, hb⟩
    · exact absurd ⟨hp, hp⟩ h4
    · rw [he] at h4; rcases h4 with h4 | h4 <;> cases h4
    · rw [he] at h4 h5; cases h4; cases h5
      rw [hb.2 ⟨rfl, rfl⟩] at h1
      exact ⟨h1, h3⟩
end
set_option maxRecDepth 100000 in
set_option maxHeartbeats 16000000 in
theorem last_no (ins regs : Int) (ca oa : Option Addr) (cc oc : Nat) (code : List Ins) (outs : List Int) (w : World) (hc : InsV w ca cc code) (ho : IntsV w oa oc outs) (hp : ¬ ProgOk ins regs code outs) :
    Calls Tryz.prog 8 #[.agg #[.int .i64 ins, .int .i64 regs, .slice ca code.length cc, .slice oa outs.length oc]] w fun e w' => e = .returned (.bool true) ∧ Below w.heap.size w w' := by
  have RC := Lib.hid (fun V (q : Below w.heap.size w V) => rows_no (hc.keep q) (ho.keep q) hp)
  have SC := Lib.hid (fun V (q : Below w.heap.size w V) => same9_no (hc.keep q) (ho.keep q) hp)
  clear hp
  have HC := Lib.hid (And.intro hc ho)
  have hB := Below.refl w.heap.size w
  have LC := Lib.hid (fun V => long9_c ins regs ca oa code.length cc outs.length oc V)
  clear hc ho
  refine calls_of_wp_marks Tryz.func8 rfl ?_
  simp only [Tryz.ntmps8, List.size_toArray, List.length_cons, List.length_nil, Nat.reduceAdd, Nat.reduceSub, Array.replicate_succ, Array.replicate_zero, List.push_toArray, List.append_toArray, List.nil_append, List.cons_append]
  go_wp2_with fail
  refine (works9_c _).mono ?_
  rintro e w1 ⟨rfl, hb1⟩
  have p0 : w1.cell? ⟨w.heap.size, 0, none⟩ = some (.int .i64 ins) := bkc hb1
  have zp0 := cell_lt p0
  have p1 : w1.cell? ⟨w.heap.size, 1, none⟩ = some (.int .i64 regs) := bkc hb1
  have p2 : w1.cell? ⟨w.heap.size, 2, none⟩ = some (.slice ca code.length cc) := bkc hb1
  have p3 : w1.cell? ⟨w.heap.size, 3, none⟩ = some (.slice oa outs.length oc) := bkc hb1
  have r0 : w1.cell? ⟨w.heap.size + 1, 0, none⟩ = some (.bool false) := bkc hb1
  have zr0 := cell_lt r0
  have r0f : w1.frozen? ⟨w.heap.size + 1, 0, none⟩ = false := bkcf (v := .bool false) hb1
  have hB : Below w.heap.size w w1 := bthen (by repeat (first|exact bzR _ _|exact hB|refine bzD ?_|refine bzN ?_|refine bzS ?_|refine bzA ?_)) hb1
  have hz : w.heap.size ≤ w1.heap.size := hB.size
  go_wp2_with fail
  (with_reducible refine (LC.out _).mono ?_)
  rintro e w2 ⟨⟨b2, rfl⟩, hb2⟩
  have p0 : w2.cell? ⟨w.heap.size, 0, none⟩ = some (.int .i64 ins) := bkc hb2
  have zp0 := cell_lt p0
  have p1 : w2.cell? ⟨w.heap.size, 1, none⟩ = some (.int .i64 regs) := bkc hb2
  have p2 : w2.cell? ⟨w.heap.size, 2, none⟩ = some (.slice ca code.length cc) := bkc hb2
  have p3 : w2.cell? ⟨w.heap.size, 3, none⟩ = some (.slice oa outs.length oc) := bkc hb2
  have r0 : w2.cell? ⟨w.heap.size + 1, 0, none⟩ = some (.bool false) := bkc hb2
  have zr0 := cell_lt r0
  have r0f : w2.frozen? ⟨w.heap.size + 1, 0, none⟩ = false := bkcf (v := .bool false) hb2
  have hB : Below w.heap.size w w2 := bthen (by repeat (first|exact bzR _ _|exact hB|refine bzD ?_|refine bzN ?_|refine bzS ?_|refine bzA ?_)) hb2
  have hz : w.heap.size ≤ w2.heap.size := hB.size
  clear LC hb1 hb2
  cases b2 with
  | true =>
    go_wp2
    refine ⟨.bool true, ?_, rfl, bset hB (by show w.heap.size ≤ w.heap.size + 1; omega) _⟩
    simp [results, Tryz.results8, go_sem, cell_here r0 (.bool true)]
  | false =>
    go_wp2_with fail
    (with_reducible refine (RC.out _ ?_).mono ?_); (repeat (first|exact bzR _ _|exact hB|refine bzD ?_|refine bzN ?_|refine bzS ?_|refine bzA ?_))
    rintro e w3 ⟨rfl, hb3⟩
    have p0 : w3.cell? ⟨w.heap.size, 0, none⟩ = some (.int .i64 ins) := bkc hb3
    have zp0 := cell_lt p0
    have p1 : w3.cell? ⟨w.heap.size, 1, none⟩ = some (.int .i64 regs) := bkc hb3
    have p2 : w3.cell? ⟨w.heap.size, 2, none⟩ = some (.slice ca code.length cc) := bkc hb3
    have p3 : w3.cell? ⟨w.heap.size, 3, none⟩ = some (.slice oa outs.length oc) := bkc hb3
    have r0 : w3.cell? ⟨w.heap.size + 1, 0, none⟩ = some (.bool false) := bkc hb3
    have zr0 := cell_lt r0
    have r0f : w3.frozen? ⟨w.heap.size + 1, 0, none⟩ = false := bkcf (v := .bool false) hb3
    have hB : Below w.heap.size w w3 := bthen (by repeat (first|exact bzR _ _|exact hB|refine bzD ?_|refine bzN ?_|refine bzS ?_|refine bzA ?_)) hb3
    have hz : w.heap.size ≤ w3.heap.size := hB.size
    clear RC hb3
    go_wp2_with fail
    (with_reducible refine (SC.out _ ?_).mono ?_); (repeat (first|exact bzR _ _|exact hB|refine bzD ?_|refine bzN ?_|refine bzS ?_|refine bzA ?_))
    rintro e w4 ⟨rfl, hb4⟩
    have p0 : w4.cell? ⟨w.heap.size, 0, none⟩ = some (.int .i64 ins) := bkc hb4
    have zp0 := cell_lt p0
    have p1 : w4.cell? ⟨w.heap.size, 1, none⟩ = some (.int .i64 regs) := bkc hb4
    have p2 : w4.cell? ⟨w.heap.size, 2, none⟩ = some (.slice ca code.length cc) := bkc hb4
    have p3 : w4.cell? ⟨w.heap.size, 3, none⟩ = some (.slice oa outs.length oc) := bkc hb4
    have r0 : w4.cell? ⟨w.heap.size + 1, 0, none⟩ = some (.bool false) := bkc hb4
    have zr0 := cell_lt r0
    have r0f : w4.frozen? ⟨w.heap.size + 1, 0, none⟩ = false := bkcf (v := .bool false) hb4
    have hB : Below w.heap.size w w4 := bthen (by repeat (first|exact bzR _ _|exact hB|refine bzD ?_|refine bzN ?_|refine bzS ?_|refine bzA ?_)) hb4
    have hz : w.heap.size ≤ w4.heap.size := hB.size
    clear SC hb4
    have hnil : ∀ W, (binOp .eql 29 (.slice none 0 0) (.slice none 0 0)).run Tryz.prog W = .ok (.bool true) W := fun W => Lib.run_eql_slice_nil W 29 38 none 0 0 0 0 Tryz.underlying29
    go_wp2
    refine ⟨.bool true, ?_, rfl, bset hB (by show w.heap.size ≤ w.heap.size + 1; omega) _⟩
    simp [results, Tryz.results8, go_sem, cell_here r0 (.bool true)]
set_option maxRecDepth 100000 in
set_option maxHeartbeats 16000000 in
theorem last_wide (ins regs : Int) (ca oa : Option Addr) (cc oc : Nat) (code : List Ins) (outs : List Int) (w : World) (hc : InsV w ca cc code) (ho : IntsV w oa oc outs) (hp : ProgOk ins regs code outs) (he : endF ins regs code = none) :
    Calls Tryz.prog 8 #[.agg #[.int .i64 ins, .int .i64 regs, .slice ca code.length cc, .slice oa outs.length oc]] w fun e w' => e = .returned (.bool true) ∧ Below w.heap.size w w' := by
  have RC := Lib.hid (fun V (q : Below w.heap.size w V) => rows_wide (hc.keep q) (ho.keep q) hp he)
  have SC := Lib.hid (fun V (q : Below w.heap.size w V) => same9_wide (hc.keep q) (ho.keep q) hp he)
  clear hp he
  have HC := Lib.hid (And.intro hc ho)
  have hB := Below.refl w.heap.size w
  have LC := Lib.hid (fun V => long9_c ins regs ca oa code.length cc outs.length oc V)
  clear hc ho
  refine calls_of_wp_marks Tryz.func8 rfl ?_
  simp only [Tryz.ntmps8, List.size_toArray, List.length_cons, List.length_nil, Nat.reduceAdd, Nat.reduceSub, Array.replicate_succ, Array.replicate_zero, List.push_toArray, List.append_toArray, List.nil_append, List.cons_append]
  go_wp2_with fail
  refine (works9_c _).mono ?_
  rintro e w1 ⟨rfl, hb1⟩
  have p0 : w1.cell? ⟨w.heap.size, 0, none⟩ = some (.int .i64 ins) := bkc hb1
  have zp0 := cell_lt p0
  have p1 : w1.cell? ⟨w.heap.size, 1, none⟩ = some (.int .i64 regs) := bkc hb1
  have p2 : w1.cell? ⟨w.heap.size, 2, none⟩ = some (.slice ca code.length cc) := bkc hb1
  have p3 : w1.cell? ⟨w.heap.size, 3, none⟩ = some (.slice oa outs.length oc) := bkc hb1
  have r0 : w1.cell? ⟨w.heap.size + 1, 0, none⟩ = some (.bool false) := bkc hb1
  have zr0 := cell_lt r0
  have r0f : w1.frozen? ⟨w.heap.size + 1, 0, none⟩ = false := bkcf (v := .bool false) hb1
  have hB : Below w.heap.size w w1 := bthen (by repeat (first|exact bzR _ _|exact hB|refine bzD ?_|refine bzN ?_|refine bzS ?_|refine bzA ?_)) hb1
  have hz : w.heap.size ≤ w1.heap.size := hB.size
  go_wp2_with fail
  (with_reducible refine (LC.out _).mono ?_)
  rintro e w2 ⟨⟨b2, rfl⟩, hb2⟩
  have p0 : w2.cell? ⟨w.heap.size, 0, none⟩ = some (.int .i64 ins) := bkc hb2
  have zp0 := cell_lt p0
  have p1 : w2.cell? ⟨w.heap.size, 1, none⟩ = some (.int .i64 regs) := bkc hb2
  have p2 : w2.cell? ⟨w.heap.size, 2, none⟩ = some (.slice ca code.length cc) := bkc hb2
  have p3 : w2.cell? ⟨w.heap.size, 3, none⟩ = some (.slice oa outs.length oc) := bkc hb2
  have r0 : w2.cell? ⟨w.heap.size + 1, 0, none⟩ = some (.bool false) := bkc hb2
  have zr0 := cell_lt r0
  have r0f : w2.frozen? ⟨w.heap.size + 1, 0, none⟩ = false := bkcf (v := .bool false) hb2
  have hB : Below w.heap.size w w2 := bthen (by repeat (first|exact bzR _ _|exact hB|refine bzD ?_|refine bzN ?_|refine bzS ?_|refine bzA ?_)) hb2
  have hz : w.heap.size ≤ w2.heap.size := hB.size
  clear LC hb1 hb2
  cases b2 with
  | true =>
    go_wp2
    refine ⟨.bool true, ?_, rfl, bset hB (by show w.heap.size ≤ w.heap.size + 1; omega) _⟩
    simp [results, Tryz.results8, go_sem, cell_here r0 (.bool true)]
  | false =>
    go_wp2_with fail
    (with_reducible refine (RC.out _ ?_).mono ?_); (repeat (first|exact bzR _ _|exact hB|refine bzD ?_|refine bzN ?_|refine bzS ?_|refine bzA ?_))
    rintro e w3 ⟨rfl, hb3⟩
    have p0 : w3.cell? ⟨w.heap.size, 0, none⟩ = some (.int .i64 ins) := bkc hb3
    have zp0 := cell_lt p0
    have p1 : w3.cell? ⟨w.heap.size, 1, none⟩ = some (.int .i64 regs) := bkc hb3
    have p2 : w3.cell? ⟨w.heap.size, 2, none⟩ = some (.slice ca code.length cc) := bkc hb3
    have p3 : w3.cell? ⟨w.heap.size, 3, none⟩ = some (.slice oa outs.length oc) := bkc hb3
    have r0 : w3.cell? ⟨w.heap.size + 1, 0, none⟩ = some (.bool false) := bkc hb3
    have zr0 := cell_lt r0
    have r0f : w3.frozen? ⟨w.heap.size + 1, 0, none⟩ = false := bkcf (v := .bool false) hb3
    have hB : Below w.heap.size w w3 := bthen (by repeat (first|exact bzR _ _|exact hB|refine bzD ?_|refine bzN ?_|refine bzS ?_|refine bzA ?_)) hb3
    have hz : w.heap.size ≤ w3.heap.size := hB.size
    clear RC hb3
    go_wp2_with fail
    (with_reducible refine (SC.out _ ?_).mono ?_); (repeat (first|exact bzR _ _|exact hB|refine bzD ?_|refine bzN ?_|refine bzS ?_|refine bzA ?_))
    rintro e w4 ⟨rfl, hb4⟩
    have p0 : w4.cell? ⟨w.heap.size, 0, none⟩ = some (.int .i64 ins) := bkc hb4
    have zp0 := cell_lt p0
    have p1 : w4.cell? ⟨w.heap.size, 1, none⟩ = some (.int .i64 regs) := bkc hb4
    have p2 : w4.cell? ⟨w.heap.size, 2, none⟩ = some (.slice ca code.length cc) := bkc hb4
    have p3 : w4.cell? ⟨w.heap.size, 3, none⟩ = some (.slice oa outs.length oc) := bkc hb4
    have r0 : w4.cell? ⟨w.heap.size + 1, 0, none⟩ = some (.bool false) := bkc hb4
    have zr0 := cell_lt r0
    have r0f : w4.frozen? ⟨w.heap.size + 1, 0, none⟩ = false := bkcf (v := .bool false) hb4
    have hB : Below w.heap.size w w4 := bthen (by repeat (first|exact bzR _ _|exact hB|refine bzD ?_|refine bzN ?_|refine bzS ?_|refine bzA ?_)) hb4
    have hz : w.heap.size ≤ w4.heap.size := hB.size
    clear SC hb4
    have hnil : ∀ W, (binOp .eql 29 (.slice none 0 0) (.slice none 0 0)).run Tryz.prog W = .ok (.bool true) W := fun W => Lib.run_eql_slice_nil W 29 38 none 0 0 0 0 Tryz.underlying29
    go_wp2
    refine ⟨.bool true, ?_, rfl, bset hB (by show w.heap.size ≤ w.heap.size + 1; omega) _⟩
    simp [results, Tryz.results8, go_sem, cell_here r0 (.bool true)]
theorem isBack_c {n R : Nat} {ca oa : Option Addr} {cc oc : Nat} {code : List Ins} {outs : List Int} {h : GridF} {w : World} {vm vd : Value} (hp : ProgOk n R code outs) (he : endF n R code = some h) (h16 : (n : Int) ≤ 16) (o16 : outs.length ≤ 16) (hc : InsV w ca cc code) (ho : IntsV w oa oc outs) (hm : Mt 17000000 (matG (outsF outs h)) vm w) (hd : IsInt w vd (matD (outsF outs h))) :
    Calls Tryz.prog 44 #[.agg #[.int .i64 (n : Int), .int .i64 (R : Int), .slice ca code.length cc, .slice oa outs.length oc], vm, vd] w fun e w' => e = .returned (.tuple #[.bool true, .int .i64 0]) ∧ Below w.heap.size w w' := by
  obtain ⟨hr, hb, hl, hfl, hle, hlt⟩ := mat_facts hp he h16 o16
  rw [Int.toNat_natCast] at hr hfl hle hlt
  have hD := matD_pos hr hb
  have hbd : Bd 20000000 (matD (outsF outs h)) := (matD_bd hr hb).mono (by rw [hl]; omega)
  have hn1 : 0 < outs.length := hp.o1
  refine (is_cQ n R ca oa cc oc code outs vm vd _ _ 20000000 w hc ho (hm.mono (by omega)) hd hbd (by omega)).mono fun e w' ⟨⟨b, q, h1, h2⟩, h3⟩ => ?_
  rcases h2 with ⟨_, h2 | h2 | h2⟩ | ⟨_, _, h', he', rfl, hbb⟩
  · omega
  · exact absurd hp h2.2.1
  · rw [he] at h2; cases h2.2.2.1
  · rw [he] at he'; cases he'
    have hcl : cols (matG (outsF outs h)) = n := (matG_rct hr).cols (by rw [matG_len, hl]; exact hn1)
    have : b = true := hbb.2 ⟨by rw [hcl], by rw [matG_len, hl], fun i j hi hj => is_self hr hb (by rwa [matG_len] at hi) (by rwa [hcl] at hj)⟩
    rw [this] at h1
    exact ⟨h1, h3⟩
set_option maxRecDepth 100000 in
set_option maxHeartbeats 32000000 in
theorem last_yes (n R : Nat) (ca oa : Option Addr) (cc oc : Nat) (code : List Ins) (outs : List Int) (h : GridF) (w : World) (hc : InsV w ca cc code) (ho : IntsV w oa oc outs) (hp : ProgOk n R code outs) (he : endF n R code = some h) :
    Calls Tryz.prog 8 #[.agg #[.int .i64 (n : Int), .int .i64 (R : Int), .slice ca code.length cc, .slice oa outs.length oc]] w fun e w' => e = .returned (.bool true) ∧ Below w.heap.size w w' := by
  have RC := Lib.hid (fun V (q : Below w.heap.size w V) => rows_yes (hc.keep q) (ho.keep q) hp he)
  have SC := Lib.hid (fun V (q : Below w.heap.size w V) => same9_yes (hc.keep q) (ho.keep q) hp he)
  have HPE := Lib.hid (And.intro hp he)
  have HF := Lib.hid (endF_ok hp he)
  have HFL := Lib.hid (outsF_len outs h)
  have HST := Lib.hid (fun V => steps9_c n R ca oa code.length cc outs.length oc V)
  have hR128 : R ≤ 128 := by have := hp.r1; omega
  have hnR : n ≤ R := by have := hp.i2; omega
  have hn1 : 1 ≤ n := by have := hp.i1; omega
  have ho128 : outs.length ≤ 128 := hp.o2
  have hcl := hp.c1
  have HTO := Lib.hid (show ToldF code (unitsF (n : Int).toNat (R : Int).toNat) code.length from ⟨Nat.le_refl _, ⟨h, he⟩, fun h => absurd h (Nat.lt_irrefl _)⟩)
  have HEN := Lib.hid (show afterF code (unitsF n R) code.length = some h from he)
  have HIN := Lib.hid (fun k (hk : k < code.length) => ins_ofF hp hk)
  have HCB := Lib.hid (show ∀ b off, ca = some ⟨b, off, none⟩ → 0 < code.length → b < w.heap.size from fun b off e hl => by
    rcases hc with h0 | ⟨b', off', h1, _, h3⟩
    · rw [h0] at hl; simp at hl
    · rw [e] at h1; cases h1
      exact cell_lt (h3 0 hl).c0)
  clear hp he
  have HC := Lib.hid (And.intro hc ho)
  have hB := Below.refl w.heap.size w
  have LC := Lib.hid (fun V => long9_c n R ca oa code.length cc outs.length oc V)
  clear hc ho
  refine calls_of_wp_marks Tryz.func8 rfl ?_
  simp only [Tryz.ntmps8, List.size_toArray, List.length_cons, List.length_nil, Nat.reduceAdd, Nat.reduceSub, Array.replicate_succ, Array.replicate_zero, List.push_toArray, List.append_toArray, List.nil_append, List.cons_append]
  go_wp2_with fail
  refine (works9_c _).mono ?_
  rintro e w1 ⟨rfl, hb1⟩
  have p0 : w1.cell? ⟨w.heap.size, 0, none⟩ = some (.int .i64 (n : Int)) := bkc hb1
  have zp0 := cell_lt p0
  have p1 : w1.cell? ⟨w.heap.size, 1, none⟩ = some (.int .i64 (R : Int)) := bkc hb1
  have p2 : w1.cell? ⟨w.heap.size, 2, none⟩ = some (.slice ca code.length cc) := bkc hb1
  have p3 : w1.cell? ⟨w.heap.size, 3, none⟩ = some (.slice oa outs.length oc) := bkc hb1
  have r0 : w1.cell? ⟨w.heap.size + 1, 0, none⟩ = some (.bool false) := bkc hb1
  have zr0 := cell_lt r0
  have r0f : w1.frozen? ⟨w.heap.size + 1, 0, none⟩ = false := bkcf (v := .bool false) hb1
  have hB : Below w.heap.size w w1 := bthen (by repeat (first|exact bzR _ _|exact hB|refine bzD ?_|refine bzN ?_|refine bzS ?_|refine bzA ?_)) hb1
  have hz : w.heap.size ≤ w1.heap.size := hB.size
  go_wp2_with fail
  (with_reducible refine (LC.out _).mono ?_)
  rintro e w2 ⟨⟨b2, rfl⟩, hb2⟩
  have p0 : w2.cell? ⟨w.heap.size, 0, none⟩ = some (.int .i64 (n : Int)) := bkc hb2
  have zp0 := cell_lt p0
  have p1 : w2.cell? ⟨w.heap.size, 1, none⟩ = some (.int .i64 (R : Int)) := bkc hb2
  have p2 : w2.cell? ⟨w.heap.size, 2, none⟩ = some (.slice ca code.length cc) := bkc hb2
  have p3 : w2.cell? ⟨w.heap.size, 3, none⟩ = some (.slice oa outs.length oc) := bkc hb2
  have r0 : w2.cell? ⟨w.heap.size + 1, 0, none⟩ = some (.bool false) := bkc hb2
  have zr0 := cell_lt r0
  have r0f : w2.frozen? ⟨w.heap.size + 1, 0, none⟩ = false := bkcf (v := .bool false) hb2
  have hB : Below w.heap.size w w2 := bthen (by repeat (first|exact bzR _ _|exact hB|refine bzD ?_|refine bzN ?_|refine bzS ?_|refine bzA ?_)) hb2
  have hz : w.heap.size ≤ w2.heap.size := hB.size
  clear LC hb1 hb2
  cases b2 with
  | true =>
    go_wp2
    refine ⟨.bool true, ?_, rfl, bset hB (by show w.heap.size ≤ w.heap.size + 1; omega) _⟩
    simp [results, Tryz.results8, go_sem, cell_here r0 (.bool true)]
  | false =>
    go_wp2_with fail
    (with_reducible refine (RC.out _ ?_).mono ?_); (repeat (first|exact bzR _ _|exact hB|refine bzD ?_|refine bzN ?_|refine bzS ?_|refine bzA ?_))
    rintro e w3 ⟨⟨v3, rfl, hv3⟩, hb3⟩
    have p0 : w3.cell? ⟨w.heap.size, 0, none⟩ = some (.int .i64 (n : Int)) := bkc hb3
    have zp0 := cell_lt p0
    have p1 : w3.cell? ⟨w.heap.size, 1, none⟩ = some (.int .i64 (R : Int)) := bkc hb3
    have p2 : w3.cell? ⟨w.heap.size, 2, none⟩ = some (.slice ca code.length cc) := bkc hb3
    have p3 : w3.cell? ⟨w.heap.size, 3, none⟩ = some (.slice oa outs.length oc) := bkc hb3
    have r0 : w3.cell? ⟨w.heap.size + 1, 0, none⟩ = some (.bool false) := bkc hb3
    have zr0 := cell_lt r0
    have r0f : w3.frozen? ⟨w.heap.size + 1, 0, none⟩ = false := bkcf (v := .bool false) hb3
    have hB : Below w.heap.size w w3 := bthen (by repeat (first|exact bzR _ _|exact hB|refine bzD ?_|refine bzN ?_|refine bzS ?_|refine bzA ?_)) hb3
    have hz : w.heap.size ≤ w3.heap.size := hB.size
    have HV3 := Lib.hid (ownP_isL0 hv3)
    obtain ⟨a3, c3, rfl⟩ := hv3.ex
    rw [HFL.out] at HV3 ⊢
    have hBw := Below.refl w3.heap.size w3
    clear RC hb3 hv3
    go_wp2_with fail
    (with_reducible refine (SC.out _ ?_).mono ?_); (repeat (first|exact bzR _ _|exact hB|refine bzD ?_|refine bzN ?_|refine bzS ?_|refine bzA ?_))
    rintro e w4 ⟨rfl, hb4⟩
    have h34 : Below w3.heap.size w3 w4 := bthen (by repeat (first|exact bzR _ _|exact hBw|refine bzD ?_|refine bzN ?_|refine bzS ?_|refine bzA ?_)) hb4
    have p0 : w4.cell? ⟨w.heap.size, 0, none⟩ = some (.int .i64 (n : Int)) := bkc hb4
    have zp0 := cell_lt p0
    have p1 : w4.cell? ⟨w.heap.size, 1, none⟩ = some (.int .i64 (R : Int)) := bkc hb4
    have p2 : w4.cell? ⟨w.heap.size, 2, none⟩ = some (.slice ca code.length cc) := bkc hb4
    have p3 : w4.cell? ⟨w.heap.size, 3, none⟩ = some (.slice oa outs.length oc) := bkc hb4
    have r0 : w4.cell? ⟨w.heap.size + 1, 0, none⟩ = some (.bool false) := bkc hb4
    have zr0 := cell_lt r0
    have r0f : w4.frozen? ⟨w.heap.size + 1, 0, none⟩ = false := bkcf (v := .bool false) hb4
    have hB : Below w.heap.size w w4 := bthen (by repeat (first|exact bzR _ _|exact hB|refine bzD ?_|refine bzN ?_|refine bzS ?_|refine bzA ?_)) hb4
    have hz : w.heap.size ≤ w4.heap.size := hB.size
    have HV4 := Lib.hid (HV3.out.keep (prs_frow 0) h34)
    have hmk := mkRegsF R (by omega)
    clear SC hb4 h34 hBw HV3
    go_upto_region 12 with (fail)
    refine wp_name fun w8 hW8 => ?_
    have hBx := Below.refl w4.heap.size w4
    have h48 : Below w4.heap.size w4 w8 := by rw [hW8]; repeat (first|exact bzR _ _|exact hBx|refine bzD ?_|refine bzN ?_|refine bzS ?_|refine bzA ?_)
    have HL8 := Lib.hid (show LastR (unitsF n R) (unitsF n R) (fun q => q = w4.heap.size) R w4.heap.size w8 from by rw [hW8]; exact (LastR.new w4 _ _ R).keep (bal (Below.refl _ _) _))
    have l0 : w8.cell? ⟨w4.heap.size + 1, 0, none⟩ = some (.slice (some ⟨w4.heap.size, 0, none⟩) R R) := by rw [hW8]; simp [go_sem]
    have p0 := bkeep h48 p0
    have p1 := bkeep h48 p1
    have p2 := bkeep h48 p2
    have p3 := bkeep h48 p3
    have r0f := bkeepf h48 r0 r0f
    have hLw : w.heap.size + 1 < w4.heap.size := cell_lt r0
    have r0 := bkeep h48 r0
    have zp := cell_lt p0
    have zr := cell_lt r0
    have HB8 := Lib.hid (bthen hB h48)
    have H48 := Lib.hid h48
    have HLB := Lib.hid (show w4.heap.size ≤ w4.heap.size from Nat.le_refl _)
    obtain ⟨LB, hLB⟩ : ∃ LB, w4.heap.size = LB := ⟨_, rfl⟩
    have HLE := Lib.hid (Nat.le_of_eq hLB)
    rw [hLB] at HL8 l0 hLw ⊢
    have zl := cell_lt l0
    have hBv := Below.refl w8.heap.size w8
    clear hW8 h48 hBx hLB hmk hB HLB
    go_wp2_with fail
    (with_reducible refine (HST.out _).mono ?_)
    rintro e w9 ⟨⟨pb, rfl, s0, s1, s2, s3⟩, hb9⟩
    have h89 : Below w8.heap.size w8 w9 := bthen (by repeat (first|exact bzR _ _|exact hBv|refine bzD ?_|refine bzN ?_|refine bzS ?_|refine bzA ?_)) hb9
    have p0 := bkeep h89 p0
    have p1 := bkeep h89 p1
    have p2 := bkeep h89 p2
    have p3 := bkeep h89 p3
    have l0 := bkeep h89 l0
    have r0f := bkeepf h89 r0 r0f
    have r0 := bkeep h89 r0
    have HL9 := Lib.hid (HL8.out.keep h89)
    have HB9 := Lib.hid (bthen HB8.out h89)
    have H49 := Lib.hid (bthen H48.out h89)
    have hLz : LB < w9.heap.size := HL9.out.free.1
    have HI9 := Lib.hid (show LInv code (unitsF n R) R LB w9 0 (fun q => q = LB) w9 from ⟨rfl, fun q hq => by subst hq; exact .inl HL9.out.ty, Out.refl _ _, _, rfl, HL9.out⟩)
    have HSI := Lib.hid (show StepsInF w9.heap.size (fun q => q = LB) pb n R ca oa cc oc code outs w9 from ⟨s0, s1, s2, s3, HC.out.1.keep HB9.out, HC.out.2.keep HB9.out, (fun q hq => by subst hq; exact hLz), Nat.le_refl _, fun b off e hl hq => by have := HCB.out b off e hl; have hq2 : b = LB := hq; omega⟩)
    have HS9 := Lib.hid (show ∀ V, Out (fun q => q = LB) w9 V → V.cell? ⟨w.heap.size, 0, none⟩ = some (.int .i64 (n : Int)) ∧ V.cell? ⟨w.heap.size, 1, none⟩ = some (.int .i64 (R : Int)) ∧ V.cell? ⟨w.heap.size, 2, none⟩ = some (.slice ca code.length cc) ∧ V.cell? ⟨w.heap.size, 3, none⟩ = some (.slice oa outs.length oc) ∧ V.cell? ⟨LB + 1, 0, none⟩ = some (.slice (some ⟨LB, 0, none⟩) R R) ∧ V.cell? ⟨w.heap.size + 1, 0, none⟩ = some (.bool false) ∧ V.frozen? ⟨w.heap.size + 1, 0, none⟩ = false from
      fun V o => ⟨okeep o p0 (by show ¬ _ = _; omega), okeep o p1 (by show ¬ _ = _; omega), okeep o p2 (by show ¬ _ = _; omega), okeep o p3 (by show ¬ _ = _; omega), okeep o l0 (by show ¬ _ = _; omega), okeep o r0 (by show ¬ _ = _; omega), okeepf o r0 r0f (by show ¬ _ = _; omega)⟩)
    have HSY := Lib.hid (show IterX Tryz.prog 103 #[.pointer (some ⟨pb, 0, none⟩)] (AF w9.heap.size (toldQ code (unitsF n R))) code.length XsF w9.heap.size (fun q => q = LB) (StepsInF w9.heap.size (fun q => q = LB) pb n R ca oa cc oc code outs) from stepsF_yes HPE.out.1 HTO.out)
    have HTL := Lib.hid (fun k (hk : k < code.length) => (show (toldQ code (unitsF n R) k).length = n from toldQ_len (unitsF_rect n R) (unitsF_slim n R) (fun j hj => by rw [unitsF_len]; exact ⟨(HIN.out j hj).a0, (HIN.out j hj).a1⟩) HTO.out hk))
    clear hb9 h89 hBv HL8 H48 HB8 s0 s1 s2 s3 p0 p1 p2 p3 l0 r0 r0f zp zr zl HTO HST
    go_wp2
    refine wp_rangeX (gf := 103) (lb := #[.pointer (some ⟨pb, 0, none⟩)]) (by simp [Act.eval]) (enters_of Tryz.func103 (by kernel_rfl) rfl)
      HSY.out (Nat.le_refl _)
      (fun W h => HSI.out.keep h) (fun _ _ _ h => by obtain ⟨v, b, base, rfl, _⟩ := h; rfl)
      (fun k S W => LInv code (unitsF n R) R LB w9 k S W) (fun _ _ _ _ => False)
      (fun k S X Y h c => h.clo c rfl) (fun _ _ _ _ _ h _ => h.elim)
      (fun k S X h => h.soilS) (fun _ _ _ _ h => h.elim) HI9.out
      (fun T k args S a' X => AtL code (unitsF n R) T k S args a' X) (fun k args S a' X l o o' _ h1 h2 h => by
        obtain ⟨v, b, base, rfl, hv, hs, e⟩ := h
        exact ⟨v, b, base, rfl, (prs_prp base).kp hv (kp_putC h1 h2), hs, e⟩)
      (fun k args X q h hq => h.cells hq) ?assign ?body ?done ?stop
    case stop => intro D c k S Y _ _ h _; exact h.elim
    case assign =>
      rintro y k args S X Kk hk hi ⟨v, b, base, rfl, -, hv⟩ hxs hKk
      have HV := Lib.hid hv
      obtain ⟨c9, hv9, -⟩ := hv
      have hl2 := HTL.out k hk
      replace hv9 : v = .slice (some ⟨b, 0, none⟩) n c9 := by rw [hv9]; show Value.slice _ (toldQ code (unitsF n R) k).length _ = _; rw [hl2]
      subst hv9
      have hnb : ¬ S b := hxs b ⟨_, rfl, rfl⟩
      have HNB := Lib.hid hnb
      clear hl2 hxs hnb
      gi_wp2
      exact hKk _ _ (Below.refl _ _) hi ⟨_, b, base, rfl, HV.out, HNB.out, by simp⟩
    case body =>
      rintro y k args S a' X hk hi ⟨v, b, base, rfl, hv, hnb, rfl⟩
      obtain ⟨p0, p1, p2, p3, l0, r0, r0f⟩ := HS9.out X hi.out
      have HI := Lib.hid hi
      have HV := Lib.hid hv
      obtain ⟨c9, hv9, -⟩ := hv
      have hl2 := HTL.out k hk
      replace hv9 : v = .slice (some ⟨b, 0, none⟩) n c9 := by rw [hv9]; show Value.slice _ (toldQ code (unitsF n R) k).length _ = _; rw [hl2]
      subst hv9
      have zp := cell_lt p0
      have zl := cell_lt l0
      rcases HC.out.1 with h00 | ⟨cb, co, rfl, hcap, hcell⟩
      · rw [h00] at hk; simp at hk
      have q1 := okeep hi.out (bkeep HB9.out (hcell k hk).c1) (show ¬ cb = LB by have := HCB.out cb co rfl (by omega); omega)
      have zq := cell_lt q1
      have hio := HIN.out k hk
      rw [Int.toNat_natCast] at hio
      obtain ⟨nt, hnt⟩ : ∃ nt : Nat, (code.getD k default).to = nt := ⟨(code.getD k default).to.toNat, by have := hio.t0; omega⟩
      rw [hnt] at q1
      have hntR : nt < R := by have := hio.t1; omega
      obtain ⟨s, hs1, hs2⟩ := hi.rel
      obtain ⟨u0, hu0, -⟩ := hs2.cell nt hntR
      have hf0 := hs2.free.2 nt
      have HNS := Lib.hid (show ∀ s', afterF code (unitsF n R) k = some s' → afterF code (unitsF n R) (k + 1) = some (s'.set nt (toldQ code (unitsF n R) k)) from fun s' e => by
        rw [afterF_next e, if_pos (told_slim HEN.out hk), hnt, Int.toNat_natCast])
      have d1 : ¬ ((k : Int) < 0) := by omega
      have d2 : ¬ ((code.length : Int) ≤ (k : Int)) := by omega
      have hntI : (nt : Int) < (R : Int) := by omega
      have hkI : (k : Int) < (code.length : Int) := by omega
      simp only [List.setIfInBounds_toArray, List.set_cons_succ, List.set_cons_zero]
      clear hs1 hs2 hi hcell hl2 hnb hio hnt
      have hBX : Below w.heap.size w X := HB9.out.trans (HI.out.out.to_below (fun q hq _ e => by omega) HB9.out.size)
      have hB := hBX
      obtain ⟨wx, hwx⟩ : ∃ wx, X = wx := ⟨_, rfl⟩
      rw [hwx] at HI HV p0 p1 p2 p3 l0 r0 r0f zp zl q1 zq hu0 hf0 hB hBX ⊢
      clear hwx
      gi_wp2
      refine wpInR_region_grow_tail (w := wx) 9 (by kernel_rfl) (by kernel_rfl) (by kernel_rfl) ?_
      simp only [List.take_succ_cons, List.take_zero, List.drop_succ_cons, List.drop_zero]
      have p2g : ∀ gs, (grow wx gs).cell? ⟨w.heap.size, 2, none⟩ = some (.slice (some ⟨cb, co, none⟩) code.length cc) := fun gs => bkeep gs.below p2
      have l0g : ∀ gs, (grow wx gs).cell? ⟨LB + 1, 0, none⟩ = some (.slice (some ⟨LB, 0, none⟩) R R) := fun gs => bkeep gs.below l0
      have q1g : ∀ gs, (grow wx gs).cell? ⟨cb, co + k * 5 + 1, none⟩ = some (.int .i64 (nt : Int)) := fun gs => bkeep gs.below q1
      repeat (go_big_quiet_step (fail))
      refine wpQuiet_nil ?_
      intro wz hbz
      clear p2g
      clear l0g
      clear q1g
      have p2 := bkeep hbz p2
      have l0 := bkeep hbz l0
      have q1 := bkeep hbz q1
      have hB := bthen hB hbz
      have hz := hB.size
      have HNX := Lib.hid ((HI.out.clo (.of_below hbz) rfl).next ((prs_prp base).kp HV.out (Kp.of_below _ hbz)) hntR (unitsF_len n R).symm HNS.out)
      have HGX := Lib.hid (outX (T := XsF #[.int .i64 (k : Int), .slice (some ⟨b, 0, none⟩) n c9]) hbz HNX.out.2 (fun q e => ⟨_, rfl, by rw [e]; rfl⟩) (fun q hq => by obtain ⟨v', e, hb⟩ := hq; simp at e; subst e; simpa [rowBlk] using hb.symm))
      have hf0 := bkeepf hbz hu0 hf0
      have hu0 := bkeep hbz hu0
      have zu0 := cell_lt hu0
      gi_wp2
      exact ⟨HGX.out, _, fun q hq => hq.imp id fun e => .inl ⟨_, rfl, by rw [e]; rfl⟩, HNX.out.1⟩
    case done =>
      rintro D S Y hD hI hK
      obtain ⟨s, hs1, hs2⟩ := hI.rel
      rw [HEN.out] at hs1
      cases hs1
      obtain ⟨p0, p1, p2, p3, l0, r0, r0f⟩ := HS9.out Y hI.out
      have h4Y : Below w4.heap.size w4 Y := H49.out.trans (hI.out.to_below (fun q hq _ e => by have := HLE.out; omega) H49.out.size)
      have hBY : Below w.heap.size w Y := HB9.out.trans (hI.out.to_below (fun q hq _ e => by omega) HB9.out.size)
      have HVY := Lib.hid (HV4.out.keep (prs_frow 0) h4Y)
      have HLY := Lib.hid hs2
      have hDl := (Array.getElem?_eq_some_iff.1 hK).1
      have HK := Lib.hid hK
      have HSY2 := Lib.hid (show ∀ V, Below Y.heap.size Y V → V.cell? ⟨w.heap.size, 0, none⟩ = some (.int .i64 (n : Int)) ∧ V.cell? ⟨w.heap.size, 1, none⟩ = some (.int .i64 (R : Int)) ∧ V.cell? ⟨w.heap.size, 2, none⟩ = some (.slice ca code.length cc) ∧ V.cell? ⟨w.heap.size, 3, none⟩ = some (.slice oa outs.length oc) ∧ V.cell? ⟨LB + 1, 0, none⟩ = some (.slice (some ⟨LB, 0, none⟩) R R) ∧ V.cell? ⟨w.heap.size + 1, 0, none⟩ = some (.bool false) ∧ V.frozen? ⟨w.heap.size + 1, 0, none⟩ = false from
        fun V o => ⟨bkeep o p0, bkeep o p1, bkeep o p2, bkeep o p3, bkeep o l0, bkeep o r0, bkeepf o r0 r0f⟩)
      have HBY := Lib.hid hBY
      have zp := cell_lt p3
      have hYY := Below.refl Y.heap.size Y
      clear hs2 hI hK h4Y HSY HSI HI9 HS9 HV4 H49
      go_wp2
      go_loopw [94] (fun x wr => ∃ i : Nat, i ≤ outs.length ∧ x = .int .i64 i ∧ Below Y.heap.size Y wr) (fun x _ => outs.length - (intOf x).toNat)
      case atStart => exact ⟨0, Nat.zero_le _, rfl, hYY⟩
      case round =>
        obtain ⟨i, hi, rfl, hBr⟩ := hrel
        by_cases hlt : i < outs.length
        · have hltI : (i : Int) < (outs.length : Int) := by omega
          obtain ⟨p0, p1, p2, p3, l0, r0, r0f⟩ := HSY2.out wr hBr
          have hBwr := bthen HBY.out hBr
          rcases HC.out.2 with h00 | ⟨ob, oo, rfl, hcap, hcell⟩
          · rw [h00] at hlt; simp at hlt
          have hoc := bkeep hBwr (hcell i hlt)
          obtain ⟨ho0, ho1⟩ := HPE.out.1.os i hlt
          have hFi := outsF_get (h := h) hlt
          obtain ⟨q, hq⟩ : ∃ q : Nat, outs.getD i 0 = q := ⟨(outs.getD i 0).toNat, by omega⟩
          rw [hq] at hoc ho0 ho1 hFi
          rw [Int.toNat_natCast] at hFi
          have hqR : q < R := by omega
          have hiF : i < (outsF outs h).length := by rw [HFL.out]; exact hlt
          obtain ⟨a', c', e', -, hv⟩ := (HVY.out.keep (prs_frow 0) hBr).view
          obtain ⟨rfl, -, rfl⟩ := Value.slice.inj e'
          obtain ⟨gb, go, u, rfl, hu, hrow⟩ := hv i hiF
          have hgi : (outsF outs h)[i] = h.getD q [] := by rw [← hFi]; simp [hiF]
          have hrl : (h.getD q []).length = n := by rw [← hFi]; have := HF.out.1 i hiF; rwa [Int.toNat_natCast] at this
          have HSL := Lib.hid (show ∀ j, j < n → BdQ 65536 ((h.getD q []).getD j 0) from fun j hj => by
            have := HF.out.2 i hiF j (by rw [hFi, hrl]; exact hj)
            rwa [hFi] at this)
          rw [hgi] at hrow
          have HRL := Lib.hid hrl
          obtain ⟨ra, rc, rfl⟩ := FrRow.ex hrow
          rw [hrl] at hu hrow
          have HROW := Lib.hid hrow
          have zu := cell_lt hu
          have zo := cell_lt hoc
          have HUN := Lib.hid (fun j (hj : j < n) => unitsF_at (n := n) hqR hj)
          clear hv hgi hrow hrl e' hq hFi hcell ho0 ho1
          go_wp2
          go_loopw [104] (fun x wq => ∃ j : Nat, j ≤ n ∧ x = .int .i64 j ∧ Below wr.heap.size wr wq) (fun x _ => n - (intOf x).toNat)
          case atStart => exact ⟨0, Nat.zero_le _, rfl, Below.refl _ _⟩
          case round =>
            rename World => wq
            obtain ⟨j, hj, rfl, hBq⟩ := hrel
            by_cases hlt2 : j < n
            · have hltJ : (j : Int) < (n : Int) := by omega
              have hrq := HROW.out.keep hBq
              have hBYq := bthen hBr hBq
              have HBq := Lib.hid (bthen HBY.out hBYq)
              obtain ⟨b, off, rfl, -, g1, gy1, s1, t1, g2, gy2, s2, t2, x0, x1, x2, x3, xI⟩ := FrRow.at hrq hlt2
              have HXI0 := Lib.hid xI
              have hu := bkeep hBq hu
              obtain ⟨p0, p1, p2, p3, l0, r0, r0f⟩ := HSY2.out wq hBYq
              have zl := cell_lt l0
              obtain ⟨ul, hul, hcase⟩ := (HLY.out.keep hBYq).cell q hqR
              have zul := cell_lt hul
              have HXB0 := Lib.hid (HSL.out j hlt2)
              have HUNJ := Lib.hid (HUN.out j hlt2)
              have HCS := Lib.hid hcase
              obtain ⟨X, hX⟩ : ∃ X, (h.getD q []).getD j 0 = X := ⟨_, rfl⟩
              have HXE := Lib.hid hX
              have HXI := Lib.hid (show IsQP wq (.agg #[.bool g1, .slice gy1 s1 t1, .bool g2, .slice gy2 s2 t2]) X from by rw [← hX]; exact HXI0.out)
              have HXB := Lib.hid (show BdQ 65536 X from by rw [← hX]; exact HXB0.out)
              have OC := Lib.hid (fun z V (hz : -5 ≤ z ∧ z ≤ 5) => of_c z V (by omega) (by omega))
              have WC := Lib.hid (fun u z V (hi : IsInt V u z) => pqWhole_c u z V hi)
              have hwqr := Below.refl wq.heap.size wq
              clear xI hcase hX HXI0 HXB0 hrq
              go_wp2_with fail
              (with_reducible refine (OC.out _ _ (by omega)).mono ?_)
              rintro e w11 ⟨⟨u11, rfl, hu11⟩, hb11⟩
              have hq11 : Below wq.heap.size wq w11 := bthen (by repeat (first|exact bzR _ _|exact hwqr|refine bzD ?_|refine bzN ?_|refine bzS ?_|refine bzA ?_)) hb11
              have hr11 := Below.refl w11.heap.size w11
              clear hb11
              go_wp2_with fail
              (with_reducible refine (WC.out _ 0 _ (hu11.keep ?_)).mono ?_); (repeat (first|exact bzR _ _|exact hr11|refine bzD ?_|refine bzN ?_|refine bzS ?_|refine bzA ?_))
              rintro e w12 ⟨⟨u12, rfl, hu12⟩, hb12⟩
              have hq12 : Below wq.heap.size wq w12 := bthen hq11 (bthen (by repeat (first|exact bzR _ _|exact hr11|refine bzD ?_|refine bzN ?_|refine bzS ?_|refine bzA ?_)) hb12)
              have HU12 := Lib.hid hu12
              obtain ⟨m1, b1, k1, d1, m2, b2, k2, d2, rfl, -, -⟩ := hu12
              have hr12 := Below.refl w12.heap.size w12
              clear hb12 hu11 hq11 hr11
              go_upto_region 25 with (fail)
              refine wp_name fun w13 hW13 => ?_
              have hq13 : Below wq.heap.size wq w13 := by rw [hW13]; exact bthen hq12 (by repeat (first|exact bzR _ _|exact hr12|refine bzD ?_|refine bzN ?_|refine bzS ?_|refine bzA ?_))
              have HW13 := Lib.hid (show VarF w12.heap.size ((0 : Int) : Rat) w13 from by rw [hW13]; exact VarF.mk HU12.out)
              have hWBq : wq.heap.size ≤ w12.heap.size := hq12.size
              obtain ⟨WB, hWB⟩ : ∃ WB, w12.heap.size = WB := ⟨_, rfl⟩
              rw [hWB] at HW13 hWBq ⊢
              have l13 := bkeep hq13 l0
              have ul13 := bkeep hq13 hul
              have zl13 := cell_lt l13
              have zul13 := cell_lt ul13
              clear hW13 hWB hr12 HU12 hq12 l0 hul zl zul hwqr
              rcases HCS.out with ⟨rfl, hG⟩ | ⟨lb, hsb, lc, rfl, hlc, -, hlf⟩
              · have hnq := fun W => neqNil9 (P := Tryz.prog) W 38 79 none 0 0 0 0 Tryz.underlying38
                have HG := Lib.hid hG
                clear HCS hG
                by_cases hqj : q = j
                · have HX1 := Lib.hid (show X = 1 from by rw [← HXE.out, HG.out, HUNJ.out, if_pos hqj.symm])
                  have hdq : ((q : Int) == (j : Int)) = true := by simp [hqj]
                  have hr13 := Below.refl w13.heap.size w13
                  clear hqj
                  go_wp2_with fail
                  (with_reducible refine (OC.out _ _ (by omega)).mono ?_)
                  rintro e w14 ⟨⟨u14, rfl, hu14⟩, hb14⟩
                  have h1314 : Below w13.heap.size w13 w14 := bthen (by repeat (first|exact bzR _ _|exact hr13|refine bzD ?_|refine bzN ?_|refine bzS ?_|refine bzA ?_)) hb14
                  have hr14 := Below.refl w14.heap.size w14
                  clear hb14
                  go_wp2_with fail
                  (with_reducible refine (WC.out _ 1 _ (hu14.keep ?_)).mono ?_); (repeat (first|exact bzR _ _|exact hr14|refine bzD ?_|refine bzN ?_|refine bzS ?_|refine bzA ?_))
                  rintro e w15 ⟨⟨u15, rfl, hu15⟩, hb15⟩
                  have h1315 : Below w13.heap.size w13 w15 := bthen h1314 (bthen (by repeat (first|exact bzR _ _|exact hr14|refine bzD ?_|refine bzN ?_|refine bzS ?_|refine bzA ?_)) hb15)
                  have HW15 := Lib.hid (HW13.out.keep h1315)
                  have hq15 := bthen hq13 h1315
                  have HU15 := Lib.hid hu15
                  obtain ⟨m1, b1, k1, d1, m2, b2, k2, d2, rfl, -, -⟩ := hu15
                  obtain ⟨_, _, _, _, _, _, _, _, o0, o1, o2, o3, -, f0, f1, f2, f3⟩ := HW15.out.view
                  have HYP := Lib.hid (HW15.out.put HU15.out)
                  have zo0 := cell_lt o0
                  clear hb15 hu14 h1314 hr14 hr13
                  go_upto_region 29 with (fail)
                  refine wp_name fun w16 hW16 => ?_
                  have HY := Lib.hid (show VarF WB X w16 from by rw [hW16, HX1.out]; exact HYP.out)
                  have hq5 : Below wq.heap.size wq w16 := by rw [hW16]; exact bset (bset (bset (bset hq15 (p := ⟨WB, 0, none⟩) hWBq _) (p := ⟨WB, 1, none⟩) hWBq _) (p := ⟨WB, 2, none⟩) hWBq _) (p := ⟨WB, 3, none⟩) hWBq _
                  clear hW16 o0 o1 o2 o3 f0 f1 f2 f3 zo0
                  obtain ⟨y1, ya, yl, yc, y2, yb, ym, yd, v0, v1, v2, v3, vI, -⟩ := HY.out.view
                  have hu5 := bkeep hq5 hu
                  have x05 := bkeep hq5 x0
                  have x15 := bkeep hq5 x1
                  have x25 := bkeep hq5 x2
                  have x35 := bkeep hq5 x3
                  have zx5 := cell_lt x05
                  have zv5 := cell_lt v0
                  have zu5 := cell_lt hu5
                  have SM := Lib.hid (fun V (k : Below w16.heap.size w16 V) => (show Calls Tryz.prog 40 #[.agg #[.bool g1, .slice gy1 s1 t1, .bool g2, .slice gy2 s2 t2], .agg #[.bool y1, .slice ya yl yc, .bool y2, .slice yb ym yd]] V fun e w' => e = .returned (.bool true) ∧ Below V.heap.size V w' from by
                    have h := same9_c _ _ X X 65536 65536 V (HXI.out.keep (bthen hq5 k)) (vI.keep k) HXB.out HXB.out (by omega)
                    rw [decide_eq_true rfl] at h; exact h))
                  have hB := bthen HBq.out hq5
                  clear vI
                  go_wp2
                  refine wp_region_grow (w := w16) (by kernel_rfl) (by kernel_rfl) ?_
                  have hu5g : ∀ gs, (grow w16 gs).cell? ⟨gb, go + i, none⟩ = some (.slice (some ⟨b, off, none⟩) n rc) := fun gs => bkeep gs.below hu5
                  have x05g : ∀ gs, (grow w16 gs).cell? ⟨b, off + j * 4, none⟩ = some (.bool g1) := fun gs => bkeep gs.below x05
                  have x15g : ∀ gs, (grow w16 gs).cell? ⟨b, off + j * 4 + 1, none⟩ = some (.slice gy1 s1 t1) := fun gs => bkeep gs.below x15
                  have x25g : ∀ gs, (grow w16 gs).cell? ⟨b, off + j * 4 + 2, none⟩ = some (.bool g2) := fun gs => bkeep gs.below x25
                  have x35g : ∀ gs, (grow w16 gs).cell? ⟨b, off + j * 4 + 3, none⟩ = some (.slice gy2 s2 t2) := fun gs => bkeep gs.below x35
                  have v0g : ∀ gs, (grow w16 gs).cell? ⟨WB, 0, none⟩ = some (.bool y1) := fun gs => bkeep gs.below v0
                  have v1g : ∀ gs, (grow w16 gs).cell? ⟨WB, 1, none⟩ = some (.slice ya yl yc) := fun gs => bkeep gs.below v1
                  have v2g : ∀ gs, (grow w16 gs).cell? ⟨WB, 2, none⟩ = some (.bool y2) := fun gs => bkeep gs.below v2
                  have v3g : ∀ gs, (grow w16 gs).cell? ⟨WB, 3, none⟩ = some (.slice yb ym yd) := fun gs => bkeep gs.below v3
                  repeat (go_big_quiet_step ((first | (go_at_call 40; with_reducible exact grow_of (SM.out _ (Grows.below _))) | fail)))
                  refine wpQuiet_nil ?_
                  intro w17 hb17
                  clear hu5g
                  clear x05g
                  clear x15g
                  clear x25g
                  clear x35g
                  clear v0g
                  clear v1g
                  clear v2g
                  clear v3g
                  have hu5 : w17.cell? ⟨gb, go + i, none⟩ = some (.slice (some ⟨b, off, none⟩) n rc) := bkc hb17
                  have zhu5 := cell_lt hu5
                  have x05 : w17.cell? ⟨b, off + j * 4, none⟩ = some (.bool g1) := bkc hb17
                  have zx05 := cell_lt x05
                  have x15 : w17.cell? ⟨b, off + j * 4 + 1, none⟩ = some (.slice gy1 s1 t1) := bkc hb17
                  have x25 : w17.cell? ⟨b, off + j * 4 + 2, none⟩ = some (.bool g2) := bkc hb17
                  have x35 : w17.cell? ⟨b, off + j * 4 + 3, none⟩ = some (.slice gy2 s2 t2) := bkc hb17
                  have v0 : w17.cell? ⟨WB, 0, none⟩ = some (.bool y1) := bkc hb17
                  have zv0 := cell_lt v0
                  have v1 : w17.cell? ⟨WB, 1, none⟩ = some (.slice ya yl yc) := bkc hb17
                  have v2 : w17.cell? ⟨WB, 2, none⟩ = some (.bool y2) := bkc hb17
                  have v3 : w17.cell? ⟨WB, 3, none⟩ = some (.slice yb ym yd) := bkc hb17
                  have hB : Below w.heap.size w w17 := bthen (by repeat (first|exact bzR _ _|exact hB|refine bzD ?_|refine bzN ?_|refine bzS ?_|refine bzA ?_)) hb17
                  have hz : w.heap.size ≤ w17.heap.size := hB.size
                  have hBn := bthen hBq (bthen hq5 hb17)
                  go_wp2
                  exact ⟨⟨j + 1, hlt2, by go_num, hBn⟩, meas hlt2 (by go_num) rfl⟩
                · have hdq : ((q : Int) == (j : Int)) = false := by simp; omega
                  have HY := Lib.hid (show VarF WB X w13 from by rw [← HXE.out, HG.out, HUNJ.out, if_neg (fun e => hqj e.symm)]; exact HW13.out)
                  have hq5 := hq13
                  clear hqj
                  obtain ⟨y1, ya, yl, yc, y2, yb, ym, yd, v0, v1, v2, v3, vI, -⟩ := HY.out.view
                  have hu5 := bkeep hq5 hu
                  have x05 := bkeep hq5 x0
                  have x15 := bkeep hq5 x1
                  have x25 := bkeep hq5 x2
                  have x35 := bkeep hq5 x3
                  have zx5 := cell_lt x05
                  have zv5 := cell_lt v0
                  have zu5 := cell_lt hu5
                  have SM := Lib.hid (fun V (k : Below w13.heap.size w13 V) => (show Calls Tryz.prog 40 #[.agg #[.bool g1, .slice gy1 s1 t1, .bool g2, .slice gy2 s2 t2], .agg #[.bool y1, .slice ya yl yc, .bool y2, .slice yb ym yd]] V fun e w' => e = .returned (.bool true) ∧ Below V.heap.size V w' from by
                    have h := same9_c _ _ X X 65536 65536 V (HXI.out.keep (bthen hq5 k)) (vI.keep k) HXB.out HXB.out (by omega)
                    rw [decide_eq_true rfl] at h; exact h))
                  have hB := bthen HBq.out hq5
                  clear vI
                  go_wp2
                  refine wp_region_grow (w := w13) (by kernel_rfl) (by kernel_rfl) ?_
                  have hu5g : ∀ gs, (grow w13 gs).cell? ⟨gb, go + i, none⟩ = some (.slice (some ⟨b, off, none⟩) n rc) := fun gs => bkeep gs.below hu5
                  have x05g : ∀ gs, (grow w13 gs).cell? ⟨b, off + j * 4, none⟩ = some (.bool g1) := fun gs => bkeep gs.below x05
                  have x15g : ∀ gs, (grow w13 gs).cell? ⟨b, off + j * 4 + 1, none⟩ = some (.slice gy1 s1 t1) := fun gs => bkeep gs.below x15
                  have x25g : ∀ gs, (grow w13 gs).cell? ⟨b, off + j * 4 + 2, none⟩ = some (.bool g2) := fun gs => bkeep gs.below x25
                  have x35g : ∀ gs, (grow w13 gs).cell? ⟨b, off + j * 4 + 3, none⟩ = some (.slice gy2 s2 t2) := fun gs => bkeep gs.below x35
                  have v0g : ∀ gs, (grow w13 gs).cell? ⟨WB, 0, none⟩ = some (.bool y1) := fun gs => bkeep gs.below v0
                  have v1g : ∀ gs, (grow w13 gs).cell? ⟨WB, 1, none⟩ = some (.slice ya yl yc) := fun gs => bkeep gs.below v1
                  have v2g : ∀ gs, (grow w13 gs).cell? ⟨WB, 2, none⟩ = some (.bool y2) := fun gs => bkeep gs.below v2
                  have v3g : ∀ gs, (grow w13 gs).cell? ⟨WB, 3, none⟩ = some (.slice yb ym yd) := fun gs => bkeep gs.below v3
                  repeat (go_big_quiet_step ((first | (go_at_call 40; with_reducible exact grow_of (SM.out _ (Grows.below _))) | fail)))
                  refine wpQuiet_nil ?_
                  intro w14 hb14
                  clear hu5g
                  clear x05g
                  clear x15g
                  clear x25g
                  clear x35g
                  clear v0g
                  clear v1g
                  clear v2g
                  clear v3g
                  have hu5 : w14.cell? ⟨gb, go + i, none⟩ = some (.slice (some ⟨b, off, none⟩) n rc) := bkc hb14
                  have zhu5 := cell_lt hu5
                  have x05 : w14.cell? ⟨b, off + j * 4, none⟩ = some (.bool g1) := bkc hb14
                  have zx05 := cell_lt x05
                  have x15 : w14.cell? ⟨b, off + j * 4 + 1, none⟩ = some (.slice gy1 s1 t1) := bkc hb14
                  have x25 : w14.cell? ⟨b, off + j * 4 + 2, none⟩ = some (.bool g2) := bkc hb14
                  have x35 : w14.cell? ⟨b, off + j * 4 + 3, none⟩ = some (.slice gy2 s2 t2) := bkc hb14
                  have v0 : w14.cell? ⟨WB, 0, none⟩ = some (.bool y1) := bkc hb14
                  have zv0 := cell_lt v0
                  have v1 : w14.cell? ⟨WB, 1, none⟩ = some (.slice ya yl yc) := bkc hb14
                  have v2 : w14.cell? ⟨WB, 2, none⟩ = some (.bool y2) := bkc hb14
                  have v3 : w14.cell? ⟨WB, 3, none⟩ = some (.slice yb ym yd) := bkc hb14
                  have hB : Below w.heap.size w w14 := bthen (by repeat (first|exact bzR _ _|exact hB|refine bzD ?_|refine bzN ?_|refine bzS ?_|refine bzA ?_)) hb14
                  have hz : w.heap.size ≤ w14.heap.size := hB.size
                  have hBn := bthen hBq (bthen hq5 hb14)
                  go_wp2
                  exact ⟨⟨j + 1, hlt2, by go_num, hBn⟩, meas hlt2 (by go_num) rfl⟩
              · replace ul13 : w13.cell? ⟨LB, q, none⟩ = some (.slice (some ⟨lb, 0, none⟩) n lc) := by rw [← HRL.out]; exact ul13
                have hnq : ∀ W, (binOp .neq 38 (.slice (some ⟨lb, 0, none⟩) n lc) (.slice none 0 0)).run Tryz.prog W = .ok (.bool true) W := fun W => neqNil9 W 38 79 _ _ _ 0 0 Tryz.underlying38
                obtain ⟨m1, b1, k1, d1, m2, b2, k2, d2, c0, c1, c2', c3', cI⟩ := hlf.at_ j (by show j < (h.getD q []).length; rw [HRL.out]; exact hlt2)
                have HCI := Lib.hid (show IsQP w13 (.agg #[.bool m1, .slice b1 k1 d1, .bool m2, .slice b2 k2 d2]) X from by rw [← HXE.out]; exact cI.keep hq13)
                have c0 := bkeep hq13 c0
                have c1 := bkeep hq13 c1
                have c2' := bkeep hq13 c2'
                have c3' := bkeep hq13 c3'
                have zc0 := cell_lt c0
                obtain ⟨_, _, _, _, _, _, _, _, o0, o1, o2, o3, -, f0, f1, f2, f3⟩ := HW13.out.view
                have HYP := Lib.hid (HW13.out.put HCI.out)
                have zo0 := cell_lt o0
                clear HCS hlf hsb hlc cI
                go_upto_region 29 with (fail)
                refine wp_name fun w16 hW16 => ?_
                have HY := Lib.hid (show VarF WB X w16 from by rw [hW16]; exact HYP.out)
                have hq5 : Below wq.heap.size wq w16 := by rw [hW16]; exact bset (bset (bset (bset hq13 (p := ⟨WB, 0, none⟩) hWBq _) (p := ⟨WB, 1, none⟩) hWBq _) (p := ⟨WB, 2, none⟩) hWBq _) (p := ⟨WB, 3, none⟩) hWBq _
                clear hW16 o0 o1 o2 o3 f0 f1 f2 f3 zo0 c0 c1 c2' c3' zc0
                obtain ⟨y1, ya, yl, yc, y2, yb, ym, yd, v0, v1, v2, v3, vI, -⟩ := HY.out.view
                have hu5 := bkeep hq5 hu
                have x05 := bkeep hq5 x0
                have x15 := bkeep hq5 x1
                have x25 := bkeep hq5 x2
                have x35 := bkeep hq5 x3
                have zx5 := cell_lt x05
                have zv5 := cell_lt v0
                have zu5 := cell_lt hu5
                have SM := Lib.hid (fun V (k : Below w16.heap.size w16 V) => (show Calls Tryz.prog 40 #[.agg #[.bool g1, .slice gy1 s1 t1, .bool g2, .slice gy2 s2 t2], .agg #[.bool y1, .slice ya yl yc, .bool y2, .slice yb ym yd]] V fun e w' => e = .returned (.bool true) ∧ Below V.heap.size V w' from by
                  have h := same9_c _ _ X X 65536 65536 V (HXI.out.keep (bthen hq5 k)) (vI.keep k) HXB.out HXB.out (by omega)
                  rw [decide_eq_true rfl] at h; exact h))
                have hB := bthen HBq.out hq5
                clear vI
                go_wp2
                refine wp_region_grow (w := w16) (by kernel_rfl) (by kernel_rfl) ?_
                have hu5g : ∀ gs, (grow w16 gs).cell? ⟨gb, go + i, none⟩ = some (.slice (some ⟨b, off, none⟩) n rc) := fun gs => bkeep gs.below hu5
                have x05g : ∀ gs, (grow w16 gs).cell? ⟨b, off + j * 4, none⟩ = some (.bool g1) := fun gs => bkeep gs.below x05
                have x15g : ∀ gs, (grow w16 gs).cell? ⟨b, off + j * 4 + 1, none⟩ = some (.slice gy1 s1 t1) := fun gs => bkeep gs.below x15
                have x25g : ∀ gs, (grow w16 gs).cell? ⟨b, off + j * 4 + 2, none⟩ = some (.bool g2) := fun gs => bkeep gs.below x25
                have x35g : ∀ gs, (grow w16 gs).cell? ⟨b, off + j * 4 + 3, none⟩ = some (.slice gy2 s2 t2) := fun gs => bkeep gs.below x35
                have v0g : ∀ gs, (grow w16 gs).cell? ⟨WB, 0, none⟩ = some (.bool y1) := fun gs => bkeep gs.below v0
                have v1g : ∀ gs, (grow w16 gs).cell? ⟨WB, 1, none⟩ = some (.slice ya yl yc) := fun gs => bkeep gs.below v1
                have v2g : ∀ gs, (grow w16 gs).cell? ⟨WB, 2, none⟩ = some (.bool y2) := fun gs => bkeep gs.below v2
                have v3g : ∀ gs, (grow w16 gs).cell? ⟨WB, 3, none⟩ = some (.slice yb ym yd) := fun gs => bkeep gs.below v3
                repeat (go_big_quiet_step ((first | (go_at_call 40; with_reducible exact grow_of (SM.out _ (Grows.below _))) | fail)))
                refine wpQuiet_nil ?_
                intro w17 hb17
                clear hu5g
                clear x05g
                clear x15g
                clear x25g
                clear x35g
                clear v0g
                clear v1g
                clear v2g
                clear v3g
                have hu5 : w17.cell? ⟨gb, go + i, none⟩ = some (.slice (some ⟨b, off, none⟩) n rc) := bkc hb17
                have zhu5 := cell_lt hu5
                have x05 : w17.cell? ⟨b, off + j * 4, none⟩ = some (.bool g1) := bkc hb17
                have zx05 := cell_lt x05
                have x15 : w17.cell? ⟨b, off + j * 4 + 1, none⟩ = some (.slice gy1 s1 t1) := bkc hb17
                have x25 : w17.cell? ⟨b, off + j * 4 + 2, none⟩ = some (.bool g2) := bkc hb17
                have x35 : w17.cell? ⟨b, off + j * 4 + 3, none⟩ = some (.slice gy2 s2 t2) := bkc hb17
                have v0 : w17.cell? ⟨WB, 0, none⟩ = some (.bool y1) := bkc hb17
                have zv0 := cell_lt v0
                have v1 : w17.cell? ⟨WB, 1, none⟩ = some (.slice ya yl yc) := bkc hb17
                have v2 : w17.cell? ⟨WB, 2, none⟩ = some (.bool y2) := bkc hb17
                have v3 : w17.cell? ⟨WB, 3, none⟩ = some (.slice yb ym yd) := bkc hb17
                have hB : Below w.heap.size w w17 := bthen (by repeat (first|exact bzR _ _|exact hB|refine bzD ?_|refine bzN ?_|refine bzS ?_|refine bzA ?_)) hb17
                have hz : w.heap.size ≤ w17.heap.size := hB.size
                have hBn := bthen hBq (bthen hq5 hb17)
                go_wp2
                exact ⟨⟨j + 1, hlt2, by go_num, hBn⟩, meas hlt2 (by go_num) rfl⟩
            · obtain rfl : n = j := by omega
              have hltJ : ¬ (n : Int) < (n : Int) := by omega
              have hBn := bthen hBr hBq
              go_wp2
              exact ⟨⟨i + 1, hlt, by go_num, hBn⟩, meas hlt (by go_num) rfl⟩
        · obtain rfl : i = outs.length := by omega
          have hltI : ¬ (outs.length : Int) < (outs.length : Int) := by omega
          obtain ⟨p0, p1, p2, p3, l0, r0, r0f⟩ := HSY2.out wr hBr
          have hBwr := bthen HBY.out hBr
          have zp := cell_lt p0
          have zr := cell_lt r0
          have hBw := Below.refl wr.heap.size wr
          have MC := Lib.hid (fun V (k : Below wr.heap.size wr V) => matrix_c n R ca oa cc oc code outs V (HC.out.1.keep (bthen hBwr k)) (HC.out.2.keep (bthen hBwr k)))
          go_wp2_with fail
          (with_reducible refine (MC.out _ ?_).mono ?_); (repeat (first|exact bzR _ _|exact hBw|refine bzD ?_|refine bzN ?_|refine bzS ?_|refine bzA ?_))
          rintro e w10 ⟨⟨v, u, x, rfl, hres⟩, hb10⟩
          have h10 : Below wr.heap.size wr w10 := bthen (by repeat (first|exact bzR _ _|exact hBw|refine bzD ?_|refine bzN ?_|refine bzS ?_|refine bzA ?_)) hb10
          have hY10 := bthen hBr h10
          have hB10 := bthen hBwr h10
          obtain ⟨p0, p1, p2, p3, l0, r0, r0f⟩ := HSY2.out w10 hY10
          have zp := cell_lt p0
          have zr := cell_lt r0
          have hrD : w.heap.size + 1 < D := by have := cell_lt (HSY2.out Y (Below.refl _ _)).2.2.2.2.2.1; omega
          have hs10 := hY10.size
          clear MC hb10 hBw hltI
          rcases hres with ⟨hno, rfl, rfl⟩ | ⟨-, h16, o16, rfl, h', he', hm, hu⟩
          · rcases hno with ⟨hno, -⟩ | ⟨-, hno, -⟩ | ⟨-, -, hbig, rfl⟩
            · exact absurd HPE.out.1 hno
            · rw [HPE.out.2] at hno; cases hno
            · have hrx := Below.refl w10.heap.size w10
              go_upto_region 34 with (fail)
              refine wp_name fun w11 hW11 => ?_
              have h11 : Below Y.heap.size Y w11 := bthen hY10 (by rw [hW11]; repeat (first|exact bzR _ _|exact hrx|refine bzD ?_|refine bzN ?_|refine bzS ?_|refine bzA ?_))
              obtain ⟨p0, p1, p2, p3, l0, r0, r0f⟩ := HSY2.out w11 h11
              have zp := cell_lt p0
              have zr := cell_lt r0
              clear hW11 hrx
              by_cases h16 : (n : Int) ≤ 16
              · have d1 : decide ((n : Int) > 16) = false := by simpa using h16
                have d2 : decide ((outs.length : Int) > 16) = true := by
                  rcases hbig with hb | hb
                  · omega
                  · simp; omega
                clear hbig h16
                have hBf := bthen HBY.out h11
                obtain ⟨-, -, -, -, -, r0, r0f⟩ := HSY2.out w11 h11
                have zr := cell_lt r0
                have hsf := (h11).size
                have HKD := Lib.hid (((h11).block D hDl).trans HK.out)
                go_wp2
                refine ⟨by simp, .inl ⟨_, _, rfl, run_takeDeferred (b := D) (ds := []) ?_, ?_⟩⟩
                · exact (Below.heap_setCell _ _ _ D (by simp; omega)).trans HKD.out
                · have hfin := cell_put (D := D) (cell_here r0 (.bool true)) (by simp; omega) (.deferred none)
                  refine ⟨.bool true, ?_, rfl, b_put (bset hBf (by show w.heap.size ≤ w.heap.size + 1; omega) _) (by omega) _⟩
                  simp [results, Tryz.results8, go_sem, hfin]
              · have d1 : decide ((n : Int) > 16) = true := by simpa using h16
                clear hbig h16
                have hBf := bthen HBY.out h11
                obtain ⟨-, -, -, -, -, r0, r0f⟩ := HSY2.out w11 h11
                have zr := cell_lt r0
                have hsf := (h11).size
                have HKD := Lib.hid (((h11).block D hDl).trans HK.out)
                go_wp2
                refine ⟨by simp, .inl ⟨_, _, rfl, run_takeDeferred (b := D) (ds := []) ?_, ?_⟩⟩
                · exact (Below.heap_setCell _ _ _ D (by simp; omega)).trans HKD.out
                · have hfin := cell_put (D := D) (cell_here r0 (.bool true)) (by simp; omega) (.deferred none)
                  refine ⟨.bool true, ?_, rfl, b_put (bset hBf (by show w.heap.size ≤ w.heap.size + 1; omega) _) (by omega) _⟩
                  simp [results, Tryz.results8, go_sem, hfin]
          · rw [HPE.out.2] at he'
            cases he'
            have HMU := Lib.hid (And.intro hm hu)
            have HIB := Lib.hid (And.intro h16 o16)
            obtain ⟨gl, hgl⟩ : ∃ x, (matG (outsF outs h)).length = x := ⟨_, rfl⟩
            obtain ⟨am, cm, hve⟩ := hm.m.lit
            rw [hgl] at hve
            subst hve
            obtain ⟨un, ua, ul, uc, rfl⟩ := hu.lit
            have hDs : (matD (outsF outs h)).sign = 1 := Int.sign_eq_one_of_pos (by
              obtain ⟨hr, hb, -⟩ := mat_facts HPE.out.1 HPE.out.2 h16 o16
              exact matD_pos hr hb)
            have SG0 := Lib.hid (fun V (k : Below w10.heap.size w10 V) => sign_c _ _ V (HMU.out.2.keep k))
            rw [hDs] at SG0
            have hrx := Below.refl w10.heap.size w10
            clear hm hu hgl hDs h16 o16
            go_upto_region 34 with (fail)
            refine wp_name fun w11 hW11 => ?_
            have h1011 : Below w10.heap.size w10 w11 := by rw [hW11]; repeat (first|exact bzR _ _|exact hrx|refine bzD ?_|refine bzN ?_|refine bzS ?_|refine bzA ?_)
            have h11 : Below Y.heap.size Y w11 := bthen hY10 h1011
            have m0 : w11.cell? ⟨w10.heap.size, 0, none⟩ = some (.slice am gl cm) := by rw [hW11]; simp [go_sem]
            have e0 : w11.cell? ⟨w10.heap.size + 1, 0, none⟩ = some (.bool un) := by rw [hW11]; simp [go_sem]
            have e1 : w11.cell? ⟨w10.heap.size + 1, 1, none⟩ = some (.slice ua ul uc) := by rw [hW11]; simp [go_sem]
            obtain ⟨p0, p1, p2, p3, l0, r0, r0f⟩ := HSY2.out w11 h11
            obtain ⟨mb, hmb⟩ : ∃ x, w10.heap.size = x := ⟨_, rfl⟩
            have SG := Lib.hid (fun V (k : Below w11.heap.size w11 V) => SG0.out V (bthen h1011 k))
            have IC := Lib.hid (fun ca1 cc1 oa1 oc1 V (k : Below w11.heap.size w11 V) (hc1 : InsV V ca1 cc1 code) (ho1 : IntsV V oa1 oc1 outs) => (isBack_c HPE.out.1 HPE.out.2 HIB.out.1 HIB.out.2 hc1 ho1 (HMU.out.1.keep (bthen h1011 k)) (HMU.out.2.keep (bthen h1011 k))).mono (R' := fun e w' => e = .returned (.tuple #[.bool true, .int .i64 0]) ∧ Below w11.heap.size V w') fun e w' ⟨q1, q2⟩ => ⟨q1, q2.mono k.size⟩)
            have CP := Lib.hid (fun V (k : Below w11.heap.size w11 V) => (copied9_c n R ca oa cc oc code outs V (HC.out.1.keep (bthen HBY.out (bthen h11 k))) (HC.out.2.keep (bthen HBY.out (bthen h11 k))) (by omega) (by omega)).mono (R' := fun e w' => (∃ ca' cc' oa' oc', e = .returned (.agg #[.int .i64 (n : Int), .int .i64 (R : Int), .slice ca' code.length cc', .slice oa' outs.length oc']) ∧ InsV w' ca' cc' code ∧ IntsV w' oa' oc' outs) ∧ Below w11.heap.size V w') fun e w' ⟨q1, q2⟩ => ⟨q1, q2.mono k.size⟩)
            rw [hmb] at m0 e0 e1 ⊢
            have HSZ := Lib.hid (show ∀ V, Below w11.heap.size w11 V → V.cell? ⟨w.heap.size, 0, none⟩ = some (.int .i64 (n : Int)) ∧ V.cell? ⟨w.heap.size, 1, none⟩ = some (.int .i64 (R : Int)) ∧ V.cell? ⟨w.heap.size, 2, none⟩ = some (.slice ca code.length cc) ∧ V.cell? ⟨w.heap.size, 3, none⟩ = some (.slice oa outs.length oc) ∧ V.cell? ⟨mb, 0, none⟩ = some (.slice am gl cm) ∧ V.cell? ⟨mb + 1, 0, none⟩ = some (.bool un) ∧ V.cell? ⟨mb + 1, 1, none⟩ = some (.slice ua ul uc) from
              fun V k => ⟨bkeep k p0, bkeep k p1, bkeep k p2, bkeep k p3, bkeep k m0, bkeep k e0, bkeep k e1⟩)
            have zp := cell_lt p0
            have zm := cell_lt m0
            have ze := cell_lt e0
            have hBx := Below.refl w11.heap.size w11
            clear hW11 hrx SG0 h1011 HMU HIB l0 r0 r0f zr
            go_wp2
            go_region_held3 (fun V => V.cell? ⟨w.heap.size, 0, none⟩ = some (.int .i64 (n : Int)) ∧ V.cell? ⟨w.heap.size, 1, none⟩ = some (.int .i64 (R : Int)) ∧ V.cell? ⟨w.heap.size, 2, none⟩ = some (.slice ca code.length cc) ∧ V.cell? ⟨w.heap.size, 3, none⟩ = some (.slice oa outs.length oc) ∧ V.cell? ⟨mb, 0, none⟩ = some (.slice am gl cm) ∧ V.cell? ⟨mb + 1, 0, none⟩ = some (.bool un) ∧ V.cell? ⟨mb + 1, 1, none⟩ = some (.slice ua ul uc))
              (first | (refine HSZ.out _ ?_; (repeat (first|exact bzR _ _|exact hBx|refine bzD ?_|refine bzN ?_|refine bzS ?_|refine bzA ?_)); done) | fail)
              (first
                | (go_at_call 48; (with_reducible refine (CP.out _ ?_).mono ?_); (repeat (first|exact bzR _ _|exact hBx|refine bzD ?_|refine bzN ?_|refine bzS ?_|refine bzA ?_)); rintro e w12 ⟨⟨ca1, cc1, oa1, oc1, rfl, hc1, ho1⟩, hb12⟩; (have hBd : Below w11.heap.size w11 w12 := Below.trans (by repeat (first|exact bzR _ _|exact hBx|refine bzD ?_|refine bzN ?_|refine bzS ?_|refine bzA ?_)) hb12; clear hBx; have hBx := hBd; clear hBd); have HCP := Lib.hid (And.intro hc1 ho1); have hBu := Below.refl w12.heap.size w12; clear hb12 hc1 ho1)
                | (go_at_call 44; (with_reducible refine (IC.out ca1 cc1 oa1 oc1 _ ?_ (HCP.out.1.keep ?_) (HCP.out.2.keep ?_)).mono ?_); (repeat (first|exact bzR _ _|exact hBx|refine bzD ?_|refine bzN ?_|refine bzS ?_|refine bzA ?_)); (repeat (first|exact bzR _ _|exact hBu|refine bzD ?_|refine bzN ?_|refine bzS ?_|refine bzA ?_)); (repeat (first|exact bzR _ _|exact hBu|refine bzD ?_|refine bzN ?_|refine bzS ?_|refine bzA ?_)); rintro e w13 ⟨rfl, hb13⟩; (have hBd : Below w11.heap.size w11 w13 := Below.trans (by repeat (first|exact bzR _ _|exact hBx|refine bzD ?_|refine bzN ?_|refine bzS ?_|refine bzA ?_)) hb13; clear hBx; have hBx := hBd; clear hBd))
                | fail)
            all_goals
              obtain ⟨-, -, -, -, -, e0, e1⟩ := HSZ.out w13 hBx
              have ze := cell_lt e0
              have h13 := bthen h11 hBx
              clear IC CP HCP hBu p0 p1 p2 p3 m0 zp zm
              have hB13 := Below.refl w13.heap.size w13
              have SG3 := Lib.hid (fun V (k : Below w13.heap.size w13 V) => SG.out V (bthen hBx k))
              go_wp2_with fail
              (with_reducible refine (SG3.out _ ?_).mono ?_); (repeat (first|exact bzR _ _|exact hB13|refine bzD ?_|refine bzN ?_|refine bzS ?_|refine bzA ?_))
              rintro e w14 ⟨rfl, hb14⟩
              have h14 : Below Y.heap.size Y w14 := bthen h13 (bthen (by repeat (first|exact bzR _ _|exact hB13|refine bzD ?_|refine bzN ?_|refine bzS ?_|refine bzA ?_)) hb14)
              clear SG SG3 hb14 hB13 e0 e1 ze HSZ
              have hBf := bthen HBY.out h14
              obtain ⟨-, -, -, -, -, r0, r0f⟩ := HSY2.out w14 h14
              have zr := cell_lt r0
              have hsf := (h14).size
              have HKD := Lib.hid (((h14).block D hDl).trans HK.out)
              go_wp2
              refine ⟨by simp, .inl ⟨_, _, rfl, run_takeDeferred (b := D) (ds := []) ?_, ?_⟩⟩
              · exact (Below.heap_setCell _ _ _ D (by simp; omega)).trans HKD.out
              · have hfin := cell_put (D := D) (cell_here r0 (.bool true)) (by simp; omega) (.deferred none)
                refine ⟨.bool true, ?_, rfl, b_put (bset hBf (by show w.heap.size ≤ w.heap.size + 1; omega) _) (by omega) _⟩
                simp [results, Tryz.results8, go_sem, hfin]
theorem denoteLast_h (ins regs : Int) (ca oa : Option Addr) (cc oc : Nat) (code : List Ins) (outs : List Int) (w : World) (hc : InsV w ca cc code) (ho : IntsV w oa oc outs) :
    Calls Tryz.prog 8 #[.agg #[.int .i64 ins, .int .i64 regs, .slice ca code.length cc, .slice oa outs.length oc]] w fun e w' => e = .returned (.bool true) ∧ Below w.heap.size w w' := by
  by_cases hp : ProgOk ins regs code outs
  · obtain ⟨n, rfl⟩ : ∃ n : Nat, ins = n := ⟨ins.toNat, by have := hp.i1; omega⟩
    obtain ⟨R, rfl⟩ : ∃ R : Nat, regs = R := ⟨regs.toNat, by have := hp.i1; have := hp.i2; omega⟩
    cases he : endF n R code with
    | none => exact last_wide n R ca oa cc oc code outs w hc ho hp he
    | some h => exact last_yes n R ca oa cc oc code outs h w hc ho hp he
  · exact last_no ins regs ca oa cc oc code outs w hc ho hp
end Go.Proofs.YtbmaffijncapiaaGreatDoor

