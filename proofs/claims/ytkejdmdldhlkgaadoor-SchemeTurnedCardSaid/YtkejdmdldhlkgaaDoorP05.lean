/- Texts of this seat, laid together: IntB, IntC, IntD, IntE, IntF, RefA, RefB, RefC, Out, RefD, Lims, IntBits. Each opens with its own remark, which says what it proves, and under which conditions. -/
import Derived.Test.YtkejdmdldhlkgaaDoorP04
import Derived.Laws.AppendOwn
import Derived.Test.YtkejdmdldhlkgaaDoorP02
import Derived.Deep.AppendLies
set_option linter.unusedVariables false
set_option linter.unusedSimpArgs false
/- integer: Make, Of. -/
namespace Go.Proofs.YtkejdmdldhlkgaaDoor
open Num
open Go.ChangeShapes Go.WideShapes Go.ChangeAt Go.RowKit
set_option linter.unusedVariables false
set_option linter.unusedSimpArgs false

set_option maxRecDepth 100000 in
set_option maxHeartbeats 1000000 in
theorem make_c (neg : Bool) (a : Option Addr) (ca : Nat) (l : List Nat) (w : World) (ha : U32 w a ca l) (h1 : l.length ≤ 1099511627776) :
    Calls Tryd.prog 27 #[.bool neg, .slice a l.length ca] w fun e w' => (∃ v, e = .returned v ∧ IsInt w' v (sg neg (val l))) ∧ Below w.heap.size w w' := by
  have nc := fun w h => limbNorm_c a ca l w h h1
  have mc := fun a1 ca1 w h => made_c neg a1 ca1 (trimL l) w h (trim_nrm l)
  rw [val_trim] at mc
  generalize trimL l = L at *
  go_enter Tryd.func27, Tryd.ntmps27
  go_wp2_with fail
  refine (nc _ (ha.keep (bal (Below.refl _ _) _))).mono ?_
  rintro e w1 ⟨⟨a1, rfl, hu⟩, hb1⟩
  have r0 : w1.cell? ⟨w.heap.size, 0, none⟩ = some (.bool false) := bkc hb1
  have zr0 := cell_lt r0
  have r0f : w1.frozen? ⟨w.heap.size, 0, none⟩ = false := bkcf (v := .bool false) hb1
  have r1 : w1.cell? ⟨w.heap.size, 1, none⟩ = some (.slice none 0 0) := bkc hb1
  have r1f : w1.frozen? ⟨w.heap.size, 1, none⟩ = false := bkcf (v := .slice none 0 0) hb1
  have hB : Below w.heap.size w w1 := bthen (by repeat (first | exact Below.refl _ _ | exact hB | refine Below.drew ?_ | refine below_drewN ?_ _ | refine bset ?_ (by simp <;> omega) _ | refine bal ?_ _)) hb1
  have hz : w.heap.size ≤ w1.heap.size := hB.size
  clear nc
  go_wp2_with fail
  refine (mc _ _ _ hu).mono ?_
  rintro e w2 ⟨⟨v, rfl, hi⟩, hb2⟩
  have r0 : w2.cell? ⟨w.heap.size, 0, none⟩ = some (.bool false) := bkc hb2
  have zr0 := cell_lt r0
  have r0f : w2.frozen? ⟨w.heap.size, 0, none⟩ = false := bkcf (v := .bool false) hb2
  have r1 : w2.cell? ⟨w.heap.size, 1, none⟩ = some (.slice none 0 0) := bkc hb2
  have r1f : w2.frozen? ⟨w.heap.size, 1, none⟩ = false := bkcf (v := .slice none 0 0) hb2
  have hB : Below w.heap.size w w2 := bthen (by repeat (first | exact Below.refl _ _ | exact hB | refine Below.drew ?_ | refine below_drewN ?_ _ | refine bset ?_ (by simp <;> omega) _ | refine bal ?_ _)) hb2
  have hz : w.heap.size ≤ w2.heap.size := hB.size
  have HI := Lib.hid hi
  have HI2 := Lib.hid (hi.put2 r0 r1)
  obtain ⟨n2, a2, c2, l2, rfl, _, _, _, _⟩ := hi
  clear mc
  unfold iv at *
  go_wp2
  refine bodyPost_ret (v := .agg #[.bool n2, .slice a2 l2.length c2]) (by simp [results, Tryd.results27, go_sem, *]) rfl ⟨⟨_, rfl, HI2.out _ _⟩, ?_⟩
  repeat (first | exact Below.refl _ _ | exact hB | refine Below.drew ?_ | refine below_drewN ?_ _ | refine bset ?_ (by simp <;> omega) _ | refine bal ?_ _)

theorem u32_pair (w : World) (x y : Nat) (hx : x < BB) (hy : y < BB) (g : Nat) (hg : g = w.heap.size) : U32 (w.alloc (.cells #[.int .u32 (x : Int), .int .u32 (y : Int)] 64)) (some ⟨g, 0, none⟩) 2 [x, y] := by
  refine ⟨by simp, by unfold maxLen; omega, ?_, .inr ⟨g, 0, rfl, ?_, by subst hg; unfold typOf; rw [(MapKept.heap_alloc w _).1]⟩⟩
  · intro z hz; simp at hz; rcases hz with rfl | rfl <;> assumption
  · intro k hk
    rw [Nat.zero_add]
    match k, hk with
    | 0, _ => exact cell_new hg rfl
    | 1, _ => exact cell_new hg rfl
theorem val_pair (m : Nat) : val [m % BB, m / BB] = m := by
  simp only [val, Nat.mul_zero, Nat.add_zero]
  have := Nat.div_add_mod m BB
  omega

set_option maxRecDepth 100000 in
set_option maxHeartbeats 1000000 in
theorem of_c (n : Int) (w : World) (h1 : -9223372036854775808 ≤ n) (h2 : n ≤ 9223372036854775807) :
    Calls Tryd.prog 11 #[.int .i64 n] w fun e w' => (∃ v, e = .returned v ∧ IsInt w' v n) ∧ Below w.heap.size w w' := by
  obtain ⟨m, hm⟩ : ∃ m : Nat, m = n.natAbs := ⟨_, rfl⟩
  have hmB : m / BB < BB := by unfold BB; omega
  have mk := fun neg a w ha => make_c neg a 2 [m % BB, m / BB] w ha (by simp)
  rw [val_pair] at mk
  have up := fun w => u32_pair w (m % BB) (m / BB) (Nat.mod_lt _ BB_pos) hmB
  have i1 : (m : Int) % 4294967296 = ((m % BB : Nat) : Int) := by unfold BB; omega
  have i2 : (m : Int) / 4294967296 = ((m / BB : Nat) : Int) := by unfold BB; omega
  have i3 : ((m / BB : Nat) : Int) % 4294967296 = ((m / BB : Nat) : Int) := by unfold BB at *; omega
  generalize m % BB = x at *
  generalize m / BB = y at *
  by_cases h0 : n < 0
  · have e1 : IntKind.u64.wrap (-IntKind.u64.wrap n) = (m : Int) := by
      simp only [IntKind.wrap, IntKind.bits, IntKind.signed]
      simp
      omega
    have HS := Lib.hid (show sg true m = n by simp [sg]; omega)
    clear hm
    go_enter Tryd.func11, Tryd.ntmps11
    go_wp2_with fail
    refine (mk _ _ _ (up _ _ (by simp))).mono ?_
    rintro e w1 ⟨⟨v, rfl, hi⟩, hb1⟩
    have r0 : w1.cell? ⟨w.heap.size, 0, none⟩ = some (.bool false) := bkc hb1
    have zr0 := cell_lt r0
    have r0f : w1.frozen? ⟨w.heap.size, 0, none⟩ = false := bkcf (v := .bool false) hb1
    have r1 : w1.cell? ⟨w.heap.size, 1, none⟩ = some (.slice none 0 0) := bkc hb1
    have r1f : w1.frozen? ⟨w.heap.size, 1, none⟩ = false := bkcf (v := .slice none 0 0) hb1
    have hB : Below w.heap.size w w1 := bthen (by repeat (first | exact Below.refl _ _ | exact hB | refine Below.drew ?_ | refine below_drewN ?_ _ | refine bset ?_ (by simp <;> omega) _ | refine bal ?_ _)) hb1
    have hz : w.heap.size ≤ w1.heap.size := hB.size
    rw [HS.out] at hi
    have HI := Lib.hid hi
    have HI2 := Lib.hid (hi.put2 r0 r1)
    obtain ⟨n2, a2, c2, l2, rfl, _, _, _, _⟩ := hi
    clear mk up
    unfold iv at *
    go_wp2
    refine bodyPost_ret (v := .agg #[.bool n2, .slice a2 l2.length c2]) (by simp [results, Tryd.results11, go_sem, *]) rfl ⟨⟨_, rfl, HI2.out _ _⟩, ?_⟩
    repeat (first | exact Below.refl _ _ | exact hB | refine Below.drew ?_ | refine below_drewN ?_ _ | refine bset ?_ (by simp <;> omega) _ | refine bal ?_ _)
  · obtain rfl : n = m := by omega
    have HS := Lib.hid (show sg false m = m by simp [sg])
    clear hm
    go_enter Tryd.func11, Tryd.ntmps11
    go_wp2_with fail
    refine (mk _ _ _ (up _ _ (by simp))).mono ?_
    rintro e w1 ⟨⟨v, rfl, hi⟩, hb1⟩
    have r0 : w1.cell? ⟨w.heap.size, 0, none⟩ = some (.bool false) := bkc hb1
    have zr0 := cell_lt r0
    have r0f : w1.frozen? ⟨w.heap.size, 0, none⟩ = false := bkcf (v := .bool false) hb1
    have r1 : w1.cell? ⟨w.heap.size, 1, none⟩ = some (.slice none 0 0) := bkc hb1
    have r1f : w1.frozen? ⟨w.heap.size, 1, none⟩ = false := bkcf (v := .slice none 0 0) hb1
    have hB : Below w.heap.size w w1 := bthen (by repeat (first | exact Below.refl _ _ | exact hB | refine Below.drew ?_ | refine below_drewN ?_ _ | refine bset ?_ (by simp <;> omega) _ | refine bal ?_ _)) hb1
    have hz : w.heap.size ≤ w1.heap.size := hB.size
    rw [HS.out] at hi
    have HI := Lib.hid hi
    have HI2 := Lib.hid (hi.put2 r0 r1)
    obtain ⟨n2, a2, c2, l2, rfl, _, _, _, _⟩ := hi
    clear mk up
    unfold iv at *
    go_wp2
    refine bodyPost_ret (v := .agg #[.bool n2, .slice a2 l2.length c2]) (by simp [results, Tryd.results11, go_sem, *]) rfl ⟨⟨_, rfl, HI2.out _ _⟩, ?_⟩
    repeat (first | exact Below.refl _ _ | exact hB | refine Below.drew ?_ | refine below_drewN ?_ _ | refine bset ?_ (by simp <;> omega) _ | refine bal ?_ _)
end Go.Proofs.YtkejdmdldhlkgaaDoor

/- integer: Mul, Times. -/
namespace Go.Proofs.YtkejdmdldhlkgaaDoor
open Num
open Go.ChangeShapes Go.WideShapes Go.ChangeAt Go.RowKit
set_option linter.unusedVariables false
set_option linter.unusedSimpArgs false

theorem sg_bd {neg : Bool} {n k : Nat} (h : Bd k (sg neg n)) : n < 2 ^ k := by
  unfold Bd at h; rwa [sg_abs] at h

set_option maxRecDepth 100000 in
set_option maxHeartbeats 2000000 in
theorem mul_c (vx vy : Value) (x y : Int) (k m : Nat) (w : World) (hx : IsInt w vx x) (hy : IsInt w vy y) (bx : Bd k x) (by' : Bd m y) (hk : k ≤ 17179869184) (hm : m ≤ 17179869184) :
    Calls Tryd.prog 16 #[vx, vy] w fun e w' => (∃ v, e = .returned v ∧ IsInt w' v (x * y)) ∧ Below w.heap.size w w' := by
  obtain ⟨n1, a1, c1, l1, rfl, u1, g1, s1, rfl⟩ := hx
  obtain ⟨n2, a2, c2, l2, rfl, u2, g2, s2, rfl⟩ := hy
  have k1 := bd_len g1 (sg_bd bx) hk
  have k2 := bd_len g2 (sg_bd by') hm
  have mc := fun w h1 h2 => limbMul_c a1 a2 c1 c2 l1 l2 w h1 h2 (by omega) (by omega)
  have dc := fun a L w h hn => made_c (n1 != n2) a (List.length L) L w h hn
  rw [← sg_mul]
  clear bx by' g1 g2 s1 s2 k1 k2
  unfold iv
  have hB0 := Below.refl w.heap.size w
  go_enter Tryd.func16, Tryd.ntmps16
  go_wp2_with fail
  go_region_held3 (fun w' => w'.cell? ⟨w.heap.size, 0, none⟩ = some (.bool n1) ∧ w'.cell? ⟨w.heap.size, 1, none⟩ = some (.slice a1 l1.length c1) ∧ w'.cell? ⟨w.heap.size + 1, 0, none⟩ = some (.bool n2) ∧ w'.cell? ⟨w.heap.size + 1, 1, none⟩ = some (.slice a2 l2.length c2)) (repeat' (first | assumption | apply And.intro | exact cell_new (by simp) rfl | refine cell_alloc ?_ _ | refine cell_drew ?_ | refine cell_far ?_ (addr_ne (by omega)) _))
    (first | (go_at_call 34; refine (mc _ (u1.keep (by repeat (first | exact Below.refl _ _ | exact hB0 | refine Below.drew ?_ | refine below_drewN ?_ _ | refine bset ?_ (by simp <;> omega) _ | refine bal ?_ _))) (u2.keep (by repeat (first | exact Below.refl _ _ | exact hB0 | refine Below.drew ?_ | refine below_drewN ?_ _ | refine bset ?_ (by simp <;> omega) _ | refine bal ?_ _)))).mono ?_; rintro e w3 ⟨⟨a3, k3, L, rfl, rfl, hu, hn, hv⟩, hb3⟩; have x0 : w3.cell? ⟨w.heap.size, 0, none⟩ = some (.bool n1) := bkc hb3; have zx0 := cell_lt x0; have x1 : w3.cell? ⟨w.heap.size, 1, none⟩ = some (.slice a1 l1.length c1) := bkc hb3; have y0 : w3.cell? ⟨w.heap.size + 1, 0, none⟩ = some (.bool n2) := bkc hb3; have zy0 := cell_lt y0; have y1 : w3.cell? ⟨w.heap.size + 1, 1, none⟩ = some (.slice a2 l2.length c2) := bkc hb3; have r0 : w3.cell? ⟨w.heap.size + 2, 0, none⟩ = some (.bool false) := bkc hb3; have zr0 := cell_lt r0; have r0f : w3.frozen? ⟨w.heap.size + 2, 0, none⟩ = false := bkcf (v := .bool false) hb3; have r1 : w3.cell? ⟨w.heap.size + 2, 1, none⟩ = some (.slice none 0 0) := bkc hb3; have r1f : w3.frozen? ⟨w.heap.size + 2, 1, none⟩ = false := bkcf (v := .slice none 0 0) hb3; have hB : Below w.heap.size w w3 := bthen (by repeat (first | exact Below.refl _ _ | exact hB | refine Below.drew ?_ | refine below_drewN ?_ _ | refine bset ?_ (by simp <;> omega) _ | refine bal ?_ _)) hb3; have hz : w.heap.size ≤ w3.heap.size := hB.size) | (go_at_call 33; refine (dc _ _ _ hu hn).mono ?_; rintro e w4 ⟨⟨v, rfl, hi⟩, hb4⟩; have x0 : w4.cell? ⟨w.heap.size, 0, none⟩ = some (.bool n1) := bkc hb4; have zx0 := cell_lt x0; have x1 : w4.cell? ⟨w.heap.size, 1, none⟩ = some (.slice a1 l1.length c1) := bkc hb4; have y0 : w4.cell? ⟨w.heap.size + 1, 0, none⟩ = some (.bool n2) := bkc hb4; have zy0 := cell_lt y0; have y1 : w4.cell? ⟨w.heap.size + 1, 1, none⟩ = some (.slice a2 l2.length c2) := bkc hb4; have r0 : w4.cell? ⟨w.heap.size + 2, 0, none⟩ = some (.bool false) := bkc hb4; have zr0 := cell_lt r0; have r0f : w4.frozen? ⟨w.heap.size + 2, 0, none⟩ = false := bkcf (v := .bool false) hb4; have r1 : w4.cell? ⟨w.heap.size + 2, 1, none⟩ = some (.slice none 0 0) := bkc hb4; have r1f : w4.frozen? ⟨w.heap.size + 2, 1, none⟩ = false := bkcf (v := .slice none 0 0) hb4; have hB : Below w.heap.size w w4 := bthen (by repeat (first | exact Below.refl _ _ | exact hB | refine Below.drew ?_ | refine below_drewN ?_ _ | refine bset ?_ (by simp <;> omega) _ | refine bal ?_ _)) hb4; have hz : w.heap.size ≤ w4.heap.size := hB.size; rw [hv] at hi; have HI := Lib.hid hi; have HI2 := Lib.hid (hi.put2 r0 r1); obtain ⟨n4, a4, c4, l4, rfl, _, _, _, _⟩ := hi; unfold iv at *))
  go_wp2
  refine bodyPost_ret (v := .agg #[.bool n4, .slice a4 l4.length c4]) (by simp [results, Tryd.results16, go_sem, *]) rfl ⟨⟨_, rfl, HI2.out _ _⟩, ?_⟩
  repeat (first | exact Below.refl _ _ | exact hB | refine Below.drew ?_ | refine below_drewN ?_ _ | refine bset ?_ (by simp <;> omega) _ | refine bal ?_ _)
end Go.Proofs.YtkejdmdldhlkgaaDoor

/- integer: Times, Sign, Bits. -/
namespace Go.Proofs.YtkejdmdldhlkgaaDoor
open Num
open Go.ChangeShapes Go.WideShapes Go.ChangeAt Go.RowKit
set_option linter.unusedVariables false
set_option linter.unusedSimpArgs false

set_option maxRecDepth 100000 in
set_option maxHeartbeats 2000000 in
theorem times_c (vx : Value) (x c : Int) (k : Nat) (w : World) (hx : IsInt w vx x) (bx : Bd k x) (hk : k ≤ 17179869184) (h1 : -9223372036854775808 ≤ c) (h2 : c ≤ 9223372036854775807) :
    Calls Tryd.prog 62 #[vx, .int .i64 c] w fun e w' => (∃ v, e = .returned v ∧ IsInt w' v (x * c)) ∧ Below w.heap.size w w' := by
  have oc := fun w => of_c c w h1 h2
  have mc := fun vx vy w hx hy => mul_c vx vy x c k 64 w hx hy bx (by unfold Bd; omega) hk (by omega)
  have HX := Lib.hid hx
  obtain ⟨n1, a1, c1, l1, rfl, _, _, _, _⟩ := hx
  clear bx
  unfold iv at *
  have hB0 := Below.refl w.heap.size w
  go_enter Tryd.func62, Tryd.ntmps62
  go_wp2_with fail
  go_region_held3 (fun w' => w'.cell? ⟨w.heap.size, 0, none⟩ = some (.bool n1) ∧ w'.cell? ⟨w.heap.size, 1, none⟩ = some (.slice a1 l1.length c1)) (repeat' (first | assumption | apply And.intro | exact cell_new (by simp) rfl | refine cell_alloc ?_ _ | refine cell_drew ?_ | refine cell_far ?_ (addr_ne (by omega)) _))
    (first | (go_at_call 11; refine (oc _).mono ?_; rintro e w3 ⟨⟨v3, rfl, hi3⟩, hb3⟩; have x0 : w3.cell? ⟨w.heap.size, 0, none⟩ = some (.bool n1) := bkc hb3; have zx0 := cell_lt x0; have x1 : w3.cell? ⟨w.heap.size, 1, none⟩ = some (.slice a1 l1.length c1) := bkc hb3; have r0 : w3.cell? ⟨w.heap.size + 1, 0, none⟩ = some (.bool false) := bkc hb3; have zr0 := cell_lt r0; have r0f : w3.frozen? ⟨w.heap.size + 1, 0, none⟩ = false := bkcf (v := .bool false) hb3; have r1 : w3.cell? ⟨w.heap.size + 1, 1, none⟩ = some (.slice none 0 0) := bkc hb3; have r1f : w3.frozen? ⟨w.heap.size + 1, 1, none⟩ = false := bkcf (v := .slice none 0 0) hb3; have hB : Below w.heap.size w w3 := bthen (by repeat (first | exact Below.refl _ _ | exact hB | refine Below.drew ?_ | refine below_drewN ?_ _ | refine bset ?_ (by simp <;> omega) _ | refine bal ?_ _)) hb3; have hz : w.heap.size ≤ w3.heap.size := hB.size; have HI3 := Lib.hid hi3; have HB3 := Lib.hid hB; obtain ⟨n3, a3, c3, l3, rfl, _, _, _, _⟩ := hi3; unfold iv at *) | (go_at_call 16; refine (mc _ _ _ (HX.out.keep HB3.out) HI3.out).mono ?_; rintro e w4 ⟨⟨v, rfl, hi⟩, hb4⟩; have x0 : w4.cell? ⟨w.heap.size, 0, none⟩ = some (.bool n1) := bkc hb4; have zx0 := cell_lt x0; have x1 : w4.cell? ⟨w.heap.size, 1, none⟩ = some (.slice a1 l1.length c1) := bkc hb4; have r0 : w4.cell? ⟨w.heap.size + 1, 0, none⟩ = some (.bool false) := bkc hb4; have zr0 := cell_lt r0; have r0f : w4.frozen? ⟨w.heap.size + 1, 0, none⟩ = false := bkcf (v := .bool false) hb4; have r1 : w4.cell? ⟨w.heap.size + 1, 1, none⟩ = some (.slice none 0 0) := bkc hb4; have r1f : w4.frozen? ⟨w.heap.size + 1, 1, none⟩ = false := bkcf (v := .slice none 0 0) hb4; have hB : Below w.heap.size w w4 := bthen (by repeat (first | exact Below.refl _ _ | exact hB | refine Below.drew ?_ | refine below_drewN ?_ _ | refine bset ?_ (by simp <;> omega) _ | refine bal ?_ _)) hb4; have hz : w.heap.size ≤ w4.heap.size := hB.size; have HI := Lib.hid hi; have HI2 := Lib.hid (hi.put2 r0 r1); obtain ⟨n4, a4, c4, l4, rfl, _, _, _, _⟩ := hi; unfold iv at *))
  go_wp2
  refine bodyPost_ret (v := .agg #[.bool n4, .slice a4 l4.length c4]) (by simp [results, Tryd.results62, go_sem, *]) rfl ⟨⟨_, rfl, HI2.out _ _⟩, ?_⟩
  repeat (first | exact Below.refl _ _ | exact hB | refine Below.drew ?_ | refine below_drewN ?_ _ | refine bset ?_ (by simp <;> omega) _ | refine bal ?_ _)

theorem sg_sign {neg : Bool} {l : List Nat} (hn : Nrm l) (hs : neg = true → l ≠ []) : (sg neg (val l)).sign = if l.length = 0 then 0 else if neg then -1 else 1 := by
  by_cases h0 : l = []
  · subst h0; cases neg <;> simp [sg, val]
  · have h1 : 0 < val l := Nat.pos_of_ne_zero (fun e => h0 ((val_nil_iff hn).1 e))
    have h2 : l.length ≠ 0 := by simpa using h0
    rw [if_neg h2]
    cases neg with
    | true => simp only [sg, if_true]; rw [Int.sign_neg, Int.sign_eq_one_of_pos (by omega)]
    | false => simp only [sg]; exact Int.sign_eq_one_of_pos (by simp; omega)

set_option maxRecDepth 100000 in
set_option maxHeartbeats 1000000 in
theorem sign_c (vx : Value) (x : Int) (w : World) (hx : IsInt w vx x) :
    Calls Tryd.prog 29 #[vx] w fun e w' => e = .returned (.int .i64 x.sign) ∧ Below w.heap.size w w' := by
  obtain ⟨n1, a1, c1, l1, rfl, u1, g1, s1, rfl⟩ := hx
  have HS := Lib.hid (sg_sign g1 s1)
  generalize (sg n1 (val l1)).sign = z at *
  clear g1 s1 u1
  unfold iv
  generalize hk : l1.length = k at *
  clear hk
  have hB0 := Below.refl w.heap.size w
  cases k with
  | zero =>
    go_enter Tryd.func29, Tryd.ntmps29
    go_wp2
    go_ret
    refine ⟨by rw [HS.out]; rfl, ?_⟩
    repeat (first | exact Below.refl _ _ | exact hB0 | refine Below.drew ?_ | refine below_drewN ?_ _ | refine bset ?_ (by simp <;> omega) _ | refine bal ?_ _)
  | succ k =>
    cases n1 with
    | true =>
      go_enter Tryd.func29, Tryd.ntmps29
      go_wp2
      go_ret
      refine ⟨by rw [HS.out]; rfl, ?_⟩
      repeat (first | exact Below.refl _ _ | exact hB0 | refine Below.drew ?_ | refine below_drewN ?_ _ | refine bset ?_ (by simp <;> omega) _ | refine bal ?_ _)
    | false =>
      go_enter Tryd.func29, Tryd.ntmps29
      go_wp2
      go_ret
      refine ⟨by rw [HS.out]; rfl, ?_⟩
      repeat (first | exact Below.refl _ _ | exact hB0 | refine Below.drew ?_ | refine below_drewN ?_ _ | refine bset ?_ (by simp <;> omega) _ | refine bal ?_ _)
end Go.Proofs.YtkejdmdldhlkgaaDoor

/- integer: Cmp. -/
namespace Go.Proofs.YtkejdmdldhlkgaaDoor
open Num
open Go.ChangeShapes Go.WideShapes Go.ChangeAt Go.RowKit
set_option linter.unusedVariables false
set_option linter.unusedSimpArgs false
namespace Num
/-- less, like, more -/
def cmpI (x y : Int) : Int := if x < y then -1 else if x = y then 0 else 1
theorem cmpI_nn (m n : Nat) : cmpI (sg true m) (sg true n) = cmpN n m := by
  simp only [cmpI, cmpN, sg, if_true]
  (repeat' split) <;> first | rfl | omega
theorem cmpI_pp (m n : Nat) : cmpI (sg false m) (sg false n) = cmpN m n := by
  have e : ∀ k : Nat, sg false k = (k : Int) := fun _ => rfl
  rw [e, e]
  unfold cmpI cmpN
  (repeat' split) <;> first | rfl | omega
theorem cmpI_np (m n : Nat) (h : 0 < m) : cmpI (sg true m) (sg false n) = -1 := by
  have e : sg false n = (n : Int) := rfl
  have e' : sg true m = -(m : Int) := rfl
  rw [e, e']
  unfold cmpI; rw [if_pos (by omega)]
theorem cmpI_pn (m n : Nat) (h : 0 < n) : cmpI (sg false m) (sg true n) = 1 := by
  have e : sg false m = (m : Int) := rfl
  have e' : sg true n = -(n : Int) := rfl
  rw [e, e']
  unfold cmpI; rw [if_neg (by omega), if_neg (by omega)]
end Num

set_option maxRecDepth 100000 in
set_option maxHeartbeats 1000000 in
theorem cmp_c (vx vy : Value) (x y : Int) (w : World) (hx : IsInt w vx x) (hy : IsInt w vy y) :
    Calls Tryd.prog 17 #[vx, vy] w fun e w' => e = .returned (.int .i64 (cmpI x y)) ∧ Below w.heap.size w w' := by
  obtain ⟨n1, a1, c1, l1, rfl, u1, g1, s1, rfl⟩ := hx
  obtain ⟨n2, a2, c2, l2, rfl, u2, g2, s2, rfl⟩ := hy
  have hB0 := Below.refl w.heap.size w
  unfold iv
  cases n1 with
  | true =>
    have p1 : 0 < val l1 := Nat.pos_of_ne_zero (fun e => s1 rfl ((val_nil_iff g1).1 e))
    cases n2 with
    | true =>
      have HC := Lib.hid (cmpI_nn (val l1) (val l2))
      have cc := fun w hx hy => limbCmp_c a2 a1 c2 c1 l2 l1 w hx hy
      generalize cmpN (val l2) (val l1) = z at *
      clear g1 g2 s1 s2 p1
      go_enter Tryd.func17, Tryd.ntmps17
      go_wp2_with (go_at_call 35; refine (cc _ (u2.keep (by repeat (first | exact Below.refl _ _ | exact hB0 | refine Below.drew ?_ | refine below_drewN ?_ _ | refine bset ?_ (by simp <;> omega) _ | refine bal ?_ _))) (u1.keep (by repeat (first | exact Below.refl _ _ | exact hB0 | refine Below.drew ?_ | refine below_drewN ?_ _ | refine bset ?_ (by simp <;> omega) _ | refine bal ?_ _)))).mono ?_; rintro e w1 ⟨rfl, hb1⟩)
      go_ret
      refine ⟨by rw [HC.out]; rfl, ?_⟩
      refine bthen ?_ hb1
      repeat (first | exact Below.refl _ _ | exact hB0 | refine Below.drew ?_ | refine below_drewN ?_ _ | refine bset ?_ (by simp <;> omega) _ | refine bal ?_ _)
    | false =>
      have HC := Lib.hid (cmpI_np (val l1) (val l2) p1)
      clear g1 g2 s1 s2 p1
      go_enter Tryd.func17, Tryd.ntmps17
      go_wp2
      go_ret
      refine ⟨by rw [HC.out]; rfl, ?_⟩
      repeat (first | exact Below.refl _ _ | exact hB0 | refine Below.drew ?_ | refine below_drewN ?_ _ | refine bset ?_ (by simp <;> omega) _ | refine bal ?_ _)
  | false =>
    cases n2 with
    | true =>
      have p2 : 0 < val l2 := Nat.pos_of_ne_zero (fun e => s2 rfl ((val_nil_iff g2).1 e))
      have HC := Lib.hid (cmpI_pn (val l1) (val l2) p2)
      clear g1 g2 s1 s2 p2
      go_enter Tryd.func17, Tryd.ntmps17
      go_wp2
      go_ret
      refine ⟨by rw [HC.out]; rfl, ?_⟩
      repeat (first | exact Below.refl _ _ | exact hB0 | refine Below.drew ?_ | refine below_drewN ?_ _ | refine bset ?_ (by simp <;> omega) _ | refine bal ?_ _)
    | false =>
      have HC := Lib.hid (cmpI_pp (val l1) (val l2))
      have cc := fun w hx hy => limbCmp_c a1 a2 c1 c2 l1 l2 w hx hy
      generalize cmpN (val l1) (val l2) = z at *
      clear g1 g2 s1 s2
      go_enter Tryd.func17, Tryd.ntmps17
      go_wp2_with (go_at_call 35; refine (cc _ (u1.keep (by repeat (first | exact Below.refl _ _ | exact hB0 | refine Below.drew ?_ | refine below_drewN ?_ _ | refine bset ?_ (by simp <;> omega) _ | refine bal ?_ _))) (u2.keep (by repeat (first | exact Below.refl _ _ | exact hB0 | refine Below.drew ?_ | refine below_drewN ?_ _ | refine bset ?_ (by simp <;> omega) _ | refine bal ?_ _)))).mono ?_; rintro e w1 ⟨rfl, hb1⟩)
      go_ret
      refine ⟨by rw [HC.out]; rfl, ?_⟩
      refine bthen ?_ hb1
      repeat (first | exact Below.refl _ _ | exact hB0 | refine Below.drew ?_ | refine below_drewN ?_ _ | refine bset ?_ (by simp <;> omega) _ | refine bal ?_ _)
end Go.Proofs.YtkejdmdldhlkgaaDoor

/- slices.Clone at limbs; integer: Limbs. -/
namespace Go.Proofs.YtkejdmdldhlkgaaDoor
open Num
open Go.ChangeShapes Go.WideShapes Go.ChangeAt Go.RowKit
set_option linter.unusedVariables false
set_option linter.unusedSimpArgs false

end Go.Proofs.YtkejdmdldhlkgaaDoor

/- The reference's numbers (digits to the base 65536): norm, Of, Make, Sign. -/
namespace Go.Proofs.YtkejdmdldhlkgaaDoor
open Num
open Go.ChangeShapes Go.WideShapes Go.ChangeAt Go.RowKit
set_option linter.unusedVariables false
set_option linter.unusedSimpArgs false

/-- a value is the reference's number z -/
def IsRef (w : World) (v : Value) (z : Int) : Prop := ∃ neg a cap l, v = iv neg a (List.length l) cap ∧ U32 w a cap l ∧ NumR.Limbs l ∧ Nrm l ∧ (neg = true → l ≠ []) ∧ z = sg neg (NumR.val l)
theorem IsRef.keep {w w' : World} {v : Value} {z : Int} (h : IsRef w v z) (hb : Below w.heap.size w w') : IsRef w' v z := by
  obtain ⟨neg, a, cap, l, h1, h2, h3⟩ := h
  exact ⟨neg, a, cap, l, h1, h2.keep hb, h3⟩
theorem IsRef.put {w : World} {x : Value} {z : Int} {p : Addr} {v : Value} (h : IsRef w x z) (hp : w.cell? p = some v) (hv : ∀ n, v ≠ .int .u32 n) (u : Value) : IsRef (w.setCell p u) x z := by
  obtain ⟨neg, a, cap, l, h1, h2, h3⟩ := h
  exact ⟨neg, a, cap, l, h1, h2.put hp hv u, h3⟩
theorem IsRef.put2 {w : World} {x : Value} {z : Int} {g : Nat} {b : Bool} {a : Option Addr} {n c : Nat} (h : IsRef w x z) (r0 : w.cell? ⟨g, 0, none⟩ = some (.bool b)) (r1 : w.cell? ⟨g, 1, none⟩ = some (.slice a n c)) (u v : Value) : IsRef ((w.setCell ⟨g, 0, none⟩ u).setCell ⟨g, 1, none⟩ v) x z :=
  (h.put r0 (fun _ e => by cases e) u).put (cell_far r1 (by simp) u) (fun _ e => by cases e) v
theorem U32.cap {w : World} {a : Option Addr} {cap : Nat} {l m : List Nat} (h : U32 w a cap l) (hp : m <+: l) : U32 w a cap m :=
  ⟨Nat.le_trans hp.length_le h.1, h.2.1, fun x hx => h.2.2.1 x (hp.subset hx), h.2.2.2.take hp⟩

end Go.Proofs.YtkejdmdldhlkgaaDoor

/- The reference's numbers: Of, Make. -/
namespace Go.Proofs.YtkejdmdldhlkgaaDoor
open Num
open Go.ChangeShapes Go.WideShapes Go.ChangeAt Go.RowKit
set_option linter.unusedVariables false
set_option linter.unusedSimpArgs false
namespace NumR
end NumR
theorem w32 {x : Nat} (h : x < BB) : IntKind.u32.wrap (x : Int) = (x : Int) := by
  unfold BB at h
  simp only [IntKind.wrap, IntKind.bits, IntKind.signed]
  simp
  omega
end Go.Proofs.YtkejdmdldhlkgaaDoor

/- The reference's numbers: size, Sign, Cmp, Same. -/
namespace Go.Proofs.YtkejdmdldhlkgaaDoor
open Num
open Go.ChangeShapes Go.WideShapes Go.ChangeAt Go.RowKit
set_option linter.unusedVariables false
set_option linter.unusedSimpArgs false

namespace Num
end Num

namespace Num
end Num
end Go.Proofs.YtkejdmdldhlkgaaDoor

/- What a piece of code may have written: 'Out X w w'': of w's blocks those outside X are as they were. -/
namespace Go.Proofs.YtkejdmdldhlkgaaDoor
open Num
open Go.ChangeShapes Go.WideShapes Go.ChangeAt Go.RowKit
structure Out (X : Nat → Prop) (w w' : World) : Prop where
  os : w'.os = w.os
  tape : w'.tape = w.tape
  output : w'.output = w.output
  size : w.heap.size ≤ w'.heap.size
  block : ∀ k, k < w.heap.size → ¬ X k → w'.heap[k]? = w.heap[k]?
section
variable {X Y : Nat → Prop} {a b c w w' : World}
theorem Out.refl (X : Nat → Prop) (w : World) : Out X w w := ⟨rfl, rfl, rfl, Nat.le_refl _, fun _ _ _ => rfl⟩
theorem Out.trans (h : Out X a b) (k : Out X b c) : Out X a c :=
  ⟨k.os.trans h.os, k.tape.trans h.tape, k.output.trans h.output, Nat.le_trans h.size k.size, fun i hi hx => (k.block i (Nat.lt_of_lt_of_le hi h.size) hx).trans (h.block i hi hx)⟩
theorem Out.mono (h : Out X a b) (k : ∀ i, i < a.heap.size → X i → Y i) : Out Y a b := ⟨h.os, h.tape, h.output, h.size, fun i hi hx => h.block i hi fun hi' => hx (k i hi hi')⟩
/-- what comes behind may write, besides, what is new -/
theorem Out.then (h : Out X a b) (k : Out Y b c) (hy : ∀ i, i < a.heap.size → Y i → X i) : Out X a c :=
  ⟨k.os.trans h.os, k.tape.trans h.tape, k.output.trans h.output, Nat.le_trans h.size k.size, fun i hi hx => (k.block i (Nat.lt_of_lt_of_le hi h.size) fun h' => hx (hy i hi h')).trans (h.block i hi hx)⟩
theorem Out.of_below (X : Nat → Prop) (h : Below a.heap.size a b) : Out X a b := ⟨h.os, h.tape, h.output, h.size, fun i hi _ => h.block i hi⟩
theorem Out.below (h : Out X a b) (k : Below b.heap.size b c) : Out X a c := h.trans (.of_below X k)
theorem Out.alloc (h : Out X a b) (o : Obj) : Out X a (b.alloc o) := h.below (bal (Below.refl _ _) o)
theorem Out.drew (h : Out X a b) : Out X a b.drew := ⟨h.os, h.tape, h.output, h.size, h.block⟩
theorem Out.drewN (h : Out X a b) (n : Nat) : Out X a (b.drewN n) := h.below (below_drewN (Below.refl _ _) n)
theorem Out.set (h : Out X a b) {p : Addr} (hp : p.block < a.heap.size → X p.block) (u : Value) : Out X a (b.setCell p u) :=
  ⟨h.os, h.tape, h.output, Nat.le_trans h.size (by simp [World.setCell]), fun k hk hx => (Below.heap_setCell _ _ _ _ fun e => hx (by subst e; exact hp hk)).trans (h.block k hk hx)⟩
theorem Out.grown (h : Out X a b) {row : Option Nat} (hg : b.grownBy c row) (hr : ∀ k, row = some k → k < a.heap.size → X k) : Out X a c :=
  ⟨hg.os.trans h.os, hg.tape.trans h.tape, hg.output.trans h.output, Nat.le_trans h.size hg.size, fun k hk hx => (hg.block k (Nat.lt_of_lt_of_le hk h.size) fun e => hx (hr k e.symm hk)).trans (h.block k hk hx)⟩
/-- nothing that was there when a call began -/
theorem Out.to_below {B : Nat} (h : Out X a b) (hx : ∀ k, k < B → k < a.heap.size → ¬ X k) (hB : B ≤ a.heap.size) : Below B a b :=
  ⟨h.os, h.tape, h.output, h.size, fun k hk => h.block k (by omega) (hx k hk (by omega))⟩
theorem okeep (h : Out X a b) {q o : Nat} {s : Option Nat} {v : Value} (hc : a.cell? ⟨q, o, s⟩ = some v) (hx : ¬ X q) : b.cell? ⟨q, o, s⟩ = some v := by
  rw [World.cell?_of_block (w := a) (h.block q (cell_lt hc) hx)]; exact hc
theorem okeepf (h : Out X a b) {q o : Nat} {s : Option Nat} {v : Value} (hc : a.cell? ⟨q, o, s⟩ = some v) (hf : a.frozen? ⟨q, o, s⟩ = false) (hx : ¬ X q) : b.frozen? ⟨q, o, s⟩ = false := by
  rw [World.frozen?_of_block (w := a) (h.block q (cell_lt hc) hx)]; exact hf
theorem Out.blk (h : Out X a b) {g : Nat} {l : List Nat} (hb : Blk a g l) (hx : ¬ X g) : Blk b g l := (h.block g hb.lt hx).trans hb
/-- limbs stay where their block is not written -/
theorem C32.okeep {o : Option Addr} {l : List Nat} (h : C32 a o l) (k : Out X a b) (hx : ∀ q f, o = some ⟨q, f, none⟩ → ¬ X q) : C32 b o l := by
  rcases h with h | ⟨q, off, h1, h2⟩
  · exact .inl h
  · exact .inr ⟨q, off, h1, fun i hi => _root_.Go.Proofs.YtkejdmdldhlkgaaDoor.okeep k (h2 i hi) (hx q off h1), by rw [typ_of_block (w := a) (k.block q (typ_lt h2.ty) (hx q off h1))]; exact h2.ty⟩
theorem U32.okeep {o : Option Addr} {cap : Nat} {l : List Nat} (h : U32 a o cap l) (k : Out X a b) (hx : ∀ q f, o = some ⟨q, f, none⟩ → ¬ X q) : U32 b o cap l := ⟨h.1, h.2.1, h.2.2.1, h.2.2.2.okeep k hx⟩
end
end Go.Proofs.YtkejdmdldhlkgaaDoor

/- The reference's numbers: Mul. -/
namespace Go.Proofs.YtkejdmdldhlkgaaDoor
open Num
open Go.ChangeShapes Go.WideShapes Go.ChangeAt Go.RowKit
set_option linter.unusedVariables false
set_option linter.unusedSimpArgs false
namespace NumR
theorem step_lt {x y o c : Nat} (hx : x < BB) (hy : y < BB) (ho : o < BB) (hc : c < BB) : c + o + x * y < BB * BB := by
  have h1 : x * y ≤ (BB - 1) * (BB - 1) := Nat.mul_le_mul (by omega) (by omega)
  have h2 : (BB - 1) * (BB - 1) + (BB - 1) + (BB - 1) + 1 = BB * BB := by unfold BB; rfl
  omega
end NumR
end Go.Proofs.YtkejdmdldhlkgaaDoor

/- 'Lim w w'': no limb has turned. -/
namespace Go.Proofs.YtkejdmdldhlkgaaDoor
open Num
open Go.ChangeShapes Go.WideShapes Go.ChangeAt Go.RowKit
set_option linter.unusedVariables false
set_option linter.unusedSimpArgs false
/-- every limb of w is there still -/
def Lim (w w' : World) : Prop := ∀ (b : Nat), typOf w b = some 64 → typOf w' b = some 64 ∧ ∀ (o : Nat) (n : Int), w.cell? ⟨b, o, none⟩ = some (.int .u32 n) → w'.cell? ⟨b, o, none⟩ = some (.int .u32 n)
section
variable {a b c w w' : World}
theorem Lim.refl (w : World) : Lim w w := fun _ h => ⟨h, fun _ _ h => h⟩
theorem Lim.trans (h : Lim a b) (k : Lim b c) : Lim a c := fun q ht => ⟨(k q (h q ht).1).1, fun o n hc => (k q (h q ht).1).2 o n ((h q ht).2 o n hc)⟩
theorem Lim.of_below (h : Below a.heap.size a b) : Lim a b := fun _ ht => ⟨typ_keep ht h, fun _ _ hc => bkeep h hc⟩
theorem Lim.below (h : Lim a b) (k : Below b.heap.size b c) : Lim a c := h.trans (.of_below k)
theorem Lim.alloc (h : Lim a b) (o : Obj) : Lim a (b.alloc o) := h.below (bal (Below.refl _ _) o)
theorem Lim.drew (h : Lim a b) : Lim a b.drew := h
theorem Lim.drewN (h : Lim a b) (n : Nat) : Lim a (b.drewN n) := h
/-- what is written is a row of another type -/
theorem Lim.grown {row : Option Nat} (h : Lim a b) (hg : b.grownBy c row) (hr : ∀ g, row = some g → typOf b g ≠ some 64) : Lim a c := h.trans fun q ht => by
  have e : c.heap[q]? = b.heap[q]? := hg.block q (typ_lt ht) fun e => hr q e.symm ht
  exact ⟨by rw [typ_of_block e]; exact ht, fun o n hc => by rw [World.cell?_of_block (w := b) e]; exact hc⟩
/-- a store into a cell that holds no limb -/
theorem Lim.put (h : Lim a b) {p : Addr} {v : Value} (hp : b.cell? p = some v) (hv : ∀ n, v ≠ .int .u32 n) (u : Value) : Lim a (b.setCell p u) := fun q ht => by
  refine ⟨by rw [typ_set]; exact (h q ht).1, fun o n hc => cell_far ((h q ht).2 o n hc) ?_ u⟩
  intro e
  rw [e, (h q ht).2 o n hc] at hp
  exact hv _ (Option.some.inj hp).symm
theorem Lim.bool (h : Lim a b) {p : Addr} {x : Bool} (hp : b.cell? p = some (.bool x)) (u : Value) : Lim a (b.setCell p u) := h.put hp (fun _ e => by cases e) u
theorem Lim.slice (h : Lim a b) {p : Addr} {x : Option Addr} {n m : Nat} (hp : b.cell? p = some (.slice x n m)) (u : Value) : Lim a (b.setCell p u) := h.put hp (fun _ e => by cases e) u
theorem C32.lim {o : Option Addr} {l : List Nat} (h : C32 a o l) (k : Lim a b) : C32 b o l := by
  rcases h with h | ⟨q, off, h1, h2⟩
  · exact .inl h
  · exact .inr ⟨q, off, h1, fun i hi => (k q h2.ty).2 _ _ (h2 i hi), (k q h2.ty).1⟩
theorem U32.lim {o : Option Addr} {cap : Nat} {l : List Nat} (h : U32 a o cap l) (k : Lim a b) : U32 b o cap l := ⟨h.1, h.2.1, h.2.2.1, h.2.2.2.lim k⟩
theorem IsInt.lim {v : Value} {z : Int} (h : IsInt a v z) (k : Lim a b) : IsInt b v z := by
  obtain ⟨neg, o, cap, l, h1, h2, h3⟩ := h
  exact ⟨neg, o, cap, l, h1, h2.lim k, h3⟩
theorem IsRef.lim {v : Value} {z : Int} (h : IsRef a v z) (k : Lim a b) : IsRef b v z := by
  obtain ⟨neg, o, cap, l, h1, h2, h3⟩ := h
  exact ⟨neg, o, cap, l, h1, h2.lim k, h3⟩
end
/-- what stays as long as no limb turns -/
def Lims (R : World → Value → Int → Prop) : Prop := ∀ w w' v z, R w v z → Lim w w' → R w' v z
theorem lims_int : Lims IsInt := fun _ _ _ _ h k => h.lim k
theorem own_typ {E : TypeId} {size n : Nat} {w0 wr : World} {v : Value} {xs : List Value} (h : OwnE E size w0 wr v n xs) {g : Nat} (hg : v.ownBlock = some g) : typOf wr g = some E := by
  rcases h.1.2 with ⟨rfl, _⟩ | ⟨g', c, cur, rfl, _, hh, _⟩
  · simp [Value.ownBlock] at hg
  · simp [Value.ownBlock] at hg
    subst hg
    unfold typOf; rw [hh]
end Go.Proofs.YtkejdmdldhlkgaaDoor

/- integer: Bits. -/
namespace Go.Proofs.YtkejdmdldhlkgaaDoor
open Num
open Go.ChangeShapes Go.WideShapes Go.ChangeAt Go.RowKit
set_option linter.unusedVariables false
set_option linter.unusedSimpArgs false
end Go.Proofs.YtkejdmdldhlkgaaDoor

