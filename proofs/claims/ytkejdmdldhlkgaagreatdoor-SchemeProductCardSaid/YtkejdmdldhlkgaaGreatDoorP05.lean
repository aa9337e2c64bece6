/- Texts of this seat, laid together: IntA, IntB, IntC, IntD, IntE, IntF, RefA, RefB, RefC, RefD, Lims, GrT. Each opens with its own remark, which says what it proves, and under which conditions. -/
import Derived.Test.YtkejdmdldhlkgaaGreatDoorP04
import Derived.Laws.AppendOwn
import Derived.Test.YtkejdmdldhlkgaaGreatDoorP02
import Derived.Deep.AppendLies
import Derived.Test.YtkejdmdldhlkgaaGreatDoorP01
import Derived.StillTail
import Derived.Deep.Quiet
set_option linter.unusedVariables false
set_option linter.unusedSimpArgs false
/- integer: numbers as values; made, Make, Of. -/
namespace Go.Proofs.YtkejdmdldhlkgaaGreatDoor
open Num
open Go.ChangeShapes Go.WideShapes Go.ChangeAt Go.RowKit
set_option linter.unusedVariables false
set_option linter.unusedSimpArgs false
namespace Num
/-- with a sign -/
def sg (neg : Bool) (n : Nat) : Int := if neg then -(n : Int) else n
theorem sg_zero (neg : Bool) : sg neg 0 = 0 := by cases neg <;> rfl
theorem sg_abs (neg : Bool) (n : Nat) : (sg neg n).natAbs = n := by cases neg <;> simp [sg]
theorem sg_mul (a b : Bool) (m n : Nat) : sg (a != b) (m * n) = sg a m * sg b n := by
  cases a <;> cases b <;> simp [sg, Int.mul_neg, Int.neg_mul]
/-- so many bits are enough -/
def Bd (k : Nat) (z : Int) : Prop := z.natAbs < 2 ^ k
theorem Bd.mul {k m : Nat} {x y : Int} (hx : Bd k x) (hy : Bd m y) : Bd (k + m) (x * y) := by
  unfold Bd at *
  rw [Int.natAbs_mul, Nat.pow_add]
  exact Nat.mul_lt_mul'' hx hy
theorem Bd.mono {k m : Nat} {x : Int} (hx : Bd k x) (h : k ≤ m) : Bd m x := Nat.lt_of_lt_of_le hx (Nat.pow_le_pow_right (by omega) h)
theorem bd_len {l : List Nat} {k : Nat} (hn : Nrm l) (h : val l < 2 ^ k) (hk : k ≤ 17179869184) : l.length ≤ 536870913 := by
  by_cases h0 : l = []
  · subst h0; simp
  · have h1 := nrm_val_pos hn h0
    rw [BB_pow] at h1
    have h2 : 32 * (l.length - 1) < k := (Nat.pow_lt_pow_iff_right (a := 2) (by omega)).1 (Nat.lt_of_le_of_lt h1 h)
    omega
end Num
/-- the value of a number, by its parts -/
def iv (neg : Bool) (a : Option Addr) (n cap : Nat) : Value := .agg #[.bool neg, .slice a n cap]
/-- a value is the number z -/
def IsInt (w : World) (v : Value) (z : Int) : Prop := ∃ neg a cap l, v = iv neg a (List.length l) cap ∧ U32 w a cap l ∧ Nrm l ∧ (neg = true → l ≠ []) ∧ z = sg neg (val l)
theorem IsInt.keep {w w' : World} {v : Value} {z : Int} (h : IsInt w v z) (hb : Below w.heap.size w w') : IsInt w' v z := by
  obtain ⟨neg, a, cap, l, h1, h2, h3, h4, h5⟩ := h
  exact ⟨neg, a, cap, l, h1, h2.keep hb, h3, h4, h5⟩
theorem addr_ne {b o b' o' : Nat} {s s' : Option Nat} (h : b ≠ b') : (⟨b, o, s⟩ : Addr) ≠ ⟨b', o', s'⟩ := fun e => h (congrArg Addr.block e)
/-- storing into a cell that holds no limb -/
theorem U32.put {w : World} {a : Option Addr} {cap : Nat} {l : List Nat} {p : Addr} {v : Value} (h : U32 w a cap l) (hp : w.cell? p = some v) (hv : ∀ n, v ≠ .int .u32 n) (u : Value) : U32 (w.setCell p u) a cap l := by
  refine ⟨h.1, h.2.1, h.2.2.1, ?_⟩
  rcases h.2.2.2 with h0 | ⟨b, off, h1, h2⟩
  · exact .inl h0
  · refine .inr ⟨b, off, h1, fun k hk => cell_far (h2 k hk) ?_ u, by rw [typ_set]; exact h2.ty⟩
    intro e
    rw [e, h2 k hk] at hp
    exact hv _ (Option.some.inj hp).symm
theorem IsInt.put {w : World} {x : Value} {z : Int} {p : Addr} {v : Value} (h : IsInt w x z) (hp : w.cell? p = some v) (hv : ∀ n, v ≠ .int .u32 n) (u : Value) : IsInt (w.setCell p u) x z := by
  obtain ⟨neg, a, cap, l, h1, h2, h3, h4, h5⟩ := h
  exact ⟨neg, a, cap, l, h1, h2.put hp hv u, h3, h4, h5⟩
theorem IsInt.put2 {w : World} {x : Value} {z : Int} {g : Nat} {b : Bool} {a : Option Addr} {n c : Nat} (h : IsInt w x z) (r0 : w.cell? ⟨g, 0, none⟩ = some (.bool b)) (r1 : w.cell? ⟨g, 1, none⟩ = some (.slice a n c)) (u v : Value) : IsInt ((w.setCell ⟨g, 0, none⟩ u).setCell ⟨g, 1, none⟩ v) x z :=
  (h.put r0 (fun _ e => by cases e) u).put (cell_far r1 (by simp) u) (fun _ e => by cases e) v

set_option maxRecDepth 100000 in
set_option maxHeartbeats 1000000 in
theorem made_c (neg : Bool) (a : Option Addr) (ca : Nat) (l : List Nat) (w : World) (ha : U32 w a ca l) (hn : Nrm l) :
    Calls Tryz.prog 72 #[.bool neg, .slice a l.length ca] w fun e w' => (∃ v, e = .returned v ∧ IsInt w' v (sg neg (val l))) ∧ Below w.heap.size w w' := by
  have key : Calls Tryz.prog 72 #[.bool neg, .slice a l.length ca] w fun e w' => e = .returned (iv (neg && decide (0 < l.length)) a l.length ca) ∧ Below w.heap.size w w' := by
    clear ha hn
    generalize hk : l.length = k
    clear hk
    cases neg with
    | false =>
      go_enter Tryz.func72, Tryz.ntmps72
      go_wp2
      refine bodyPost_ret (v := iv false a k ca) (by simp [iv, results, Tryz.results72, go_sem, *]) rfl ⟨rfl, ?_⟩
      repeat (first | exact Below.refl _ _ | exact Below.refl _ _ | refine Below.drew ?_ | refine below_drewN ?_ _ | refine bset ?_ (by simp <;> omega) _ | refine bal ?_ _)
    | true =>
      by_cases hk : 0 < k
      · have e : (0 : Int) < (k : Int) := by omega
        go_enter Tryz.func72, Tryz.ntmps72
        go_wp2
        refine bodyPost_ret (v := iv true a k ca) (by simp [iv, results, Tryz.results72, go_sem, *]) rfl ⟨by simp [hk], ?_⟩
        repeat (first | exact Below.refl _ _ | exact Below.refl _ _ | refine Below.drew ?_ | refine below_drewN ?_ _ | refine bset ?_ (by simp <;> omega) _ | refine bal ?_ _)
      · obtain rfl : k = 0 := by omega
        go_enter Tryz.func72, Tryz.ntmps72
        go_wp2
        refine bodyPost_ret (v := iv false a 0 ca) (by simp [iv, results, Tryz.results72, go_sem, *]) rfl ⟨by simp, ?_⟩
        repeat (first | exact Below.refl _ _ | exact Below.refl _ _ | refine Below.drew ?_ | refine below_drewN ?_ _ | refine bset ?_ (by simp <;> omega) _ | refine bal ?_ _)
  refine key.mono ?_
  rintro e w1 ⟨rfl, hB⟩
  refine ⟨⟨_, rfl, _, a, ca, l, rfl, ha.keep hB, hn, ?_, ?_⟩, hB⟩
  · intro h; simp at h; intro e; subst e; simp at h
  · by_cases h0 : l = []
    · subst h0; simp [sg, val]
    · have : 0 < l.length := List.length_pos_iff.2 h0
      simp [this, sg, h0]
end Go.Proofs.YtkejdmdldhlkgaaGreatDoor

/- integer: Make, Of. -/
namespace Go.Proofs.YtkejdmdldhlkgaaGreatDoor
open Num
open Go.ChangeShapes Go.WideShapes Go.ChangeAt Go.RowKit
set_option linter.unusedVariables false
set_option linter.unusedSimpArgs false

set_option maxRecDepth 100000 in
set_option maxHeartbeats 1000000 in
theorem make_c (neg : Bool) (a : Option Addr) (ca : Nat) (l : List Nat) (w : World) (ha : U32 w a ca l) (h1 : l.length ≤ 1099511627776) :
    Calls Tryz.prog 77 #[.bool neg, .slice a l.length ca] w fun e w' => (∃ v, e = .returned v ∧ IsInt w' v (sg neg (val l))) ∧ Below w.heap.size w w' := by
  have nc := fun w h => limbNorm_c a ca l w h h1
  have mc := fun a1 ca1 w h => made_c neg a1 ca1 (trimL l) w h (trim_nrm l)
  rw [val_trim] at mc
  generalize trimL l = L at *
  go_enter Tryz.func77, Tryz.ntmps77
  go_wp2_with fail
  refine (nc _ (ha.keep (bal (Below.refl _ _) _))).mono ?_
  rintro e w1 ⟨⟨a1, rfl, hu⟩, hb1⟩
  have r0 : w1.cell? ⟨w.heap.size, 0, none⟩ = some (.bool false) := bkc hb1
  have zr0 := cell_lt r0
  have r0f : w1.frozen? ⟨w.heap.size, 0, none⟩ = false := bkcf (v := .bool false) hb1
  have r1 : w1.cell? ⟨w.heap.size, 1, none⟩ = some (.slice none 0 0) := bkc hb1
  have r1f : w1.frozen? ⟨w.heap.size, 1, none⟩ = false := bkcf (v := .slice none 0 0) hb1
  have hB : Below w.heap.size w w1 := bthen (by repeat (first | exact Below.refl _ _ | exact hB | refine Below.drew ?_ | refine below_drewN ?_ _ | refine bset ?_ (by simp <;> omega) _ | refine bal ?_ _)) hb1
  have hz : w.heap.size ≤ w1.heap.size := hB.size
  clear nc
  go_wp2_with fail
  refine (mc _ _ _ hu).mono ?_
  rintro e w2 ⟨⟨v, rfl, hi⟩, hb2⟩
  have r0 : w2.cell? ⟨w.heap.size, 0, none⟩ = some (.bool false) := bkc hb2
  have zr0 := cell_lt r0
  have r0f : w2.frozen? ⟨w.heap.size, 0, none⟩ = false := bkcf (v := .bool false) hb2
  have r1 : w2.cell? ⟨w.heap.size, 1, none⟩ = some (.slice none 0 0) := bkc hb2
  have r1f : w2.frozen? ⟨w.heap.size, 1, none⟩ = false := bkcf (v := .slice none 0 0) hb2
  have hB : Below w.heap.size w w2 := bthen (by repeat (first | exact Below.refl _ _ | exact hB | refine Below.drew ?_ | refine below_drewN ?_ _ | refine bset ?_ (by simp <;> omega) _ | refine bal ?_ _)) hb2
  have hz : w.heap.size ≤ w2.heap.size := hB.size
  have HI := Lib.hid hi
  have HI2 := Lib.hid (hi.put2 r0 r1)
  obtain ⟨n2, a2, c2, l2, rfl, _, _, _, _⟩ := hi
  clear mc
  unfold iv at *
  go_wp2
  refine bodyPost_ret (v := .agg #[.bool n2, .slice a2 l2.length c2]) (by simp [results, Tryz.results77, go_sem, *]) rfl ⟨⟨_, rfl, HI2.out _ _⟩, ?_⟩
  repeat (first | exact Below.refl _ _ | exact hB | refine Below.drew ?_ | refine below_drewN ?_ _ | refine bset ?_ (by simp <;> omega) _ | refine bal ?_ _)

theorem u32_pair (w : World) (x y : Nat) (hx : x < BB) (hy : y < BB) (g : Nat) (hg : g = w.heap.size) : U32 (w.alloc (.cells #[.int .u32 (x : Int), .int .u32 (y : Int)] 104)) (some ⟨g, 0, none⟩) 2 [x, y] := by
  refine ⟨by simp, by unfold maxLen; omega, ?_, .inr ⟨g, 0, rfl, ?_, by subst hg; unfold typOf; rw [(MapKept.heap_alloc w _).1]⟩⟩
  · intro z hz; simp at hz; rcases hz with rfl | rfl <;> assumption
  · intro k hk
    rw [Nat.zero_add]
    match k, hk with
    | 0, _ => exact cell_new hg rfl
    | 1, _ => exact cell_new hg rfl
theorem val_pair (m : Nat) : val [m % BB, m / BB] = m := by
  simp only [val, Nat.mul_zero, Nat.add_zero]
  have := Nat.div_add_mod m BB
  omega

set_option maxRecDepth 100000 in
set_option maxHeartbeats 1000000 in
theorem of_c (n : Int) (w : World) (h1 : -9223372036854775808 ≤ n) (h2 : n ≤ 9223372036854775807) :
    Calls Tryz.prog 29 #[.int .i64 n] w fun e w' => (∃ v, e = .returned v ∧ IsInt w' v n) ∧ Below w.heap.size w w' := by
  obtain ⟨m, hm⟩ : ∃ m : Nat, m = n.natAbs := ⟨_, rfl⟩
  have hmB : m / BB < BB := by unfold BB; omega
  have mk := fun neg a w ha => make_c neg a 2 [m % BB, m / BB] w ha (by simp)
  rw [val_pair] at mk
  have up := fun w => u32_pair w (m % BB) (m / BB) (Nat.mod_lt _ BB_pos) hmB
  have i1 : (m : Int) % 4294967296 = ((m % BB : Nat) : Int) := by unfold BB; omega
  have i2 : (m : Int) / 4294967296 = ((m / BB : Nat) : Int) := by unfold BB; omega
  have i3 : ((m / BB : Nat) : Int) % 4294967296 = ((m / BB : Nat) : Int) := by unfold BB at *; omega
  generalize m % BB = x at *
  generalize m / BB = y at *
  by_cases h0 : n < 0
  · have e1 : IntKind.u64.wrap (-IntKind.u64.wrap n) = (m : Int) := by
      simp only [IntKind.wrap, IntKind.bits, IntKind.signed]
      simp
      omega
    have HS := Lib.hid (show sg true m = n by simp [sg]; omega)
    clear hm
    go_enter Tryz.func29, Tryz.ntmps29
    go_wp2_with fail
    refine (mk _ _ _ (up _ _ (by simp))).mono ?_
    rintro e w1 ⟨⟨v, rfl, hi⟩, hb1⟩
    have r0 : w1.cell? ⟨w.heap.size, 0, none⟩ = some (.bool false) := bkc hb1
    have zr0 := cell_lt r0
    have r0f : w1.frozen? ⟨w.heap.size, 0, none⟩ = false := bkcf (v := .bool false) hb1
    have r1 : w1.cell? ⟨w.heap.size, 1, none⟩ = some (.slice none 0 0) := bkc hb1
    have r1f : w1.frozen? ⟨w.heap.size, 1, none⟩ = false := bkcf (v := .slice none 0 0) hb1
    have hB : Below w.heap.size w w1 := bthen (by repeat (first | exact Below.refl _ _ | exact hB | refine Below.drew ?_ | refine below_drewN ?_ _ | refine bset ?_ (by simp <;> omega) _ | refine bal ?_ _)) hb1
    have hz : w.heap.size ≤ w1.heap.size := hB.size
    rw [HS.out] at hi
    have HI := Lib.hid hi
    have HI2 := Lib.hid (hi.put2 r0 r1)
    obtain ⟨n2, a2, c2, l2, rfl, _, _, _, _⟩ := hi
    clear mk up
    unfold iv at *
    go_wp2
    refine bodyPost_ret (v := .agg #[.bool n2, .slice a2 l2.length c2]) (by simp [results, Tryz.results29, go_sem, *]) rfl ⟨⟨_, rfl, HI2.out _ _⟩, ?_⟩
    repeat (first | exact Below.refl _ _ | exact hB | refine Below.drew ?_ | refine below_drewN ?_ _ | refine bset ?_ (by simp <;> omega) _ | refine bal ?_ _)
  · obtain rfl : n = m := by omega
    have HS := Lib.hid (show sg false m = m by simp [sg])
    clear hm
    go_enter Tryz.func29, Tryz.ntmps29
    go_wp2_with fail
    refine (mk _ _ _ (up _ _ (by simp))).mono ?_
    rintro e w1 ⟨⟨v, rfl, hi⟩, hb1⟩
    have r0 : w1.cell? ⟨w.heap.size, 0, none⟩ = some (.bool false) := bkc hb1
    have zr0 := cell_lt r0
    have r0f : w1.frozen? ⟨w.heap.size, 0, none⟩ = false := bkcf (v := .bool false) hb1
    have r1 : w1.cell? ⟨w.heap.size, 1, none⟩ = some (.slice none 0 0) := bkc hb1
    have r1f : w1.frozen? ⟨w.heap.size, 1, none⟩ = false := bkcf (v := .slice none 0 0) hb1
    have hB : Below w.heap.size w w1 := bthen (by repeat (first | exact Below.refl _ _ | exact hB | refine Below.drew ?_ | refine below_drewN ?_ _ | refine bset ?_ (by simp <;> omega) _ | refine bal ?_ _)) hb1
    have hz : w.heap.size ≤ w1.heap.size := hB.size
    rw [HS.out] at hi
    have HI := Lib.hid hi
    have HI2 := Lib.hid (hi.put2 r0 r1)
    obtain ⟨n2, a2, c2, l2, rfl, _, _, _, _⟩ := hi
    clear mk up
    unfold iv at *
    go_wp2
    refine bodyPost_ret (v := .agg #[.bool n2, .slice a2 l2.length c2]) (by simp [results, Tryz.results29, go_sem, *]) rfl ⟨⟨_, rfl, HI2.out _ _⟩, ?_⟩
    repeat (first | exact Below.refl _ _ | exact hB | refine Below.drew ?_ | refine below_drewN ?_ _ | refine bset ?_ (by simp <;> omega) _ | refine bal ?_ _)
end Go.Proofs.YtkejdmdldhlkgaaGreatDoor

/- integer: Mul, Times. -/
namespace Go.Proofs.YtkejdmdldhlkgaaGreatDoor
open Num
open Go.ChangeShapes Go.WideShapes Go.ChangeAt Go.RowKit
set_option linter.unusedVariables false
set_option linter.unusedSimpArgs false

theorem sg_bd {neg : Bool} {n k : Nat} (h : Bd k (sg neg n)) : n < 2 ^ k := by
  unfold Bd at h; rwa [sg_abs] at h

set_option maxRecDepth 100000 in
set_option maxHeartbeats 2000000 in
theorem mul_c (vx vy : Value) (x y : Int) (k m : Nat) (w : World) (hx : IsInt w vx x) (hy : IsInt w vy y) (bx : Bd k x) (by' : Bd m y) (hk : k ≤ 17179869184) (hm : m ≤ 17179869184) :
    Calls Tryz.prog 24 #[vx, vy] w fun e w' => (∃ v, e = .returned v ∧ IsInt w' v (x * y)) ∧ Below w.heap.size w w' := by
  obtain ⟨n1, a1, c1, l1, rfl, u1, g1, s1, rfl⟩ := hx
  obtain ⟨n2, a2, c2, l2, rfl, u2, g2, s2, rfl⟩ := hy
  have k1 := bd_len g1 (sg_bd bx) hk
  have k2 := bd_len g2 (sg_bd by') hm
  have mc := fun w h1 h2 => limbMul_c a1 a2 c1 c2 l1 l2 w h1 h2 (by omega) (by omega)
  have dc := fun a L w h hn => made_c (n1 != n2) a (List.length L) L w h hn
  rw [← sg_mul]
  clear bx by' g1 g2 s1 s2 k1 k2
  unfold iv
  have hB0 := Below.refl w.heap.size w
  go_enter Tryz.func24, Tryz.ntmps24
  go_wp2_with fail
  go_region_held3 (fun w' => w'.cell? ⟨w.heap.size, 0, none⟩ = some (.bool n1) ∧ w'.cell? ⟨w.heap.size, 1, none⟩ = some (.slice a1 l1.length c1) ∧ w'.cell? ⟨w.heap.size + 1, 0, none⟩ = some (.bool n2) ∧ w'.cell? ⟨w.heap.size + 1, 1, none⟩ = some (.slice a2 l2.length c2)) (repeat' (first | assumption | apply And.intro | exact cell_new (by simp) rfl | refine cell_alloc ?_ _ | refine cell_drew ?_ | refine cell_far ?_ (addr_ne (by omega)) _))
    (first | (go_at_call 73; refine (mc _ (u1.keep (by repeat (first | exact Below.refl _ _ | exact hB0 | refine Below.drew ?_ | refine below_drewN ?_ _ | refine bset ?_ (by simp <;> omega) _ | refine bal ?_ _))) (u2.keep (by repeat (first | exact Below.refl _ _ | exact hB0 | refine Below.drew ?_ | refine below_drewN ?_ _ | refine bset ?_ (by simp <;> omega) _ | refine bal ?_ _)))).mono ?_; rintro e w3 ⟨⟨a3, k3, L, rfl, rfl, hu, hn, hv⟩, hb3⟩; have x0 : w3.cell? ⟨w.heap.size, 0, none⟩ = some (.bool n1) := bkc hb3; have zx0 := cell_lt x0; have x1 : w3.cell? ⟨w.heap.size, 1, none⟩ = some (.slice a1 l1.length c1) := bkc hb3; have y0 : w3.cell? ⟨w.heap.size + 1, 0, none⟩ = some (.bool n2) := bkc hb3; have zy0 := cell_lt y0; have y1 : w3.cell? ⟨w.heap.size + 1, 1, none⟩ = some (.slice a2 l2.length c2) := bkc hb3; have r0 : w3.cell? ⟨w.heap.size + 2, 0, none⟩ = some (.bool false) := bkc hb3; have zr0 := cell_lt r0; have r0f : w3.frozen? ⟨w.heap.size + 2, 0, none⟩ = false := bkcf (v := .bool false) hb3; have r1 : w3.cell? ⟨w.heap.size + 2, 1, none⟩ = some (.slice none 0 0) := bkc hb3; have r1f : w3.frozen? ⟨w.heap.size + 2, 1, none⟩ = false := bkcf (v := .slice none 0 0) hb3; have hB : Below w.heap.size w w3 := bthen (by repeat (first | exact Below.refl _ _ | exact hB | refine Below.drew ?_ | refine below_drewN ?_ _ | refine bset ?_ (by simp <;> omega) _ | refine bal ?_ _)) hb3; have hz : w.heap.size ≤ w3.heap.size := hB.size) | (go_at_call 72; refine (dc _ _ _ hu hn).mono ?_; rintro e w4 ⟨⟨v, rfl, hi⟩, hb4⟩; have x0 : w4.cell? ⟨w.heap.size, 0, none⟩ = some (.bool n1) := bkc hb4; have zx0 := cell_lt x0; have x1 : w4.cell? ⟨w.heap.size, 1, none⟩ = some (.slice a1 l1.length c1) := bkc hb4; have y0 : w4.cell? ⟨w.heap.size + 1, 0, none⟩ = some (.bool n2) := bkc hb4; have zy0 := cell_lt y0; have y1 : w4.cell? ⟨w.heap.size + 1, 1, none⟩ = some (.slice a2 l2.length c2) := bkc hb4; have r0 : w4.cell? ⟨w.heap.size + 2, 0, none⟩ = some (.bool false) := bkc hb4; have zr0 := cell_lt r0; have r0f : w4.frozen? ⟨w.heap.size + 2, 0, none⟩ = false := bkcf (v := .bool false) hb4; have r1 : w4.cell? ⟨w.heap.size + 2, 1, none⟩ = some (.slice none 0 0) := bkc hb4; have r1f : w4.frozen? ⟨w.heap.size + 2, 1, none⟩ = false := bkcf (v := .slice none 0 0) hb4; have hB : Below w.heap.size w w4 := bthen (by repeat (first | exact Below.refl _ _ | exact hB | refine Below.drew ?_ | refine below_drewN ?_ _ | refine bset ?_ (by simp <;> omega) _ | refine bal ?_ _)) hb4; have hz : w.heap.size ≤ w4.heap.size := hB.size; rw [hv] at hi; have HI := Lib.hid hi; have HI2 := Lib.hid (hi.put2 r0 r1); obtain ⟨n4, a4, c4, l4, rfl, _, _, _, _⟩ := hi; unfold iv at *))
  go_wp2
  refine bodyPost_ret (v := .agg #[.bool n4, .slice a4 l4.length c4]) (by simp [results, Tryz.results24, go_sem, *]) rfl ⟨⟨_, rfl, HI2.out _ _⟩, ?_⟩
  repeat (first | exact Below.refl _ _ | exact hB | refine Below.drew ?_ | refine below_drewN ?_ _ | refine bset ?_ (by simp <;> omega) _ | refine bal ?_ _)
end Go.Proofs.YtkejdmdldhlkgaaGreatDoor

/- integer: Times, Sign, Bits. -/
namespace Go.Proofs.YtkejdmdldhlkgaaGreatDoor
open Num
open Go.ChangeShapes Go.WideShapes Go.ChangeAt Go.RowKit
set_option linter.unusedVariables false
set_option linter.unusedSimpArgs false

set_option maxRecDepth 100000 in
set_option maxHeartbeats 2000000 in
theorem times_c (vx : Value) (x c : Int) (k : Nat) (w : World) (hx : IsInt w vx x) (bx : Bd k x) (hk : k ≤ 17179869184) (h1 : -9223372036854775808 ≤ c) (h2 : c ≤ 9223372036854775807) :
    Calls Tryz.prog 59 #[vx, .int .i64 c] w fun e w' => (∃ v, e = .returned v ∧ IsInt w' v (x * c)) ∧ Below w.heap.size w w' := by
  have oc := fun w => of_c c w h1 h2
  have mc := fun vx vy w hx hy => mul_c vx vy x c k 64 w hx hy bx (by unfold Bd; omega) hk (by omega)
  have HX := Lib.hid hx
  obtain ⟨n1, a1, c1, l1, rfl, _, _, _, _⟩ := hx
  clear bx
  unfold iv at *
  have hB0 := Below.refl w.heap.size w
  go_enter Tryz.func59, Tryz.ntmps59
  go_wp2_with fail
  go_region_held3 (fun w' => w'.cell? ⟨w.heap.size, 0, none⟩ = some (.bool n1) ∧ w'.cell? ⟨w.heap.size, 1, none⟩ = some (.slice a1 l1.length c1)) (repeat' (first | assumption | apply And.intro | exact cell_new (by simp) rfl | refine cell_alloc ?_ _ | refine cell_drew ?_ | refine cell_far ?_ (addr_ne (by omega)) _))
    (first | (go_at_call 29; refine (oc _).mono ?_; rintro e w3 ⟨⟨v3, rfl, hi3⟩, hb3⟩; have x0 : w3.cell? ⟨w.heap.size, 0, none⟩ = some (.bool n1) := bkc hb3; have zx0 := cell_lt x0; have x1 : w3.cell? ⟨w.heap.size, 1, none⟩ = some (.slice a1 l1.length c1) := bkc hb3; have r0 : w3.cell? ⟨w.heap.size + 1, 0, none⟩ = some (.bool false) := bkc hb3; have zr0 := cell_lt r0; have r0f : w3.frozen? ⟨w.heap.size + 1, 0, none⟩ = false := bkcf (v := .bool false) hb3; have r1 : w3.cell? ⟨w.heap.size + 1, 1, none⟩ = some (.slice none 0 0) := bkc hb3; have r1f : w3.frozen? ⟨w.heap.size + 1, 1, none⟩ = false := bkcf (v := .slice none 0 0) hb3; have hB : Below w.heap.size w w3 := bthen (by repeat (first | exact Below.refl _ _ | exact hB | refine Below.drew ?_ | refine below_drewN ?_ _ | refine bset ?_ (by simp <;> omega) _ | refine bal ?_ _)) hb3; have hz : w.heap.size ≤ w3.heap.size := hB.size; have HI3 := Lib.hid hi3; have HB3 := Lib.hid hB; obtain ⟨n3, a3, c3, l3, rfl, _, _, _, _⟩ := hi3; unfold iv at *) | (go_at_call 24; refine (mc _ _ _ (HX.out.keep HB3.out) HI3.out).mono ?_; rintro e w4 ⟨⟨v, rfl, hi⟩, hb4⟩; have x0 : w4.cell? ⟨w.heap.size, 0, none⟩ = some (.bool n1) := bkc hb4; have zx0 := cell_lt x0; have x1 : w4.cell? ⟨w.heap.size, 1, none⟩ = some (.slice a1 l1.length c1) := bkc hb4; have r0 : w4.cell? ⟨w.heap.size + 1, 0, none⟩ = some (.bool false) := bkc hb4; have zr0 := cell_lt r0; have r0f : w4.frozen? ⟨w.heap.size + 1, 0, none⟩ = false := bkcf (v := .bool false) hb4; have r1 : w4.cell? ⟨w.heap.size + 1, 1, none⟩ = some (.slice none 0 0) := bkc hb4; have r1f : w4.frozen? ⟨w.heap.size + 1, 1, none⟩ = false := bkcf (v := .slice none 0 0) hb4; have hB : Below w.heap.size w w4 := bthen (by repeat (first | exact Below.refl _ _ | exact hB | refine Below.drew ?_ | refine below_drewN ?_ _ | refine bset ?_ (by simp <;> omega) _ | refine bal ?_ _)) hb4; have hz : w.heap.size ≤ w4.heap.size := hB.size; have HI := Lib.hid hi; have HI2 := Lib.hid (hi.put2 r0 r1); obtain ⟨n4, a4, c4, l4, rfl, _, _, _, _⟩ := hi; unfold iv at *))
  go_wp2
  refine bodyPost_ret (v := .agg #[.bool n4, .slice a4 l4.length c4]) (by simp [results, Tryz.results59, go_sem, *]) rfl ⟨⟨_, rfl, HI2.out _ _⟩, ?_⟩
  repeat (first | exact Below.refl _ _ | exact hB | refine Below.drew ?_ | refine below_drewN ?_ _ | refine bset ?_ (by simp <;> omega) _ | refine bal ?_ _)

theorem sg_sign {neg : Bool} {l : List Nat} (hn : Nrm l) (hs : neg = true → l ≠ []) : (sg neg (val l)).sign = if l.length = 0 then 0 else if neg then -1 else 1 := by
  by_cases h0 : l = []
  · subst h0; cases neg <;> simp [sg, val]
  · have h1 : 0 < val l := Nat.pos_of_ne_zero (fun e => h0 ((val_nil_iff hn).1 e))
    have h2 : l.length ≠ 0 := by simpa using h0
    rw [if_neg h2]
    cases neg with
    | true => simp only [sg, if_true]; rw [Int.sign_neg, Int.sign_eq_one_of_pos (by omega)]
    | false => simp only [sg]; exact Int.sign_eq_one_of_pos (by simp; omega)

set_option maxRecDepth 100000 in
set_option maxHeartbeats 1000000 in
theorem sign_c (vx : Value) (x : Int) (w : World) (hx : IsInt w vx x) :
    Calls Tryz.prog 26 #[vx] w fun e w' => e = .returned (.int .i64 x.sign) ∧ Below w.heap.size w w' := by
  obtain ⟨n1, a1, c1, l1, rfl, u1, g1, s1, rfl⟩ := hx
  have HS := Lib.hid (sg_sign g1 s1)
  generalize (sg n1 (val l1)).sign = z at *
  clear g1 s1 u1
  unfold iv
  generalize hk : l1.length = k at *
  clear hk
  have hB0 := Below.refl w.heap.size w
  cases k with
  | zero =>
    go_enter Tryz.func26, Tryz.ntmps26
    go_wp2
    go_ret
    refine ⟨by rw [HS.out]; rfl, ?_⟩
    repeat (first | exact Below.refl _ _ | exact hB0 | refine Below.drew ?_ | refine below_drewN ?_ _ | refine bset ?_ (by simp <;> omega) _ | refine bal ?_ _)
  | succ k =>
    cases n1 with
    | true =>
      go_enter Tryz.func26, Tryz.ntmps26
      go_wp2
      go_ret
      refine ⟨by rw [HS.out]; rfl, ?_⟩
      repeat (first | exact Below.refl _ _ | exact hB0 | refine Below.drew ?_ | refine below_drewN ?_ _ | refine bset ?_ (by simp <;> omega) _ | refine bal ?_ _)
    | false =>
      go_enter Tryz.func26, Tryz.ntmps26
      go_wp2
      go_ret
      refine ⟨by rw [HS.out]; rfl, ?_⟩
      repeat (first | exact Below.refl _ _ | exact hB0 | refine Below.drew ?_ | refine below_drewN ?_ _ | refine bset ?_ (by simp <;> omega) _ | refine bal ?_ _)
end Go.Proofs.YtkejdmdldhlkgaaGreatDoor

/- integer: Cmp. -/
namespace Go.Proofs.YtkejdmdldhlkgaaGreatDoor
open Num
open Go.ChangeShapes Go.WideShapes Go.ChangeAt Go.RowKit
set_option linter.unusedVariables false
set_option linter.unusedSimpArgs false
namespace Num
/-- less, like, more -/
def cmpI (x y : Int) : Int := if x < y then -1 else if x = y then 0 else 1
theorem cmpI_nn (m n : Nat) : cmpI (sg true m) (sg true n) = cmpN n m := by
  simp only [cmpI, cmpN, sg, if_true]
  (repeat' split) <;> first | rfl | omega
theorem cmpI_pp (m n : Nat) : cmpI (sg false m) (sg false n) = cmpN m n := by
  have e : ∀ k : Nat, sg false k = (k : Int) := fun _ => rfl
  rw [e, e]
  unfold cmpI cmpN
  (repeat' split) <;> first | rfl | omega
theorem cmpI_np (m n : Nat) (h : 0 < m) : cmpI (sg true m) (sg false n) = -1 := by
  have e : sg false n = (n : Int) := rfl
  have e' : sg true m = -(m : Int) := rfl
  rw [e, e']
  unfold cmpI; rw [if_pos (by omega)]
theorem cmpI_pn (m n : Nat) (h : 0 < n) : cmpI (sg false m) (sg true n) = 1 := by
  have e : sg false m = (m : Int) := rfl
  have e' : sg true n = -(n : Int) := rfl
  rw [e, e']
  unfold cmpI; rw [if_neg (by omega), if_neg (by omega)]
end Num

set_option maxRecDepth 100000 in
set_option maxHeartbeats 1000000 in
theorem cmp_c (vx vy : Value) (x y : Int) (w : World) (hx : IsInt w vx x) (hy : IsInt w vy y) :
    Calls Tryz.prog 25 #[vx, vy] w fun e w' => e = .returned (.int .i64 (cmpI x y)) ∧ Below w.heap.size w w' := by
  obtain ⟨n1, a1, c1, l1, rfl, u1, g1, s1, rfl⟩ := hx
  obtain ⟨n2, a2, c2, l2, rfl, u2, g2, s2, rfl⟩ := hy
  have hB0 := Below.refl w.heap.size w
  unfold iv
  cases n1 with
  | true =>
    have p1 : 0 < val l1 := Nat.pos_of_ne_zero (fun e => s1 rfl ((val_nil_iff g1).1 e))
    cases n2 with
    | true =>
      have HC := Lib.hid (cmpI_nn (val l1) (val l2))
      have cc := fun w hx hy => limbCmp_c a2 a1 c2 c1 l2 l1 w hx hy
      generalize cmpN (val l2) (val l1) = z at *
      clear g1 g2 s1 s2 p1
      go_enter Tryz.func25, Tryz.ntmps25
      go_wp2_with (go_at_call 74; refine (cc _ (u2.keep (by repeat (first | exact Below.refl _ _ | exact hB0 | refine Below.drew ?_ | refine below_drewN ?_ _ | refine bset ?_ (by simp <;> omega) _ | refine bal ?_ _))) (u1.keep (by repeat (first | exact Below.refl _ _ | exact hB0 | refine Below.drew ?_ | refine below_drewN ?_ _ | refine bset ?_ (by simp <;> omega) _ | refine bal ?_ _)))).mono ?_; rintro e w1 ⟨rfl, hb1⟩)
      go_ret
      refine ⟨by rw [HC.out]; rfl, ?_⟩
      refine bthen ?_ hb1
      repeat (first | exact Below.refl _ _ | exact hB0 | refine Below.drew ?_ | refine below_drewN ?_ _ | refine bset ?_ (by simp <;> omega) _ | refine bal ?_ _)
    | false =>
      have HC := Lib.hid (cmpI_np (val l1) (val l2) p1)
      clear g1 g2 s1 s2 p1
      go_enter Tryz.func25, Tryz.ntmps25
      go_wp2
      go_ret
      refine ⟨by rw [HC.out]; rfl, ?_⟩
      repeat (first | exact Below.refl _ _ | exact hB0 | refine Below.drew ?_ | refine below_drewN ?_ _ | refine bset ?_ (by simp <;> omega) _ | refine bal ?_ _)
  | false =>
    cases n2 with
    | true =>
      have p2 : 0 < val l2 := Nat.pos_of_ne_zero (fun e => s2 rfl ((val_nil_iff g2).1 e))
      have HC := Lib.hid (cmpI_pn (val l1) (val l2) p2)
      clear g1 g2 s1 s2 p2
      go_enter Tryz.func25, Tryz.ntmps25
      go_wp2
      go_ret
      refine ⟨by rw [HC.out]; rfl, ?_⟩
      repeat (first | exact Below.refl _ _ | exact hB0 | refine Below.drew ?_ | refine below_drewN ?_ _ | refine bset ?_ (by simp <;> omega) _ | refine bal ?_ _)
    | false =>
      have HC := Lib.hid (cmpI_pp (val l1) (val l2))
      have cc := fun w hx hy => limbCmp_c a1 a2 c1 c2 l1 l2 w hx hy
      generalize cmpN (val l1) (val l2) = z at *
      clear g1 g2 s1 s2
      go_enter Tryz.func25, Tryz.ntmps25
      go_wp2_with (go_at_call 74; refine (cc _ (u1.keep (by repeat (first | exact Below.refl _ _ | exact hB0 | refine Below.drew ?_ | refine below_drewN ?_ _ | refine bset ?_ (by simp <;> omega) _ | refine bal ?_ _))) (u2.keep (by repeat (first | exact Below.refl _ _ | exact hB0 | refine Below.drew ?_ | refine below_drewN ?_ _ | refine bset ?_ (by simp <;> omega) _ | refine bal ?_ _)))).mono ?_; rintro e w1 ⟨rfl, hb1⟩)
      go_ret
      refine ⟨by rw [HC.out]; rfl, ?_⟩
      refine bthen ?_ hb1
      repeat (first | exact Below.refl _ _ | exact hB0 | refine Below.drew ?_ | refine below_drewN ?_ _ | refine bset ?_ (by simp <;> omega) _ | refine bal ?_ _)
end Go.Proofs.YtkejdmdldhlkgaaGreatDoor

/- slices.Clone at limbs; integer: Limbs. -/
namespace Go.Proofs.YtkejdmdldhlkgaaGreatDoor
open Num
open Go.ChangeShapes Go.WideShapes Go.ChangeAt Go.RowKit
set_option linter.unusedVariables false
set_option linter.unusedSimpArgs false

end Go.Proofs.YtkejdmdldhlkgaaGreatDoor

/- The reference's numbers (digits to the base 65536): norm, Of, Make, Sign. -/
namespace Go.Proofs.YtkejdmdldhlkgaaGreatDoor
open Num
open Go.ChangeShapes Go.WideShapes Go.ChangeAt Go.RowKit
set_option linter.unusedVariables false
set_option linter.unusedSimpArgs false

/-- a value is the reference's number z -/
def IsRef (w : World) (v : Value) (z : Int) : Prop := ∃ neg a cap l, v = iv neg a (List.length l) cap ∧ U32 w a cap l ∧ NumR.Limbs l ∧ Nrm l ∧ (neg = true → l ≠ []) ∧ z = sg neg (NumR.val l)
theorem IsRef.keep {w w' : World} {v : Value} {z : Int} (h : IsRef w v z) (hb : Below w.heap.size w w') : IsRef w' v z := by
  obtain ⟨neg, a, cap, l, h1, h2, h3⟩ := h
  exact ⟨neg, a, cap, l, h1, h2.keep hb, h3⟩
theorem IsRef.put {w : World} {x : Value} {z : Int} {p : Addr} {v : Value} (h : IsRef w x z) (hp : w.cell? p = some v) (hv : ∀ n, v ≠ .int .u32 n) (u : Value) : IsRef (w.setCell p u) x z := by
  obtain ⟨neg, a, cap, l, h1, h2, h3⟩ := h
  exact ⟨neg, a, cap, l, h1, h2.put hp hv u, h3⟩
theorem IsRef.put2 {w : World} {x : Value} {z : Int} {g : Nat} {b : Bool} {a : Option Addr} {n c : Nat} (h : IsRef w x z) (r0 : w.cell? ⟨g, 0, none⟩ = some (.bool b)) (r1 : w.cell? ⟨g, 1, none⟩ = some (.slice a n c)) (u v : Value) : IsRef ((w.setCell ⟨g, 0, none⟩ u).setCell ⟨g, 1, none⟩ v) x z :=
  (h.put r0 (fun _ e => by cases e) u).put (cell_far r1 (by simp) u) (fun _ e => by cases e) v
theorem U32.cap {w : World} {a : Option Addr} {cap : Nat} {l m : List Nat} (h : U32 w a cap l) (hp : m <+: l) : U32 w a cap m :=
  ⟨Nat.le_trans hp.length_le h.1, h.2.1, fun x hx => h.2.2.1 x (hp.subset hx), h.2.2.2.take hp⟩

end Go.Proofs.YtkejdmdldhlkgaaGreatDoor

/- The reference's numbers: Of, Make. -/
namespace Go.Proofs.YtkejdmdldhlkgaaGreatDoor
open Num
open Go.ChangeShapes Go.WideShapes Go.ChangeAt Go.RowKit
set_option linter.unusedVariables false
set_option linter.unusedSimpArgs false
namespace NumR
end NumR
theorem w32 {x : Nat} (h : x < BB) : IntKind.u32.wrap (x : Int) = (x : Int) := by
  unfold BB at h
  simp only [IntKind.wrap, IntKind.bits, IntKind.signed]
  simp
  omega
end Go.Proofs.YtkejdmdldhlkgaaGreatDoor

/- The reference's numbers: size, Sign, Cmp, Same. -/
namespace Go.Proofs.YtkejdmdldhlkgaaGreatDoor
open Num
open Go.ChangeShapes Go.WideShapes Go.ChangeAt Go.RowKit
set_option linter.unusedVariables false
set_option linter.unusedSimpArgs false

namespace Num
end Num

namespace Num
theorem cmpI_zero {x y : Int} : (cmpI x y == 0) = decide (x = y) := by
  unfold cmpI
  (repeat' split) <;> simp <;> omega
end Num
end Go.Proofs.YtkejdmdldhlkgaaGreatDoor

/- The reference's numbers: Mul. -/
namespace Go.Proofs.YtkejdmdldhlkgaaGreatDoor
open Num
open Go.ChangeShapes Go.WideShapes Go.ChangeAt Go.RowKit
set_option linter.unusedVariables false
set_option linter.unusedSimpArgs false
namespace NumR
theorem step_lt {x y o c : Nat} (hx : x < BB) (hy : y < BB) (ho : o < BB) (hc : c < BB) : c + o + x * y < BB * BB := by
  have h1 : x * y ≤ (BB - 1) * (BB - 1) := Nat.mul_le_mul (by omega) (by omega)
  have h2 : (BB - 1) * (BB - 1) + (BB - 1) + (BB - 1) + 1 = BB * BB := by unfold BB; rfl
  omega
end NumR
end Go.Proofs.YtkejdmdldhlkgaaGreatDoor

/- 'Lim w w'': no limb has turned. -/
namespace Go.Proofs.YtkejdmdldhlkgaaGreatDoor
open Num
open Go.ChangeShapes Go.WideShapes Go.ChangeAt Go.RowKit
set_option linter.unusedVariables false
set_option linter.unusedSimpArgs false
/-- every limb of w is there still -/
def Lim (w w' : World) : Prop := ∀ (b : Nat), typOf w b = some 104 → typOf w' b = some 104 ∧ ∀ (o : Nat) (n : Int), w.cell? ⟨b, o, none⟩ = some (.int .u32 n) → w'.cell? ⟨b, o, none⟩ = some (.int .u32 n)
section
variable {a b c w w' : World}
theorem Lim.refl (w : World) : Lim w w := fun _ h => ⟨h, fun _ _ h => h⟩
theorem Lim.trans (h : Lim a b) (k : Lim b c) : Lim a c := fun q ht => ⟨(k q (h q ht).1).1, fun o n hc => (k q (h q ht).1).2 o n ((h q ht).2 o n hc)⟩
theorem Lim.of_below (h : Below a.heap.size a b) : Lim a b := fun _ ht => ⟨typ_keep ht h, fun _ _ hc => bkeep h hc⟩
theorem Lim.below (h : Lim a b) (k : Below b.heap.size b c) : Lim a c := h.trans (.of_below k)
theorem Lim.alloc (h : Lim a b) (o : Obj) : Lim a (b.alloc o) := h.below (bal (Below.refl _ _) o)
theorem Lim.drew (h : Lim a b) : Lim a b.drew := h
theorem Lim.drewN (h : Lim a b) (n : Nat) : Lim a (b.drewN n) := h
/-- what is written is a row of another type -/
theorem Lim.grown {row : Option Nat} (h : Lim a b) (hg : b.grownBy c row) (hr : ∀ g, row = some g → typOf b g ≠ some 104) : Lim a c := h.trans fun q ht => by
  have e : c.heap[q]? = b.heap[q]? := hg.block q (typ_lt ht) fun e => hr q e.symm ht
  exact ⟨by rw [typ_of_block e]; exact ht, fun o n hc => by rw [World.cell?_of_block (w := b) e]; exact hc⟩
/-- a store into a cell that holds no limb -/
theorem Lim.put (h : Lim a b) {p : Addr} {v : Value} (hp : b.cell? p = some v) (hv : ∀ n, v ≠ .int .u32 n) (u : Value) : Lim a (b.setCell p u) := fun q ht => by
  refine ⟨by rw [typ_set]; exact (h q ht).1, fun o n hc => cell_far ((h q ht).2 o n hc) ?_ u⟩
  intro e
  rw [e, (h q ht).2 o n hc] at hp
  exact hv _ (Option.some.inj hp).symm
theorem Lim.bool (h : Lim a b) {p : Addr} {x : Bool} (hp : b.cell? p = some (.bool x)) (u : Value) : Lim a (b.setCell p u) := h.put hp (fun _ e => by cases e) u
theorem Lim.slice (h : Lim a b) {p : Addr} {x : Option Addr} {n m : Nat} (hp : b.cell? p = some (.slice x n m)) (u : Value) : Lim a (b.setCell p u) := h.put hp (fun _ e => by cases e) u
theorem C32.lim {o : Option Addr} {l : List Nat} (h : C32 a o l) (k : Lim a b) : C32 b o l := by
  rcases h with h | ⟨q, off, h1, h2⟩
  · exact .inl h
  · exact .inr ⟨q, off, h1, fun i hi => (k q h2.ty).2 _ _ (h2 i hi), (k q h2.ty).1⟩
theorem U32.lim {o : Option Addr} {cap : Nat} {l : List Nat} (h : U32 a o cap l) (k : Lim a b) : U32 b o cap l := ⟨h.1, h.2.1, h.2.2.1, h.2.2.2.lim k⟩
theorem IsInt.lim {v : Value} {z : Int} (h : IsInt a v z) (k : Lim a b) : IsInt b v z := by
  obtain ⟨neg, o, cap, l, h1, h2, h3⟩ := h
  exact ⟨neg, o, cap, l, h1, h2.lim k, h3⟩
theorem IsRef.lim {v : Value} {z : Int} (h : IsRef a v z) (k : Lim a b) : IsRef b v z := by
  obtain ⟨neg, o, cap, l, h1, h2, h3⟩ := h
  exact ⟨neg, o, cap, l, h1, h2.lim k, h3⟩
end
/-- what stays as long as no limb turns -/
def Lims (R : World → Value → Int → Prop) : Prop := ∀ w w' v z, R w v z → Lim w w' → R w' v z
theorem lims_int : Lims IsInt := fun _ _ _ _ h k => h.lim k
theorem lims_ref : Lims IsRef := fun _ _ _ _ h k => h.lim k
theorem own_typ {E : TypeId} {size n : Nat} {w0 wr : World} {v : Value} {xs : List Value} (h : OwnE E size w0 wr v n xs) {g : Nat} (hg : v.ownBlock = some g) : typOf wr g = some E := by
  rcases h.1.2 with ⟨rfl, _⟩ | ⟨g', c, cur, rfl, _, hh, _⟩
  · simp [Value.ownBlock] at hg
  · simp [Value.ownBlock] at hg
    subst hg
    unfold typOf; rw [hh]
end Go.Proofs.YtkejdmdldhlkgaaGreatDoor

/- A region that draws its order: a head whose calls answer what their arguments say and only make memory, and a tail whose order is forced: one walk. -/
namespace Go.Proofs.YtkejdmdldhlkgaaGreatDoor
open Go.ChangeShapes Go.WideShapes Go.ChangeAt Go.RowKit
set_option linter.unusedVariables false
set_option linter.unusedSimpArgs false
section
variable {P : Program} {ops : Array Oper} {md : Region.Mode} {C : World → Prop}
/-- whatever is picked of the head's operations, each quiet in the class; then L -/
def headQ (P : Program) (md : Region.Mode) (ops : Array Oper) (C : World → Prop) (n : Nat) (L : Array Bool → Act → Prop) : Nat → Array Bool → Act → Prop
  | 0, ls, a => L ls a
  | f + 1, ls, a => Region.ready md ops ls ≠ [] ∧ ∀ i ∈ Region.ready md ops ls, i < n ∧ qOp P ops C i (headQ P md ops C n L f (ls.setIfInBounds i true)) a
theorem headQ_any {n g : Nat} {L : Array Bool → Act → Prop} {Q : Exit → Act → World → Prop} (hL : ∀ ls a w, C w → L ls a → wpAny P md ops Q g ls a w) :
    ∀ (f : Nat) (ls : Array Bool) (a : Act) (w : World), C w → headQ P md ops C n L f ls a → wpAny P md ops Q (f + g) ls a w := by
  intro f
  induction f with
  | zero => intro ls a w hw h; rw [Nat.zero_add]; exact hL _ _ _ hw h
  | succ f ih =>
    intro ls a w hw h
    rw [Nat.add_right_comm]
    exact ⟨fun h0 => absurd h0 h.1, fun i hi => wpOp_of_qOp hw (fun a' w' hw' k => ih _ a' w' hw' k) (h.2 i hi).2⟩
theorem headQ_first {n i : Nat} {oi : Oper} {v : Value} {L : Array Bool → Act → Prop} (hi : ops[i]? = some oi) (hsel : ∀ (j : Nat) (o : Oper) cs b, ops[j]? = some o → o.op ≠ .select cs b)
    (hs : Region.sinkB md ops n = true) (hc : Region.chainB md ops n = true) (hn : n < ops.size) (hin : i < n) (hdone : ∀ ls a, L ls a → ∀ j ∈ Region.ready md ops ls, n ≤ j) :
    ∀ (f : Nat) (ls : Array Bool) (a : Act), HeadInv md ops n ls →
      (∀ j oj, ops[j]? = some oj → j ≠ i → ls.getD j true = false → (∀ e ∈ oj.after, Region.binds md e = true → e.on ≠ i) → oi.apart ops oj = true) →
      i ∈ Region.ready md ops ls → YieldsIn P ops C oi v a → headQ P md ops C n L f (ls.setIfInBounds i true) (a.put oi.dst v) → headQ P md ops C n L (f + 1) ls a := by
  have below : ∀ ls, HeadInv md ops n ls → i ∈ Region.ready md ops ls → ∀ j ∈ Region.ready md ops ls, j < n := fun ls inv hr j hj => by
    apply Nat.lt_of_not_le
    intro hge
    exact tail_waits hs hc hn inv _ i rfl hin (mem_ready.1 hr).1 j hge hj
  intro f
  induction f with
  | zero =>
    intro ls a inv _ hr hy H
    refine ⟨fun h => (by rw [h] at hr; cases hr), fun j hj => ⟨below ls inv hr j hj, ?_⟩⟩
    by_cases e : j = i
    · subst e; exact hy.qOp hi H
    · have h1 := hdone _ _ H j (ready_mono hj e)
      have h2 := below ls inv hr j hj
      omega
  | succ f ih =>
    intro ls a inv hfree hr hy H
    refine ⟨fun h => (by rw [h] at hr; cases hr), fun j hj => ⟨below ls inv hr j hj, ?_⟩⟩
    by_cases e : j = i
    · subst e; exact hy.qOp hi H
    · have hjn := below ls inv hr j hj
      have h1 := (H.2 j (ready_mono hj e)).2
      obtain ⟨hjun, oj, hoj, hall⟩ := mem_ready.1 hj
      have hno : ∀ d ∈ oj.after, Region.binds md d = true → d.on ≠ i := fun d hd hb he => by
        have h2 := hall d hd hb
        rw [he, getD_both (mem_ready.1 hr).1] at h2
        cases h2
      have h2 := qOp_put hoj (hfree j oj hoj e hjun hno) (fun cs b => hsel i oi cs b hi) (fun cs b => hsel j oj cs b hoj) hy h1
      refine qOp_mono (fun a' h3 => ih (ls.setIfInBounds j true) a' (inv.set hj hjn) (fun k ok hk hki hun hnk => hfree k ok hk hki ?_ hnk) (ready_mono hr (Ne.symm e)) h3.1 (by rw [Array.setIfInBounds_comm _ _ e]; exact h3.2)) h2
      by_cases hjk : j = k
      · subst hjk; exact hjun
      · rw [getD_set_ne true hjk] at hun; exact hun
theorem headQ_lex {n g : Nat} {Lq : Act → Prop} (hsel : Region.noSelect ops = true) (hs : Region.sinkB md ops n = true) (hc : Region.chainB md ops n = true) (hn : n < ops.size) :
    ∀ (l : List Oper) (k : Nat) (ls : Array Bool) (a : Act), (∀ j, j < l.length → l[j]? = ops[k + j]?) → k + l.length = n → HeadInv md ops n ls →
    Region.lexHead md ops g l.length k ls = true → wpQuiet P ops C Lq l a → headQ P md ops C n (fun ls' a' => Region.seqB md ops g n ls' = true ∧ Lq a') l.length ls a := by
  intro l
  induction l with
  | nil =>
    intro k ls a _ hk _ hB h
    have e : k = n := by simpa using hk
    subst e
    exact ⟨by simpa [Region.lexHead] using hB, h⟩
  | cons o l ih =>
    intro k ls a hl hk inv hB h
    have h0 : ops[k]? = some o := by simpa using (hl 0 (by simp)).symm
    simp only [List.length_cons, Region.lexHead, Bool.and_eq_true] at hB
    have hkn : k < n := by simp only [List.length_cons] at hk; omega
    have hr : k ∈ Region.ready md ops ls := by simpa using hB.1.1
    have hq : qOp P ops C k (wpQuiet P ops C Lq l) a := by unfold qOp; simp only [h0]; exact h
    obtain ⟨v, hy, hK⟩ := yieldsIn_of_qOp h0 hq
    refine headQ_first h0 (Region.noSelect_spec hsel) hs hc hn hkn (fun ls' a' hL => seqB_ready hL.1) l.length ls a inv (Region.free_spec h0 hB.1.2) hr hy ?_
    exact ih (k + 1) _ _ (fun j hj => by have := hl (j + 1) (by simp; omega); simpa [Nat.add_assoc, Nat.add_comm 1 j] using this) (by simp only [List.length_cons] at hk; omega) (inv.set hr hkn) hB.2 hK
end
/-- the law: a quiet head, n operations, in a class of worlds; a tail in one order -/
theorem wp_region_quiet_tail {P : Program} {C : World → Prop} {id : Nat} {Q : Exit → Act → World → Prop} {a : Act} {w : World} {l : List Oper} (n : Nat) (hm : P.follows .mixedOrders = true) (hB : Region.lexTailB .any l.toArray n = true) (hC : C { w with drawn := w.drawn + 1 })
    (h : wpQuiet P l.toArray C (fun a' => ∀ w', C w' → wpList P l.toArray Q (l.drop n) a' w') (l.take n) a) : (Code.region id l.toArray true).wp P Q a w := by
  simp only [Region.lexTailB, Bool.and_eq_true, decide_eq_true_eq] at hB
  obtain ⟨⟨⟨⟨hsel, hn⟩, hs⟩, hc⟩, hlex⟩ := hB
  have hn' : n < l.length := by simpa using hn
  have ht : (l.take n).length = n := by rw [List.length_take]; omega
  have hd : (l.drop n).length = l.toArray.size - n := by simp
  have inv0 : HeadInv .any l.toArray n (Array.replicate l.toArray.size false) :=
    ⟨by simp, fun j oj _ hl => (by rw [getD_replicate_false] at hl; cases hl), fun t _ k => getD_in (by simpa using k) (getD_replicate_false _ _)⟩
  have H := headQ_lex (md := .any) (g := l.toArray.size - n) hsel hs hc hn (l.take n) 0 _ a (fun j hj => by
    have hj' : j < n := by rw [ht] at hj; exact hj
    simp [hj']) (by simpa using ht) inv0 (by rw [ht]; exact hlex) h
  refine wp_region_any hm ?_
  have := headQ_any (Q := Q) (g := l.toArray.size - n) (fun ls a' w' hw' hL => by
    have := wpAny_of_seq (md := .any) (Q' := Q) (l.drop n) n ls a' w' (fun j => by simp [List.getElem?_drop]) (by rw [hd]; exact hL.1) (hL.2 w' hw')
    rwa [hd] at this) _ _ _ _ hC H
  rw [ht, show n + (l.toArray.size - n) = l.toArray.size by omega] at this
  exact this
/-- the head's worlds grow -/
theorem wp_region_grow_tail {P : Program} {id : Nat} {Q : Exit → Act → World → Prop} {a : Act} {w : World} {l : List Oper} (n : Nat) (hm : P.follows .mixedOrders = true) (hB : Region.lexTailB .any l.toArray n = true)
    (h : wpQuiet P l.toArray (fun w' => ∃ s, w' = grow w s) (fun a' => ∀ w', Below w.heap.size w w' → wpList P l.toArray Q (l.drop n) a' w') (l.take n) a) : (Code.region id l.toArray true).wp P Q a w := by
  have e : (fun a' => ∀ w', Below w.heap.size w w' → wpList P l.toArray Q (l.drop n) a' w') = (fun a' => ∀ w', (∃ s, w' = grow w s) → wpList P l.toArray Q (l.drop n) a' w') := by
    funext a'
    exact propext ⟨fun h w' ⟨s, hs⟩ => h w' (hs ▸ s.below), fun h w' hb => h w' ⟨⟨w', hb⟩, rfl⟩⟩
  rw [e] at h
  exact wp_region_quiet_tail (C := fun w' => ∃ s, w' = grow w s) n hm hB ⟨⟨w.drew, (Below.refl _ _).drew⟩, rfl⟩ h
end Go.Proofs.YtkejdmdldhlkgaaGreatDoor

