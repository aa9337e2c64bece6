/- Texts of this seat, laid together: IntH, LimbF, LimbG, LimbH, IntI, PrgD, PrgE, PrgF. What each theorem proves, and under which conditions, its statement says. -/
import Derived.Test.YtbmaffijncapiaaGreatDoorB04
import Derived.Laws.BitsAllLaws
set_option maxRecDepth 100000
set_option maxHeartbeats 32000000
set_option linter.unusedVariables false
set_option linter.unusedSimpArgs false
namespace Go.Proofs.YtbmaffijncapiaaGreatDoor
open Num
open Go.ChangeShapes Go.WideShapes Go.ChangeAt Go.RowKit
namespace Num
theorem sg_not (neg : Bool) (n : Nat) : sg (!neg) n = -sg neg n := by cases neg <;> simp [sg]
theorem Bd.neg {k : Nat} {x : Int} (h : Bd k x) : Bd k (-x) := by unfold Bd at *; rwa [Int.natAbs_neg]
theorem Bd.add {k : Nat} {x y : Int} (hx : Bd k x) (hy : Bd k y) : Bd (k + 1) (x + y) := by
 unfold Bd at *
 have := Int.natAbs_add_le x y
 rw [Nat.pow_succ]; omega
theorem sg_add (s : Bool) (m n : Nat) : sg s (m + n) = sg s m + sg s n := by cases s <;> simp [sg] <;> omega
theorem sg_sub_ge (s : Bool) (m n : Nat) (h : n ≤ m) : sg s (m - n) = sg s m + sg (!s) n := by cases s <;> simp [sg] <;> omega
theorem sg_sub_lt (s : Bool) (m n : Nat) (h : m ≤ n) : sg (!s) (n - m) = sg s m + sg (!s) n := by cases s <;> simp [sg] <;> omega
theorem cmpN_neg {x y : Nat} : (decide (cmpN x y < 0)) = decide (x < y) := by
 unfold cmpN
 by_cases h : x < y
 · rw [if_pos h]; simp [h]
 · rw [if_neg h]; split <;> simp [h]
end Num

theorem neg_c (vx : Value) (x : Int) (w : World) (hx : IsInt w vx x) :
 Calls Tryz.prog 160 #[vx] w fun e w' => (∃ v, e = .returned v ∧ IsInt w' v (-x)) ∧ Below w.heap.size w w' := by
 obtain ⟨n1, a1, c1, l1, rfl, u1, g1, s1, rfl⟩ := hx
 have mc := fun w h => made_c (!n1) a1 c1 l1 w h g1
 rw [sg_not] at mc
 clear s1 g1
 unfold iv
 have hB0 := Below.refl w.heap.size w
 go_enter Tryz.func160, Tryz.ntmps160
 go_wp2_with fail
 refine (mc _ (u1.keep bZ)).mono ?_
 rintro e w1 ⟨⟨v, rfl, hi⟩, hb1⟩
 have r0 : w1.cell? ⟨w.heap.size + 1, 0, none⟩ = some (.bool false) := bkc hb1
 have zr0 := cell_lt r0
 have r0f : w1.frozen? ⟨w.heap.size + 1, 0, none⟩ = false := bkcf (v := .bool false) hb1
 have r1 : w1.cell? ⟨w.heap.size + 1, 1, none⟩ = some (.slice none 0 0) := bkc hb1
 have r1f : w1.frozen? ⟨w.heap.size + 1, 1, none⟩ = false := bkcf (v := .slice none 0 0) hb1
 have hB : Below w.heap.size w w1 := bthen bZ hb1
 have hz := hB.size
 have HI2 := hZ (hi.put2 r0 r1)
 obtain ⟨n4, a4, c4, l4, rfl, _, _, _, _⟩ := hi
 unfold iv at *
 go_wp2
 refine bodyPost_ret (v := .agg #[.bool n4, .slice a4 l4.length c4]) (by simp [results, Tryz.results160, go_sem, *]) rfl ⟨⟨_, rfl, HI2.out _ _⟩, ?_⟩
 repeat exact bZ




theorem addI_c (vx vy : Value) (x y : Int) (k : Nat) (w : World) (hx : IsInt w vx x) (hy : IsInt w vy y) (bx : Bd k x) (by' : Bd k y) (hk : k ≤ 17179869184) :
 Calls Tryz.prog 37 #[vx, vy] w fun e w' => (∃ v, e = .returned v ∧ IsInt w' v (x + y)) ∧ Below w.heap.size w w' := by
 obtain ⟨n1, a1, c1, l1, rfl, u1, g1, s1, rfl⟩ := hx
 obtain ⟨n2, a2, c2, l2, rfl, u2, g2, s2, rfl⟩ := hy
 have k1 := bd_len g1 (sg_bd bx) hk
 have k2 := bd_len g2 (sg_bd by') hk
 clear bx by' g1 g2 s1 s2
 have hB := Below.refl w.heap.size w
 unfold iv
 cases n1 <;> cases n2
 ·
  have ac := fun w h1 h2 => limbAdd_c a1 a2 c1 c2 l1 l2 w h1 h2 (by omega) (by omega)
  have dc := fun a L w h hn => made_c false a (List.length L) L w h hn
  have HS := hZ (sg_add false (val l1) (val l2))
  go_enter Tryz.func37, Tryz.ntmps37
  go_wp2
  refine wp_name fun w0 hW0 => ?_
  have x0 : w0.cell? ⟨w.heap.size, 0, none⟩ = some (.bool false) := bkn hW0
  have zx0 := cell_lt x0
  have x1 : w0.cell? ⟨w.heap.size, 1, none⟩ = some (.slice a1 l1.length c1) := bkn hW0
  have y0 : w0.cell? ⟨w.heap.size + 1, 0, none⟩ = some (.bool false) := bkn hW0
  have zy0 := cell_lt y0
  have y1 : w0.cell? ⟨w.heap.size + 1, 1, none⟩ = some (.slice a2 l2.length c2) := bkn hW0
  have r0f : w0.frozen? ⟨w.heap.size + 2, 0, none⟩ = false := by rw [hW0]; simp [go_sem, *]
  have r0 : w0.cell? ⟨w.heap.size + 2, 0, none⟩ = some (.bool false) := bkn hW0
  have zr0 := cell_lt r0
  have r1f : w0.frozen? ⟨w.heap.size + 2, 1, none⟩ = false := by rw [hW0]; simp [go_sem, *]
  have r1 : w0.cell? ⟨w.heap.size + 2, 1, none⟩ = some (.slice none 0 0) := bkn hW0
  have hB : Below w.heap.size w w0 := by rw [hW0]; repeat (first|exact bzR _ _|exact hB|refine bzD ?_|refine bzN ?_|refine bzS ?_|refine bzA ?_)
  have hz := hB.size
  clear hW0
  have hBc : Below w0.heap.size w0 w0.drew := (Below.refl _ _).drew
  have HB0 := hZ hB
  go_region_held3 (fun w' => w'.cell? ⟨w.heap.size, 0, none⟩ = some (.bool false) ∧ w'.cell? ⟨w.heap.size, 1, none⟩ = some (.slice a1 l1.length c1) ∧ w'.cell? ⟨w.heap.size + 1, 1, none⟩ = some (.slice a2 l2.length c2))
   (first | exact ⟨x0, x1, y1⟩ | exact ⟨bkeep hBc x0, bkeep hBc x1, bkeep hBc y1⟩ | exact ⟨cell_far (cell_far (bkeep hBc x0) (addr_ne (by omega)) _) (addr_ne (by omega)) _, cell_far (cell_far (bkeep hBc x1) (addr_ne (by omega)) _) (addr_ne (by omega)) _, cell_far (cell_far (bkeep hBc y1) (addr_ne (by omega)) _) (addr_ne (by omega)) _⟩)
   (first
    | (go_at_call 123; refine (ac _ (u1.keep (bthen HB0.out hBc)) (u2.keep (bthen HB0.out hBc))).mono ?_; rintro e w3 ⟨⟨u3, rfl, a3, k3, L, rfl, rfl, hu, hn, hv⟩, hb3⟩; (replace hBc := bthen hBc hb3))
    | (go_at_call 122; refine (dc _ _ _ hu hn).mono ?_; rintro e w4 ⟨⟨v, rfl, hi⟩, hb4⟩; (replace hBc := bthen hBc hb4); (replace r0f := bkeepf hBc r0 r0f); (replace r1f := bkeepf hBc r1 r1f); (replace r0 := bkeep hBc r0); (replace r1 := bkeep hBc r1); (rw [hv, HS.out] at hi); (have HI2 := hZ (hi.put2 r0 r1)); (obtain ⟨n4, a4, c4, l4, rfl, _, _, _, _⟩ := hi); unfold iv at *))
  have hB9 := bthen HB0.out hBc
  clear x0 x1 y0 y1
  go_wp2
  refine bodyPost_ret (v := .agg #[.bool n4, .slice a4 l4.length c4]) (by simp [results, Tryz.results37, go_sem, *]) rfl ⟨⟨_, rfl, HI2.out _ _⟩, ?_⟩
  repeat exact bZ
 ·
  have cc := fun w h1 h2 => limbCmp_c a1 a2 c1 c2 l1 l2 w h1 h2
  have dc := fun S a L w h hn => made_c S a (List.length L) L w h hn
  have hcz := cmpN_neg (x := val l1) (y := val l2)
  by_cases hlt : val l1 < val l2
  · have sc := fun w h1 h2 => limbSub_c a2 a1 c2 c1 l2 l1 w h1 h2 (by omega) (Nat.le_of_lt hlt)
    rw [show decide (val l1 < val l2) = true from by simpa using hlt] at hcz
    have HS := hZ (show sg true (val l2 - val l1) = sg false (val l1) + sg true (val l2) from sg_sub_lt false _ _ (Nat.le_of_lt hlt))
    clear hlt
    go_enter Tryz.func37, Tryz.ntmps37
    go_wp2_with fail
    generalize cmpN (val l1) (val l2) = z at *
    refine (cc _ (u1.keep bZ) (u2.keep bZ)).mono ?_
    rintro e w1 ⟨rfl, hb1⟩
    have x0 : w1.cell? ⟨w.heap.size, 0, none⟩ = some (.bool false) := bkc hb1
    have zx0 := cell_lt x0
    have x0f : w1.frozen? ⟨w.heap.size, 0, none⟩ = false := bkcf (v := .bool false) hb1
    have x1 : w1.cell? ⟨w.heap.size, 1, none⟩ = some (.slice a1 l1.length c1) := bkc hb1
    have x1f : w1.frozen? ⟨w.heap.size, 1, none⟩ = false := bkcf (v := .slice a1 l1.length c1) hb1
    have y0 : w1.cell? ⟨w.heap.size + 1, 0, none⟩ = some (.bool true) := bkc hb1
    have zy0 := cell_lt y0
    have y0f : w1.frozen? ⟨w.heap.size + 1, 0, none⟩ = false := bkcf (v := .bool true) hb1
    have y1 : w1.cell? ⟨w.heap.size + 1, 1, none⟩ = some (.slice a2 l2.length c2) := bkc hb1
    have y1f : w1.frozen? ⟨w.heap.size + 1, 1, none⟩ = false := bkcf (v := .slice a2 l2.length c2) hb1
    have r0 : w1.cell? ⟨w.heap.size + 2, 0, none⟩ = some (.bool false) := bkc hb1
    have zr0 := cell_lt r0
    have r0f : w1.frozen? ⟨w.heap.size + 2, 0, none⟩ = false := bkcf (v := .bool false) hb1
    have r1 : w1.cell? ⟨w.heap.size + 2, 1, none⟩ = some (.slice none 0 0) := bkc hb1
    have r1f : w1.frozen? ⟨w.heap.size + 2, 1, none⟩ = false := bkcf (v := .slice none 0 0) hb1
    have hB : Below w.heap.size w w1 := bthen bZ hb1
    have hz := hB.size
    clear cc hb1
    go_wp2_with fail
    refine (sc _ (u2.keep bZ) (u1.keep bZ)).mono ?_
    rintro e w2 ⟨⟨u3, rfl, a3, k3, L, rfl, rfl, hu, hn, hv⟩, hb2⟩
    have hB2 : Below w.heap.size w w2 := bthen (bset (bset (bset (bset hB (p := ⟨w.heap.size, 0, none⟩) (Nat.le_refl _) _) (p := ⟨w.heap.size, 1, none⟩) (Nat.le_refl _) _) (p := ⟨w.heap.size + 1, 0, none⟩) (by simp) _) (p := ⟨w.heap.size + 1, 1, none⟩) (by simp) _) hb2
    have n1 : w.heap.size ≠ w.heap.size + 2 := by omega
    have n2 : w.heap.size + 1 ≠ w.heap.size + 2 := by omega
    have n3 : w.heap.size + 1 ≠ w.heap.size := by omega
    have xx0 := bkeep hb2 (cell_far (cell_far (cell_far (cell_here x0 (.bool true)) (by simp) (.slice a2 l2.length c2)) (addr_ne n3) (.bool false)) (addr_ne n3) (.slice a1 l1.length c1))
    have rr0 := cell_far (cell_far (cell_far (cell_far r0 (p := ⟨w.heap.size, 0, none⟩) (addr_ne n1) (.bool true)) (p := ⟨w.heap.size, 1, none⟩) (addr_ne n1) (.slice a2 l2.length c2)) (p := ⟨w.heap.size + 1, 0, none⟩) (addr_ne n2) (.bool false)) (p := ⟨w.heap.size + 1, 1, none⟩) (addr_ne n2) (.slice a1 l1.length c1)
    have rr1 := cell_far (cell_far (cell_far (cell_far r1 (p := ⟨w.heap.size, 0, none⟩) (addr_ne n1) (.bool true)) (p := ⟨w.heap.size, 1, none⟩) (addr_ne n1) (.slice a2 l2.length c2)) (p := ⟨w.heap.size + 1, 0, none⟩) (addr_ne n2) (.bool false)) (p := ⟨w.heap.size + 1, 1, none⟩) (addr_ne n2) (.slice a1 l1.length c1)
    replace r0f := bkeepf hb2 rr0 (by rw [World.frozen?_setCell, World.frozen?_setCell, World.frozen?_setCell, World.frozen?_setCell]; exact r0f)
    replace r1f := bkeepf hb2 rr1 (by rw [World.frozen?_setCell, World.frozen?_setCell, World.frozen?_setCell, World.frozen?_setCell]; exact r1f)
    replace r0 := bkeep hb2 rr0
    replace r1 := bkeep hb2 rr1
    clear x0 x1 y0 y1 x0f x1f y0f y1f rr0 rr1 hb2 n1 n2 n3 hB
    go_wp2_with fail
    refine (dc true _ _ _ hu hn).mono ?_
    rintro e w3 ⟨⟨v, rfl, hi⟩, hb3⟩
    replace r0f := bkeepf hb3 r0 r0f
    replace r1f := bkeepf hb3 r1 r1f
    replace r0 := bkeep hb3 r0
    replace r1 := bkeep hb3 r1
    have hB := bthen hB2 hb3
    rw [hv, HS.out] at hi
    have HI2 := hZ (hi.put2 r0 r1)
    obtain ⟨n4, a4, c4, l4, rfl, _, _, _, _⟩ := hi
    unfold iv at *
    go_wp2
    refine bodyPost_ret (v := .agg #[.bool n4, .slice a4 l4.length c4]) (by simp [results, Tryz.results37, go_sem, *]) rfl ⟨⟨_, rfl, HI2.out _ _⟩, ?_⟩
    repeat exact bZ
  · have sc := fun w h1 h2 => limbSub_c a1 a2 c1 c2 l1 l2 w h1 h2 (by omega) (by omega)
    rw [show decide (val l1 < val l2) = false from by simpa using hlt] at hcz
    have HS := hZ (show sg false (val l1 - val l2) = sg false (val l1) + sg true (val l2) from sg_sub_ge false _ _ (by omega))
    clear hlt
    go_enter Tryz.func37, Tryz.ntmps37
    go_wp2_with fail
    generalize cmpN (val l1) (val l2) = z at *
    refine (cc _ (u1.keep bZ) (u2.keep bZ)).mono ?_
    rintro e w1 ⟨rfl, hb1⟩
    have x0 : w1.cell? ⟨w.heap.size, 0, none⟩ = some (.bool false) := bkc hb1
    have zx0 := cell_lt x0
    have x0f : w1.frozen? ⟨w.heap.size, 0, none⟩ = false := bkcf (v := .bool false) hb1
    have x1 : w1.cell? ⟨w.heap.size, 1, none⟩ = some (.slice a1 l1.length c1) := bkc hb1
    have x1f : w1.frozen? ⟨w.heap.size, 1, none⟩ = false := bkcf (v := .slice a1 l1.length c1) hb1
    have y0 : w1.cell? ⟨w.heap.size + 1, 0, none⟩ = some (.bool true) := bkc hb1
    have zy0 := cell_lt y0
    have y0f : w1.frozen? ⟨w.heap.size + 1, 0, none⟩ = false := bkcf (v := .bool true) hb1
    have y1 : w1.cell? ⟨w.heap.size + 1, 1, none⟩ = some (.slice a2 l2.length c2) := bkc hb1
    have y1f : w1.frozen? ⟨w.heap.size + 1, 1, none⟩ = false := bkcf (v := .slice a2 l2.length c2) hb1
    have r0 : w1.cell? ⟨w.heap.size + 2, 0, none⟩ = some (.bool false) := bkc hb1
    have zr0 := cell_lt r0
    have r0f : w1.frozen? ⟨w.heap.size + 2, 0, none⟩ = false := bkcf (v := .bool false) hb1
    have r1 : w1.cell? ⟨w.heap.size + 2, 1, none⟩ = some (.slice none 0 0) := bkc hb1
    have r1f : w1.frozen? ⟨w.heap.size + 2, 1, none⟩ = false := bkcf (v := .slice none 0 0) hb1
    have hB : Below w.heap.size w w1 := bthen bZ hb1
    have hz := hB.size
    go_wp2_with fail
    refine (sc _ (u1.keep hB) (u2.keep hB)).mono ?_
    rintro e w2 ⟨⟨u3, rfl, a3, k3, L, rfl, rfl, hu, hn, hv⟩, hb2⟩
    have x0 : w2.cell? ⟨w.heap.size, 0, none⟩ = some (.bool false) := bkc hb2
    have zx0 := cell_lt x0
    have x0f : w2.frozen? ⟨w.heap.size, 0, none⟩ = false := bkcf (v := .bool false) hb2
    have x1 : w2.cell? ⟨w.heap.size, 1, none⟩ = some (.slice a1 l1.length c1) := bkc hb2
    have x1f : w2.frozen? ⟨w.heap.size, 1, none⟩ = false := bkcf (v := .slice a1 l1.length c1) hb2
    have y0 : w2.cell? ⟨w.heap.size + 1, 0, none⟩ = some (.bool true) := bkc hb2
    have zy0 := cell_lt y0
    have y0f : w2.frozen? ⟨w.heap.size + 1, 0, none⟩ = false := bkcf (v := .bool true) hb2
    have y1 : w2.cell? ⟨w.heap.size + 1, 1, none⟩ = some (.slice a2 l2.length c2) := bkc hb2
    have y1f : w2.frozen? ⟨w.heap.size + 1, 1, none⟩ = false := bkcf (v := .slice a2 l2.length c2) hb2
    have r0 : w2.cell? ⟨w.heap.size + 2, 0, none⟩ = some (.bool false) := bkc hb2
    have zr0 := cell_lt r0
    have r0f : w2.frozen? ⟨w.heap.size + 2, 0, none⟩ = false := bkcf (v := .bool false) hb2
    have r1 : w2.cell? ⟨w.heap.size + 2, 1, none⟩ = some (.slice none 0 0) := bkc hb2
    have r1f : w2.frozen? ⟨w.heap.size + 2, 1, none⟩ = false := bkcf (v := .slice none 0 0) hb2
    have hB : Below w.heap.size w w2 := bthen bZ hb2
    have hz := hB.size
    go_wp2_with fail
    refine (dc false _ _ _ hu hn).mono ?_
    rintro e w3 ⟨⟨v, rfl, hi⟩, hb3⟩
    have x0 : w3.cell? ⟨w.heap.size, 0, none⟩ = some (.bool false) := bkc hb3
    have zx0 := cell_lt x0
    have x0f : w3.frozen? ⟨w.heap.size, 0, none⟩ = false := bkcf (v := .bool false) hb3
    have x1 : w3.cell? ⟨w.heap.size, 1, none⟩ = some (.slice a1 l1.length c1) := bkc hb3
    have x1f : w3.frozen? ⟨w.heap.size, 1, none⟩ = false := bkcf (v := .slice a1 l1.length c1) hb3
    have y0 : w3.cell? ⟨w.heap.size + 1, 0, none⟩ = some (.bool true) := bkc hb3
    have zy0 := cell_lt y0
    have y0f : w3.frozen? ⟨w.heap.size + 1, 0, none⟩ = false := bkcf (v := .bool true) hb3
    have y1 : w3.cell? ⟨w.heap.size + 1, 1, none⟩ = some (.slice a2 l2.length c2) := bkc hb3
    have y1f : w3.frozen? ⟨w.heap.size + 1, 1, none⟩ = false := bkcf (v := .slice a2 l2.length c2) hb3
    have r0 : w3.cell? ⟨w.heap.size + 2, 0, none⟩ = some (.bool false) := bkc hb3
    have zr0 := cell_lt r0
    have r0f : w3.frozen? ⟨w.heap.size + 2, 0, none⟩ = false := bkcf (v := .bool false) hb3
    have r1 : w3.cell? ⟨w.heap.size + 2, 1, none⟩ = some (.slice none 0 0) := bkc hb3
    have r1f : w3.frozen? ⟨w.heap.size + 2, 1, none⟩ = false := bkcf (v := .slice none 0 0) hb3
    have hB : Below w.heap.size w w3 := bthen bZ hb3
    have hz := hB.size
    rw [hv, HS.out] at hi
    have HI2 := hZ (hi.put2 r0 r1)
    obtain ⟨n4, a4, c4, l4, rfl, _, _, _, _⟩ := hi
    unfold iv at *
    go_wp2
    refine bodyPost_ret (v := .agg #[.bool n4, .slice a4 l4.length c4]) (by simp [results, Tryz.results37, go_sem, *]) rfl ⟨⟨_, rfl, HI2.out _ _⟩, ?_⟩
    repeat exact bZ
 ·
  have cc := fun w h1 h2 => limbCmp_c a1 a2 c1 c2 l1 l2 w h1 h2
  have dc := fun S a L w h hn => made_c S a (List.length L) L w h hn
  have hcz := cmpN_neg (x := val l1) (y := val l2)
  by_cases hlt : val l1 < val l2
  · have sc := fun w h1 h2 => limbSub_c a2 a1 c2 c1 l2 l1 w h1 h2 (by omega) (Nat.le_of_lt hlt)
    rw [show decide (val l1 < val l2) = true from by simpa using hlt] at hcz
    have HS := hZ (show sg false (val l2 - val l1) = sg true (val l1) + sg false (val l2) from sg_sub_lt true _ _ (Nat.le_of_lt hlt))
    clear hlt
    go_enter Tryz.func37, Tryz.ntmps37
    go_wp2_with fail
    generalize cmpN (val l1) (val l2) = z at *
    refine (cc _ (u1.keep bZ) (u2.keep bZ)).mono ?_
    rintro e w1 ⟨rfl, hb1⟩
    have x0 : w1.cell? ⟨w.heap.size, 0, none⟩ = some (.bool true) := bkc hb1
    have zx0 := cell_lt x0
    have x0f : w1.frozen? ⟨w.heap.size, 0, none⟩ = false := bkcf (v := .bool true) hb1
    have x1 : w1.cell? ⟨w.heap.size, 1, none⟩ = some (.slice a1 l1.length c1) := bkc hb1
    have x1f : w1.frozen? ⟨w.heap.size, 1, none⟩ = false := bkcf (v := .slice a1 l1.length c1) hb1
    have y0 : w1.cell? ⟨w.heap.size + 1, 0, none⟩ = some (.bool false) := bkc hb1
    have zy0 := cell_lt y0
    have y0f : w1.frozen? ⟨w.heap.size + 1, 0, none⟩ = false := bkcf (v := .bool false) hb1
    have y1 : w1.cell? ⟨w.heap.size + 1, 1, none⟩ = some (.slice a2 l2.length c2) := bkc hb1
    have y1f : w1.frozen? ⟨w.heap.size + 1, 1, none⟩ = false := bkcf (v := .slice a2 l2.length c2) hb1
    have r0 : w1.cell? ⟨w.heap.size + 2, 0, none⟩ = some (.bool false) := bkc hb1
    have zr0 := cell_lt r0
    have r0f : w1.frozen? ⟨w.heap.size + 2, 0, none⟩ = false := bkcf (v := .bool false) hb1
    have r1 : w1.cell? ⟨w.heap.size + 2, 1, none⟩ = some (.slice none 0 0) := bkc hb1
    have r1f : w1.frozen? ⟨w.heap.size + 2, 1, none⟩ = false := bkcf (v := .slice none 0 0) hb1
    have hB : Below w.heap.size w w1 := bthen bZ hb1
    have hz := hB.size
    clear cc hb1
    go_wp2_with fail
    refine (sc _ (u2.keep bZ) (u1.keep bZ)).mono ?_
    rintro e w2 ⟨⟨u3, rfl, a3, k3, L, rfl, rfl, hu, hn, hv⟩, hb2⟩
    have hB2 : Below w.heap.size w w2 := bthen (bset (bset (bset (bset hB (p := ⟨w.heap.size, 0, none⟩) (Nat.le_refl _) _) (p := ⟨w.heap.size, 1, none⟩) (Nat.le_refl _) _) (p := ⟨w.heap.size + 1, 0, none⟩) (by simp) _) (p := ⟨w.heap.size + 1, 1, none⟩) (by simp) _) hb2
    have n1 : w.heap.size ≠ w.heap.size + 2 := by omega
    have n2 : w.heap.size + 1 ≠ w.heap.size + 2 := by omega
    have n3 : w.heap.size + 1 ≠ w.heap.size := by omega
    have xx0 := bkeep hb2 (cell_far (cell_far (cell_far (cell_here x0 (.bool false)) (by simp) (.slice a2 l2.length c2)) (addr_ne n3) (.bool true)) (addr_ne n3) (.slice a1 l1.length c1))
    have rr0 := cell_far (cell_far (cell_far (cell_far r0 (p := ⟨w.heap.size, 0, none⟩) (addr_ne n1) (.bool false)) (p := ⟨w.heap.size, 1, none⟩) (addr_ne n1) (.slice a2 l2.length c2)) (p := ⟨w.heap.size + 1, 0, none⟩) (addr_ne n2) (.bool true)) (p := ⟨w.heap.size + 1, 1, none⟩) (addr_ne n2) (.slice a1 l1.length c1)
    have rr1 := cell_far (cell_far (cell_far (cell_far r1 (p := ⟨w.heap.size, 0, none⟩) (addr_ne n1) (.bool false)) (p := ⟨w.heap.size, 1, none⟩) (addr_ne n1) (.slice a2 l2.length c2)) (p := ⟨w.heap.size + 1, 0, none⟩) (addr_ne n2) (.bool true)) (p := ⟨w.heap.size + 1, 1, none⟩) (addr_ne n2) (.slice a1 l1.length c1)
    replace r0f := bkeepf hb2 rr0 (by rw [World.frozen?_setCell, World.frozen?_setCell, World.frozen?_setCell, World.frozen?_setCell]; exact r0f)
    replace r1f := bkeepf hb2 rr1 (by rw [World.frozen?_setCell, World.frozen?_setCell, World.frozen?_setCell, World.frozen?_setCell]; exact r1f)
    replace r0 := bkeep hb2 rr0
    replace r1 := bkeep hb2 rr1
    clear x0 x1 y0 y1 x0f x1f y0f y1f rr0 rr1 hb2 n1 n2 n3 hB
    go_wp2_with fail
    refine (dc false _ _ _ hu hn).mono ?_
    rintro e w3 ⟨⟨v, rfl, hi⟩, hb3⟩
    replace r0f := bkeepf hb3 r0 r0f
    replace r1f := bkeepf hb3 r1 r1f
    replace r0 := bkeep hb3 r0
    replace r1 := bkeep hb3 r1
    have hB := bthen hB2 hb3
    rw [hv, HS.out] at hi
    have HI2 := hZ (hi.put2 r0 r1)
    obtain ⟨n4, a4, c4, l4, rfl, _, _, _, _⟩ := hi
    unfold iv at *
    go_wp2
    refine bodyPost_ret (v := .agg #[.bool n4, .slice a4 l4.length c4]) (by simp [results, Tryz.results37, go_sem, *]) rfl ⟨⟨_, rfl, HI2.out _ _⟩, ?_⟩
    repeat exact bZ
  · have sc := fun w h1 h2 => limbSub_c a1 a2 c1 c2 l1 l2 w h1 h2 (by omega) (by omega)
    rw [show decide (val l1 < val l2) = false from by simpa using hlt] at hcz
    have HS := hZ (show sg true (val l1 - val l2) = sg true (val l1) + sg false (val l2) from sg_sub_ge true _ _ (by omega))
    clear hlt
    go_enter Tryz.func37, Tryz.ntmps37
    go_wp2_with fail
    generalize cmpN (val l1) (val l2) = z at *
    refine (cc _ (u1.keep bZ) (u2.keep bZ)).mono ?_
    rintro e w1 ⟨rfl, hb1⟩
    have x0 : w1.cell? ⟨w.heap.size, 0, none⟩ = some (.bool true) := bkc hb1
    have zx0 := cell_lt x0
    have x0f : w1.frozen? ⟨w.heap.size, 0, none⟩ = false := bkcf (v := .bool true) hb1
    have x1 : w1.cell? ⟨w.heap.size, 1, none⟩ = some (.slice a1 l1.length c1) := bkc hb1
    have x1f : w1.frozen? ⟨w.heap.size, 1, none⟩ = false := bkcf (v := .slice a1 l1.length c1) hb1
    have y0 : w1.cell? ⟨w.heap.size + 1, 0, none⟩ = some (.bool false) := bkc hb1
    have zy0 := cell_lt y0
    have y0f : w1.frozen? ⟨w.heap.size + 1, 0, none⟩ = false := bkcf (v := .bool false) hb1
    have y1 : w1.cell? ⟨w.heap.size + 1, 1, none⟩ = some (.slice a2 l2.length c2) := bkc hb1
    have y1f : w1.frozen? ⟨w.heap.size + 1, 1, none⟩ = false := bkcf (v := .slice a2 l2.length c2) hb1
    have r0 : w1.cell? ⟨w.heap.size + 2, 0, none⟩ = some (.bool false) := bkc hb1
    have zr0 := cell_lt r0
    have r0f : w1.frozen? ⟨w.heap.size + 2, 0, none⟩ = false := bkcf (v := .bool false) hb1
    have r1 : w1.cell? ⟨w.heap.size + 2, 1, none⟩ = some (.slice none 0 0) := bkc hb1
    have r1f : w1.frozen? ⟨w.heap.size + 2, 1, none⟩ = false := bkcf (v := .slice none 0 0) hb1
    have hB : Below w.heap.size w w1 := bthen bZ hb1
    have hz := hB.size
    go_wp2_with fail
    refine (sc _ (u1.keep hB) (u2.keep hB)).mono ?_
    rintro e w2 ⟨⟨u3, rfl, a3, k3, L, rfl, rfl, hu, hn, hv⟩, hb2⟩
    have x0 : w2.cell? ⟨w.heap.size, 0, none⟩ = some (.bool true) := bkc hb2
    have zx0 := cell_lt x0
    have x0f : w2.frozen? ⟨w.heap.size, 0, none⟩ = false := bkcf (v := .bool true) hb2
    have x1 : w2.cell? ⟨w.heap.size, 1, none⟩ = some (.slice a1 l1.length c1) := bkc hb2
    have x1f : w2.frozen? ⟨w.heap.size, 1, none⟩ = false := bkcf (v := .slice a1 l1.length c1) hb2
    have y0 : w2.cell? ⟨w.heap.size + 1, 0, none⟩ = some (.bool false) := bkc hb2
    have zy0 := cell_lt y0
    have y0f : w2.frozen? ⟨w.heap.size + 1, 0, none⟩ = false := bkcf (v := .bool false) hb2
    have y1 : w2.cell? ⟨w.heap.size + 1, 1, none⟩ = some (.slice a2 l2.length c2) := bkc hb2
    have y1f : w2.frozen? ⟨w.heap.size + 1, 1, none⟩ = false := bkcf (v := .slice a2 l2.length c2) hb2
    have r0 : w2.cell? ⟨w.heap.size + 2, 0, none⟩ = some (.bool false) := bkc hb2
    have zr0 := cell_lt r0
    have r0f : w2.frozen? ⟨w.heap.size + 2, 0, none⟩ = false := bkcf (v := .bool false) hb2
    have r1 : w2.cell? ⟨w.heap.size + 2, 1, none⟩ = some (.slice none 0 0) := bkc hb2
    have r1f : w2.frozen? ⟨w.heap.size + 2, 1, none⟩ = false := bkcf (v := .slice none 0 0) hb2
    have hB : Below w.heap.size w w2 := bthen bZ hb2
    have hz := hB.size
    go_wp2_with fail
    refine (dc true _ _ _ hu hn).mono ?_
    rintro e w3 ⟨⟨v, rfl, hi⟩, hb3⟩
    have x0 : w3.cell? ⟨w.heap.size, 0, none⟩ = some (.bool true) := bkc hb3
    have zx0 := cell_lt x0
    have x0f : w3.frozen? ⟨w.heap.size, 0, none⟩ = false := bkcf (v := .bool true) hb3
    have x1 : w3.cell? ⟨w.heap.size, 1, none⟩ = some (.slice a1 l1.length c1) := bkc hb3
    have x1f : w3.frozen? ⟨w.heap.size, 1, none⟩ = false := bkcf (v := .slice a1 l1.length c1) hb3
    have y0 : w3.cell? ⟨w.heap.size + 1, 0, none⟩ = some (.bool false) := bkc hb3
    have zy0 := cell_lt y0
    have y0f : w3.frozen? ⟨w.heap.size + 1, 0, none⟩ = false := bkcf (v := .bool false) hb3
    have y1 : w3.cell? ⟨w.heap.size + 1, 1, none⟩ = some (.slice a2 l2.length c2) := bkc hb3
    have y1f : w3.frozen? ⟨w.heap.size + 1, 1, none⟩ = false := bkcf (v := .slice a2 l2.length c2) hb3
    have r0 : w3.cell? ⟨w.heap.size + 2, 0, none⟩ = some (.bool false) := bkc hb3
    have zr0 := cell_lt r0
    have r0f : w3.frozen? ⟨w.heap.size + 2, 0, none⟩ = false := bkcf (v := .bool false) hb3
    have r1 : w3.cell? ⟨w.heap.size + 2, 1, none⟩ = some (.slice none 0 0) := bkc hb3
    have r1f : w3.frozen? ⟨w.heap.size + 2, 1, none⟩ = false := bkcf (v := .slice none 0 0) hb3
    have hB : Below w.heap.size w w3 := bthen bZ hb3
    have hz := hB.size
    rw [hv, HS.out] at hi
    have HI2 := hZ (hi.put2 r0 r1)
    obtain ⟨n4, a4, c4, l4, rfl, _, _, _, _⟩ := hi
    unfold iv at *
    go_wp2
    refine bodyPost_ret (v := .agg #[.bool n4, .slice a4 l4.length c4]) (by simp [results, Tryz.results37, go_sem, *]) rfl ⟨⟨_, rfl, HI2.out _ _⟩, ?_⟩
    repeat exact bZ
 ·
  have ac := fun w h1 h2 => limbAdd_c a1 a2 c1 c2 l1 l2 w h1 h2 (by omega) (by omega)
  have dc := fun a L w h hn => made_c true a (List.length L) L w h hn
  have HS := hZ (sg_add true (val l1) (val l2))
  go_enter Tryz.func37, Tryz.ntmps37
  go_wp2
  refine wp_name fun w0 hW0 => ?_
  have x0 : w0.cell? ⟨w.heap.size, 0, none⟩ = some (.bool true) := bkn hW0
  have zx0 := cell_lt x0
  have x1 : w0.cell? ⟨w.heap.size, 1, none⟩ = some (.slice a1 l1.length c1) := bkn hW0
  have y0 : w0.cell? ⟨w.heap.size + 1, 0, none⟩ = some (.bool true) := bkn hW0
  have zy0 := cell_lt y0
  have y1 : w0.cell? ⟨w.heap.size + 1, 1, none⟩ = some (.slice a2 l2.length c2) := bkn hW0
  have r0f : w0.frozen? ⟨w.heap.size + 2, 0, none⟩ = false := by rw [hW0]; simp [go_sem, *]
  have r0 : w0.cell? ⟨w.heap.size + 2, 0, none⟩ = some (.bool false) := bkn hW0
  have zr0 := cell_lt r0
  have r1f : w0.frozen? ⟨w.heap.size + 2, 1, none⟩ = false := by rw [hW0]; simp [go_sem, *]
  have r1 : w0.cell? ⟨w.heap.size + 2, 1, none⟩ = some (.slice none 0 0) := bkn hW0
  have hB : Below w.heap.size w w0 := by rw [hW0]; repeat (first|exact bzR _ _|exact hB|refine bzD ?_|refine bzN ?_|refine bzS ?_|refine bzA ?_)
  have hz := hB.size
  clear hW0
  have hBc : Below w0.heap.size w0 w0.drew := (Below.refl _ _).drew
  have HB0 := hZ hB
  go_region_held3 (fun w' => w'.cell? ⟨w.heap.size, 0, none⟩ = some (.bool true) ∧ w'.cell? ⟨w.heap.size, 1, none⟩ = some (.slice a1 l1.length c1) ∧ w'.cell? ⟨w.heap.size + 1, 1, none⟩ = some (.slice a2 l2.length c2))
   (first | exact ⟨x0, x1, y1⟩ | exact ⟨bkeep hBc x0, bkeep hBc x1, bkeep hBc y1⟩ | exact ⟨cell_far (cell_far (bkeep hBc x0) (addr_ne (by omega)) _) (addr_ne (by omega)) _, cell_far (cell_far (bkeep hBc x1) (addr_ne (by omega)) _) (addr_ne (by omega)) _, cell_far (cell_far (bkeep hBc y1) (addr_ne (by omega)) _) (addr_ne (by omega)) _⟩)
   (first
    | (go_at_call 123; refine (ac _ (u1.keep (bthen HB0.out hBc)) (u2.keep (bthen HB0.out hBc))).mono ?_; rintro e w3 ⟨⟨u3, rfl, a3, k3, L, rfl, rfl, hu, hn, hv⟩, hb3⟩; (replace hBc := bthen hBc hb3))
    | (go_at_call 122; refine (dc _ _ _ hu hn).mono ?_; rintro e w4 ⟨⟨v, rfl, hi⟩, hb4⟩; (replace hBc := bthen hBc hb4); (replace r0f := bkeepf hBc r0 r0f); (replace r1f := bkeepf hBc r1 r1f); (replace r0 := bkeep hBc r0); (replace r1 := bkeep hBc r1); (rw [hv, HS.out] at hi); (have HI2 := hZ (hi.put2 r0 r1)); (obtain ⟨n4, a4, c4, l4, rfl, _, _, _, _⟩ := hi); unfold iv at *))
  have hB9 := bthen HB0.out hBc
  clear x0 x1 y0 y1
  go_wp2
  refine bodyPost_ret (v := .agg #[.bool n4, .slice a4 l4.length c4]) (by simp [results, Tryz.results37, go_sem, *]) rfl ⟨⟨_, rfl, HI2.out _ _⟩, ?_⟩
  repeat exact bZ

theorem subI_c (vx vy : Value) (x y : Int) (k : Nat) (w : World) (hx : IsInt w vx x) (hy : IsInt w vy y) (bx : Bd k x) (by' : Bd k y) (hk : k ≤ 17179869184) :
 Calls Tryz.prog 211 #[vx, vy] w fun e w' => (∃ v, e = .returned v ∧ IsInt w' v (x - y)) ∧ Below w.heap.size w w' := by
 have nc := fun v w h => neg_c v y w h
 have ac := fun u v w h1 h2 => addI_c u v x (-y) k w h1 h2 bx by'.neg hk
 rw [← Int.sub_eq_add_neg] at ac
 have HX := hZ hx
 have HY := hZ hy
 obtain ⟨n1, a1, c1, l1, rfl, -⟩ := hx
 obtain ⟨n2, a2, c2, l2, rfl, -⟩ := hy
 clear bx by'
 unfold iv at *
 have hB := Below.refl w.heap.size w
 go_enter Tryz.func211, Tryz.ntmps211
 go_wp2
 refine wp_name fun w0 hW0 => ?_
 have x0 : w0.cell? ⟨w.heap.size, 0, none⟩ = some (.bool n1) := bkn hW0
 have zx0 := cell_lt x0
 have x1 : w0.cell? ⟨w.heap.size, 1, none⟩ = some (.slice a1 l1.length c1) := bkn hW0
 have y0 : w0.cell? ⟨w.heap.size + 1, 0, none⟩ = some (.bool n2) := bkn hW0
 have zy0 := cell_lt y0
 have y1 : w0.cell? ⟨w.heap.size + 1, 1, none⟩ = some (.slice a2 l2.length c2) := bkn hW0
 have r0f : w0.frozen? ⟨w.heap.size + 2, 0, none⟩ = false := by rw [hW0]; simp [go_sem, *]
 have r0 : w0.cell? ⟨w.heap.size + 2, 0, none⟩ = some (.bool false) := bkn hW0
 have zr0 := cell_lt r0
 have r1f : w0.frozen? ⟨w.heap.size + 2, 1, none⟩ = false := by rw [hW0]; simp [go_sem, *]
 have r1 : w0.cell? ⟨w.heap.size + 2, 1, none⟩ = some (.slice none 0 0) := bkn hW0
 have hB : Below w.heap.size w w0 := by rw [hW0]; repeat (first|exact bzR _ _|exact hB|refine bzD ?_|refine bzN ?_|refine bzS ?_|refine bzA ?_)
 have hz := hB.size
 clear hW0
 have hBc : Below w0.heap.size w0 w0.drew := (Below.refl _ _).drew
 have HB0 := hZ hB
 go_region_held3 (fun w' => w'.cell? ⟨w.heap.size, 0, none⟩ = some (.bool n1) ∧ w'.cell? ⟨w.heap.size, 1, none⟩ = some (.slice a1 l1.length c1) ∧ w'.cell? ⟨w.heap.size + 1, 0, none⟩ = some (.bool n2) ∧ w'.cell? ⟨w.heap.size + 1, 1, none⟩ = some (.slice a2 l2.length c2))
  (first | exact ⟨x0, x1, y0, y1⟩ | exact ⟨bkeep hBc x0, bkeep hBc x1, bkeep hBc y0, bkeep hBc y1⟩ | exact ⟨cell_far (cell_far (bkeep hBc x0) (addr_ne (by omega)) _) (addr_ne (by omega)) _, cell_far (cell_far (bkeep hBc x1) (addr_ne (by omega)) _) (addr_ne (by omega)) _, cell_far (cell_far (bkeep hBc y0) (addr_ne (by omega)) _) (addr_ne (by omega)) _, cell_far (cell_far (bkeep hBc y1) (addr_ne (by omega)) _) (addr_ne (by omega)) _⟩)
  (first
   | (go_at_call 160; refine (nc _ _ (HY.out.keep (bthen HB0.out hBc))).mono ?_; rintro e w3 ⟨⟨v3, rfl, hi3⟩, hb3⟩; (replace hBc := bthen hBc hb3); (have HI3 := hZ hi3); clear hi3)
   | (go_at_call 37; refine (ac _ _ _ (HX.out.keep (bthen HB0.out hBc)) HI3.out).mono ?_; rintro e w4 ⟨⟨v, rfl, hi⟩, hb4⟩; (replace hBc := bthen hBc hb4); (replace r0f := bkeepf hBc r0 r0f); (replace r1f := bkeepf hBc r1 r1f); (replace r0 := bkeep hBc r0); (replace r1 := bkeep hBc r1); (have HI2 := hZ (hi.put2 r0 r1)); (obtain ⟨n4, a4, c4, l4, rfl, _, _, _, _⟩ := hi); unfold iv at *))
 have hB9 := bthen HB0.out hBc
 clear x0 x1 y0 y1
 go_wp2
 refine bodyPost_ret (v := .agg #[.bool n4, .slice a4 l4.length c4]) (by simp [results, Tryz.results211, go_sem, *]) rfl ⟨⟨_, rfl, HI2.out _ _⟩, ?_⟩
 repeat exact bZ
end Go.Proofs.YtbmaffijncapiaaGreatDoor
namespace Go.Proofs.YtbmaffijncapiaaGreatDoor
open Num
open Go.ChangeShapes Go.WideShapes Go.ChangeAt Go.RowKit
namespace Num
theorem hi_or {r x : Nat} (hr : r < BB) (hx : x < BB) : bits .or .u64 ((r * BB : Nat) : Int) (x : Int) = ((r * BB + x : Nat) : Int) := by
 have hx' : x < 2 ^ 32 := hx
 have e : r * BB = 2 ^ 32 * r := by rw [Nat.mul_comm]; rfl
 have hb : r * BB < 18446744073709551616 := by
  have : r * BB ≤ (BB - 1) * BB := Nat.mul_le_mul_right _ (by omega)
  have e2 : (BB - 1) * BB = 18446744069414584320 := by unfold BB; rfl
  omega
 rw [u64_or_nat _ _ hb (by unfold BB at hx; omega), e, ← Nat.two_pow_add_eq_or_of_lt hx']
end Num

theorem divSmallF_c (a : Option Addr) (ca : Nat) (l : List Nat) (c : Nat) (w : World) (ha : U32 w a ca l) (h1 : l.length ≤ 1099511627776) (hc : 0 < c) (hcB : c < BB) :
 Calls Tryz.prog 259 #[.slice a l.length ca, .int .u32 (c : Int)] w fun e w' => (∃ u, e = .returned (.tuple #[u, .int .u32 ((val l % c : Nat) : Int), .int .i64 0]) ∧ NewL w' u (val l / c) ∧ ∀ g f n k, u = .slice (some ⟨g, f, none⟩) n k → w.heap.size ≤ g) ∧ Below w.heap.size w w' := by
 have hmk := mk32 l.length (by omega)
 have hcz : ((c : Int) == 0) = false := by simp; omega
 have ecw := w64 (BB_sq c hcB)
 go_enter Tryz.func259, Tryz.ntmps259
 go_wp2
 clear hmk hcz
 go_loopw [8, 9] (fun rv x wr => ∃ (k r : Nat) (O : List Nat), k ≤ l.length ∧ x = .int .i64 ((k : Int) - 1) ∧ rv = .int .u64 r ∧ r < c ∧ Blk wr w.heap.size O ∧ Hid (O.length = l.length) ∧ Limbs O ∧ (∀ j, j < k → O.getD j 0 = 0) ∧ Hid (val O * c + r * BB ^ k + val (l.take k) = val l) ∧ Below w.heap.size w wr) (fun _ x _ => (intOf x + 1).toNat)
 case atStart => exact ⟨l.length, 0, List.replicate l.length 0, by omega, rfl, rfl, hc, blk_new w _, hZ (by simp), (fun y hy => by simp at hy; rw [hy.2]; exact BB_pos), (fun j hj => by simp [List.getElem?_replicate]; split <;> rfl), hZ (by simp [val_zeros]), bal (Below.refl _ _) _⟩
 case round =>
  obtain ⟨k, r, O, hk, rfl, rfl, hr, hO, hOl, hOL, hO0, hV, hB⟩ := hrel
  have hol := hOl.out
  cases k with
  | zero =>
   have HV := hZ (show val O * c + r = val l by have := hV.out; simpa [val] using this)
   have HD := hZ (show val O = val l / c by rw [← HV.out, Nat.mul_comm, Nat.mul_add_div hc, Nat.div_eq_of_lt hr, Nat.add_zero])
   have HM := hZ (show r = val l % c by rw [← HV.out, Nat.mul_comm, Nat.mul_add_mod, Nat.mod_eq_of_lt hr])
   have hu := hO.u32 hOL (by rw [hol]; unfold maxLen; omega)
   have tc := trim_c _ _ _ _ hu
   have HT := hZ (val_trim O)
   have HN := trim_nrm O
   have hu2 := hu.trim
   generalize trimL O = T at *
   rw [hol] at tc
   have er : (r : Int) % 4294967296 = (r : Int) := by unfold BB at hcB; omega
   clear hV hOl hu hol HV
   go_wp2_with fail
   refine tc.mono ?_
   rintro e w1 ⟨rfl, rfl⟩
   clear tc
   go_wp2
   go_ret3
   exact ⟨⟨_, by rw [← HM.out]; rfl, ⟨_, _, T, rfl, rfl, hu2, HN, by rw [HT.out, HD.out]⟩, fun g f n k h => by cases h; exact Nat.le_refl _⟩, hB⟩
  | succ j =>
   rcases ha.2.2.2 with hl0 | ⟨ba, oa, rfl, hca⟩
   · subst hl0; simp at hk
   have c0 := bkeep hB (hca j (by omega))
   have hx := limb_get ha.2.2.1 j
   have q0 := hO.cell j (by omega)
   have qf := hO.frozen j
   have hrB : r < BB := by omega
   have HS := hZ (div_step (O := O) (A := l) (j := j) (c := c) (rest := r) (by omega) (hO0 j (by omega)) (by omega) hV.out)
   generalize l.getD j 0 = x at *
   generalize O.getD j 0 = o at *
   have e1 := w64 (BB_sq x hx)
   have e2 : bits .or .u64 ((r : Int) * 4294967296) (x : Int) = ((r * BB + x : Nat) : Int) := by rw [← hi_or hrB hx, Int.natCast_mul]; rfl
   have hq := div_lt hr hx
   have hm := Nat.mod_lt (r * BB + x) hc
   have hrl : (r : Int) < 4294967296 := by unfold BB at hrB; omega
   generalize r * BB + x = t at *
   have e3 : (t : Int).tdiv (c : Int) = ((t / c : Nat) : Int) := rfl
   have e4 : (t : Int).tmod (c : Int) = ((t % c : Nat) : Int) := rfl
   have hqr : val (O.set j (t / c)) * c + t % c * BB ^ j + val (l.take j) = val l := HS.out
   have HQR := hZ hqr
   clear hqr HS
   generalize t / c = q at *
   generalize t % c = r2 at *
   have e5 := w64 (BB_sq q hq)
   have e6 : (q : Int) % 4294967296 = (q : Int) := by unfold BB at hq; omega
   have qb := hO.set j q
   have ql := limbs_set hOL (k := j) hq
   have bs := bset hB (p := ⟨w.heap.size, j, none⟩) (Nat.le_refl _) (.int .u32 (q : Int))
   clear hol
   go_wp2
   refine ⟨⟨j, r2, O.set j q, by omega, by go_num, rfl, hm, qb, hZ (by simpa using hOl.out), ql, ?_, HQR, bs⟩, by simp [intOf] <;> omega⟩
   intro i hi
   rw [Num.getD_set_ne (by omega)]
   exact hO0 i (by omega)
theorem divSmall_c (a : Option Addr) (ca : Nat) (l : List Nat) (c : Nat) (w : World) (ha : U32 w a ca l) (h1 : l.length ≤ 1099511627776) (hc : 0 < c) (hcB : c < BB) :
 Calls Tryz.prog 259 #[.slice a l.length ca, .int .u32 (c : Int)] w fun e w' => (∃ u, e = .returned (.tuple #[u, .int .u32 ((val l % c : Nat) : Int), .int .i64 0]) ∧ NewL w' u (val l / c)) ∧ Below w.heap.size w w' :=
 (divSmallF_c a ca l c w ha h1 hc hcB).mono fun e w' ⟨⟨u, he, hn, _⟩, hb⟩ => ⟨⟨u, he, hn⟩, hb⟩
end Go.Proofs.YtbmaffijncapiaaGreatDoor
namespace Go.Proofs.YtbmaffijncapiaaGreatDoor
open Num
open Go.ChangeShapes Go.WideShapes Go.ChangeAt Go.RowKit

namespace Num
theorem repl_getD (n j : Nat) : (List.replicate n 0).getD j 0 = 0 := by
 simp [List.getD_eq_getElem?_getD, List.getElem?_replicate]; split <;> rfl
theorem pow31 {k : Nat} (h : k < 32) : 2 ^ k ≤ 2147483648 := Nat.pow_le_pow_right (n := 2) (by omega) (show k ≤ 31 by omega)
theorem shl_lt {x k : Nat} (hx : x < BB) (h : k < 32) : x * 2 ^ k < BB * BB := by
 have h1 := pow31 h
 have h2 : x * 2 ^ k ≤ x * 2147483648 := Nat.mul_le_mul_left _ h1
 unfold BB at *
 omega
theorem getD_set_eq {l : List Nat} {i x : Nat} (h : i < l.length) : (l.set i x).getD i 0 = x := by
 simp [List.getD_eq_getElem?_getD, h]
end Num

theorem limbShl_c (a : Option Addr) (ca : Nat) (l : List Nat) (n : Nat) (w : World) (ha : U32 w a ca l) (h1 : l.length ≤ 1099511627776) (hn : n ≤ 65536) :
 Calls Tryz.prog 262 #[.slice a l.length ca, .int .i64 (n : Int)] w fun e w' => (∃ u, e = .returned (.tuple #[u, .int .i64 0]) ∧ NewL w' u (val l * 2 ^ n)) ∧ Below w.heap.size w w' := by
 obtain ⟨m, hm⟩ : ∃ m, m = n / 32 := ⟨_, rfl⟩
 obtain ⟨k, hk⟩ : ∃ k, k = n % 32 := ⟨_, rfl⟩
 have en1 : (n : Int) / 32 = (m : Int) := by omega
 have en2 : (n : Int) % 32 = (k : Int) := by omega
 have en3 : (n : Int).tdiv 32 = (m : Int) := by rw [Int.tdiv_eq_ediv_of_nonneg (by omega)]; exact en1
 have en4 : (n : Int).tmod 32 = (k : Int) := by rw [Int.tmod_eq_emod_of_nonneg (by omega)]; exact en2
 have hk32 : k < 32 := by omega
 have hm2 : m ≤ 2048 := by omega
 have HN := hZ (show 2 ^ n = 2 ^ k * BB ^ m by rw [BB_pow, ← Nat.pow_add]; congr 1; omega)
 have hmk := mk32 (l.length + m + 1) (by omega)
 have ec : ((l.length + m + 1 : Nat) : Int) = (l.length : Int) + (m : Int) + 1 := by omega
 rw [ec] at hmk
 clear ec hm hk
 go_enter Tryz.func262, Tryz.ntmps262
 go_wp2
 clear hmk
 go_loopw [26] (fun x wr => ∃ (i : Nat) (O : List Nat), i ≤ l.length ∧ x = .int .i64 i ∧ Blk wr w.heap.size O ∧ Hid (O.length = l.length + m + 1) ∧ Limbs O ∧ (∀ j, i + m < j → O.getD j 0 = 0) ∧ O.getD (i + m) 0 < 2 ^ k ∧ Hid (val O = val (l.take i) * (2 ^ k * BB ^ m)) ∧ Below w.heap.size w wr) (fun x _ => l.length - (intOf x).toNat)
 case atStart => exact ⟨0, List.replicate (l.length + m + 1) 0, by omega, rfl, blk_new w _, hZ (by simp), (fun y hy => by simp at hy; rw [hy]; exact BB_pos), (fun j hj => by simp [List.getElem?_replicate]; split <;> rfl), by rw [repl_getD]; exact Nat.pow_pos (by omega), hZ (by simp [val, val_zeros]), bal (Below.refl _ _) _⟩
 case round =>
  obtain ⟨i, O, hi, rfl, hO, hOl, hOL, hO0, hOk, hV, hB⟩ := hrel
  have hol := hOl.out
  by_cases hlt : i < l.length
  · rcases ha.2.2.2 with hl0 | ⟨ba, oa, rfl, hca⟩
    · subst hl0; simp at hlt
    have c0 := bkeep hB (hca i hlt)
    have hx := limb_get ha.2.2.1 i
    obtain ⟨x, hxe⟩ : ∃ x, x = l.getD i 0 := ⟨_, rfl⟩
    rw [← hxe] at c0 hx
    have e1 := w64 (BB_sq x hx)
    have e2 : IntKind.u64.wrap ((x : Int) * 2 ^ k) = ((x * 2 ^ k : Nat) : Int) := by rw [show (x : Int) * 2 ^ k = ((x * 2 ^ k : Nat) : Int) by rw [Int.natCast_mul, Int.natCast_pow]; rfl]; exact w64 (shl_lt hx hk32)
    have q0 := hO.cell (i + m) (by omega)
    have qf := hO.frozen (i + m)
    have q1 := hO.cell (i + m + 1) (by omega)
    have qg := hO.frozen (i + m + 1)
    rw [hO0 (i + m + 1) (by omega)] at q1
    have HS := hZ (shl_step (O := O) (A := l) (i := i) (m := m) (p := 2 ^ k) (x := x) (by omega) (hO0 (i + m + 1) (by omega)) hlt hxe hV.out)
    have hlo := or_low (x := x) (k := k) (o := O.getD (i + m) 0) hOk (by omega)
    have hlb := shl_lo (x := x) (k := k) (o := O.getD (i + m) 0) hOk (by omega)
    have hhi := shl_hi (k := k) hx
    have hob := limb_get hOL (i + m)
    have hp := pow31 hk32
    generalize O.getD (i + m) 0 = o at *
    generalize hy : x * 2 ^ k = y at *
    obtain ⟨lo, hlo1⟩ : ∃ lo, lo = y % BB := ⟨_, rfl⟩
    obtain ⟨hi2, hhi1⟩ : ∃ hi2, hi2 = y / BB := ⟨_, rfl⟩
    rw [← hlo1] at HS hlo hlb
    rw [← hhi1] at HS hhi
    have elo : (y : Int) % 4294967296 = (lo : Int) := by unfold BB at hlo1; omega
    have ehi : (y : Int) / 4294967296 = (hi2 : Int) := by unfold BB at hhi1; omega
    have hloB : lo < BB := by rw [hlo1]; exact Nat.mod_lt _ BB_pos
    have eor : bits .or .u32 (o : Int) (lo : Int) = ((o + lo : Nat) : Int) := by rw [u32_or_nat _ _ hob hloB, Nat.or_comm, hlo]
    have hhB : hi2 < BB := by unfold BB; omega
    have ehm : (hi2 : Int) % 4294967296 = (hi2 : Int) := by unfold BB at hhB; omega
    have eor2 : bits .or .u32 0 (hi2 : Int) = (hi2 : Int) := by
     have := u32_or_nat 0 hi2 (by omega) hhB
     simpa using this
    have hHI := hhi
    have HP := hZ hhi
    clear hlo hhi hlo1 hhi1 hy hp hob hHI hOk hxe
    generalize hol2 : o + lo = s1 at *
    clear hol2
    have qb := (hO.set (i + m) s1).set (i + m + 1) hi2
    have ql := limbs_set (limbs_set hOL (k := i + m) hlb) (k := i + m + 1) hhB
    have bs := bset (bset hB (p := ⟨w.heap.size, i + m, none⟩) (Nat.le_refl _) (.int .u32 (s1 : Int))) (p := ⟨w.heap.size, i + m + 1, none⟩) (Nat.le_refl _) (.int .u32 (hi2 : Int))
    have hlt2 : (i : Int) + (m : Int) < (l.length : Int) + (m : Int) + 1 := by omega
    have hlt3 : (i : Int) + (m : Int) + 1 < (l.length : Int) + (m : Int) + 1 := by omega
    have HOL := hZ hol
    clear hol
    go_wp2
    refine ⟨⟨i + 1, _, by omega, by go_num, qb, hZ (by simpa using hOl.out), ql, ?_, ?_, HS, bs⟩, by simp [intOf] <;> omega⟩
    · intro j hj
      rw [Num.getD_set_ne (by omega), Num.getD_set_ne (by omega)]
      exact hO0 j (by omega)
    · rw [show i + 1 + m = i + m + 1 from by omega, Num.getD_set_eq (by have := HOL.out; simp; omega)]
      exact HP.out
  · obtain rfl : i = l.length := by omega
    have HV := hZ (show val O = val l * 2 ^ n by rw [hV.out, List.take_length, HN.out])
    have hu := hO.u32 hOL (by rw [hol]; unfold maxLen; omega)
    have tc := trim_c _ _ _ _ hu
    have HT := hZ (val_trim O)
    have HNr := trim_nrm O
    have hu2 := hu.trim
    generalize trimL O = T at *
    rw [hol] at tc
    clear hV hOl hu hol hOk
    go_wp2_with fail
    refine tc.mono ?_
    rintro e w1 ⟨rfl, rfl⟩
    clear tc
    go_wp2
    go_ret2
    exact ⟨⟨_, rfl, _, _, T, rfl, rfl, hu2, HNr, by rw [HT.out, HV.out]⟩, hB⟩
end Go.Proofs.YtbmaffijncapiaaGreatDoor
namespace Go.Proofs.YtbmaffijncapiaaGreatDoor
open Num
open Go.ChangeShapes Go.WideShapes Go.ChangeAt Go.RowKit
namespace Num
theorem limbs_drop {l : List Nat} (h : Limbs l) (k : Nat) : Limbs (l.drop k) := fun x hx => h x (List.mem_of_mem_drop hx)
end Num
namespace Num
theorem set_fill {L : List Nat} {N i : Nat} (hL : L.length = N) (hi : i < N) : (L.take i ++ List.replicate (N - i) 0).set i (L.getD i 0) = L.take (i + 1) ++ List.replicate (N - (i + 1)) 0 := by
 have h1 : (L.take i).length = i := by rw [List.length_take]; omega
 rw [List.set_append_right _ _ (by omega), h1, Nat.sub_self, show N - i = (N - (i + 1)) + 1 from by omega, List.replicate_succ, List.set_cons_zero, List.take_succ_eq_append_getElem (by omega), List.append_assoc, show L.getD i 0 = L[i]'(by omega) from by simp [List.getD_eq_getElem?_getD, show i < L.length by omega]]
 rfl
end Num
theorem newL_nil (w : World) : NewL w (.slice none 0 0) 0 := ⟨none, 0, [], rfl, rfl, ⟨Nat.le_refl _, by unfold maxLen; omega, (fun _ h => by cases h), .inl rfl⟩, (fun h => absurd rfl h), rfl⟩

theorem limbShr_c (a : Option Addr) (ca : Nat) (l : List Nat) (n : Nat) (w : World) (ha : U32 w a ca l) (h1 : l.length ≤ 1099511627776) (hn : n ≤ 9223372036854775807) :
 Calls Tryz.prog 264 #[.slice a l.length ca, .int .i64 (n : Int)] w fun e w' => (∃ u, e = .returned (.tuple #[u, .int .i64 0]) ∧ NewL w' u (val l / 2 ^ n)) ∧ Below w.heap.size w w' := by
 obtain ⟨m, hm⟩ : ∃ m, m = n / 32 := ⟨_, rfl⟩
 obtain ⟨k, hk⟩ : ∃ k, k = n % 32 := ⟨_, rfl⟩
 have en1 : (n : Int) / 32 = (m : Int) := by omega
 have en2 : (n : Int) % 32 = (k : Int) := by omega
 have en3 : (n : Int).tdiv 32 = (m : Int) := by rw [Int.tdiv_eq_ediv_of_nonneg (by omega)]; exact en1
 have en4 : (n : Int).tmod 32 = (k : Int) := by rw [Int.tmod_eq_emod_of_nonneg (by omega)]; exact en2
 have hk32 : k < 32 := by omega
 have HN := hZ (show 2 ^ n = BB ^ m * 2 ^ k by rw [BB_pow, ← Nat.pow_add]; congr 1; omega)
 clear hm hk
 have tc := trim_c a ca l w ha
 have ht := ha.trim
 have HV := hZ (val_trim l)
 have hl1 := Nat.le_trans (trim_len l) h1
 generalize trimL l = T at *
 have hn0 : decide ((n : Int) < 0) = false := by simp
 by_cases hmT : T.length ≤ m
 · have HZ := hZ (show val l / 2 ^ n = 0 by
    apply Nat.div_eq_of_lt
    rw [← HV.out, HN.out]
    have h2 := val_lt ht.2.2.1
    have h3 : BB ^ T.length ≤ BB ^ m := Nat.pow_le_pow_right BB_pos hmT
    have h4 : BB ^ m * 1 ≤ BB ^ m * 2 ^ k := Nat.mul_le_mul_left _ (Nat.pow_pos (by omega))
    omega)
   go_enter Tryz.func264, Tryz.ntmps264
   go_wp2_with fail
   refine tc.mono ?_
   rintro e w1 ⟨rfl, rfl⟩
   clear tc
   go_wp2
   go_ret2
   exact ⟨⟨_, rfl, by rw [HZ.out]; exact newL_nil _⟩, Below.refl _ _⟩
 · have hmT' : decide (T.length ≤ m) = false := by simp; omega
   rcases ht.2.2.2 with ht0 | ⟨b, off, rfl, hca⟩
   · subst ht0; simp at hmT
   have htl := ht.2.2.1
   have hd1 := limbs_drop htl m
   have HD := hZ (show val (shrL k (T.drop m)) = val l / 2 ^ n by rw [shrL_val k hk32 _ hd1, val_drop htl (by omega), HV.out, HN.out, Nat.div_div_eq_div_mul])
   obtain ⟨D, hD⟩ : ∃ D, D = T.drop m := ⟨_, rfl⟩
   have hDl : D.length = T.length - m := by rw [hD, List.length_drop]
   have hcd : ∀ i, i < D.length → w.cell? ⟨b, off + m + i, none⟩ = some (.int .u32 (D.getD i 0 : Nat)) := fun i hi => by
    have := hca (m + i) (by omega)
    rw [hD, Nat.add_assoc, this]
    simp [List.getD_eq_getElem?_getD, List.getElem?_drop]
   rw [← hD] at HD hd1
   have HCD := hZ hcd
   have hcap : ¬ T.length = m := by omega
   have hmk := mk32 D.length (by omega)
   have eD : ((T.length : Int) - (m : Int)) = (D.length : Int) := by omega
   have eD2 : T.length - m = D.length := hDl.symm
   have hDp : 0 < D.length := by omega
   clear hD hDl hcd HN HV
   go_enter Tryz.func264, Tryz.ntmps264
   go_wp2_with fail
   refine tc.mono ?_
   rintro e w1 ⟨rfl, rfl⟩
   clear tc
   go_wp2
   go_loopw [31] (fun x wr => ∃ (i : Nat) (O : List Nat), i ≤ D.length ∧ x = .int .i64 i ∧ Blk wr w.heap.size O ∧ Hid (O = (shrL k D).take i ++ List.replicate (D.length - i) 0) ∧ Below w.heap.size w wr) (fun x _ => D.length - (intOf x).toNat)
   case atStart => exact ⟨0, _, Nat.zero_le _, rfl, blk_new w (List.replicate D.length 0), hZ (by simp), bal (Below.refl _ _) _⟩
   case round =>
    obtain ⟨i, O, hi, rfl, hO, hOe, hB⟩ := hrel
    have hol : O.length = D.length := by rw [hOe.out]; simp [shrL_len]; omega
    by_cases hlt : i < D.length
    · have c0 := bkeep hB (HCD.out i hlt)
      have hx := limb_get hd1 i
      have HG := hZ (shrL_get k D i hlt)
      have q0 := hO.cell i (by omega)
      have qf := hO.frozen i
      have e1 := w64 (BB_sq _ hx)
      by_cases hl2 : i + 1 < D.length
      · have d0 := bkeep hB (HCD.out (i + 1) hl2)
        have hy := limb_get hd1 (i + 1)
        generalize D.getD i 0 = x at *
        generalize D.getD (i + 1) 0 = y at *
        have e2 := w64 (BB_sq y hy)
        have eor : bits .or .u64 (x : Int) ((y : Int) * 4294967296) = ((x + y * BB : Nat) : Int) := by
         have e : (y : Int) * 4294967296 = ((y * BB : Nat) : Int) := by rw [Int.natCast_mul]; rfl
         have h := hi_or hy hx
         have hb : y * BB < 18446744073709551616 := by unfold BB at *; omega
         rw [u64_or_nat _ _ hb (by unfold BB at hx; omega)] at h
         rw [e, u64_or_nat _ _ (by unfold BB at hx; omega) hb, Nat.or_comm, h, Nat.add_comm]
        have hyl : (y : Int) < 4294967296 := by unfold BB at hy; omega
        have hl3 : (i : Int) + 1 < (D.length : Int) := by omega
        generalize x + y * BB = t at *
        have e3 : (t : Int) / 2 ^ k = ((t / 2 ^ k : Nat) : Int) := by rw [show (2 : Int) ^ k = ((2 ^ k : Nat) : Int) by rw [Int.natCast_pow]; rfl]; rfl
        have hr2 : (shrL k D).getD i 0 = t / 2 ^ k % BB := HG.out
        have e4 : ((t / 2 ^ k : Nat) : Int) % 4294967296 = ((t / 2 ^ k % BB : Nat) : Int) := by unfold BB; omega
        generalize t / 2 ^ k = q at *
        generalize hrr : q % BB = r at *
        have HR := hZ hr2
        have qb := hO.set i r
        have bs := bset hB (p := ⟨w.heap.size, i, none⟩) (Nat.le_refl _) (.int .u32 (r : Int))
        clear hr2 hrr hol HG
        go_wp2
        exact ⟨⟨i + 1, _, by omega, by go_num, qb, hZ (by rw [hOe.out, ← HR.out]; exact set_fill (shrL_len k D) hlt), bs⟩, by simp [intOf] <;> omega⟩
      · have hy0 : D.getD (i + 1) 0 = 0 := by simp [hl2]
        rw [hy0, Nat.zero_mul, Nat.add_zero] at HG
        have hl3 : decide ((i : Int) + 1 < (D.length : Int)) = false := by simp; omega
        generalize D.getD i 0 = x at *
        clear hy0
        obtain ⟨t, ht2⟩ : ∃ t, t = x := ⟨_, rfl⟩
        subst ht2
        have e3 : (t : Int) / 2 ^ k = ((t / 2 ^ k : Nat) : Int) := by rw [show (2 : Int) ^ k = ((2 ^ k : Nat) : Int) by rw [Int.natCast_pow]; rfl]; rfl
        have hr2 : (shrL k D).getD i 0 = t / 2 ^ k % BB := HG.out
        have e4 : ((t / 2 ^ k : Nat) : Int) % 4294967296 = ((t / 2 ^ k % BB : Nat) : Int) := by unfold BB; omega
        generalize t / 2 ^ k = q at *
        generalize hrr : q % BB = r at *
        have HR := hZ hr2
        have qb := hO.set i r
        have bs := bset hB (p := ⟨w.heap.size, i, none⟩) (Nat.le_refl _) (.int .u32 (r : Int))
        clear hr2 hrr hol HG
        go_wp2
        exact ⟨⟨i + 1, _, by omega, by go_num, qb, hZ (by rw [hOe.out, ← HR.out]; exact set_fill (shrL_len k D) hlt), bs⟩, by simp [intOf] <;> omega⟩
    · obtain rfl : i = D.length := by omega
      have hLs := shrL_len k D
      have hOe2 : O = shrL k D := by rw [hOe.out, List.take_of_length_le (by omega)]; simp
      have hOL : Limbs O := by rw [hOe2]; exact shrL_limbs k D
      have HV := hZ (show val O = val l / 2 ^ n by rw [hOe2]; exact HD.out)
      have hu := hO.u32 hOL (by rw [hol]; unfold maxLen; omega)
      have tc := trim_c _ _ _ _ hu
      have HT := hZ (val_trim O)
      have HNr := trim_nrm O
      have hu2 := hu.trim
      generalize trimL O = T2 at *
      rw [hol] at tc
      clear hOe hOe2 hu hol hLs
      go_wp2_with fail
      refine tc.mono ?_
      rintro e w1 ⟨rfl, rfl⟩
      clear tc
      go_wp2
      go_ret2
      exact ⟨⟨_, rfl, _, _, T2, rfl, rfl, hu2, HNr, by rw [HT.out, HV.out]⟩, hB⟩
end Go.Proofs.YtbmaffijncapiaaGreatDoor
namespace Go.Proofs.YtbmaffijncapiaaGreatDoor
open Num
open Go.ChangeShapes Go.WideShapes Go.ChangeAt Go.RowKit

theorem abs_c (vx : Value) (x : Int) (w : World) (hx : IsInt w vx x) :
 Calls Tryz.prog 224 #[vx] w fun e w' => (∃ v, e = .returned v ∧ IsInt w' v (x.natAbs : Int)) ∧ Below w.heap.size w w' := by
 obtain ⟨n1, a1, c1, l1, rfl, u1, g1, s1, rfl⟩ := hx
 have mc := fun w h => made_c false a1 c1 l1 w h g1
 rw [sg_abs]
 rw [show sg false (val l1) = (val l1 : Int) from rfl] at mc
 clear s1 g1
 unfold iv
 have hB0 := Below.refl w.heap.size w
 go_enter Tryz.func224, Tryz.ntmps224
 go_wp2_with fail
 refine (mc _ (u1.keep bZ)).mono ?_
 rintro e w1 ⟨⟨v, rfl, hi⟩, hb1⟩
 have r0 : w1.cell? ⟨w.heap.size + 1, 0, none⟩ = some (.bool false) := bkc hb1
 have zr0 := cell_lt r0
 have r0f : w1.frozen? ⟨w.heap.size + 1, 0, none⟩ = false := bkcf (v := .bool false) hb1
 have r1 : w1.cell? ⟨w.heap.size + 1, 1, none⟩ = some (.slice none 0 0) := bkc hb1
 have r1f : w1.frozen? ⟨w.heap.size + 1, 1, none⟩ = false := bkcf (v := .slice none 0 0) hb1
 have hB : Below w.heap.size w w1 := bthen bZ hb1
 have hz := hB.size
 have HI2 := hZ (hi.put2 r0 r1)
 obtain ⟨n4, a4, c4, l4, rfl, _, _, _, _⟩ := hi
 unfold iv at *
 go_wp2
 refine bodyPost_ret (v := .agg #[.bool n4, .slice a4 l4.length c4]) (by simp [results, Tryz.results224, go_sem, *]) rfl ⟨⟨_, rfl, HI2.out _ _⟩, ?_⟩
 repeat exact bZ

namespace Num
theorem sg_times (s : Bool) (m p : Nat) : sg s (m * p) = sg s m * (p : Int) := by cases s <;> simp [sg, Int.neg_mul]
end Num
theorem shlI_c (vx : Value) (x : Int) (k n : Nat) (w : World) (hx : IsInt w vx x) (bx : Bd k x) (hk : k ≤ 17179869184) (hn : n ≤ 65536) :
 Calls Tryz.prog 271 #[vx, .int .i64 (n : Int)] w fun e w' => (∃ v, e = .returned (.tuple #[v, .int .i64 0]) ∧ IsInt w' v (x * 2 ^ n)) ∧ Below w.heap.size w w' := by
 obtain ⟨n1, a1, c1, l1, rfl, u1, g1, s1, rfl⟩ := hx
 have k1 := bd_len g1 (sg_bd bx) hk
 have lc := fun w h => limbShl_c a1 c1 l1 n w h (by omega) hn
 have dc := fun a L w h hn => made_c n1 a (List.length L) L w h hn
 have HS := hZ (show sg n1 (val l1 * 2 ^ n) = sg n1 (val l1) * 2 ^ n by rw [sg_times, Int.natCast_pow]; rfl)
 clear bx g1 s1
 unfold iv
 have hB0 := Below.refl w.heap.size w
 go_enter Tryz.func271, Tryz.ntmps271
 go_wp2_with fail
 refine (lc _ (u1.keep bZ)).mono ?_
 rintro e w1 ⟨⟨u3, rfl, a3, k3, L, rfl, rfl, hu, hnr, hv⟩, hb1⟩
 have x0 : w1.cell? ⟨w.heap.size, 0, none⟩ = some (.bool n1) := bkc hb1
 have zx0 := cell_lt x0
 have x1 : w1.cell? ⟨w.heap.size, 1, none⟩ = some (.slice a1 l1.length c1) := bkc hb1
 have r0 : w1.cell? ⟨w.heap.size + 1, 0, none⟩ = some (.bool false) := bkc hb1
 have zr0 := cell_lt r0
 have r0f : w1.frozen? ⟨w.heap.size + 1, 0, none⟩ = false := bkcf (v := .bool false) hb1
 have r1 : w1.cell? ⟨w.heap.size + 1, 1, none⟩ = some (.slice none 0 0) := bkc hb1
 have r1f : w1.frozen? ⟨w.heap.size + 1, 1, none⟩ = false := bkcf (v := .slice none 0 0) hb1
 have hB : Below w.heap.size w w1 := bthen bZ hb1
 have hz := hB.size
 go_wp2_with fail
 refine (dc _ _ _ hu hnr).mono ?_
 rintro e w2 ⟨⟨v, rfl, hi⟩, hb2⟩
 have x0 : w2.cell? ⟨w.heap.size, 0, none⟩ = some (.bool n1) := bkc hb2
 have zx0 := cell_lt x0
 have x1 : w2.cell? ⟨w.heap.size, 1, none⟩ = some (.slice a1 l1.length c1) := bkc hb2
 have r0 : w2.cell? ⟨w.heap.size + 1, 0, none⟩ = some (.bool false) := bkc hb2
 have zr0 := cell_lt r0
 have r0f : w2.frozen? ⟨w.heap.size + 1, 0, none⟩ = false := bkcf (v := .bool false) hb2
 have r1 : w2.cell? ⟨w.heap.size + 1, 1, none⟩ = some (.slice none 0 0) := bkc hb2
 have r1f : w2.frozen? ⟨w.heap.size + 1, 1, none⟩ = false := bkcf (v := .slice none 0 0) hb2
 have hB : Below w.heap.size w w2 := bthen bZ hb2
 have hz := hB.size
 rw [hv, HS.out] at hi
 have HI2 := hZ (hi.put2 r0 r1)
 obtain ⟨n4, a4, c4, l4, rfl, _, _, _, _⟩ := hi
 unfold iv at *
 go_wp2
 refine bodyPost_ret (v := .tuple #[.agg #[.bool n4, .slice a4 l4.length c4], .int .i64 0]) (by simp [results, Tryz.results271, go_sem, *]) rfl ⟨⟨_, rfl, HI2.out _ _⟩, ?_⟩
 repeat exact bZ
end Go.Proofs.YtbmaffijncapiaaGreatDoor
namespace Go.Proofs.YtbmaffijncapiaaGreatDoor
open Go.ChangeShapes Go.WideShapes Go.ChangeAt Go.RowKit
def Ins.cel (i : Ins) : List Value := [.int .i64 i.op, .int .i64 i.to, .int .i64 i.a, .int .i64 i.b, .int .i64 i.c]
end Go.Proofs.YtbmaffijncapiaaGreatDoor
